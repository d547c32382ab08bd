/- The texts that the statement's row rests on, one behind the other. -/
import Derived.Test.YtlnmdfffmflhgaaMFrameNames1
import Derived.Test.YtlnmdfffmflhgaaMFrameNames3
import Derived.Test.YtlnmdfffmflhgaaMFrameNames4
import Derived.Test.YtlnmdfffmflhgaaMFrameNames5
namespace Go.Proofs.Ytlnmdfffmflhgaa.P
open Go.RowKit Go.Proofs.YtlnmdfffmflhgaaW.PrintWords Go.Proofs.YtlnmdfffmflhgaaW.PrintLast Go.Proofs.YtlnmdfffmflhgaaW.PrintMore
attribute [local go_sem] max2_int min2_int max_two min_two max_three min_three max_four min_four   -- for this text's walks alone
open Go.Proofs.YtlnmdfffmflhgaaO
attribute [local go_sem] min2_str max2_str
set_option linter.unusedVariables false
set_option linter.unusedSimpArgs false
/-! ### careenagelaw04_FrameNames: function 5 (by hand) -/
attribute [local go_sem high] eqA27
theorem below_drawn0 {w w1 : World} (h : Drawn0 w w1) : Below w.heap.size w w1 := by
  obtain ⟨nd, rfl⟩ := h
  exact pw_below_drewN (Below.refl _ _) nd
def careenagelaw04_FrameNames.Pure : Prop := ∃ b s s2 b2 x1 x3 x8 : ByteArray, careenagelaw04_lives.f 300 = some true ∧ careenagelaw04_page.f 300 = some (4, 3, 7, 9, 5, b) ∧ frame_Put.f 128 4 3 7 9 5 b = some (s, 0) ∧ s.size = 128 ∧ s.extract 4 8 = (⟨#[4, 1, 3, 0]⟩ : ByteArray) ∧ s.extract 8 24 = (⟨#[7, 0, 0, 0, 9, 0, 0, 0, 5, 0, 0, 0, 0, 0, 0, 0]⟩ : ByteArray) ∧ s.extract 0 127 = s2 ∧ frame_Get.f 128 7 s = some (4, 3, 7, 9, 5, b, 0) ∧ frame_Get.f 128 8 s = some (0, 0, 0, 0, 0, (⟨#[]⟩ : ByteArray), 4) ∧ frame_Get.f 100 7 s = some (0, 0, 0, 0, 0, (⟨#[]⟩ : ByteArray), 2) ∧ frame_Get.f 128 7 s2 = some (0, 0, 0, 0, 0, (⟨#[]⟩ : ByteArray), 4) ∧ frame_Put.f 128 4 3 7 9 4611686018427387905 b = some ((⟨#[]⟩ : ByteArray), 2) ∧ frame_Put.f 128 7 3 7 9 5 b = some ((⟨#[]⟩ : ByteArray), 2) ∧ frame_Body.f 128 [97, 98] = some (b2, 0) ∧ b2.size = 104 ∧ b2.extract 0 3 = (⟨#[97, 98, 0]⟩ : ByteArray) ∧ frame_Body.f 128 (List.replicate (105 : Int).toNat 0) = some ((⟨#[]⟩ : ByteArray), 3) ∧ frame_Body.f 1 [] = some ((⟨#[]⟩ : ByteArray), 2) ∧ careenagekit_Times.f 300 (⟨#[120]⟩ : ByteArray) 300 = some x3 ∧ careenagekit_Times.f 300 (⟨#[120]⟩ : ByteArray) 896 = some x8 ∧ careenagekit_Times.f 300 (⟨#[120]⟩ : ByteArray) 128 = some x1 ∧ frame_At.f 128 x3 1 = some (x1, true) ∧ frame_At.f 128 x3 2 = some ((⟨#[]⟩ : ByteArray), false) ∧ frame_Read.f 128 s 1 = some (0, 0, 0, 0, 0, (⟨#[]⟩ : ByteArray), 5) ∧ x8.size + s.size ≤ 9223372036854775807 ∧ frame_Read.f 128 (x8 ++ s) 7 = some (4, 3, 7, 9, 5, b, 0) ∧ frame_Read.f 7 s 0 = some (0, 0, 0, 0, 0, (⟨#[]⟩ : ByteArray), 2) ∧ frame_Pages.f 128 x3 = some 2 ∧ frame_Pages.f 1 (⟨#[120, 120]⟩ : ByteArray) = some 0 ∧ frame_Room.f 64 = some 0
def FrameNames.T24 : Bool × List (List Nat × List Nat) := (true, [([], []), ([0], [0]), ([1], [1]), ([2], [2]), ([3, 2], [2, 3]), ([4, 2], [2, 4]), ([2, 5], [2, 5]), ([6, 2], [6]), ([7], [7]), ([8, 7], [7, 8]), ([9, 7], [7, 9]), ([7, 10], [7, 10]), ([11, 7], [11]), ([12], [12]), ([13, 12], [12, 13]), ([12, 14], [12, 14]), ([15, 12], [15]), ([16], [16]), ([16, 16], [16]), ([17, 18, 16], [16, 17, 18]), ([16, 19], [16, 19]), ([20, 18], [20]), ([21], [21]), ([22, 21], [21, 22]), ([21, 23], [21, 23]), ([24, 21], [24]), ([25], [25]), ([26, 25], [25, 26]), ([25, 27], [25, 27]), ([28, 25], [28]), ([29], [29]), ([30, 29], [29, 30]), ([29, 31], [29, 31]), ([32, 29], [32]), ([33], [33]), ([34, 33], [33, 34]), ([33, 35], [33, 35]), ([36, 33], [36]), ([37], [37]), ([38, 37], [37, 38]), ([37, 39], [37, 39]), ([40, 37], [40]), ([41], [41]), ([42, 41], [41, 42]), ([41, 43], [41, 43]), ([44, 41], [44]), ([45], [45]), ([46, 45], [45, 46]), ([47, 45], [45, 47]), ([45, 48], [45, 48]), ([49, 45], [49]), ([50], [50]), ([51, 50], [50, 51]), ([52, 50], [50, 52]), ([50, 53], [50, 53]), ([54, 50], [54]), ([55], [55]), ([56, 55], [55, 56]), ([55, 57], [55, 57]), ([58, 55], [58]), ([59], [59]), ([60, 59], [59, 60]), ([59, 61], [59, 61]), ([62, 59], [62]), ([63], [63]), ([63, 64], [63, 64]), ([65, 63], [65]), ([66], [66]), ([66, 66], [66]), ([67, 68, 66], [66, 67, 68]), ([66, 69], [66, 69]), ([70, 68], [70]), ([71], [71]), ([72, 71], [71, 72]), ([71, 73], [71, 73]), ([74, 71], [74]), ([75], [75]), ([76, 75], [75, 76]), ([75, 77], [75, 77]), ([78, 75], [78]), ([79], [79]), ([80, 79], [79, 80]), ([79, 81], [79, 81]), ([82, 79], [82]), ([83], [83]), ([83, 83], [83]), ([84, 85, 83], [83, 84, 85]), ([83, 86], [83, 86]), ([87, 85], [87]), ([88], [88]), ([89, 88], [88, 89]), ([88, 90], [88, 90]), ([91, 88], [91]), ([92, 92], [92]), ([93, 93, 92], [92, 93]), ([94, 92], [92, 94]), ([92, 95], [92, 95]), ([96, 94], [96]), ([97, 97], [97]), ([98, 97], [97, 98]), ([97, 99], [97, 99]), ([100, 98], [100]), ([101, 101], [101]), ([102, 101], [101, 102]), ([101, 103], [101, 103]), ([104, 102, 0, 1, 2, 3, 4, 5, 6, 7, 8, 9, 10, 11, 12, 13, 14, 15, 16, 17, 18, 19, 20, 21, 22, 23, 24, 25, 26, 27, 28, 29, 30, 31, 32, 33, 34, 35, 36, 37, 38, 39, 40, 41, 42, 43, 44, 45, 46, 47, 48, 49, 50, 51, 52, 53, 54, 55, 56, 57, 58, 59, 60, 61, 62, 63, 64, 65, 66, 67, 68, 69, 70, 71, 72, 73, 74, 75, 76, 77, 78, 79, 80, 81, 82, 83, 84, 85, 86, 87, 88, 89, 90, 91, 92, 93, 94, 95, 96, 97, 98, 99, 100, 101, 102, 103, 104], [104])])
def FrameNames.B24 : List Nat := [0, 1, 3, 7, 15, 31, 63, 127, 255, 511, 1023, 2047, 4095, 8191, 16383, 32767, 65535, 131071, 131071, 524287, 1048575, 2097151, 4194303, 8388607, 16777215, 33554431, 67108863, 134217727, 268435455, 536870911, 1073741823, 2147483647, 4294967295, 8589934591, 17179869183, 34359738367, 68719476735, 137438953471, 274877906943, 549755813887, 1099511627775, 2199023255551, 4398046511103, 8796093022207, 17592186044415, 35184372088831, 70368744177663, 140737488355327, 281474976710655, 562949953421311, 1125899906842623, 2251799813685247, 4503599627370495, 9007199254740991, 18014398509481983, 36028797018963967, 72057594037927935, 144115188075855871, 288230376151711743, 576460752303423487, 1152921504606846975, 2305843009213693951, 4611686018427387903, 9223372036854775807, 18446744073709551615, 36893488147419103231, 73786976294838206463, 147573952589676412927, 147573952589676412927, 590295810358705651711, 1180591620717411303423, 2361183241434822606847, 4722366482869645213695, 9444732965739290427391, 18889465931478580854783, 37778931862957161709567, 75557863725914323419135, 151115727451828646838271, 302231454903657293676543, 604462909807314587353087, 1208925819614629174706175, 2417851639229258349412351, 4835703278458516698824703, 9671406556917033397649407, 19342813113834066795298815, 19342813113834066795298815, 77371252455336267181195263, 154742504910672534362390527, 309485009821345068724781055, 618970019642690137449562111, 1237940039285380274899124223, 2475880078570760549798248447, 4951760157141521099596496895, 9903520314283042199192993791, 19807040628566084398385987583, 39614081257132168796771975167, 79228162514264337593543950335, 158456325028528675187087900671, 316912650057057350374175801343, 633825300114114700748351602687, 1267650600228229401496703205375, 2535301200456458802993406410751, 5070602400912917605986812821503, 10141204801825835211973625643007, 20282409603651670423947251286015, 40564819207303340847894502572031]
set_option maxRecDepth 100000 in
theorem FrameNames.tab24 : rtab .any (opsOf Try.f5 24) = FrameNames.T24 := by kernel_rfl
set_option maxRecDepth 100000 in
theorem FrameNames.bits24 : waitsOk FrameNames.T24.2 FrameNames.B24 = true := by kernel_rfl
abbrev FrameNames.M0 : Array Bool := #[false, false, false, false, false, false, false, false, false, false, false, false, false, false, false, false, false, false, false, false, false, false, false, false, false, false, false, false, false, false, false, false, false, false, false, false, false, false, false, false, false, false, false, false, false, false, false, false, false, false, false, false, false, false, false, false, false, false, false, false, false, false, false, false, false, false, false, false, false, false, false, false, false, false, false, false, false, false, false, false, false, false, false, false, false, false, false, false, false, false, false, false, false, false, false, false, false, false, false, false, false, false, false, false, false, false]
abbrev FrameNames.M1 : Array Bool := #[true, false, false, false, false, false, false, false, false, false, false, false, false, false, false, false, false, false, false, false, false, false, false, false, false, false, false, false, false, false, false, false, false, false, false, false, false, false, false, false, false, false, false, false, false, false, false, false, false, false, false, false, false, false, false, false, false, false, false, false, false, false, false, false, false, false, false, false, false, false, false, false, false, false, false, false, false, false, false, false, false, false, false, false, false, false, false, false, false, false, false, false, false, false, false, false, false, false, false, false, false, false, false, false, false, false]
abbrev FrameNames.M2 : Array Bool := #[true, true, false, false, false, false, false, false, false, false, false, false, false, false, false, false, false, false, false, false, false, false, false, false, false, false, false, false, false, false, false, false, false, false, false, false, false, false, false, false, false, false, false, false, false, false, false, false, false, false, false, false, false, false, false, false, false, false, false, false, false, false, false, false, false, false, false, false, false, false, false, false, false, false, false, false, false, false, false, false, false, false, false, false, false, false, false, false, false, false, false, false, false, false, false, false, false, false, false, false, false, false, false, false, false, false]
abbrev FrameNames.M3 : Array Bool := #[true, true, true, false, false, false, false, false, false, false, false, false, false, false, false, false, false, false, false, false, false, false, false, false, false, false, false, false, false, false, false, false, false, false, false, false, false, false, false, false, false, false, false, false, false, false, false, false, false, false, false, false, false, false, false, false, false, false, false, false, false, false, false, false, false, false, false, false, false, false, false, false, false, false, false, false, false, false, false, false, false, false, false, false, false, false, false, false, false, false, false, false, false, false, false, false, false, false, false, false, false, false, false, false, false, false]
abbrev FrameNames.M4 : Array Bool := #[true, true, true, true, false, false, false, false, false, false, false, false, false, false, false, false, false, false, false, false, false, false, false, false, false, false, false, false, false, false, false, false, false, false, false, false, false, false, false, false, false, false, false, false, false, false, false, false, false, false, false, false, false, false, false, false, false, false, false, false, false, false, false, false, false, false, false, false, false, false, false, false, false, false, false, false, false, false, false, false, false, false, false, false, false, false, false, false, false, false, false, false, false, false, false, false, false, false, false, false, false, false, false, false, false, false]
abbrev FrameNames.M5 : Array Bool := #[true, true, true, true, true, false, false, false, false, false, false, false, false, false, false, false, false, false, false, false, false, false, false, false, false, false, false, false, false, false, false, false, false, false, false, false, false, false, false, false, false, false, false, false, false, false, false, false, false, false, false, false, false, false, false, false, false, false, false, false, false, false, false, false, false, false, false, false, false, false, false, false, false, false, false, false, false, false, false, false, false, false, false, false, false, false, false, false, false, false, false, false, false, false, false, false, false, false, false, false, false, false, false, false, false, false]
abbrev FrameNames.M6 : Array Bool := #[true, true, true, true, true, true, false, false, false, false, false, false, false, false, false, false, false, false, false, false, false, false, false, false, false, false, false, false, false, false, false, false, false, false, false, false, false, false, false, false, false, false, false, false, false, false, false, false, false, false, false, false, false, false, false, false, false, false, false, false, false, false, false, false, false, false, false, false, false, false, false, false, false, false, false, false, false, false, false, false, false, false, false, false, false, false, false, false, false, false, false, false, false, false, false, false, false, false, false, false, false, false, false, false, false, false]
abbrev FrameNames.M7 : Array Bool := #[true, true, true, true, true, true, true, false, false, false, false, false, false, false, false, false, false, false, false, false, false, false, false, false, false, false, false, false, false, false, false, false, false, false, false, false, false, false, false, false, false, false, false, false, false, false, false, false, false, false, false, false, false, false, false, false, false, false, false, false, false, false, false, false, false, false, false, false, false, false, false, false, false, false, false, false, false, false, false, false, false, false, false, false, false, false, false, false, false, false, false, false, false, false, false, false, false, false, false, false, false, false, false, false, false, false]
abbrev FrameNames.M8 : Array Bool := #[true, true, true, true, true, true, true, true, false, false, false, false, false, false, false, false, false, false, false, false, false, false, false, false, false, false, false, false, false, false, false, false, false, false, false, false, false, false, false, false, false, false, false, false, false, false, false, false, false, false, false, false, false, false, false, false, false, false, false, false, false, false, false, false, false, false, false, false, false, false, false, false, false, false, false, false, false, false, false, false, false, false, false, false, false, false, false, false, false, false, false, false, false, false, false, false, false, false, false, false, false, false, false, false, false, false]
abbrev FrameNames.M9 : Array Bool := #[true, true, true, true, true, true, true, true, true, false, false, false, false, false, false, false, false, false, false, false, false, false, false, false, false, false, false, false, false, false, false, false, false, false, false, false, false, false, false, false, false, false, false, false, false, false, false, false, false, false, false, false, false, false, false, false, false, false, false, false, false, false, false, false, false, false, false, false, false, false, false, false, false, false, false, false, false, false, false, false, false, false, false, false, false, false, false, false, false, false, false, false, false, false, false, false, false, false, false, false, false, false, false, false, false, false]
abbrev FrameNames.M10 : Array Bool := #[true, true, true, true, true, true, true, true, true, true, false, false, false, false, false, false, false, false, false, false, false, false, false, false, false, false, false, false, false, false, false, false, false, false, false, false, false, false, false, false, false, false, false, false, false, false, false, false, false, false, false, false, false, false, false, false, false, false, false, false, false, false, false, false, false, false, false, false, false, false, false, false, false, false, false, false, false, false, false, false, false, false, false, false, false, false, false, false, false, false, false, false, false, false, false, false, false, false, false, false, false, false, false, false, false, false]
abbrev FrameNames.M11 : Array Bool := #[true, true, true, true, true, true, true, true, true, true, true, false, false, false, false, false, false, false, false, false, false, false, false, false, false, false, false, false, false, false, false, false, false, false, false, false, false, false, false, false, false, false, false, false, false, false, false, false, false, false, false, false, false, false, false, false, false, false, false, false, false, false, false, false, false, false, false, false, false, false, false, false, false, false, false, false, false, false, false, false, false, false, false, false, false, false, false, false, false, false, false, false, false, false, false, false, false, false, false, false, false, false, false, false, false, false]
abbrev FrameNames.M12 : Array Bool := #[true, true, true, true, true, true, true, true, true, true, true, true, false, false, false, false, false, false, false, false, false, false, false, false, false, false, false, false, false, false, false, false, false, false, false, false, false, false, false, false, false, false, false, false, false, false, false, false, false, false, false, false, false, false, false, false, false, false, false, false, false, false, false, false, false, false, false, false, false, false, false, false, false, false, false, false, false, false, false, false, false, false, false, false, false, false, false, false, false, false, false, false, false, false, false, false, false, false, false, false, false, false, false, false, false, false]
abbrev FrameNames.M13 : Array Bool := #[true, true, true, true, true, true, true, true, true, true, true, true, true, false, false, false, false, false, false, false, false, false, false, false, false, false, false, false, false, false, false, false, false, false, false, false, false, false, false, false, false, false, false, false, false, false, false, false, false, false, false, false, false, false, false, false, false, false, false, false, false, false, false, false, false, false, false, false, false, false, false, false, false, false, false, false, false, false, false, false, false, false, false, false, false, false, false, false, false, false, false, false, false, false, false, false, false, false, false, false, false, false, false, false, false, false]
abbrev FrameNames.M14 : Array Bool := #[true, true, true, true, true, true, true, true, true, true, true, true, true, true, false, false, false, false, false, false, false, false, false, false, false, false, false, false, false, false, false, false, false, false, false, false, false, false, false, false, false, false, false, false, false, false, false, false, false, false, false, false, false, false, false, false, false, false, false, false, false, false, false, false, false, false, false, false, false, false, false, false, false, false, false, false, false, false, false, false, false, false, false, false, false, false, false, false, false, false, false, false, false, false, false, false, false, false, false, false, false, false, false, false, false, false]
abbrev FrameNames.M15 : Array Bool := #[true, true, true, true, true, true, true, true, true, true, true, true, true, true, true, false, false, false, false, false, false, false, false, false, false, false, false, false, false, false, false, false, false, false, false, false, false, false, false, false, false, false, false, false, false, false, false, false, false, false, false, false, false, false, false, false, false, false, false, false, false, false, false, false, false, false, false, false, false, false, false, false, false, false, false, false, false, false, false, false, false, false, false, false, false, false, false, false, false, false, false, false, false, false, false, false, false, false, false, false, false, false, false, false, false, false]
abbrev FrameNames.M16 : Array Bool := #[true, true, true, true, true, true, true, true, true, true, true, true, true, true, true, true, false, false, false, false, false, false, false, false, false, false, false, false, false, false, false, false, false, false, false, false, false, false, false, false, false, false, false, false, false, false, false, false, false, false, false, false, false, false, false, false, false, false, false, false, false, false, false, false, false, false, false, false, false, false, false, false, false, false, false, false, false, false, false, false, false, false, false, false, false, false, false, false, false, false, false, false, false, false, false, false, false, false, false, false, false, false, false, false, false, false]
abbrev FrameNames.M17 : Array Bool := #[true, true, true, true, true, true, true, true, true, true, true, true, true, true, true, true, true, false, false, false, false, false, false, false, false, false, false, false, false, false, false, false, false, false, false, false, false, false, false, false, false, false, false, false, false, false, false, false, false, false, false, false, false, false, false, false, false, false, false, false, false, false, false, false, false, false, false, false, false, false, false, false, false, false, false, false, false, false, false, false, false, false, false, false, false, false, false, false, false, false, false, false, false, false, false, false, false, false, false, false, false, false, false, false, false, false]
abbrev FrameNames.M18 : Array Bool := #[true, true, true, true, true, true, true, true, true, true, true, true, true, true, true, true, true, true, false, false, false, false, false, false, false, false, false, false, false, false, false, false, false, false, false, false, false, false, false, false, false, false, false, false, false, false, false, false, false, false, false, false, false, false, false, false, false, false, false, false, false, false, false, false, false, false, false, false, false, false, false, false, false, false, false, false, false, false, false, false, false, false, false, false, false, false, false, false, false, false, false, false, false, false, false, false, false, false, false, false, false, false, false, false, false, false]
abbrev FrameNames.M19 : Array Bool := #[true, true, true, true, true, true, true, true, true, true, true, true, true, true, true, true, true, true, true, false, false, false, false, false, false, false, false, false, false, false, false, false, false, false, false, false, false, false, false, false, false, false, false, false, false, false, false, false, false, false, false, false, false, false, false, false, false, false, false, false, false, false, false, false, false, false, false, false, false, false, false, false, false, false, false, false, false, false, false, false, false, false, false, false, false, false, false, false, false, false, false, false, false, false, false, false, false, false, false, false, false, false, false, false, false, false]
abbrev FrameNames.M20 : Array Bool := #[true, true, true, true, true, true, true, true, true, true, true, true, true, true, true, true, true, true, true, true, false, false, false, false, false, false, false, false, false, false, false, false, false, false, false, false, false, false, false, false, false, false, false, false, false, false, false, false, false, false, false, false, false, false, false, false, false, false, false, false, false, false, false, false, false, false, false, false, false, false, false, false, false, false, false, false, false, false, false, false, false, false, false, false, false, false, false, false, false, false, false, false, false, false, false, false, false, false, false, false, false, false, false, false, false, false]
abbrev FrameNames.M21 : Array Bool := #[true, true, true, true, true, true, true, true, true, true, true, true, true, true, true, true, true, true, true, true, true, false, false, false, false, false, false, false, false, false, false, false, false, false, false, false, false, false, false, false, false, false, false, false, false, false, false, false, false, false, false, false, false, false, false, false, false, false, false, false, false, false, false, false, false, false, false, false, false, false, false, false, false, false, false, false, false, false, false, false, false, false, false, false, false, false, false, false, false, false, false, false, false, false, false, false, false, false, false, false, false, false, false, false, false, false]
abbrev FrameNames.M22 : Array Bool := #[true, true, true, true, true, true, true, true, true, true, true, true, true, true, true, true, true, true, true, true, true, true, false, false, false, false, false, false, false, false, false, false, false, false, false, false, false, false, false, false, false, false, false, false, false, false, false, false, false, false, false, false, false, false, false, false, false, false, false, false, false, false, false, false, false, false, false, false, false, false, false, false, false, false, false, false, false, false, false, false, false, false, false, false, false, false, false, false, false, false, false, false, false, false, false, false, false, false, false, false, false, false, false, false, false, false]
abbrev FrameNames.M23 : Array Bool := #[true, true, true, true, true, true, true, true, true, true, true, true, true, true, true, true, true, true, true, true, true, true, true, false, false, false, false, false, false, false, false, false, false, false, false, false, false, false, false, false, false, false, false, false, false, false, false, false, false, false, false, false, false, false, false, false, false, false, false, false, false, false, false, false, false, false, false, false, false, false, false, false, false, false, false, false, false, false, false, false, false, false, false, false, false, false, false, false, false, false, false, false, false, false, false, false, false, false, false, false, false, false, false, false, false, false]
abbrev FrameNames.M24 : Array Bool := #[true, true, true, true, true, true, true, true, true, true, true, true, true, true, true, true, true, true, true, true, true, true, true, true, false, false, false, false, false, false, false, false, false, false, false, false, false, false, false, false, false, false, false, false, false, false, false, false, false, false, false, false, false, false, false, false, false, false, false, false, false, false, false, false, false, false, false, false, false, false, false, false, false, false, false, false, false, false, false, false, false, false, false, false, false, false, false, false, false, false, false, false, false, false, false, false, false, false, false, false, false, false, false, false, false, false]
abbrev FrameNames.M25 : Array Bool := #[true, true, true, true, true, true, true, true, true, true, true, true, true, true, true, true, true, true, true, true, true, true, true, true, true, false, false, false, false, false, false, false, false, false, false, false, false, false, false, false, false, false, false, false, false, false, false, false, false, false, false, false, false, false, false, false, false, false, false, false, false, false, false, false, false, false, false, false, false, false, false, false, false, false, false, false, false, false, false, false, false, false, false, false, false, false, false, false, false, false, false, false, false, false, false, false, false, false, false, false, false, false, false, false, false, false]
abbrev FrameNames.M26 : Array Bool := #[true, true, true, true, true, true, true, true, true, true, true, true, true, true, true, true, true, true, true, true, true, true, true, true, true, true, false, false, false, false, false, false, false, false, false, false, false, false, false, false, false, false, false, false, false, false, false, false, false, false, false, false, false, false, false, false, false, false, false, false, false, false, false, false, false, false, false, false, false, false, false, false, false, false, false, false, false, false, false, false, false, false, false, false, false, false, false, false, false, false, false, false, false, false, false, false, false, false, false, false, false, false, false, false, false, false]
abbrev FrameNames.M27 : Array Bool := #[true, true, true, true, true, true, true, true, true, true, true, true, true, true, true, true, true, true, true, true, true, true, true, true, true, true, true, false, false, false, false, false, false, false, false, false, false, false, false, false, false, false, false, false, false, false, false, false, false, false, false, false, false, false, false, false, false, false, false, false, false, false, false, false, false, false, false, false, false, false, false, false, false, false, false, false, false, false, false, false, false, false, false, false, false, false, false, false, false, false, false, false, false, false, false, false, false, false, false, false, false, false, false, false, false, false]
abbrev FrameNames.M28 : Array Bool := #[true, true, true, true, true, true, true, true, true, true, true, true, true, true, true, true, true, true, true, true, true, true, true, true, true, true, true, true, false, false, false, false, false, false, false, false, false, false, false, false, false, false, false, false, false, false, false, false, false, false, false, false, false, false, false, false, false, false, false, false, false, false, false, false, false, false, false, false, false, false, false, false, false, false, false, false, false, false, false, false, false, false, false, false, false, false, false, false, false, false, false, false, false, false, false, false, false, false, false, false, false, false, false, false, false, false]
abbrev FrameNames.M29 : Array Bool := #[true, true, true, true, true, true, true, true, true, true, true, true, true, true, true, true, true, true, true, true, true, true, true, true, true, true, true, true, true, false, false, false, false, false, false, false, false, false, false, false, false, false, false, false, false, false, false, false, false, false, false, false, false, false, false, false, false, false, false, false, false, false, false, false, false, false, false, false, false, false, false, false, false, false, false, false, false, false, false, false, false, false, false, false, false, false, false, false, false, false, false, false, false, false, false, false, false, false, false, false, false, false, false, false, false, false]
abbrev FrameNames.M30 : Array Bool := #[true, true, true, true, true, true, true, true, true, true, true, true, true, true, true, true, true, true, true, true, true, true, true, true, true, true, true, true, true, true, false, false, false, false, false, false, false, false, false, false, false, false, false, false, false, false, false, false, false, false, false, false, false, false, false, false, false, false, false, false, false, false, false, false, false, false, false, false, false, false, false, false, false, false, false, false, false, false, false, false, false, false, false, false, false, false, false, false, false, false, false, false, false, false, false, false, false, false, false, false, false, false, false, false, false, false]
abbrev FrameNames.M31 : Array Bool := #[true, true, true, true, true, true, true, true, true, true, true, true, true, true, true, true, true, true, true, true, true, true, true, true, true, true, true, true, true, true, true, false, false, false, false, false, false, false, false, false, false, false, false, false, false, false, false, false, false, false, false, false, false, false, false, false, false, false, false, false, false, false, false, false, false, false, false, false, false, false, false, false, false, false, false, false, false, false, false, false, false, false, false, false, false, false, false, false, false, false, false, false, false, false, false, false, false, false, false, false, false, false, false, false, false, false]
abbrev FrameNames.M32 : Array Bool := #[true, true, true, true, true, true, true, true, true, true, true, true, true, true, true, true, true, true, true, true, true, true, true, true, true, true, true, true, true, true, true, true, false, false, false, false, false, false, false, false, false, false, false, false, false, false, false, false, false, false, false, false, false, false, false, false, false, false, false, false, false, false, false, false, false, false, false, false, false, false, false, false, false, false, false, false, false, false, false, false, false, false, false, false, false, false, false, false, false, false, false, false, false, false, false, false, false, false, false, false, false, false, false, false, false, false]
abbrev FrameNames.M33 : Array Bool := #[true, true, true, true, true, true, true, true, true, true, true, true, true, true, true, true, true, true, true, true, true, true, true, true, true, true, true, true, true, true, true, true, true, false, false, false, false, false, false, false, false, false, false, false, false, false, false, false, false, false, false, false, false, false, false, false, false, false, false, false, false, false, false, false, false, false, false, false, false, false, false, false, false, false, false, false, false, false, false, false, false, false, false, false, false, false, false, false, false, false, false, false, false, false, false, false, false, false, false, false, false, false, false, false, false, false]
abbrev FrameNames.M34 : Array Bool := #[true, true, true, true, true, true, true, true, true, true, true, true, true, true, true, true, true, true, true, true, true, true, true, true, true, true, true, true, true, true, true, true, true, true, false, false, false, false, false, false, false, false, false, false, false, false, false, false, false, false, false, false, false, false, false, false, false, false, false, false, false, false, false, false, false, false, false, false, false, false, false, false, false, false, false, false, false, false, false, false, false, false, false, false, false, false, false, false, false, false, false, false, false, false, false, false, false, false, false, false, false, false, false, false, false, false]
abbrev FrameNames.M35 : Array Bool := #[true, true, true, true, true, true, true, true, true, true, true, true, true, true, true, true, true, true, true, true, true, true, true, true, true, true, true, true, true, true, true, true, true, true, true, false, false, false, false, false, false, false, false, false, false, false, false, false, false, false, false, false, false, false, false, false, false, false, false, false, false, false, false, false, false, false, false, false, false, false, false, false, false, false, false, false, false, false, false, false, false, false, false, false, false, false, false, false, false, false, false, false, false, false, false, false, false, false, false, false, false, false, false, false, false, false]
abbrev FrameNames.M36 : Array Bool := #[true, true, true, true, true, true, true, true, true, true, true, true, true, true, true, true, true, true, true, true, true, true, true, true, true, true, true, true, true, true, true, true, true, true, true, true, false, false, false, false, false, false, false, false, false, false, false, false, false, false, false, false, false, false, false, false, false, false, false, false, false, false, false, false, false, false, false, false, false, false, false, false, false, false, false, false, false, false, false, false, false, false, false, false, false, false, false, false, false, false, false, false, false, false, false, false, false, false, false, false, false, false, false, false, false, false]
abbrev FrameNames.M37 : Array Bool := #[true, true, true, true, true, true, true, true, true, true, true, true, true, true, true, true, true, true, true, true, true, true, true, true, true, true, true, true, true, true, true, true, true, true, true, true, true, false, false, false, false, false, false, false, false, false, false, false, false, false, false, false, false, false, false, false, false, false, false, false, false, false, false, false, false, false, false, false, false, false, false, false, false, false, false, false, false, false, false, false, false, false, false, false, false, false, false, false, false, false, false, false, false, false, false, false, false, false, false, false, false, false, false, false, false, false]
abbrev FrameNames.M38 : Array Bool := #[true, true, true, true, true, true, true, true, true, true, true, true, true, true, true, true, true, true, true, true, true, true, true, true, true, true, true, true, true, true, true, true, true, true, true, true, true, true, false, false, false, false, false, false, false, false, false, false, false, false, false, false, false, false, false, false, false, false, false, false, false, false, false, false, false, false, false, false, false, false, false, false, false, false, false, false, false, false, false, false, false, false, false, false, false, false, false, false, false, false, false, false, false, false, false, false, false, false, false, false, false, false, false, false, false, false]
abbrev FrameNames.M39 : Array Bool := #[true, true, true, true, true, true, true, true, true, true, true, true, true, true, true, true, true, true, true, true, true, true, true, true, true, true, true, true, true, true, true, true, true, true, true, true, true, true, true, false, false, false, false, false, false, false, false, false, false, false, false, false, false, false, false, false, false, false, false, false, false, false, false, false, false, false, false, false, false, false, false, false, false, false, false, false, false, false, false, false, false, false, false, false, false, false, false, false, false, false, false, false, false, false, false, false, false, false, false, false, false, false, false, false, false, false]
abbrev FrameNames.M40 : Array Bool := #[true, true, true, true, true, true, true, true, true, true, true, true, true, true, true, true, true, true, true, true, true, true, true, true, true, true, true, true, true, true, true, true, true, true, true, true, true, true, true, true, false, false, false, false, false, false, false, false, false, false, false, false, false, false, false, false, false, false, false, false, false, false, false, false, false, false, false, false, false, false, false, false, false, false, false, false, false, false, false, false, false, false, false, false, false, false, false, false, false, false, false, false, false, false, false, false, false, false, false, false, false, false, false, false, false, false]
abbrev FrameNames.M41 : Array Bool := #[true, true, true, true, true, true, true, true, true, true, true, true, true, true, true, true, true, true, true, true, true, true, true, true, true, true, true, true, true, true, true, true, true, true, true, true, true, true, true, true, true, false, false, false, false, false, false, false, false, false, false, false, false, false, false, false, false, false, false, false, false, false, false, false, false, false, false, false, false, false, false, false, false, false, false, false, false, false, false, false, false, false, false, false, false, false, false, false, false, false, false, false, false, false, false, false, false, false, false, false, false, false, false, false, false, false]
abbrev FrameNames.M42 : Array Bool := #[true, true, true, true, true, true, true, true, true, true, true, true, true, true, true, true, true, true, true, true, true, true, true, true, true, true, true, true, true, true, true, true, true, true, true, true, true, true, true, true, true, true, false, false, false, false, false, false, false, false, false, false, false, false, false, false, false, false, false, false, false, false, false, false, false, false, false, false, false, false, false, false, false, false, false, false, false, false, false, false, false, false, false, false, false, false, false, false, false, false, false, false, false, false, false, false, false, false, false, false, false, false, false, false, false, false]
abbrev FrameNames.M43 : Array Bool := #[true, true, true, true, true, true, true, true, true, true, true, true, true, true, true, true, true, true, true, true, true, true, true, true, true, true, true, true, true, true, true, true, true, true, true, true, true, true, true, true, true, true, true, false, false, false, false, false, false, false, false, false, false, false, false, false, false, false, false, false, false, false, false, false, false, false, false, false, false, false, false, false, false, false, false, false, false, false, false, false, false, false, false, false, false, false, false, false, false, false, false, false, false, false, false, false, false, false, false, false, false, false, false, false, false, false]
abbrev FrameNames.M44 : Array Bool := #[true, true, true, true, true, true, true, true, true, true, true, true, true, true, true, true, true, true, true, true, true, true, true, true, true, true, true, true, true, true, true, true, true, true, true, true, true, true, true, true, true, true, true, true, false, false, false, false, false, false, false, false, false, false, false, false, false, false, false, false, false, false, false, false, false, false, false, false, false, false, false, false, false, false, false, false, false, false, false, false, false, false, false, false, false, false, false, false, false, false, false, false, false, false, false, false, false, false, false, false, false, false, false, false, false, false]
abbrev FrameNames.M45 : Array Bool := #[true, true, true, true, true, true, true, true, true, true, true, true, true, true, true, true, true, true, true, true, true, true, true, true, true, true, true, true, true, true, true, true, true, true, true, true, true, true, true, true, true, true, true, true, true, false, false, false, false, false, false, false, false, false, false, false, false, false, false, false, false, false, false, false, false, false, false, false, false, false, false, false, false, false, false, false, false, false, false, false, false, false, false, false, false, false, false, false, false, false, false, false, false, false, false, false, false, false, false, false, false, false, false, false, false, false]
abbrev FrameNames.M46 : Array Bool := #[true, true, true, true, true, true, true, true, true, true, true, true, true, true, true, true, true, true, true, true, true, true, true, true, true, true, true, true, true, true, true, true, true, true, true, true, true, true, true, true, true, true, true, true, true, true, false, false, false, false, false, false, false, false, false, false, false, false, false, false, false, false, false, false, false, false, false, false, false, false, false, false, false, false, false, false, false, false, false, false, false, false, false, false, false, false, false, false, false, false, false, false, false, false, false, false, false, false, false, false, false, false, false, false, false, false]
abbrev FrameNames.M47 : Array Bool := #[true, true, true, true, true, true, true, true, true, true, true, true, true, true, true, true, true, true, true, true, true, true, true, true, true, true, true, true, true, true, true, true, true, true, true, true, true, true, true, true, true, true, true, true, true, true, true, false, false, false, false, false, false, false, false, false, false, false, false, false, false, false, false, false, false, false, false, false, false, false, false, false, false, false, false, false, false, false, false, false, false, false, false, false, false, false, false, false, false, false, false, false, false, false, false, false, false, false, false, false, false, false, false, false, false, false]
abbrev FrameNames.M48 : Array Bool := #[true, true, true, true, true, true, true, true, true, true, true, true, true, true, true, true, true, true, true, true, true, true, true, true, true, true, true, true, true, true, true, true, true, true, true, true, true, true, true, true, true, true, true, true, true, true, true, true, false, false, false, false, false, false, false, false, false, false, false, false, false, false, false, false, false, false, false, false, false, false, false, false, false, false, false, false, false, false, false, false, false, false, false, false, false, false, false, false, false, false, false, false, false, false, false, false, false, false, false, false, false, false, false, false, false, false]
abbrev FrameNames.M49 : Array Bool := #[true, true, true, true, true, true, true, true, true, true, true, true, true, true, true, true, true, true, true, true, true, true, true, true, true, true, true, true, true, true, true, true, true, true, true, true, true, true, true, true, true, true, true, true, true, true, true, true, true, false, false, false, false, false, false, false, false, false, false, false, false, false, false, false, false, false, false, false, false, false, false, false, false, false, false, false, false, false, false, false, false, false, false, false, false, false, false, false, false, false, false, false, false, false, false, false, false, false, false, false, false, false, false, false, false, false]
abbrev FrameNames.M50 : Array Bool := #[true, true, true, true, true, true, true, true, true, true, true, true, true, true, true, true, true, true, true, true, true, true, true, true, true, true, true, true, true, true, true, true, true, true, true, true, true, true, true, true, true, true, true, true, true, true, true, true, true, true, false, false, false, false, false, false, false, false, false, false, false, false, false, false, false, false, false, false, false, false, false, false, false, false, false, false, false, false, false, false, false, false, false, false, false, false, false, false, false, false, false, false, false, false, false, false, false, false, false, false, false, false, false, false, false, false]
abbrev FrameNames.M51 : Array Bool := #[true, true, true, true, true, true, true, true, true, true, true, true, true, true, true, true, true, true, true, true, true, true, true, true, true, true, true, true, true, true, true, true, true, true, true, true, true, true, true, true, true, true, true, true, true, true, true, true, true, true, true, false, false, false, false, false, false, false, false, false, false, false, false, false, false, false, false, false, false, false, false, false, false, false, false, false, false, false, false, false, false, false, false, false, false, false, false, false, false, false, false, false, false, false, false, false, false, false, false, false, false, false, false, false, false, false]
abbrev FrameNames.M52 : Array Bool := #[true, true, true, true, true, true, true, true, true, true, true, true, true, true, true, true, true, true, true, true, true, true, true, true, true, true, true, true, true, true, true, true, true, true, true, true, true, true, true, true, true, true, true, true, true, true, true, true, true, true, true, true, false, false, false, false, false, false, false, false, false, false, false, false, false, false, false, false, false, false, false, false, false, false, false, false, false, false, false, false, false, false, false, false, false, false, false, false, false, false, false, false, false, false, false, false, false, false, false, false, false, false, false, false, false, false]
abbrev FrameNames.M53 : Array Bool := #[true, true, true, true, true, true, true, true, true, true, true, true, true, true, true, true, true, true, true, true, true, true, true, true, true, true, true, true, true, true, true, true, true, true, true, true, true, true, true, true, true, true, true, true, true, true, true, true, true, true, true, true, true, false, false, false, false, false, false, false, false, false, false, false, false, false, false, false, false, false, false, false, false, false, false, false, false, false, false, false, false, false, false, false, false, false, false, false, false, false, false, false, false, false, false, false, false, false, false, false, false, false, false, false, false, false]
abbrev FrameNames.M54 : Array Bool := #[true, true, true, true, true, true, true, true, true, true, true, true, true, true, true, true, true, true, true, true, true, true, true, true, true, true, true, true, true, true, true, true, true, true, true, true, true, true, true, true, true, true, true, true, true, true, true, true, true, true, true, true, true, true, false, false, false, false, false, false, false, false, false, false, false, false, false, false, false, false, false, false, false, false, false, false, false, false, false, false, false, false, false, false, false, false, false, false, false, false, false, false, false, false, false, false, false, false, false, false, false, false, false, false, false, false]
abbrev FrameNames.M55 : Array Bool := #[true, true, true, true, true, true, true, true, true, true, true, true, true, true, true, true, true, true, true, true, true, true, true, true, true, true, true, true, true, true, true, true, true, true, true, true, true, true, true, true, true, true, true, true, true, true, true, true, true, true, true, true, true, true, true, false, false, false, false, false, false, false, false, false, false, false, false, false, false, false, false, false, false, false, false, false, false, false, false, false, false, false, false, false, false, false, false, false, false, false, false, false, false, false, false, false, false, false, false, false, false, false, false, false, false, false]
abbrev FrameNames.M56 : Array Bool := #[true, true, true, true, true, true, true, true, true, true, true, true, true, true, true, true, true, true, true, true, true, true, true, true, true, true, true, true, true, true, true, true, true, true, true, true, true, true, true, true, true, true, true, true, true, true, true, true, true, true, true, true, true, true, true, true, false, false, false, false, false, false, false, false, false, false, false, false, false, false, false, false, false, false, false, false, false, false, false, false, false, false, false, false, false, false, false, false, false, false, false, false, false, false, false, false, false, false, false, false, false, false, false, false, false, false]
abbrev FrameNames.M57 : Array Bool := #[true, true, true, true, true, true, true, true, true, true, true, true, true, true, true, true, true, true, true, true, true, true, true, true, true, true, true, true, true, true, true, true, true, true, true, true, true, true, true, true, true, true, true, true, true, true, true, true, true, true, true, true, true, true, true, true, true, false, false, false, false, false, false, false, false, false, false, false, false, false, false, false, false, false, false, false, false, false, false, false, false, false, false, false, false, false, false, false, false, false, false, false, false, false, false, false, false, false, false, false, false, false, false, false, false, false]
abbrev FrameNames.M58 : Array Bool := #[true, true, true, true, true, true, true, true, true, true, true, true, true, true, true, true, true, true, true, true, true, true, true, true, true, true, true, true, true, true, true, true, true, true, true, true, true, true, true, true, true, true, true, true, true, true, true, true, true, true, true, true, true, true, true, true, true, true, false, false, false, false, false, false, false, false, false, false, false, false, false, false, false, false, false, false, false, false, false, false, false, false, false, false, false, false, false, false, false, false, false, false, false, false, false, false, false, false, false, false, false, false, false, false, false, false]
abbrev FrameNames.M59 : Array Bool := #[true, true, true, true, true, true, true, true, true, true, true, true, true, true, true, true, true, true, true, true, true, true, true, true, true, true, true, true, true, true, true, true, true, true, true, true, true, true, true, true, true, true, true, true, true, true, true, true, true, true, true, true, true, true, true, true, true, true, true, false, false, false, false, false, false, false, false, false, false, false, false, false, false, false, false, false, false, false, false, false, false, false, false, false, false, false, false, false, false, false, false, false, false, false, false, false, false, false, false, false, false, false, false, false, false, false]
abbrev FrameNames.M60 : Array Bool := #[true, true, true, true, true, true, true, true, true, true, true, true, true, true, true, true, true, true, true, true, true, true, true, true, true, true, true, true, true, true, true, true, true, true, true, true, true, true, true, true, true, true, true, true, true, true, true, true, true, true, true, true, true, true, true, true, true, true, true, true, false, false, false, false, false, false, false, false, false, false, false, false, false, false, false, false, false, false, false, false, false, false, false, false, false, false, false, false, false, false, false, false, false, false, false, false, false, false, false, false, false, false, false, false, false, false]
abbrev FrameNames.M61 : Array Bool := #[true, true, true, true, true, true, true, true, true, true, true, true, true, true, true, true, true, true, true, true, true, true, true, true, true, true, true, true, true, true, true, true, true, true, true, true, true, true, true, true, true, true, true, true, true, true, true, true, true, true, true, true, true, true, true, true, true, true, true, true, true, false, false, false, false, false, false, false, false, false, false, false, false, false, false, false, false, false, false, false, false, false, false, false, false, false, false, false, false, false, false, false, false, false, false, false, false, false, false, false, false, false, false, false, false, false]
abbrev FrameNames.M62 : Array Bool := #[true, true, true, true, true, true, true, true, true, true, true, true, true, true, true, true, true, true, true, true, true, true, true, true, true, true, true, true, true, true, true, true, true, true, true, true, true, true, true, true, true, true, true, true, true, true, true, true, true, true, true, true, true, true, true, true, true, true, true, true, true, true, false, false, false, false, false, false, false, false, false, false, false, false, false, false, false, false, false, false, false, false, false, false, false, false, false, false, false, false, false, false, false, false, false, false, false, false, false, false, false, false, false, false, false, false]
abbrev FrameNames.M63 : Array Bool := #[true, true, true, true, true, true, true, true, true, true, true, true, true, true, true, true, true, true, true, true, true, true, true, true, true, true, true, true, true, true, true, true, true, true, true, true, true, true, true, true, true, true, true, true, true, true, true, true, true, true, true, true, true, true, true, true, true, true, true, true, true, true, true, false, false, false, false, false, false, false, false, false, false, false, false, false, false, false, false, false, false, false, false, false, false, false, false, false, false, false, false, false, false, false, false, false, false, false, false, false, false, false, false, false, false, false]
abbrev FrameNames.M64 : Array Bool := #[true, true, true, true, true, true, true, true, true, true, true, true, true, true, true, true, true, true, true, true, true, true, true, true, true, true, true, true, true, true, true, true, true, true, true, true, true, true, true, true, true, true, true, true, true, true, true, true, true, true, true, true, true, true, true, true, true, true, true, true, true, true, true, true, false, false, false, false, false, false, false, false, false, false, false, false, false, false, false, false, false, false, false, false, false, false, false, false, false, false, false, false, false, false, false, false, false, false, false, false, false, false, false, false, false, false]
abbrev FrameNames.M65 : Array Bool := #[true, true, true, true, true, true, true, true, true, true, true, true, true, true, true, true, true, true, true, true, true, true, true, true, true, true, true, true, true, true, true, true, true, true, true, true, true, true, true, true, true, true, true, true, true, true, true, true, true, true, true, true, true, true, true, true, true, true, true, true, true, true, true, true, true, false, false, false, false, false, false, false, false, false, false, false, false, false, false, false, false, false, false, false, false, false, false, false, false, false, false, false, false, false, false, false, false, false, false, false, false, false, false, false, false, false]
abbrev FrameNames.M66 : Array Bool := #[true, true, true, true, true, true, true, true, true, true, true, true, true, true, true, true, true, true, true, true, true, true, true, true, true, true, true, true, true, true, true, true, true, true, true, true, true, true, true, true, true, true, true, true, true, true, true, true, true, true, true, true, true, true, true, true, true, true, true, true, true, true, true, true, true, true, false, false, false, false, false, false, false, false, false, false, false, false, false, false, false, false, false, false, false, false, false, false, false, false, false, false, false, false, false, false, false, false, false, false, false, false, false, false, false, false]
abbrev FrameNames.M67 : Array Bool := #[true, true, true, true, true, true, true, true, true, true, true, true, true, true, true, true, true, true, true, true, true, true, true, true, true, true, true, true, true, true, true, true, true, true, true, true, true, true, true, true, true, true, true, true, true, true, true, true, true, true, true, true, true, true, true, true, true, true, true, true, true, true, true, true, true, true, true, false, false, false, false, false, false, false, false, false, false, false, false, false, false, false, false, false, false, false, false, false, false, false, false, false, false, false, false, false, false, false, false, false, false, false, false, false, false, false]
abbrev FrameNames.M68 : Array Bool := #[true, true, true, true, true, true, true, true, true, true, true, true, true, true, true, true, true, true, true, true, true, true, true, true, true, true, true, true, true, true, true, true, true, true, true, true, true, true, true, true, true, true, true, true, true, true, true, true, true, true, true, true, true, true, true, true, true, true, true, true, true, true, true, true, true, true, true, true, false, false, false, false, false, false, false, false, false, false, false, false, false, false, false, false, false, false, false, false, false, false, false, false, false, false, false, false, false, false, false, false, false, false, false, false, false, false]
abbrev FrameNames.M69 : Array Bool := #[true, true, true, true, true, true, true, true, true, true, true, true, true, true, true, true, true, true, true, true, true, true, true, true, true, true, true, true, true, true, true, true, true, true, true, true, true, true, true, true, true, true, true, true, true, true, true, true, true, true, true, true, true, true, true, true, true, true, true, true, true, true, true, true, true, true, true, true, true, false, false, false, false, false, false, false, false, false, false, false, false, false, false, false, false, false, false, false, false, false, false, false, false, false, false, false, false, false, false, false, false, false, false, false, false, false]
abbrev FrameNames.M70 : Array Bool := #[true, true, true, true, true, true, true, true, true, true, true, true, true, true, true, true, true, true, true, true, true, true, true, true, true, true, true, true, true, true, true, true, true, true, true, true, true, true, true, true, true, true, true, true, true, true, true, true, true, true, true, true, true, true, true, true, true, true, true, true, true, true, true, true, true, true, true, true, true, true, false, false, false, false, false, false, false, false, false, false, false, false, false, false, false, false, false, false, false, false, false, false, false, false, false, false, false, false, false, false, false, false, false, false, false, false]
abbrev FrameNames.M71 : Array Bool := #[true, true, true, true, true, true, true, true, true, true, true, true, true, true, true, true, true, true, true, true, true, true, true, true, true, true, true, true, true, true, true, true, true, true, true, true, true, true, true, true, true, true, true, true, true, true, true, true, true, true, true, true, true, true, true, true, true, true, true, true, true, true, true, true, true, true, true, true, true, true, true, false, false, false, false, false, false, false, false, false, false, false, false, false, false, false, false, false, false, false, false, false, false, false, false, false, false, false, false, false, false, false, false, false, false, false]
abbrev FrameNames.M72 : Array Bool := #[true, true, true, true, true, true, true, true, true, true, true, true, true, true, true, true, true, true, true, true, true, true, true, true, true, true, true, true, true, true, true, true, true, true, true, true, true, true, true, true, true, true, true, true, true, true, true, true, true, true, true, true, true, true, true, true, true, true, true, true, true, true, true, true, true, true, true, true, true, true, true, true, false, false, false, false, false, false, false, false, false, false, false, false, false, false, false, false, false, false, false, false, false, false, false, false, false, false, false, false, false, false, false, false, false, false]
abbrev FrameNames.M73 : Array Bool := #[true, true, true, true, true, true, true, true, true, true, true, true, true, true, true, true, true, true, true, true, true, true, true, true, true, true, true, true, true, true, true, true, true, true, true, true, true, true, true, true, true, true, true, true, true, true, true, true, true, true, true, true, true, true, true, true, true, true, true, true, true, true, true, true, true, true, true, true, true, true, true, true, true, false, false, false, false, false, false, false, false, false, false, false, false, false, false, false, false, false, false, false, false, false, false, false, false, false, false, false, false, false, false, false, false, false]
abbrev FrameNames.M74 : Array Bool := #[true, true, true, true, true, true, true, true, true, true, true, true, true, true, true, true, true, true, true, true, true, true, true, true, true, true, true, true, true, true, true, true, true, true, true, true, true, true, true, true, true, true, true, true, true, true, true, true, true, true, true, true, true, true, true, true, true, true, true, true, true, true, true, true, true, true, true, true, true, true, true, true, true, true, false, false, false, false, false, false, false, false, false, false, false, false, false, false, false, false, false, false, false, false, false, false, false, false, false, false, false, false, false, false, false, false]
abbrev FrameNames.M75 : Array Bool := #[true, true, true, true, true, true, true, true, true, true, true, true, true, true, true, true, true, true, true, true, true, true, true, true, true, true, true, true, true, true, true, true, true, true, true, true, true, true, true, true, true, true, true, true, true, true, true, true, true, true, true, true, true, true, true, true, true, true, true, true, true, true, true, true, true, true, true, true, true, true, true, true, true, true, true, false, false, false, false, false, false, false, false, false, false, false, false, false, false, false, false, false, false, false, false, false, false, false, false, false, false, false, false, false, false, false]
abbrev FrameNames.M76 : Array Bool := #[true, true, true, true, true, true, true, true, true, true, true, true, true, true, true, true, true, true, true, true, true, true, true, true, true, true, true, true, true, true, true, true, true, true, true, true, true, true, true, true, true, true, true, true, true, true, true, true, true, true, true, true, true, true, true, true, true, true, true, true, true, true, true, true, true, true, true, true, true, true, true, true, true, true, true, true, false, false, false, false, false, false, false, false, false, false, false, false, false, false, false, false, false, false, false, false, false, false, false, false, false, false, false, false, false, false]
abbrev FrameNames.M77 : Array Bool := #[true, true, true, true, true, true, true, true, true, true, true, true, true, true, true, true, true, true, true, true, true, true, true, true, true, true, true, true, true, true, true, true, true, true, true, true, true, true, true, true, true, true, true, true, true, true, true, true, true, true, true, true, true, true, true, true, true, true, true, true, true, true, true, true, true, true, true, true, true, true, true, true, true, true, true, true, true, false, false, false, false, false, false, false, false, false, false, false, false, false, false, false, false, false, false, false, false, false, false, false, false, false, false, false, false, false]
abbrev FrameNames.M78 : Array Bool := #[true, true, true, true, true, true, true, true, true, true, true, true, true, true, true, true, true, true, true, true, true, true, true, true, true, true, true, true, true, true, true, true, true, true, true, true, true, true, true, true, true, true, true, true, true, true, true, true, true, true, true, true, true, true, true, true, true, true, true, true, true, true, true, true, true, true, true, true, true, true, true, true, true, true, true, true, true, true, false, false, false, false, false, false, false, false, false, false, false, false, false, false, false, false, false, false, false, false, false, false, false, false, false, false, false, false]
abbrev FrameNames.M79 : Array Bool := #[true, true, true, true, true, true, true, true, true, true, true, true, true, true, true, true, true, true, true, true, true, true, true, true, true, true, true, true, true, true, true, true, true, true, true, true, true, true, true, true, true, true, true, true, true, true, true, true, true, true, true, true, true, true, true, true, true, true, true, true, true, true, true, true, true, true, true, true, true, true, true, true, true, true, true, true, true, true, true, false, false, false, false, false, false, false, false, false, false, false, false, false, false, false, false, false, false, false, false, false, false, false, false, false, false, false]
abbrev FrameNames.M80 : Array Bool := #[true, true, true, true, true, true, true, true, true, true, true, true, true, true, true, true, true, true, true, true, true, true, true, true, true, true, true, true, true, true, true, true, true, true, true, true, true, true, true, true, true, true, true, true, true, true, true, true, true, true, true, true, true, true, true, true, true, true, true, true, true, true, true, true, true, true, true, true, true, true, true, true, true, true, true, true, true, true, true, true, false, false, false, false, false, false, false, false, false, false, false, false, false, false, false, false, false, false, false, false, false, false, false, false, false, false]
abbrev FrameNames.M81 : Array Bool := #[true, true, true, true, true, true, true, true, true, true, true, true, true, true, true, true, true, true, true, true, true, true, true, true, true, true, true, true, true, true, true, true, true, true, true, true, true, true, true, true, true, true, true, true, true, true, true, true, true, true, true, true, true, true, true, true, true, true, true, true, true, true, true, true, true, true, true, true, true, true, true, true, true, true, true, true, true, true, true, true, true, false, false, false, false, false, false, false, false, false, false, false, false, false, false, false, false, false, false, false, false, false, false, false, false, false]
abbrev FrameNames.M82 : Array Bool := #[true, true, true, true, true, true, true, true, true, true, true, true, true, true, true, true, true, true, true, true, true, true, true, true, true, true, true, true, true, true, true, true, true, true, true, true, true, true, true, true, true, true, true, true, true, true, true, true, true, true, true, true, true, true, true, true, true, true, true, true, true, true, true, true, true, true, true, true, true, true, true, true, true, true, true, true, true, true, true, true, true, true, false, false, false, false, false, false, false, false, false, false, false, false, false, false, false, false, false, false, false, false, false, false, false, false]
abbrev FrameNames.M83 : Array Bool := #[true, true, true, true, true, true, true, true, true, true, true, true, true, true, true, true, true, true, true, true, true, true, true, true, true, true, true, true, true, true, true, true, true, true, true, true, true, true, true, true, true, true, true, true, true, true, true, true, true, true, true, true, true, true, true, true, true, true, true, true, true, true, true, true, true, true, true, true, true, true, true, true, true, true, true, true, true, true, true, true, true, true, true, false, false, false, false, false, false, false, false, false, false, false, false, false, false, false, false, false, false, false, false, false, false, false]
abbrev FrameNames.M84 : Array Bool := #[true, true, true, true, true, true, true, true, true, true, true, true, true, true, true, true, true, true, true, true, true, true, true, true, true, true, true, true, true, true, true, true, true, true, true, true, true, true, true, true, true, true, true, true, true, true, true, true, true, true, true, true, true, true, true, true, true, true, true, true, true, true, true, true, true, true, true, true, true, true, true, true, true, true, true, true, true, true, true, true, true, true, true, true, false, false, false, false, false, false, false, false, false, false, false, false, false, false, false, false, false, false, false, false, false, false]
abbrev FrameNames.M85 : Array Bool := #[true, true, true, true, true, true, true, true, true, true, true, true, true, true, true, true, true, true, true, true, true, true, true, true, true, true, true, true, true, true, true, true, true, true, true, true, true, true, true, true, true, true, true, true, true, true, true, true, true, true, true, true, true, true, true, true, true, true, true, true, true, true, true, true, true, true, true, true, true, true, true, true, true, true, true, true, true, true, true, true, true, true, true, true, true, false, false, false, false, false, false, false, false, false, false, false, false, false, false, false, false, false, false, false, false, false]
abbrev FrameNames.M86 : Array Bool := #[true, true, true, true, true, true, true, true, true, true, true, true, true, true, true, true, true, true, true, true, true, true, true, true, true, true, true, true, true, true, true, true, true, true, true, true, true, true, true, true, true, true, true, true, true, true, true, true, true, true, true, true, true, true, true, true, true, true, true, true, true, true, true, true, true, true, true, true, true, true, true, true, true, true, true, true, true, true, true, true, true, true, true, true, true, true, false, false, false, false, false, false, false, false, false, false, false, false, false, false, false, false, false, false, false, false]
abbrev FrameNames.M87 : Array Bool := #[true, true, true, true, true, true, true, true, true, true, true, true, true, true, true, true, true, true, true, true, true, true, true, true, true, true, true, true, true, true, true, true, true, true, true, true, true, true, true, true, true, true, true, true, true, true, true, true, true, true, true, true, true, true, true, true, true, true, true, true, true, true, true, true, true, true, true, true, true, true, true, true, true, true, true, true, true, true, true, true, true, true, true, true, true, true, true, false, false, false, false, false, false, false, false, false, false, false, false, false, false, false, false, false, false, false]
abbrev FrameNames.M88 : Array Bool := #[true, true, true, true, true, true, true, true, true, true, true, true, true, true, true, true, true, true, true, true, true, true, true, true, true, true, true, true, true, true, true, true, true, true, true, true, true, true, true, true, true, true, true, true, true, true, true, true, true, true, true, true, true, true, true, true, true, true, true, true, true, true, true, true, true, true, true, true, true, true, true, true, true, true, true, true, true, true, true, true, true, true, true, true, true, true, true, true, false, false, false, false, false, false, false, false, false, false, false, false, false, false, false, false, false, false]
abbrev FrameNames.M89 : Array Bool := #[true, true, true, true, true, true, true, true, true, true, true, true, true, true, true, true, true, true, true, true, true, true, true, true, true, true, true, true, true, true, true, true, true, true, true, true, true, true, true, true, true, true, true, true, true, true, true, true, true, true, true, true, true, true, true, true, true, true, true, true, true, true, true, true, true, true, true, true, true, true, true, true, true, true, true, true, true, true, true, true, true, true, true, true, true, true, true, true, true, false, false, false, false, false, false, false, false, false, false, false, false, false, false, false, false, false]
abbrev FrameNames.M90 : Array Bool := #[true, true, true, true, true, true, true, true, true, true, true, true, true, true, true, true, true, true, true, true, true, true, true, true, true, true, true, true, true, true, true, true, true, true, true, true, true, true, true, true, true, true, true, true, true, true, true, true, true, true, true, true, true, true, true, true, true, true, true, true, true, true, true, true, true, true, true, true, true, true, true, true, true, true, true, true, true, true, true, true, true, true, true, true, true, true, true, true, true, true, false, false, false, false, false, false, false, false, false, false, false, false, false, false, false, false]
abbrev FrameNames.M91 : Array Bool := #[true, true, true, true, true, true, true, true, true, true, true, true, true, true, true, true, true, true, true, true, true, true, true, true, true, true, true, true, true, true, true, true, true, true, true, true, true, true, true, true, true, true, true, true, true, true, true, true, true, true, true, true, true, true, true, true, true, true, true, true, true, true, true, true, true, true, true, true, true, true, true, true, true, true, true, true, true, true, true, true, true, true, true, true, true, true, true, true, true, true, true, false, false, false, false, false, false, false, false, false, false, false, false, false, false, false]
abbrev FrameNames.M92 : Array Bool := #[true, true, true, true, true, true, true, true, true, true, true, true, true, true, true, true, true, true, true, true, true, true, true, true, true, true, true, true, true, true, true, true, true, true, true, true, true, true, true, true, true, true, true, true, true, true, true, true, true, true, true, true, true, true, true, true, true, true, true, true, true, true, true, true, true, true, true, true, true, true, true, true, true, true, true, true, true, true, true, true, true, true, true, true, true, true, true, true, true, true, true, true, false, false, false, false, false, false, false, false, false, false, false, false, false, false]
abbrev FrameNames.M93 : Array Bool := #[true, true, true, true, true, true, true, true, true, true, true, true, true, true, true, true, true, true, true, true, true, true, true, true, true, true, true, true, true, true, true, true, true, true, true, true, true, true, true, true, true, true, true, true, true, true, true, true, true, true, true, true, true, true, true, true, true, true, true, true, true, true, true, true, true, true, true, true, true, true, true, true, true, true, true, true, true, true, true, true, true, true, true, true, true, true, true, true, true, true, true, true, true, false, false, false, false, false, false, false, false, false, false, false, false, false]
abbrev FrameNames.M94 : Array Bool := #[true, true, true, true, true, true, true, true, true, true, true, true, true, true, true, true, true, true, true, true, true, true, true, true, true, true, true, true, true, true, true, true, true, true, true, true, true, true, true, true, true, true, true, true, true, true, true, true, true, true, true, true, true, true, true, true, true, true, true, true, true, true, true, true, true, true, true, true, true, true, true, true, true, true, true, true, true, true, true, true, true, true, true, true, true, true, true, true, true, true, true, true, true, true, false, false, false, false, false, false, false, false, false, false, false, false]
abbrev FrameNames.M95 : Array Bool := #[true, true, true, true, true, true, true, true, true, true, true, true, true, true, true, true, true, true, true, true, true, true, true, true, true, true, true, true, true, true, true, true, true, true, true, true, true, true, true, true, true, true, true, true, true, true, true, true, true, true, true, true, true, true, true, true, true, true, true, true, true, true, true, true, true, true, true, true, true, true, true, true, true, true, true, true, true, true, true, true, true, true, true, true, true, true, true, true, true, true, true, true, true, true, true, false, false, false, false, false, false, false, false, false, false, false]
abbrev FrameNames.M96 : Array Bool := #[true, true, true, true, true, true, true, true, true, true, true, true, true, true, true, true, true, true, true, true, true, true, true, true, true, true, true, true, true, true, true, true, true, true, true, true, true, true, true, true, true, true, true, true, true, true, true, true, true, true, true, true, true, true, true, true, true, true, true, true, true, true, true, true, true, true, true, true, true, true, true, true, true, true, true, true, true, true, true, true, true, true, true, true, true, true, true, true, true, true, true, true, true, true, true, true, false, false, false, false, false, false, false, false, false, false]
abbrev FrameNames.M97 : Array Bool := #[true, true, true, true, true, true, true, true, true, true, true, true, true, true, true, true, true, true, true, true, true, true, true, true, true, true, true, true, true, true, true, true, true, true, true, true, true, true, true, true, true, true, true, true, true, true, true, true, true, true, true, true, true, true, true, true, true, true, true, true, true, true, true, true, true, true, true, true, true, true, true, true, true, true, true, true, true, true, true, true, true, true, true, true, true, true, true, true, true, true, true, true, true, true, true, true, true, false, false, false, false, false, false, false, false, false]
abbrev FrameNames.M98 : Array Bool := #[true, true, true, true, true, true, true, true, true, true, true, true, true, true, true, true, true, true, true, true, true, true, true, true, true, true, true, true, true, true, true, true, true, true, true, true, true, true, true, true, true, true, true, true, true, true, true, true, true, true, true, true, true, true, true, true, true, true, true, true, true, true, true, true, true, true, true, true, true, true, true, true, true, true, true, true, true, true, true, true, true, true, true, true, true, true, true, true, true, true, true, true, true, true, true, true, true, true, false, false, false, false, false, false, false, false]
abbrev FrameNames.M99 : Array Bool := #[true, true, true, true, true, true, true, true, true, true, true, true, true, true, true, true, true, true, true, true, true, true, true, true, true, true, true, true, true, true, true, true, true, true, true, true, true, true, true, true, true, true, true, true, true, true, true, true, true, true, true, true, true, true, true, true, true, true, true, true, true, true, true, true, true, true, true, true, true, true, true, true, true, true, true, true, true, true, true, true, true, true, true, true, true, true, true, true, true, true, true, true, true, true, true, true, true, true, true, false, false, false, false, false, false, false]
abbrev FrameNames.M100 : Array Bool := #[true, true, true, true, true, true, true, true, true, true, true, true, true, true, true, true, true, true, true, true, true, true, true, true, true, true, true, true, true, true, true, true, true, true, true, true, true, true, true, true, true, true, true, true, true, true, true, true, true, true, true, true, true, true, true, true, true, true, true, true, true, true, true, true, true, true, true, true, true, true, true, true, true, true, true, true, true, true, true, true, true, true, true, true, true, true, true, true, true, true, true, true, true, true, true, true, true, true, true, true, false, false, false, false, false, false]
abbrev FrameNames.M101 : Array Bool := #[true, true, true, true, true, true, true, true, true, true, true, true, true, true, true, true, true, true, true, true, true, true, true, true, true, true, true, true, true, true, true, true, true, true, true, true, true, true, true, true, true, true, true, true, true, true, true, true, true, true, true, true, true, true, true, true, true, true, true, true, true, true, true, true, true, true, true, true, true, true, true, true, true, true, true, true, true, true, true, true, true, true, true, true, true, true, true, true, true, true, true, true, true, true, true, true, true, true, true, true, true, false, false, false, false, false]
abbrev FrameNames.M102 : Array Bool := #[true, true, true, true, true, true, true, true, true, true, true, true, true, true, true, true, true, true, true, true, true, true, true, true, true, true, true, true, true, true, true, true, true, true, true, true, true, true, true, true, true, true, true, true, true, true, true, true, true, true, true, true, true, true, true, true, true, true, true, true, true, true, true, true, true, true, true, true, true, true, true, true, true, true, true, true, true, true, true, true, true, true, true, true, true, true, true, true, true, true, true, true, true, true, true, true, true, true, true, true, true, true, false, false, false, false]
abbrev FrameNames.M103 : Array Bool := #[true, true, true, true, true, true, true, true, true, true, true, true, true, true, true, true, true, true, true, true, true, true, true, true, true, true, true, true, true, true, true, true, true, true, true, true, true, true, true, true, true, true, true, true, true, true, true, true, true, true, true, true, true, true, true, true, true, true, true, true, true, true, true, true, true, true, true, true, true, true, true, true, true, true, true, true, true, true, true, true, true, true, true, true, true, true, true, true, true, true, true, true, true, true, true, true, true, true, true, true, true, true, true, false, false, false]
abbrev FrameNames.M104 : Array Bool := #[true, true, true, true, true, true, true, true, true, true, true, true, true, true, true, true, true, true, true, true, true, true, true, true, true, true, true, true, true, true, true, true, true, true, true, true, true, true, true, true, true, true, true, true, true, true, true, true, true, true, true, true, true, true, true, true, true, true, true, true, true, true, true, true, true, true, true, true, true, true, true, true, true, true, true, true, true, true, true, true, true, true, true, true, true, true, true, true, true, true, true, true, true, true, true, true, true, true, true, true, true, true, true, true, false, false]
abbrev FrameNames.M105 : Array Bool := #[true, true, true, true, true, true, true, true, true, true, true, true, true, true, true, true, true, true, true, true, true, true, true, true, true, true, true, true, true, true, true, true, true, true, true, true, true, true, true, true, true, true, true, true, true, true, true, true, true, true, true, true, true, true, true, true, true, true, true, true, true, true, true, true, true, true, true, true, true, true, true, true, true, true, true, true, true, true, true, true, true, true, true, true, true, true, true, true, true, true, true, true, true, true, true, true, true, true, true, true, true, true, true, true, true, false]
abbrev FrameNames.M106 : Array Bool := #[true, true, true, true, true, true, true, true, true, true, true, true, true, true, true, true, true, true, true, true, true, true, true, true, true, true, true, true, true, true, true, true, true, true, true, true, true, true, true, true, true, true, true, true, true, true, true, true, true, true, true, true, true, true, true, true, true, true, true, true, true, true, true, true, true, true, true, true, true, true, true, true, true, true, true, true, true, true, true, true, true, true, true, true, true, true, true, true, true, true, true, true, true, true, true, true, true, true, true, true, true, true, true, true, true, true]
set_option maxHeartbeats 32000000 in
set_option maxRecDepth 100000 in
theorem careenagelaw04_FrameNames.walk (P : careenagelaw04_FrameNames.Pure) (w : World) : Calls Try.prog 5 #[] w fun e w' => e = .returned (.bool true) ∧ Below w.heap.size w w' := by
  obtain ⟨b, s, s2, b2, x1, x3, x8, f_P0, f_AP, f_A1, f_S1, f_S2, f_S3, f_S4, f_G1, f_G2, f_G3, f_G4, f_A2, f_A3, f_B1, f_B2, f_B3, f_B4, f_B5, f_T1, f_T2, f_T3, f_C1, f_C2, f_R1, f_R2, f_R3, f_R4, f_D1, f_D2, f_D3⟩ := P
  have P0 := Aside0.mk f_P0
  have AP := Aside0.mk f_AP
  have A1 := Aside0.mk f_A1
  have G1 := Aside0.mk f_G1
  have G2 := Aside0.mk f_G2
  have G3 := Aside0.mk f_G3
  have G4 := Aside0.mk f_G4
  have A2 := Aside0.mk f_A2
  have A3 := Aside0.mk f_A3
  have B1 := Aside0.mk f_B1
  have B4 := Aside0.mk f_B4
  have B5 := Aside0.mk f_B5
  have T1 := Aside0.mk f_T1
  have T2 := Aside0.mk f_T2
  have T3 := Aside0.mk f_T3
  have C1 := Aside0.mk f_C1
  have C2 := Aside0.mk f_C2
  have R1 := Aside0.mk f_R1
  have R3 := Aside0.mk f_R3
  have R4 := Aside0.mk f_R4
  have D1 := Aside0.mk f_D1
  have D2 := Aside0.mk f_D2
  have D3 := Aside0.mk f_D3
  have r2n : (9223372036854775807 < x8.size + 128) = False := eq_false (by rw [← f_S1]; exact Nat.not_lt.mpr f_R2)
  clear f_P0 f_AP f_A1 f_G1 f_G2 f_G3 f_G4 f_A2 f_A3 f_B1 f_B4 f_B5 f_T1 f_T2 f_T3 f_C1 f_C2 f_R1 f_R2 f_R3 f_R4 f_D1 f_D2 f_D3
  obtain ⟨y1, hy1⟩ : ∃ y : List Int, y = [97, 98] := ⟨_, rfl⟩
  have B1' := B1.out
  rw [← hy1] at B1'
  clear B1
  have B1 := Aside0.mk B1'
  clear B1'
  have NY1 := Aside0.mk hy1
  clear hy1
  obtain ⟨y2, hy2⟩ : ∃ y : List Int, y = List.replicate (105 : Int).toNat 0 := ⟨_, rfl⟩
  have B4' := B4.out
  rw [← hy2] at B4'
  clear B4
  have B4 := Aside0.mk B4'
  clear B4'
  have NY2 := Aside0.mk hy2
  clear hy2
  have HB := Aside0.mk (Below.refl w.heap.size w)
  go_enter Try.func5, Try.ntmps5
  try dsimp only [List.append]
  go_upto_region 5 with (first | (go_at_call 16; (with_reducible refine (careenagelaw04_lives.calls 300 true _ P0.out).mono ?_); rintro e w1 ⟨rfl, hb⟩; have n1_ := Aside0.mk (below_step HB.out hb); clear HB hb; have HB := n1_; clear n1_) | (go_at_call 20; (with_reducible refine (careenagelaw04_page.calls 300 4 3 7 9 5 b _ AP.out).mono ?_); rintro e w2 ⟨rfl, hb⟩; have n1_ := Aside0.mk (below_step HB.out hb); clear HB hb; have HB := n1_; clear n1_) | (go_at_call 17; (with_reducible refine (frame_Put.calls 128 4 3 7 9 5 b s 0 _ A1.out).mono ?_); rintro e w3 ⟨rfl, hb⟩; have n1_ := Aside0.mk (below_step HB.out hb); clear HB hb; have HB := n1_; clear n1_) | (go_at_call 19; (with_reducible refine (frame_Get.calls 128 7 s 4 3 7 9 5 b 0 _ G1.out).mono ?_); rintro e w4 ⟨rfl, hb⟩; have n1_ := Aside0.mk (below_step HB.out hb); clear HB hb; have HB := n1_; clear n1_) | ((with_reducible refine gate_dst (N := 3) rfl ?_); refine arr_alloc ?hg (N := 3) ?hd 27 ?ho #[.int .i64 0, .int .i64 0, .int .u32 0, .int .u32 0, .int .u64 0, .string (⟨#[]⟩ : ByteArray)] ?hz ?_; (case hd => rfl); (case hg => rfl); (case ho => rfl); (case hz => kernel_rfl); intro g3 hg_ wz3 hb hbel; have HA := Aside0.mk hb; have GA := Aside0.mk (by rw [hg_]; exact Nat.le_refl _ : w4.heap.size ≤ g3); have GB := Aside0.mk (by rw [hg_]; exact HB.out.size : w.heap.size ≤ g3); have BA := Aside0.mk hbel; clear hg_ hb hbel) | (refine arr_store (w0 := w4) ?hg ?hd 27 (.tmp 3) (.tmp 43) ?ho (cs := #[.int .i64 0, .int .i64 0, .int .u32 0, .int .u32 0, .int .u64 0, .string (⟨#[]⟩ : ByteArray)]) (cs' := #[.int .i64 4, .int .i64 3, .int .u32 7, .int .u32 9, .int .u64 5, .string b]) (by kernel_rfl) ?hx ?hy HA.out rfl (by intro v hv; simp only [List.mem_toArray, List.mem_cons, List.not_mem_nil, or_false] at hv; rcases hv with rfl | rfl | rfl | rfl | rfl | rfl <;> rfl) BA.out GA.out ?_; (case hd => rfl); (case hg => rfl); (case ho => rfl); (case hx => rfl); (case hy => rfl); intro wn3 hr9 hb9; have n1_ := Aside0.mk (below_step HB.out hb9); clear HB hb9; have HB := n1_; clear n1_; have B3_ := Aside0.mk hr9; clear hr9 GB; clear HA GA BA; skip))
  go_upto_region 9 with (first | (go_at_call 19; (with_reducible refine (frame_Get.calls 128 8 s 0 0 0 0 0 (⟨#[]⟩ : ByteArray) 4 _ G2.out).mono ?_); rintro e w5 ⟨rfl, hb⟩; have n1_ := Aside0.mk (below_step HB.out hb); have n3_ := Aside0.mk (blk_below B3_.out hb); clear HB hb B3_; have HB := n1_; clear n1_; have B3_ := n3_; clear n3_) | ((with_reducible refine gate_dst (N := 5) rfl ?_); refine arr_alloc ?hg (N := 5) ?hd 27 ?ho #[.int .i64 0, .int .i64 0, .int .u32 0, .int .u32 0, .int .u64 0, .string (⟨#[]⟩ : ByteArray)] ?hz ?_; (case hd => rfl); (case hg => rfl); (case ho => rfl); (case hz => kernel_rfl); intro gz5 hg_ wz5 hb hbel; have HA := Aside0.mk hb; have GA := Aside0.mk (by rw [hg_]; exact Nat.le_refl _ : w5.heap.size ≤ gz5); have GB := Aside0.mk (by rw [hg_]; exact HB.out.size : w.heap.size ≤ gz5); have GN := Aside0.mk (by rw [hg_]; exact Nat.ne_of_lt (blk_lt B3_.out) : g3 ≠ gz5); have BA := Aside0.mk hbel; clear hg_ hb hbel) | (refine arr_store (w0 := w5) ?hg ?hd 27 (.tmp 5) (.tmp 48) ?ho (cs := #[.int .i64 0, .int .i64 0, .int .u32 0, .int .u32 0, .int .u64 0, .string (⟨#[]⟩ : ByteArray)]) (cs' := #[.int .i64 0, .int .i64 0, .int .u32 0, .int .u32 0, .int .u64 0, .string (⟨#[]⟩ : ByteArray)]) (by kernel_rfl) ?hx ?hy HA.out rfl (by intro v hv; simp only [List.mem_toArray, List.mem_cons, List.not_mem_nil, or_false] at hv; rcases hv with rfl | rfl | rfl | rfl | rfl | rfl <;> rfl) BA.out GA.out ?_; (case hd => rfl); (case hg => rfl); (case ho => rfl); (case hx => rfl); (case hy => rfl); intro wn5 hr9 hb9; have n1_ := Aside0.mk (below_step HB.out hb9); have n3_ := Aside0.mk (blk_below B3_.out hb9); clear HB hb9 B3_; have HB := n1_; clear n1_; have B3_ := n3_; clear n3_; clear hr9 GB GN; clear HA GA BA; skip) | (go_at_call 19; (with_reducible refine (frame_Get.calls 100 7 s 0 0 0 0 0 (⟨#[]⟩ : ByteArray) 2 _ G3.out).mono ?_); rintro e w6 ⟨rfl, hb⟩; have n1_ := Aside0.mk (below_step HB.out hb); have n3_ := Aside0.mk (blk_below B3_.out hb); clear HB hb B3_; have HB := n1_; clear n1_; have B3_ := n3_; clear n3_) | ((with_reducible refine gate_dst (N := 7) rfl ?_); refine arr_alloc ?hg (N := 7) ?hd 27 ?ho #[.int .i64 0, .int .i64 0, .int .u32 0, .int .u32 0, .int .u64 0, .string (⟨#[]⟩ : ByteArray)] ?hz ?_; (case hd => rfl); (case hg => rfl); (case ho => rfl); (case hz => kernel_rfl); intro gz7 hg_ wz7 hb hbel; have HA := Aside0.mk hb; have GA := Aside0.mk (by rw [hg_]; exact Nat.le_refl _ : w6.heap.size ≤ gz7); have GB := Aside0.mk (by rw [hg_]; exact HB.out.size : w.heap.size ≤ gz7); have GN := Aside0.mk (by rw [hg_]; exact Nat.ne_of_lt (blk_lt B3_.out) : g3 ≠ gz7); have BA := Aside0.mk hbel; clear hg_ hb hbel) | (refine arr_store (w0 := w6) ?hg ?hd 27 (.tmp 7) (.tmp 53) ?ho (cs := #[.int .i64 0, .int .i64 0, .int .u32 0, .int .u32 0, .int .u64 0, .string (⟨#[]⟩ : ByteArray)]) (cs' := #[.int .i64 0, .int .i64 0, .int .u32 0, .int .u32 0, .int .u64 0, .string (⟨#[]⟩ : ByteArray)]) (by kernel_rfl) ?hx ?hy HA.out rfl (by intro v hv; simp only [List.mem_toArray, List.mem_cons, List.not_mem_nil, or_false] at hv; rcases hv with rfl | rfl | rfl | rfl | rfl | rfl <;> rfl) BA.out GA.out ?_; (case hd => rfl); (case hg => rfl); (case ho => rfl); (case hx => rfl); (case hy => rfl); intro wn7 hr9 hb9; have n1_ := Aside0.mk (below_step HB.out hb9); have n3_ := Aside0.mk (blk_below B3_.out hb9); clear HB hb9 B3_; have HB := n1_; clear n1_; have B3_ := n3_; clear n3_; clear hr9 GB GN; clear HA GA BA; skip))
  go_upto_region 10 with (first | (go_at_call 19; (with_reducible refine (frame_Get.calls 128 7 s2 0 0 0 0 0 (⟨#[]⟩ : ByteArray) 4 _ G4.out).mono ?_); rintro e w7 ⟨rfl, hb⟩; have n1_ := Aside0.mk (below_step HB.out hb); have n3_ := Aside0.mk (blk_below B3_.out hb); clear HB hb B3_; have HB := n1_; clear n1_; have B3_ := n3_; clear n3_) | ((with_reducible refine gate_dst (N := 9) rfl ?_); refine arr_alloc ?hg (N := 9) ?hd 27 ?ho #[.int .i64 0, .int .i64 0, .int .u32 0, .int .u32 0, .int .u64 0, .string (⟨#[]⟩ : ByteArray)] ?hz ?_; (case hd => rfl); (case hg => rfl); (case ho => rfl); (case hz => kernel_rfl); intro gz9 hg_ wz9 hb hbel; have HA := Aside0.mk hb; have GA := Aside0.mk (by rw [hg_]; exact Nat.le_refl _ : w7.heap.size ≤ gz9); have GB := Aside0.mk (by rw [hg_]; exact HB.out.size : w.heap.size ≤ gz9); have GN := Aside0.mk (by rw [hg_]; exact Nat.ne_of_lt (blk_lt B3_.out) : g3 ≠ gz9); have BA := Aside0.mk hbel; clear hg_ hb hbel) | (refine arr_store (w0 := w7) ?hg ?hd 27 (.tmp 9) (.tmp 62) ?ho (cs := #[.int .i64 0, .int .i64 0, .int .u32 0, .int .u32 0, .int .u64 0, .string (⟨#[]⟩ : ByteArray)]) (cs' := #[.int .i64 0, .int .i64 0, .int .u32 0, .int .u32 0, .int .u64 0, .string (⟨#[]⟩ : ByteArray)]) (by kernel_rfl) ?hx ?hy HA.out rfl (by intro v hv; simp only [List.mem_toArray, List.mem_cons, List.not_mem_nil, or_false] at hv; rcases hv with rfl | rfl | rfl | rfl | rfl | rfl <;> rfl) BA.out GA.out ?_; (case hd => rfl); (case hg => rfl); (case ho => rfl); (case hx => rfl); (case hy => rfl); intro wn9 hr9 hb9; have n1_ := Aside0.mk (below_step HB.out hb9); have n3_ := Aside0.mk (blk_below B3_.out hb9); clear HB hb9 B3_; have HB := n1_; clear n1_; have B3_ := n3_; clear n3_; clear hr9 GB GN; clear HA GA BA; skip))
  go_upto_region 13 with (first | (go_at_call 20; (with_reducible refine (careenagelaw04_page.calls 300 4 3 7 9 5 b _ AP.out).mono ?_); rintro e w8 ⟨rfl, hb⟩; have n1_ := Aside0.mk (below_step HB.out hb); have n3_ := Aside0.mk (blk_below B3_.out hb); clear HB hb B3_; have HB := n1_; clear n1_; have B3_ := n3_; clear n3_) | ((with_reducible refine gate_dst (N := 11) rfl ?_); refine arr_alloc ?hg (N := 11) ?hd 27 ?ho #[.int .i64 0, .int .i64 0, .int .u32 0, .int .u32 0, .int .u64 0, .string (⟨#[]⟩ : ByteArray)] ?hz ?_; (case hd => rfl); (case hg => rfl); (case ho => rfl); (case hz => kernel_rfl); intro gz11 hg_ wz11 hb hbel; have HA := Aside0.mk hb; have GA := Aside0.mk (by rw [hg_]; exact Nat.le_refl _ : w8.heap.size ≤ gz11); have GB := Aside0.mk (by rw [hg_]; exact HB.out.size : w.heap.size ≤ gz11); have GN := Aside0.mk (by rw [hg_]; exact Nat.ne_of_lt (blk_lt B3_.out) : g3 ≠ gz11); have BA := Aside0.mk hbel; clear hg_ hb hbel) | (refine arr_store (w0 := w8) ?hg ?hd 27 (.tmp 11) (.tmp 64) ?ho (cs := #[.int .i64 0, .int .i64 0, .int .u32 0, .int .u32 0, .int .u64 0, .string (⟨#[]⟩ : ByteArray)]) (cs' := #[.int .i64 4, .int .i64 3, .int .u32 7, .int .u32 9, .int .u64 5, .string b]) (by kernel_rfl) ?hx ?hy HA.out rfl (by intro v hv; simp only [List.mem_toArray, List.mem_cons, List.not_mem_nil, or_false] at hv; rcases hv with rfl | rfl | rfl | rfl | rfl | rfl <;> rfl) BA.out GA.out ?_; (case hd => rfl); (case hg => rfl); (case ho => rfl); (case hx => rfl); (case hy => rfl); intro wn11 hr9 hb9; have n1_ := Aside0.mk (below_step HB.out hb9); have n3_ := Aside0.mk (blk_below B3_.out hb9); clear HB hb9 B3_; have HB := n1_; clear n1_; have B3_ := n3_; clear n3_; have BR := Aside0.mk hr9; clear hr9; clear HA GA BA; have hcx0 : wn11.cell? ⟨gz11, 0, none⟩ = some (.int .i64 4) := (blk_cell BR.out 0).trans rfl; have hcx1 : wn11.cell? ⟨gz11, 1, none⟩ = some (.int .i64 3) := (blk_cell BR.out 1).trans rfl; have hcx2 : wn11.cell? ⟨gz11, 2, none⟩ = some (.int .u32 7) := (blk_cell BR.out 2).trans rfl; have hcx3 : wn11.cell? ⟨gz11, 3, none⟩ = some (.int .u32 9) := (blk_cell BR.out 3).trans rfl; have hcx4 : wn11.cell? ⟨gz11, 4, none⟩ = some (.int .u64 5) := (blk_cell BR.out 4).trans rfl; have hcx5 : wn11.cell? ⟨gz11, 5, none⟩ = some (.string b) := (blk_cell BR.out 5).trans rfl; have hcy0 := blk_frozen BR.out 0; have hcy1 := blk_frozen BR.out 1; have hcy2 := blk_frozen BR.out 2; have hcy3 := blk_frozen BR.out 3; have hcy4 := blk_frozen BR.out 4; have hcy5 := blk_frozen BR.out 5) | (go_at_call 17; (with_reducible refine (frame_Put.calls 128 4 3 7 9 4611686018427387905 b (⟨#[]⟩ : ByteArray) 2 _ A2.out).mono ?_); rintro e w9 ⟨rfl, hb⟩; have n1_ := Aside0.mk (below_step (below_set (g := gz11) (j := 4) (v := .int .u64 4611686018427387905) HB.out GB.out) hb); have n3_ := Aside0.mk (blk_below (blk_far B3_.out GN.out (p := ⟨gz11, 4, none⟩) (.int .u64 4611686018427387905)) hb); clear HB B3_ GB GN BR hb hcx0 hcy0 hcx1 hcy1 hcx2 hcy2 hcx3 hcy3 hcx4 hcy4 hcx5 hcy5; have HB := n1_; have B3_ := n3_; clear n1_ n3_))
  go_upto_region 16 with (first | (go_at_call 20; (with_reducible refine (careenagelaw04_page.calls 300 4 3 7 9 5 b _ AP.out).mono ?_); rintro e w10 ⟨rfl, hb⟩; have n1_ := Aside0.mk (below_step HB.out hb); have n3_ := Aside0.mk (blk_below B3_.out hb); clear HB hb B3_; have HB := n1_; clear n1_; have B3_ := n3_; clear n3_) | ((with_reducible refine gate_dst (N := 14) rfl ?_); refine arr_alloc ?hg (N := 14) ?hd 27 ?ho #[.int .i64 0, .int .i64 0, .int .u32 0, .int .u32 0, .int .u64 0, .string (⟨#[]⟩ : ByteArray)] ?hz ?_; (case hd => rfl); (case hg => rfl); (case ho => rfl); (case hz => kernel_rfl); intro gz14 hg_ wz14 hb hbel; have HA := Aside0.mk hb; have GA := Aside0.mk (by rw [hg_]; exact Nat.le_refl _ : w10.heap.size ≤ gz14); have GB := Aside0.mk (by rw [hg_]; exact HB.out.size : w.heap.size ≤ gz14); have GN := Aside0.mk (by rw [hg_]; exact Nat.ne_of_lt (blk_lt B3_.out) : g3 ≠ gz14); have BA := Aside0.mk hbel; clear hg_ hb hbel) | (refine arr_store (w0 := w10) ?hg ?hd 27 (.tmp 14) (.tmp 71) ?ho (cs := #[.int .i64 0, .int .i64 0, .int .u32 0, .int .u32 0, .int .u64 0, .string (⟨#[]⟩ : ByteArray)]) (cs' := #[.int .i64 4, .int .i64 3, .int .u32 7, .int .u32 9, .int .u64 5, .string b]) (by kernel_rfl) ?hx ?hy HA.out rfl (by intro v hv; simp only [List.mem_toArray, List.mem_cons, List.not_mem_nil, or_false] at hv; rcases hv with rfl | rfl | rfl | rfl | rfl | rfl <;> rfl) BA.out GA.out ?_; (case hd => rfl); (case hg => rfl); (case ho => rfl); (case hx => rfl); (case hy => rfl); intro wn14 hr9 hb9; have n1_ := Aside0.mk (below_step HB.out hb9); have n3_ := Aside0.mk (blk_below B3_.out hb9); clear HB hb9 B3_; have HB := n1_; clear n1_; have B3_ := n3_; clear n3_; have BR := Aside0.mk hr9; clear hr9; clear HA GA BA; have hcx0 : wn14.cell? ⟨gz14, 0, none⟩ = some (.int .i64 4) := (blk_cell BR.out 0).trans rfl; have hcx1 : wn14.cell? ⟨gz14, 1, none⟩ = some (.int .i64 3) := (blk_cell BR.out 1).trans rfl; have hcx2 : wn14.cell? ⟨gz14, 2, none⟩ = some (.int .u32 7) := (blk_cell BR.out 2).trans rfl; have hcx3 : wn14.cell? ⟨gz14, 3, none⟩ = some (.int .u32 9) := (blk_cell BR.out 3).trans rfl; have hcx4 : wn14.cell? ⟨gz14, 4, none⟩ = some (.int .u64 5) := (blk_cell BR.out 4).trans rfl; have hcx5 : wn14.cell? ⟨gz14, 5, none⟩ = some (.string b) := (blk_cell BR.out 5).trans rfl; have hcy0 := blk_frozen BR.out 0; have hcy1 := blk_frozen BR.out 1; have hcy2 := blk_frozen BR.out 2; have hcy3 := blk_frozen BR.out 3; have hcy4 := blk_frozen BR.out 4; have hcy5 := blk_frozen BR.out 5) | (go_at_call 17; (with_reducible refine (frame_Put.calls 128 7 3 7 9 5 b (⟨#[]⟩ : ByteArray) 2 _ A3.out).mono ?_); rintro e w11 ⟨rfl, hb⟩; have n1_ := Aside0.mk (below_step (below_set (g := gz14) (j := 0) (v := .int .i64 7) HB.out GB.out) hb); have n3_ := Aside0.mk (blk_below (blk_far B3_.out GN.out (p := ⟨gz14, 0, none⟩) (.int .i64 7)) hb); clear HB B3_ GB GN BR hb hcx0 hcy0 hcx1 hcy1 hcx2 hcy2 hcx3 hcy3 hcx4 hcy4 hcx5 hcy5; have HB := n1_; have B3_ := n3_; clear n1_ n3_))
  go_upto_region 19 with (first | ((with_reducible refine gate_dst (N := 79) rfl ?_); refine Kd.R_lit (Kd.int .u8) _ 5 ?hg (N := 79) ?hd (xs := ([97, 98] : List Int)) (inner := [.int .u8 97, .int .u8 98]) (ok := fun _ => True) (okp := fun _ => True) ?hr ?hp (fun _ hk => hk) trivial (Below.refl _ _) (Nat.le_refl _) (by simp) ?_; (case hd => rfl); (case hg => rfl); (case hr => first | (go_simp; done) | (go_simp; rfl)); (case hp => exact (Reps.one (show Kd.M (Kd.int .u8) _ _ _ 97 [.int .u8 97] from rfl) (Reps.one (show Kd.M (Kd.int .u8) _ _ _ 98 [.int .u8 98] from rfl) (Reps.none _ _)))); intro v1 w12 ho hb hg_ hnew_; clear hg_ hnew_; (first | rw [← NY1.out] at ho | (simp only [Int.reduceToNat] at ho; rw [← NY1.out] at ho)); have HO := Aside0.mk (Kd.R_lower ho HB.out.size); clear ho; have n1_ := Aside0.mk (below_step HB.out hb); have n3_ := Aside0.mk (blk_below B3_.out hb); clear HB hb B3_; have HB := n1_; clear n1_; have B3_ := n3_; clear n3_; obtain ⟨Ao, co, eo⟩ := Kd.R_slice HO.out; subst eo) | ((with_reducible refine gate_dst (N := 80) rfl ?_); refine R_mark (w0 := w) w.heap.size 5 39 ?hg (N := 80) ?hd (.tmp 79) ?ho Try.underlying39 Try.underlying5 ?hx HO.out (by rw [NY1.out]; decide) HB.out HB.out.size ?_; (case hd => rfl); (case hg => rfl); (case ho => rfl); (case hx => first | rfl | (go_simp; done) | (go_simp; rfl)); intro w13 hC_ hMc hb_ hg_; have HM := Aside0.mk hC_; have HMc := Aside0.mk hMc; have n3_ := Aside0.mk (blk_grown B3_.out hg_ (Kd.R_ne HO.out B3_.out (by decide))); have n1_ := Aside0.mk hb_; clear HO HB B3_ hb_ hg_ hC_ hMc; have HB := n1_; have B3_ := n3_; clear n1_ n3_) | (go_at_call 21; (with_reducible refine (frame_Body.calls 128 _ _ y1 b2 0 _ ?side1 ?side2 B1.out).mono ?_); (case side1 => exact HM.out); (case side2 => exact HMc.out); rintro e w14 ⟨rfl, hb⟩; have n1_ := Aside0.mk (below_step HB.out hb); have n3_ := Aside0.mk (blk_below B3_.out hb); clear HB hb B3_ HM HMc; have HB := n1_; clear n1_; have B3_ := n3_; clear n3_) | ((with_reducible refine gate_dst (N := 85) rfl ?_); refine Kd.R_make (Kd.int .u8) _ 5 rfl (N := 85) rfl 39 _ _ rfl 105 rfl rfl Try.underlying39 (.int .u8 0) 1 info5 rfl (by decide) (by omega) 0 (ok := fun _ => True) (okp := fun _ => True) rfl (fun _ hk => hk) trivial (by omega) (by omega) (Below.refl _ _) (Nat.le_refl _) ?_; intro v2 w15 ho hb hg_ hnew_; clear hg_ hnew_; (first | rw [← NY2.out] at ho | (simp only [Int.reduceToNat] at ho; rw [← NY2.out] at ho)); have HO := Aside0.mk (Kd.R_lower ho HB.out.size); clear ho; have n1_ := Aside0.mk (below_step HB.out hb); have n3_ := Aside0.mk (blk_below B3_.out hb); clear HB hb B3_; have HB := n1_; clear n1_; have B3_ := n3_; clear n3_; obtain ⟨Ao, co, eo⟩ := Kd.R_slice HO.out; subst eo) | (go_at_call 21; (with_reducible refine (frame_Body.calls 128 _ _ y2 (⟨#[]⟩ : ByteArray) 3 _ ?side1 ?side2 B4.out).mono ?_); (case side1 => exact (Kd.R_reads' HO.out).2.2); (case side2 => exact (Kd.R_reads' HO.out).2.1); rintro e w16 ⟨rfl, hb⟩; have n1_ := Aside0.mk (below_step HB.out hb); have n3_ := Aside0.mk (blk_below B3_.out hb); clear HB hb B3_ HO; have HB := n1_; clear n1_; have B3_ := n3_; clear n3_) | (go_at_call 21; (refine (frame_Body.calls 1 none 0 ([] : List Int) (⟨#[]⟩ : ByteArray) 2 _ ?side1 ?side2 B5.out).mono ?_); (case side1 => exact Kd.C_nil _ _); (case side2 => exact Nat.le_refl _); rintro e w17 ⟨rfl, hb⟩; have n1_ := Aside0.mk (below_step HB.out hb); have n3_ := Aside0.mk (blk_below B3_.out hb); clear HB hb B3_; have HB := n1_; clear n1_; have B3_ := n3_; clear n3_))
  go_upto_region 23 with (first | (go_at_call 23; (with_reducible refine (careenagekit_Times.calls 300 (⟨#[120]⟩ : ByteArray) 300 x3 _ T1.out).mono ?_); rintro e w18 ⟨rfl, hd_⟩; have hb := below_drawn0 hd_; clear hd_; have n1_ := Aside0.mk (below_step HB.out hb); have n3_ := Aside0.mk (blk_below B3_.out hb); clear HB hb B3_; have HB := n1_; clear n1_; have B3_ := n3_; clear n3_) | (go_at_call 22; (with_reducible refine (frame_At.calls 128 x3 1 x1 true _ C1.out).mono ?_); rintro e w19 ⟨rfl, hd_⟩; have hb := below_drawn0 hd_; clear hd_; have n1_ := Aside0.mk (below_step HB.out hb); have n3_ := Aside0.mk (blk_below B3_.out hb); clear HB hb B3_; have HB := n1_; clear n1_; have B3_ := n3_; clear n3_) | (go_at_call 22; (with_reducible refine (frame_At.calls 128 x3 2 (⟨#[]⟩ : ByteArray) false _ C2.out).mono ?_); rintro e w20 ⟨rfl, hd_⟩; have hb := below_drawn0 hd_; clear hd_; have n1_ := Aside0.mk (below_step HB.out hb); have n3_ := Aside0.mk (blk_below B3_.out hb); clear HB hb B3_; have HB := n1_; clear n1_; have B3_ := n3_; clear n3_) | (go_at_call 24; (with_reducible refine (frame_Read.calls 128 s 1 0 0 0 0 0 (⟨#[]⟩ : ByteArray) 5 _ R1.out).mono ?_); rintro e w21 ⟨rfl, hb⟩; have n1_ := Aside0.mk (below_step HB.out hb); have n3_ := Aside0.mk (blk_below B3_.out hb); clear HB hb B3_; have HB := n1_; clear n1_; have B3_ := n3_; clear n3_) | ((with_reducible refine gate_dst (N := 27) rfl ?_); refine arr_alloc ?hg (N := 27) ?hd 27 ?ho #[.int .i64 0, .int .i64 0, .int .u32 0, .int .u32 0, .int .u64 0, .string (⟨#[]⟩ : ByteArray)] ?hz ?_; (case hd => rfl); (case hg => rfl); (case ho => rfl); (case hz => kernel_rfl); intro gz27 hg_ wz27 hb hbel; have HA := Aside0.mk hb; have GA := Aside0.mk (by rw [hg_]; exact Nat.le_refl _ : w21.heap.size ≤ gz27); have GB := Aside0.mk (by rw [hg_]; exact HB.out.size : w.heap.size ≤ gz27); have GN := Aside0.mk (by rw [hg_]; exact Nat.ne_of_lt (blk_lt B3_.out) : g3 ≠ gz27); have BA := Aside0.mk hbel; clear hg_ hb hbel) | (refine arr_store (w0 := w21) ?hg ?hd 27 (.tmp 27) (.tmp 106) ?ho (cs := #[.int .i64 0, .int .i64 0, .int .u32 0, .int .u32 0, .int .u64 0, .string (⟨#[]⟩ : ByteArray)]) (cs' := #[.int .i64 0, .int .i64 0, .int .u32 0, .int .u32 0, .int .u64 0, .string (⟨#[]⟩ : ByteArray)]) (by kernel_rfl) ?hx ?hy HA.out rfl (by intro v hv; simp only [List.mem_toArray, List.mem_cons, List.not_mem_nil, or_false] at hv; rcases hv with rfl | rfl | rfl | rfl | rfl | rfl <;> rfl) BA.out GA.out ?_; (case hd => rfl); (case hg => rfl); (case ho => rfl); (case hx => rfl); (case hy => rfl); intro wn27 hr9 hb9; have n1_ := Aside0.mk (below_step HB.out hb9); have n3_ := Aside0.mk (blk_below B3_.out hb9); clear HB hb9 B3_; have HB := n1_; clear n1_; have B3_ := n3_; clear n3_; clear hr9 GB GN; clear HA GA BA; skip) | (go_at_call 23; (with_reducible refine (careenagekit_Times.calls 300 (⟨#[120]⟩ : ByteArray) 896 x8 _ T2.out).mono ?_); rintro e w22 ⟨rfl, hd_⟩; have hb := below_drawn0 hd_; clear hd_; have n1_ := Aside0.mk (below_step HB.out hb); have n3_ := Aside0.mk (blk_below B3_.out hb); clear HB hb B3_; have HB := n1_; clear n1_; have B3_ := n3_; clear n3_) | (go_at_call 24; (with_reducible refine (frame_Read.calls 128 (x8 ++ s) 7 4 3 7 9 5 b 0 _ R3.out).mono ?_); rintro e w23 ⟨rfl, hb⟩; have n1_ := Aside0.mk (below_step HB.out hb); have n3_ := Aside0.mk (blk_below B3_.out hb); clear HB hb B3_; have HB := n1_; clear n1_; have B3_ := n3_; clear n3_) | ((with_reducible refine gate_dst (N := 29) rfl ?_); refine arr_alloc ?hg (N := 29) ?hd 27 ?ho #[.int .i64 0, .int .i64 0, .int .u32 0, .int .u32 0, .int .u64 0, .string (⟨#[]⟩ : ByteArray)] ?hz ?_; (case hd => rfl); (case hg => rfl); (case ho => rfl); (case hz => kernel_rfl); intro g29 hg_ wz29 hb hbel; have HA := Aside0.mk hb; have GA := Aside0.mk (by rw [hg_]; exact Nat.le_refl _ : w23.heap.size ≤ g29); have GB := Aside0.mk (by rw [hg_]; exact HB.out.size : w.heap.size ≤ g29); have GN := Aside0.mk (by rw [hg_]; exact Nat.ne_of_lt (blk_lt B3_.out) : g3 ≠ g29); have BA := Aside0.mk hbel; clear hg_ hb hbel) | (refine arr_store (w0 := w23) ?hg ?hd 27 (.tmp 29) (.tmp 113) ?ho (cs := #[.int .i64 0, .int .i64 0, .int .u32 0, .int .u32 0, .int .u64 0, .string (⟨#[]⟩ : ByteArray)]) (cs' := #[.int .i64 4, .int .i64 3, .int .u32 7, .int .u32 9, .int .u64 5, .string b]) (by kernel_rfl) ?hx ?hy HA.out rfl (by intro v hv; simp only [List.mem_toArray, List.mem_cons, List.not_mem_nil, or_false] at hv; rcases hv with rfl | rfl | rfl | rfl | rfl | rfl <;> rfl) BA.out GA.out ?_; (case hd => rfl); (case hg => rfl); (case ho => rfl); (case hx => rfl); (case hy => rfl); intro wn29 hr9 hb9; have n1_ := Aside0.mk (below_step HB.out hb9); have n3_ := Aside0.mk (blk_below B3_.out hb9); clear HB hb9 B3_; have HB := n1_; clear n1_; have B3_ := n3_; clear n3_; have B29 := Aside0.mk hr9; clear hr9 GB GN; clear HA GA BA; skip))
  go_wp2_with (first | (go_at_call 24; (with_reducible refine (frame_Read.calls 7 s 0 0 0 0 0 0 (⟨#[]⟩ : ByteArray) 2 _ R4.out).mono ?_); rintro e w24 ⟨rfl, hb⟩; have n9_ := Aside0.mk (blk_below B29.out hb); have n1_ := Aside0.mk (below_step HB.out hb); have n3_ := Aside0.mk (blk_below B3_.out hb); clear HB hb B3_; have HB := n1_; clear n1_; have B3_ := n3_; clear n3_; clear B29; have B29 := n9_; clear n9_) | ((with_reducible refine gate_dst (N := 31) rfl ?_); refine arr_alloc ?hg (N := 31) ?hd 27 ?ho #[.int .i64 0, .int .i64 0, .int .u32 0, .int .u32 0, .int .u64 0, .string (⟨#[]⟩ : ByteArray)] ?hz ?_; (case hd => rfl); (case hg => rfl); (case ho => rfl); (case hz => kernel_rfl); intro gz31 hg_ wz31 hb hbel; have HA := Aside0.mk hb; have GA := Aside0.mk (by rw [hg_]; exact Nat.le_refl _ : w24.heap.size ≤ gz31); have GB := Aside0.mk (by rw [hg_]; exact HB.out.size : w.heap.size ≤ gz31); have GN := Aside0.mk (by rw [hg_]; exact Nat.ne_of_lt (blk_lt B3_.out) : g3 ≠ gz31); have BA := Aside0.mk hbel; clear hg_ hb hbel) | (refine arr_store (w0 := w24) ?hg ?hd 27 (.tmp 31) (.tmp 118) ?ho (cs := #[.int .i64 0, .int .i64 0, .int .u32 0, .int .u32 0, .int .u64 0, .string (⟨#[]⟩ : ByteArray)]) (cs' := #[.int .i64 0, .int .i64 0, .int .u32 0, .int .u32 0, .int .u64 0, .string (⟨#[]⟩ : ByteArray)]) (by kernel_rfl) ?hx ?hy HA.out rfl (by intro v hv; simp only [List.mem_toArray, List.mem_cons, List.not_mem_nil, or_false] at hv; rcases hv with rfl | rfl | rfl | rfl | rfl | rfl <;> rfl) BA.out GA.out ?_; (case hd => rfl); (case hg => rfl); (case ho => rfl); (case hx => rfl); (case hy => rfl); intro wn31 hr9 hb9; have n9_ := Aside0.mk (blk_below B29.out hb9); clear B29; have B29 := n9_; clear n9_; have n1_ := Aside0.mk (below_step HB.out hb9); have n3_ := Aside0.mk (blk_below B3_.out hb9); clear HB hb9 B3_; have HB := n1_; clear n1_; have B3_ := n3_; clear n3_; clear hr9 GB GN; clear HA GA BA; skip))
  have n0_ := Aside0.mk (below_drew1 HB.out)
  have n1_ : Aside0 (wn31.drew.heap[g3]? = some (.cells #[.int .i64 4, .int .i64 3, .int .u32 7, .int .u32 9, .int .u64 5, .string b] 27 (0, 0))) := B3_
  have n2_ : Aside0 (wn31.drew.heap[g29]? = some (.cells #[.int .i64 4, .int .i64 3, .int .u32 7, .int .u32 9, .int .u64 5, .string b] 27 (0, 0))) := B29
  clear HB B3_ B29
  have HB := n0_
  have B3_ := n1_
  have B29 := n2_
  clear n0_ n1_ n2_
  have k0 : wn31.drew.cell? ⟨g3, 0, none⟩ = some (.int .i64 4) := (blk_cell B3_.out 0).trans rfl
  have k1 : wn31.drew.cell? ⟨g3, 1, none⟩ = some (.int .i64 3) := (blk_cell B3_.out 1).trans rfl
  have k2 : wn31.drew.cell? ⟨g3, 2, none⟩ = some (.int .u32 7) := (blk_cell B3_.out 2).trans rfl
  have k3 : wn31.drew.cell? ⟨g3, 3, none⟩ = some (.int .u32 9) := (blk_cell B3_.out 3).trans rfl
  have k4 : wn31.drew.cell? ⟨g3, 4, none⟩ = some (.int .u64 5) := (blk_cell B3_.out 4).trans rfl
  have k5 : wn31.drew.cell? ⟨g3, 5, none⟩ = some (.string b) := (blk_cell B3_.out 5).trans rfl
  have k6 : wn31.drew.cell? ⟨g29, 0, none⟩ = some (.int .i64 4) := (blk_cell B29.out 0).trans rfl
  have k7 : wn31.drew.cell? ⟨g29, 1, none⟩ = some (.int .i64 3) := (blk_cell B29.out 1).trans rfl
  have k8 : wn31.drew.cell? ⟨g29, 2, none⟩ = some (.int .u32 7) := (blk_cell B29.out 2).trans rfl
  have k9 : wn31.drew.cell? ⟨g29, 3, none⟩ = some (.int .u32 9) := (blk_cell B29.out 3).trans rfl
  have k10 : wn31.drew.cell? ⟨g29, 4, none⟩ = some (.int .u64 5) := (blk_cell B29.out 4).trans rfl
  have k11 : wn31.drew.cell? ⟨g29, 5, none⟩ = some (.string b) := (blk_cell B29.out 5).trans rfl
  refine start_ (n := 106) (S := fun w' => w'.cell? ⟨g3, 0, none⟩ = some (.int .i64 4) ∧ w'.cell? ⟨g3, 1, none⟩ = some (.int .i64 3) ∧ w'.cell? ⟨g3, 2, none⟩ = some (.int .u32 7) ∧ w'.cell? ⟨g3, 3, none⟩ = some (.int .u32 9) ∧ w'.cell? ⟨g3, 4, none⟩ = some (.int .u64 5) ∧ w'.cell? ⟨g3, 5, none⟩ = some (.string b) ∧ w'.cell? ⟨g29, 0, none⟩ = some (.int .i64 4) ∧ w'.cell? ⟨g29, 1, none⟩ = some (.int .i64 3) ∧ w'.cell? ⟨g29, 2, none⟩ = some (.int .u32 7) ∧ w'.cell? ⟨g29, 3, none⟩ = some (.int .u32 9) ∧ w'.cell? ⟨g29, 4, none⟩ = some (.int .u64 5) ∧ w'.cell? ⟨g29, 5, none⟩ = some (.string b)) (ds := []) FrameNames.M0 (by kernel_rfl) rfl rfl ⟨k0, k1, k2, k3, k4, k5, k6, k7, k8, k9, k10, k11⟩ (fun hHeld => ?_)
  clear k0 k1 k2 k3 k4 k5 k6 k7 k8 k9 k10 k11
  refine with_tabW FrameNames.tab24 FrameNames.bits24 (fun HT_ HW_ => ?_)
  generalize wn31.drew = wd at HB B3_ B29 hHeld ⊢
  refine pure_ (i := 0) (N := some 120) (v := ?_) (a' := ?_) FrameNames.M1 rfl rfl (any_of HT_.out (by kernel_rfl)) (fun _ _ _ h => h) (Or.inl ⟨by rfl, ?_⟩) ?_ ?_
  rotate_left
  · intro w'
    go_simp
    try with_reducible rfl
  rotate_left
  · simp only [Act.put, List.setIfInBounds_toArray, List.set_cons_zero, List.set_cons_succ, i64_w, i32_w]
    rfl
  refine pure_ (i := 1) (N := some 121) (v := ?_) (a' := ?_) FrameNames.M2 rfl rfl (any_of HT_.out (by kernel_rfl)) (fun _ _ _ h => h) (Or.inl ⟨by rfl, ?_⟩) ?_ ?_
  rotate_left
  · intro w'
    go_simp
    try with_reducible rfl
  rotate_left
  · simp only [Act.put, List.setIfInBounds_toArray, List.set_cons_zero, List.set_cons_succ, i64_w, i32_w]
    rfl
  refine pure_ (i := 2) (N := some 122) (v := ?_) (a' := ?_) FrameNames.M3 rfl rfl (any_of HT_.out (by kernel_rfl)) (fun _ _ _ h => h) (Or.inl ⟨by rfl, ?_⟩) ?_ ?_
  rotate_left
  · intro w'
    go_simp
    try with_reducible rfl
  rotate_left
  · simp only [Act.put, List.setIfInBounds_toArray, List.set_cons_zero, List.set_cons_succ, i64_w, i32_w]
    rfl
  refine pure_ (i := 3) (N := some 123) (v := ?_) (a' := ?_) FrameNames.M4 rfl rfl (any_of HT_.out (by kernel_rfl)) (fun _ _ _ h => h) (Or.inl ⟨by rfl, ?_⟩) ?_ ?_
  rotate_left
  · intro w'
    go_simp
    try with_reducible rfl
  rotate_left
  · simp only [Act.put, List.setIfInBounds_toArray, List.set_cons_zero, List.set_cons_succ, i64_w, i32_w]
    rfl
  refine pure_ (i := 4) (N := some 124) (v := ?_) (a' := ?_) FrameNames.M5 rfl rfl (any_of HT_.out (by kernel_rfl)) (fun _ _ _ h => h) (Or.inl ⟨by rfl, ?_⟩) ?_ ?_
  rotate_left
  · intro w'
    go_simp
    try with_reducible rfl
  rotate_left
  · simp only [Act.put, List.setIfInBounds_toArray, List.set_cons_zero, List.set_cons_succ, i64_w, i32_w]
    rfl
  refine pure_ (i := 5) (N := some 125) (v := ?_) (a' := ?_) FrameNames.M6 rfl rfl (any_of HT_.out (by kernel_rfl)) (fun _ _ _ h => h) (Or.inl ⟨by rfl, ?_⟩) ?_ ?_
  rotate_left
  · intro w'
    go_simp
    try with_reducible rfl
  rotate_left
  · simp only [Act.put, List.setIfInBounds_toArray, List.set_cons_zero, List.set_cons_succ, i64_w, i32_w]
    rfl
  refine pure_ (i := 6) (N := some 126) (v := ?_) (a' := ?_) FrameNames.M7 rfl rfl (any_of HT_.out (by kernel_rfl)) (fun _ _ _ h => h) (Or.inl ⟨by rfl, ?_⟩) ?_ ?_
  rotate_left
  · intro w'
    go_simp
    try with_reducible rfl
  rotate_left
  · simp only [Act.put, List.setIfInBounds_toArray, List.set_cons_zero, List.set_cons_succ, i64_w, i32_w]
    rfl
  refine pure_ (i := 7) (N := some 127) (v := ?_) (a' := ?_) FrameNames.M8 rfl rfl (any_of HT_.out (by kernel_rfl)) (fun _ _ _ h => h) (Or.inl ⟨by rfl, ?_⟩) ?_ ?_
  rotate_left
  · intro w'
    go_simp
    try with_reducible rfl
  rotate_left
  · simp only [Act.put, List.setIfInBounds_toArray, List.set_cons_zero, List.set_cons_succ, i64_w, i32_w]
    rfl
  refine pure_ (i := 8) (N := some 128) (v := ?_) (a' := ?_) FrameNames.M9 rfl rfl (any_of HT_.out (by kernel_rfl)) (fun _ _ _ h => h) (Or.inl ⟨by rfl, ?_⟩) ?_ ?_
  rotate_left
  · intro w'
    go_simp
    try with_reducible rfl
  rotate_left
  · simp only [Act.put, List.setIfInBounds_toArray, List.set_cons_zero, List.set_cons_succ, i64_w, i32_w]
    rfl
  refine pure_ (i := 9) (N := some 129) (v := ?_) (a' := ?_) FrameNames.M10 rfl rfl (any_of HT_.out (by kernel_rfl)) (fun _ _ _ h => h) (Or.inl ⟨by rfl, ?_⟩) ?_ ?_
  rotate_left
  · intro w'
    go_simp
    try with_reducible rfl
  rotate_left
  · simp only [Act.put, List.setIfInBounds_toArray, List.set_cons_zero, List.set_cons_succ, i64_w, i32_w]
    rfl
  refine pure_ (i := 10) (N := some 130) (v := ?_) (a' := ?_) FrameNames.M11 rfl rfl (any_of HT_.out (by kernel_rfl)) (fun _ _ _ h => h) (Or.inl ⟨by rfl, ?_⟩) ?_ ?_
  rotate_left
  · intro w'
    go_simp
    try with_reducible rfl
  rotate_left
  · simp only [Act.put, List.setIfInBounds_toArray, List.set_cons_zero, List.set_cons_succ, i64_w, i32_w]
    rfl
  refine pure_ (i := 11) (N := some 131) (v := ?_) (a' := ?_) FrameNames.M12 rfl rfl (any_of HT_.out (by kernel_rfl)) (fun _ _ _ h => h) (Or.inl ⟨by rfl, ?_⟩) ?_ ?_
  rotate_left
  · intro w'
    go_simp
    try with_reducible rfl
  rotate_left
  · simp only [Act.put, List.setIfInBounds_toArray, List.set_cons_zero, List.set_cons_succ, i64_w, i32_w]
    rfl
  refine pure_ (i := 12) (N := some 132) (v := ?_) (a' := ?_) FrameNames.M13 rfl rfl (any_of HT_.out (by kernel_rfl)) (fun _ _ _ h => h) (Or.inl ⟨by rfl, ?_⟩) ?_ ?_
  rotate_left
  · intro w'
    go_simp
    try with_reducible rfl
  rotate_left
  · simp only [Act.put, List.setIfInBounds_toArray, List.set_cons_zero, List.set_cons_succ, i64_w, i32_w]
    rfl
  refine pure_ (i := 13) (N := some 133) (v := ?_) (a' := ?_) FrameNames.M14 rfl rfl (any_of HT_.out (by kernel_rfl)) (fun _ _ _ h => h) (Or.inl ⟨by rfl, ?_⟩) ?_ ?_
  rotate_left
  · intro w'
    go_simp
    try with_reducible rfl
  rotate_left
  · simp only [Act.put, List.setIfInBounds_toArray, List.set_cons_zero, List.set_cons_succ, i64_w, i32_w]
    rfl
  refine pure_ (i := 14) (N := some 134) (v := ?_) (a' := ?_) FrameNames.M15 rfl rfl (any_of HT_.out (by kernel_rfl)) (fun _ _ _ h => h) (Or.inl ⟨by rfl, ?_⟩) ?_ ?_
  rotate_left
  · intro w'
    go_simp
    try with_reducible rfl
  rotate_left
  · simp only [Act.put, List.setIfInBounds_toArray, List.set_cons_zero, List.set_cons_succ, i64_w, i32_w]
    rfl
  refine pure_ (i := 15) (N := some 135) (v := ?_) (a' := ?_) FrameNames.M16 rfl rfl (any_of HT_.out (by kernel_rfl)) (fun _ _ _ h => h) (Or.inl ⟨by rfl, ?_⟩) ?_ ?_
  rotate_left
  · intro w'
    go_simp
    try with_reducible rfl
  rotate_left
  · simp only [Act.put, List.setIfInBounds_toArray, List.set_cons_zero, List.set_cons_succ, i64_w, i32_w]
    rfl
  refine pure_ (i := 16) (N := some 136) (v := ?_) (a' := ?_) FrameNames.M17 rfl rfl (any_of HT_.out (by kernel_rfl)) (fun _ _ _ h => h) (Or.inl ⟨by rfl, ?_⟩) ?_ ?_
  rotate_left
  · intro w'
    go_simp
    try with_reducible rfl
  rotate_left
  · simp only [Act.put, List.setIfInBounds_toArray, List.set_cons_zero, List.set_cons_succ, i64_w, i32_w]
    rfl
  refine take_ (i := 17) (N := some 137) (v := ?_) (a' := ?_) FrameNames.M18 rfl rfl (take_ofW HT_.out HW_.out (by kernel_rfl)) (fun _ _ _ h => h) (Or.inl ⟨by rfl, ?_⟩) hHeld ?_ ?_
  rotate_left
  · rintro w' ⟨s0, s1, s2, s3, s4, s5, s6, s7, s8, s9, s10, s11⟩
    go_simp
    with_reducible rfl
  rotate_left
  · simp only [Act.put, List.setIfInBounds_toArray, List.set_cons_zero, List.set_cons_succ, i64_w, i32_w]
    rfl
  refine one_ (i := 18) (N := some 138) FrameNames.M19 rfl rfl (one_of HT_.out (by kernel_rfl)) (by decide) (fun K hK => ?_)
  refine goes_ Try.func20 (by kernel_rfl) rfl #[] (by rfl) rfl rfl (by (try simp only [List.map_toArray, List.map_cons, List.map_nil]); first | done | rfl) ?_
  with_reducible refine (careenagelaw04_page.calls 300 4 3 7 9 5 b _ AP.out).mono ?_
  rintro e wr18 ⟨rfl, hb⟩
  refine ⟨_, rfl, ?_⟩
  have n9_ := Aside0.mk (blk_below B29.out hb)
  have n1_ := Aside0.mk (below_step HB.out hb)
  have n3_ := Aside0.mk (blk_below B3_.out hb)
  clear HB hb B3_
  have HB := n1_
  clear n1_
  have B3_ := n3_
  clear n3_
  clear B29
  have B29 := n9_
  clear n9_
  clear hHeld
  have k0 : wr18.cell? ⟨g3, 0, none⟩ = some (.int .i64 4) := (blk_cell B3_.out 0).trans rfl
  have k1 : wr18.cell? ⟨g3, 1, none⟩ = some (.int .i64 3) := (blk_cell B3_.out 1).trans rfl
  have k2 : wr18.cell? ⟨g3, 2, none⟩ = some (.int .u32 7) := (blk_cell B3_.out 2).trans rfl
  have k3 : wr18.cell? ⟨g3, 3, none⟩ = some (.int .u32 9) := (blk_cell B3_.out 3).trans rfl
  have k4 : wr18.cell? ⟨g3, 4, none⟩ = some (.int .u64 5) := (blk_cell B3_.out 4).trans rfl
  have k5 : wr18.cell? ⟨g3, 5, none⟩ = some (.string b) := (blk_cell B3_.out 5).trans rfl
  have k6 : wr18.cell? ⟨g29, 0, none⟩ = some (.int .i64 4) := (blk_cell B29.out 0).trans rfl
  have k7 : wr18.cell? ⟨g29, 1, none⟩ = some (.int .i64 3) := (blk_cell B29.out 1).trans rfl
  have k8 : wr18.cell? ⟨g29, 2, none⟩ = some (.int .u32 7) := (blk_cell B29.out 2).trans rfl
  have k9 : wr18.cell? ⟨g29, 3, none⟩ = some (.int .u32 9) := (blk_cell B29.out 3).trans rfl
  have k10 : wr18.cell? ⟨g29, 4, none⟩ = some (.int .u64 5) := (blk_cell B29.out 4).trans rfl
  have k11 : wr18.cell? ⟨g29, 5, none⟩ = some (.string b) := (blk_cell B29.out 5).trans rfl
  refine hK.out _ _ ⟨k0, k1, k2, k3, k4, k5, k6, k7, k8, k9, k10, k11⟩ (fun hHeld => ?_)
  clear hK K k0 k1 k2 k3 k4 k5 k6 k7 k8 k9 k10 k11
  refine norm_ (a' := ?_) ?_ ?_
  rotate_left
  · show Act.put _ (some 138) _ = _
    simp only [Act.put, List.setIfInBounds_toArray, List.set_cons_zero, List.set_cons_succ, i64_w, i32_w]
    rfl
  refine pure_ (i := 19) (N := some 139) (v := ?_) (a' := ?_) FrameNames.M20 rfl rfl (any_of HT_.out (by kernel_rfl)) (fun _ _ _ h => h) (Or.inl ⟨by rfl, ?_⟩) ?_ ?_
  rotate_left
  · intro w'
    go_simp
    try with_reducible rfl
  rotate_left
  · simp only [Act.put, List.setIfInBounds_toArray, List.set_cons_zero, List.set_cons_succ, i64_w, i32_w]
    rfl
  refine pure_ (i := 20) (N := some 140) (v := ?_) (a' := ?_) FrameNames.M21 rfl rfl (any_of HT_.out (by kernel_rfl)) (fun _ _ _ h => h) (Or.inl ⟨by rfl, ?_⟩) ?_ ?_
  rotate_left
  · intro w'
    go_simp
    try with_reducible rfl
  rotate_left
  · simp only [Act.put, List.setIfInBounds_toArray, List.set_cons_zero, List.set_cons_succ, i64_w, i32_w]
    rfl
  refine pure_ (i := 21) (N := some 141) (v := ?_) (a' := ?_) FrameNames.M22 rfl rfl (any_of HT_.out (by kernel_rfl)) (fun _ _ _ h => h) (Or.inl ⟨by rfl, ?_⟩) ?_ ?_
  rotate_left
  · intro w'
    go_simp
    try with_reducible rfl
  rotate_left
  · simp only [Act.put, List.setIfInBounds_toArray, List.set_cons_zero, List.set_cons_succ, i64_w, i32_w]
    rfl
  refine pure_ (i := 22) (N := some 142) (v := ?_) (a' := ?_) FrameNames.M23 rfl rfl (any_of HT_.out (by kernel_rfl)) (fun _ _ _ h => h) (Or.inl ⟨by rfl, ?_⟩) ?_ ?_
  rotate_left
  · intro w'
    go_simp
    try with_reducible rfl
  rotate_left
  · simp only [Act.put, List.setIfInBounds_toArray, List.set_cons_zero, List.set_cons_succ, i64_w, i32_w]
    rfl
  refine pure_ (i := 23) (N := some 143) (v := ?_) (a' := ?_) FrameNames.M24 rfl rfl (any_of HT_.out (by kernel_rfl)) (fun _ _ _ h => h) (Or.inl ⟨by rfl, ?_⟩) ?_ ?_
  rotate_left
  · intro w'
    go_simp
    try with_reducible rfl
  rotate_left
  · simp only [Act.put, List.setIfInBounds_toArray, List.set_cons_zero, List.set_cons_succ, i64_w, i32_w]
    rfl
  refine pure_ (i := 24) (N := some 144) (v := ?_) (a' := ?_) FrameNames.M25 rfl rfl (any_of HT_.out (by kernel_rfl)) (fun _ _ _ h => h) (Or.inl ⟨by rfl, ?_⟩) ?_ ?_
  rotate_left
  · intro w'
    go_simp
    try with_reducible rfl
  rotate_left
  · simp only [Act.put, List.setIfInBounds_toArray, List.set_cons_zero, List.set_cons_succ, i64_w, i32_w]
    rfl
  refine pure_ (i := 25) (N := some 145) (v := ?_) (a' := ?_) FrameNames.M26 rfl rfl (any_of HT_.out (by kernel_rfl)) (fun _ _ _ h => h) (Or.inl ⟨by rfl, ?_⟩) ?_ ?_
  rotate_left
  · intro w'
    go_simp
    try with_reducible rfl
  rotate_left
  · simp only [Act.put, List.setIfInBounds_toArray, List.set_cons_zero, List.set_cons_succ, i64_w, i32_w]
    rfl
  refine pure_ (i := 26) (N := some 146) (v := ?_) (a' := ?_) FrameNames.M27 rfl rfl (any_of HT_.out (by kernel_rfl)) (fun _ _ _ h => h) (Or.inl ⟨by rfl, ?_⟩) ?_ ?_
  rotate_left
  · intro w'
    go_simp
    try with_reducible rfl
  rotate_left
  · simp only [Act.put, List.setIfInBounds_toArray, List.set_cons_zero, List.set_cons_succ, i64_w, i32_w]
    rfl
  refine pure_ (i := 27) (N := some 147) (v := ?_) (a' := ?_) FrameNames.M28 rfl rfl (any_of HT_.out (by kernel_rfl)) (fun _ _ _ h => h) (Or.inl ⟨by rfl, ?_⟩) ?_ ?_
  rotate_left
  · intro w'
    go_simp
    try with_reducible rfl
  rotate_left
  · simp only [Act.put, List.setIfInBounds_toArray, List.set_cons_zero, List.set_cons_succ, i64_w, i32_w]
    rfl
  refine pure_ (i := 28) (N := some 148) (v := ?_) (a' := ?_) FrameNames.M29 rfl rfl (any_of HT_.out (by kernel_rfl)) (fun _ _ _ h => h) (Or.inl ⟨by rfl, ?_⟩) ?_ ?_
  rotate_left
  · intro w'
    go_simp
    try with_reducible rfl
  rotate_left
  · simp only [Act.put, List.setIfInBounds_toArray, List.set_cons_zero, List.set_cons_succ, i64_w, i32_w]
    rfl
  refine pure_ (i := 29) (N := some 149) (v := ?_) (a' := ?_) FrameNames.M30 rfl rfl (any_of HT_.out (by kernel_rfl)) (fun _ _ _ h => h) (Or.inl ⟨by rfl, ?_⟩) ?_ ?_
  rotate_left
  · intro w'
    go_simp
    try with_reducible rfl
  rotate_left
  · simp only [Act.put, List.setIfInBounds_toArray, List.set_cons_zero, List.set_cons_succ, i64_w, i32_w]
    rfl
  refine pure_ (i := 30) (N := some 150) (v := ?_) (a' := ?_) FrameNames.M31 rfl rfl (any_of HT_.out (by kernel_rfl)) (fun _ _ _ h => h) (Or.inl ⟨by rfl, ?_⟩) ?_ ?_
  rotate_left
  · intro w'
    go_simp
    try with_reducible rfl
  rotate_left
  · simp only [Act.put, List.setIfInBounds_toArray, List.set_cons_zero, List.set_cons_succ, i64_w, i32_w]
    rfl
  refine pure_ (i := 31) (N := some 151) (v := ?_) (a' := ?_) FrameNames.M32 rfl rfl (any_of HT_.out (by kernel_rfl)) (fun _ _ _ h => h) (Or.inl ⟨by rfl, ?_⟩) ?_ ?_
  rotate_left
  · intro w'
    go_simp
    try with_reducible rfl
  rotate_left
  · simp only [Act.put, List.setIfInBounds_toArray, List.set_cons_zero, List.set_cons_succ, i64_w, i32_w]
    rfl
  refine pure_ (i := 32) (N := some 152) (v := ?_) (a' := ?_) FrameNames.M33 rfl rfl (any_of HT_.out (by kernel_rfl)) (fun _ _ _ h => h) (Or.inl ⟨by rfl, ?_⟩) ?_ ?_
  rotate_left
  · intro w'
    go_simp
    try with_reducible rfl
  rotate_left
  · simp only [Act.put, List.setIfInBounds_toArray, List.set_cons_zero, List.set_cons_succ, i64_w, i32_w]
    rfl
  refine pure_ (i := 33) (N := some 153) (v := ?_) (a' := ?_) FrameNames.M34 rfl rfl (any_of HT_.out (by kernel_rfl)) (fun _ _ _ h => h) (Or.inl ⟨by rfl, ?_⟩) ?_ ?_
  rotate_left
  · intro w'
    go_simp
    try with_reducible rfl
  rotate_left
  · simp only [Act.put, List.setIfInBounds_toArray, List.set_cons_zero, List.set_cons_succ, i64_w, i32_w]
    rfl
  refine pure_ (i := 34) (N := some 154) (v := ?_) (a' := ?_) FrameNames.M35 rfl rfl (any_of HT_.out (by kernel_rfl)) (fun _ _ _ h => h) (Or.inl ⟨by rfl, ?_⟩) ?_ ?_
  rotate_left
  · intro w'
    go_simp
    try with_reducible rfl
  rotate_left
  · simp only [Act.put, List.setIfInBounds_toArray, List.set_cons_zero, List.set_cons_succ, i64_w, i32_w]
    rfl
  refine pure_ (i := 35) (N := some 155) (v := ?_) (a' := ?_) FrameNames.M36 rfl rfl (any_of HT_.out (by kernel_rfl)) (fun _ _ _ h => h) (Or.inl ⟨by rfl, ?_⟩) ?_ ?_
  rotate_left
  · intro w'
    go_simp
    try with_reducible rfl
  rotate_left
  · simp only [Act.put, List.setIfInBounds_toArray, List.set_cons_zero, List.set_cons_succ, i64_w, i32_w]
    rfl
  refine pure_ (i := 36) (N := some 156) (v := ?_) (a' := ?_) FrameNames.M37 rfl rfl (any_of HT_.out (by kernel_rfl)) (fun _ _ _ h => h) (Or.inl ⟨by rfl, ?_⟩) ?_ ?_
  rotate_left
  · intro w'
    go_simp
    try with_reducible rfl
  rotate_left
  · simp only [Act.put, List.setIfInBounds_toArray, List.set_cons_zero, List.set_cons_succ, i64_w, i32_w]
    rfl
  refine pure_ (i := 37) (N := some 157) (v := ?_) (a' := ?_) FrameNames.M38 rfl rfl (any_of HT_.out (by kernel_rfl)) (fun _ _ _ h => h) (Or.inl ⟨by rfl, ?_⟩) ?_ ?_
  rotate_left
  · intro w'
    go_simp
    try with_reducible rfl
  rotate_left
  · simp only [Act.put, List.setIfInBounds_toArray, List.set_cons_zero, List.set_cons_succ, i64_w, i32_w]
    rfl
  refine pure_ (i := 38) (N := some 158) (v := ?_) (a' := ?_) FrameNames.M39 rfl rfl (any_of HT_.out (by kernel_rfl)) (fun _ _ _ h => h) (Or.inl ⟨by rfl, ?_⟩) ?_ ?_
  rotate_left
  · intro w'
    go_simp
    try with_reducible rfl
  rotate_left
  · simp only [Act.put, List.setIfInBounds_toArray, List.set_cons_zero, List.set_cons_succ, i64_w, i32_w]
    rfl
  refine pure_ (i := 39) (N := some 159) (v := ?_) (a' := ?_) FrameNames.M40 rfl rfl (any_of HT_.out (by kernel_rfl)) (fun _ _ _ h => h) (Or.inl ⟨by rfl, ?_⟩) ?_ ?_
  rotate_left
  · intro w'
    go_simp
    try with_reducible rfl
  rotate_left
  · simp only [Act.put, List.setIfInBounds_toArray, List.set_cons_zero, List.set_cons_succ, i64_w, i32_w]
    rfl
  refine pure_ (i := 40) (N := some 160) (v := ?_) (a' := ?_) FrameNames.M41 rfl rfl (any_of HT_.out (by kernel_rfl)) (fun _ _ _ h => h) (Or.inl ⟨by rfl, ?_⟩) ?_ ?_
  rotate_left
  · intro w'
    go_simp
    try with_reducible rfl
  rotate_left
  · simp only [Act.put, List.setIfInBounds_toArray, List.set_cons_zero, List.set_cons_succ, i64_w, i32_w]
    rfl
  refine pure_ (i := 41) (N := some 161) (v := ?_) (a' := ?_) FrameNames.M42 rfl rfl (any_of HT_.out (by kernel_rfl)) (fun _ _ _ h => h) (Or.inl ⟨by rfl, ?_⟩) ?_ ?_
  rotate_left
  · intro w'
    go_simp
    try with_reducible rfl
  rotate_left
  · simp only [Act.put, List.setIfInBounds_toArray, List.set_cons_zero, List.set_cons_succ, i64_w, i32_w]
    rfl
  refine pure_ (i := 42) (N := some 162) (v := ?_) (a' := ?_) FrameNames.M43 rfl rfl (any_of HT_.out (by kernel_rfl)) (fun _ _ _ h => h) (Or.inl ⟨by rfl, ?_⟩) ?_ ?_
  rotate_left
  · intro w'
    go_simp
    try with_reducible rfl
  rotate_left
  · simp only [Act.put, List.setIfInBounds_toArray, List.set_cons_zero, List.set_cons_succ, i64_w, i32_w]
    rfl
  refine pure_ (i := 43) (N := some 163) (v := ?_) (a' := ?_) FrameNames.M44 rfl rfl (any_of HT_.out (by kernel_rfl)) (fun _ _ _ h => h) (Or.inl ⟨by rfl, ?_⟩) ?_ ?_
  rotate_left
  · intro w'
    go_simp
    try with_reducible rfl
  rotate_left
  · simp only [Act.put, List.setIfInBounds_toArray, List.set_cons_zero, List.set_cons_succ, i64_w, i32_w]
    rfl
  refine pure_ (i := 44) (N := some 164) (v := ?_) (a' := ?_) FrameNames.M45 rfl rfl (any_of HT_.out (by kernel_rfl)) (fun _ _ _ h => h) (Or.inl ⟨by rfl, ?_⟩) ?_ ?_
  rotate_left
  · intro w'
    go_simp
    try with_reducible rfl
  rotate_left
  · simp only [Act.put, List.setIfInBounds_toArray, List.set_cons_zero, List.set_cons_succ, i64_w, i32_w]
    rfl
  refine pure_ (i := 45) (N := some 165) (v := ?_) (a' := ?_) FrameNames.M46 rfl rfl (any_of HT_.out (by kernel_rfl)) (fun _ _ _ h => h) (Or.inl ⟨by rfl, ?_⟩) ?_ ?_
  rotate_left
  · intro w'
    go_simp
    try with_reducible rfl
  rotate_left
  · simp only [Act.put, List.setIfInBounds_toArray, List.set_cons_zero, List.set_cons_succ, i64_w, i32_w]
    rfl
  refine pure_ (i := 46) (N := some 166) (v := ?_) (a' := ?_) FrameNames.M47 rfl rfl (any_of HT_.out (by kernel_rfl)) (fun _ _ _ h => h) (Or.inl ⟨by rfl, ?_⟩) ?_ ?_
  rotate_left
  · intro w'
    go_simp
    try with_reducible rfl
  rotate_left
  · simp only [Act.put, List.setIfInBounds_toArray, List.set_cons_zero, List.set_cons_succ, i64_w, i32_w]
    rfl
  refine pure_ (i := 47) (N := some 167) (v := ?_) (a' := ?_) FrameNames.M48 rfl rfl (any_of HT_.out (by kernel_rfl)) (fun _ _ _ h => h) (Or.inl ⟨by rfl, ?_⟩) ?_ ?_
  rotate_left
  · intro w'
    go_simp
    try with_reducible rfl
  rotate_left
  · simp only [Act.put, List.setIfInBounds_toArray, List.set_cons_zero, List.set_cons_succ, i64_w, i32_w]
    rfl
  refine pure_ (i := 48) (N := some 168) (v := ?_) (a' := ?_) FrameNames.M49 rfl rfl (any_of HT_.out (by kernel_rfl)) (fun _ _ _ h => h) (Or.inl ⟨by rfl, ?_⟩) ?_ ?_
  rotate_left
  · intro w'
    go_simp
    try with_reducible rfl
  rotate_left
  · simp only [Act.put, List.setIfInBounds_toArray, List.set_cons_zero, List.set_cons_succ, i64_w, i32_w]
    rfl
  refine pure_ (i := 49) (N := some 169) (v := ?_) (a' := ?_) FrameNames.M50 rfl rfl (any_of HT_.out (by kernel_rfl)) (fun _ _ _ h => h) (Or.inl ⟨by rfl, ?_⟩) ?_ ?_
  rotate_left
  · intro w'
    go_simp
    try with_reducible rfl
  rotate_left
  · simp only [Act.put, List.setIfInBounds_toArray, List.set_cons_zero, List.set_cons_succ, i64_w, i32_w]
    rfl
  refine pure_ (i := 50) (N := some 170) (v := ?_) (a' := ?_) FrameNames.M51 rfl rfl (any_of HT_.out (by kernel_rfl)) (fun _ _ _ h => h) (Or.inl ⟨by rfl, ?_⟩) ?_ ?_
  rotate_left
  · intro w'
    go_simp
    try with_reducible rfl
  rotate_left
  · simp only [Act.put, List.setIfInBounds_toArray, List.set_cons_zero, List.set_cons_succ, i64_w, i32_w]
    rfl
  refine pure_ (i := 51) (N := some 171) (v := ?_) (a' := ?_) FrameNames.M52 rfl rfl (any_of HT_.out (by kernel_rfl)) (fun _ _ _ h => h) (Or.inl ⟨by rfl, ?_⟩) ?_ ?_
  rotate_left
  · intro w'
    go_simp
    try with_reducible rfl
  rotate_left
  · simp only [Act.put, List.setIfInBounds_toArray, List.set_cons_zero, List.set_cons_succ, i64_w, i32_w]
    rfl
  refine pure_ (i := 52) (N := some 172) (v := ?_) (a' := ?_) FrameNames.M53 rfl rfl (any_of HT_.out (by kernel_rfl)) (fun _ _ _ h => h) (Or.inl ⟨by rfl, ?_⟩) ?_ ?_
  rotate_left
  · intro w'
    go_simp
    try with_reducible rfl
  rotate_left
  · simp only [Act.put, List.setIfInBounds_toArray, List.set_cons_zero, List.set_cons_succ, i64_w, i32_w]
    rfl
  refine pure_ (i := 53) (N := some 173) (v := ?_) (a' := ?_) FrameNames.M54 rfl rfl (any_of HT_.out (by kernel_rfl)) (fun _ _ _ h => h) (Or.inl ⟨by rfl, ?_⟩) ?_ ?_
  rotate_left
  · intro w'
    go_simp
    try with_reducible rfl
  rotate_left
  · simp only [Act.put, List.setIfInBounds_toArray, List.set_cons_zero, List.set_cons_succ, i64_w, i32_w]
    rfl
  refine pure_ (i := 54) (N := some 174) (v := ?_) (a' := ?_) FrameNames.M55 rfl rfl (any_of HT_.out (by kernel_rfl)) (fun _ _ _ h => h) (Or.inl ⟨by rfl, ?_⟩) ?_ ?_
  rotate_left
  · intro w'
    go_simp
    try with_reducible rfl
  rotate_left
  · simp only [Act.put, List.setIfInBounds_toArray, List.set_cons_zero, List.set_cons_succ, i64_w, i32_w]
    rfl
  refine pure_ (i := 55) (N := some 175) (v := ?_) (a' := ?_) FrameNames.M56 rfl rfl (any_of HT_.out (by kernel_rfl)) (fun _ _ _ h => h) (Or.inl ⟨by rfl, ?_⟩) ?_ ?_
  rotate_left
  · intro w'
    go_simp
    try with_reducible rfl
  rotate_left
  · simp only [Act.put, List.setIfInBounds_toArray, List.set_cons_zero, List.set_cons_succ, i64_w, i32_w]
    rfl
  refine pure_ (i := 56) (N := some 176) (v := ?_) (a' := ?_) FrameNames.M57 rfl rfl (any_of HT_.out (by kernel_rfl)) (fun _ _ _ h => h) (Or.inl ⟨by rfl, ?_⟩) ?_ ?_
  rotate_left
  · intro w'
    go_simp
    try with_reducible rfl
  rotate_left
  · simp only [Act.put, List.setIfInBounds_toArray, List.set_cons_zero, List.set_cons_succ, i64_w, i32_w]
    rfl
  refine pure_ (i := 57) (N := some 177) (v := ?_) (a' := ?_) FrameNames.M58 rfl rfl (any_of HT_.out (by kernel_rfl)) (fun _ _ _ h => h) (Or.inl ⟨by rfl, ?_⟩) ?_ ?_
  rotate_left
  · intro w'
    go_simp
    try with_reducible rfl
  rotate_left
  · simp only [Act.put, List.setIfInBounds_toArray, List.set_cons_zero, List.set_cons_succ, i64_w, i32_w]
    rfl
  refine pure_ (i := 58) (N := some 178) (v := ?_) (a' := ?_) FrameNames.M59 rfl rfl (any_of HT_.out (by kernel_rfl)) (fun _ _ _ h => h) (Or.inl ⟨by rfl, ?_⟩) ?_ ?_
  rotate_left
  · intro w'
    go_simp
    try with_reducible rfl
  rotate_left
  · simp only [Act.put, List.setIfInBounds_toArray, List.set_cons_zero, List.set_cons_succ, i64_w, i32_w]
    rfl
  refine pure_ (i := 59) (N := some 179) (v := ?_) (a' := ?_) FrameNames.M60 rfl rfl (any_of HT_.out (by kernel_rfl)) (fun _ _ _ h => h) (Or.inl ⟨by rfl, ?_⟩) ?_ ?_
  rotate_left
  · intro w'
    go_simp
    try with_reducible rfl
  rotate_left
  · simp only [Act.put, List.setIfInBounds_toArray, List.set_cons_zero, List.set_cons_succ, i64_w, i32_w]
    rfl
  refine pure_ (i := 60) (N := some 180) (v := ?_) (a' := ?_) FrameNames.M61 rfl rfl (any_of HT_.out (by kernel_rfl)) (fun _ _ _ h => h) (Or.inl ⟨by rfl, ?_⟩) ?_ ?_
  rotate_left
  · intro w'
    go_simp
    try with_reducible rfl
  rotate_left
  · simp only [Act.put, List.setIfInBounds_toArray, List.set_cons_zero, List.set_cons_succ, i64_w, i32_w]
    rfl
  refine pure_ (i := 61) (N := some 181) (v := ?_) (a' := ?_) FrameNames.M62 rfl rfl (any_of HT_.out (by kernel_rfl)) (fun _ _ _ h => h) (Or.inl ⟨by rfl, ?_⟩) ?_ ?_
  rotate_left
  · intro w'
    go_simp
    try with_reducible rfl
  rotate_left
  · simp only [Act.put, List.setIfInBounds_toArray, List.set_cons_zero, List.set_cons_succ, i64_w, i32_w]
    rfl
  refine pure_ (i := 62) (N := some 182) (v := ?_) (a' := ?_) FrameNames.M63 rfl rfl (any_of HT_.out (by kernel_rfl)) (fun _ _ _ h => h) (Or.inl ⟨by rfl, ?_⟩) ?_ ?_
  rotate_left
  · intro w'
    go_simp
    try with_reducible rfl
  rotate_left
  · simp only [Act.put, List.setIfInBounds_toArray, List.set_cons_zero, List.set_cons_succ, i64_w, i32_w]
    rfl
  refine pure_ (i := 63) (N := some 183) (v := ?_) (a' := ?_) FrameNames.M64 rfl rfl (any_of HT_.out (by kernel_rfl)) (fun _ _ _ h => h) (Or.inl ⟨by rfl, ?_⟩) ?_ ?_
  rotate_left
  · intro w'
    go_simp
    try with_reducible rfl
  rotate_left
  · simp only [Act.put, List.setIfInBounds_toArray, List.set_cons_zero, List.set_cons_succ, i64_w, i32_w]
    rfl
  refine pure_ (i := 64) (N := some 184) (v := ?_) (a' := ?_) FrameNames.M65 rfl rfl (any_of HT_.out (by kernel_rfl)) (fun _ _ _ h => h) (Or.inl ⟨by rfl, ?_⟩) ?_ ?_
  rotate_left
  · intro w'
    go_simp
    try with_reducible rfl
  rotate_left
  · simp only [Act.put, List.setIfInBounds_toArray, List.set_cons_zero, List.set_cons_succ, i64_w, i32_w]
    rfl
  refine pure_ (i := 65) (N := some 185) (v := ?_) (a' := ?_) FrameNames.M66 rfl rfl (any_of HT_.out (by kernel_rfl)) (fun _ _ _ h => h) (Or.inl ⟨by rfl, ?_⟩) ?_ ?_
  rotate_left
  · intro w'
    go_simp
    try with_reducible rfl
  rotate_left
  · simp only [Act.put, List.setIfInBounds_toArray, List.set_cons_zero, List.set_cons_succ, i64_w, i32_w]
    rfl
  refine pure_ (i := 66) (N := some 186) (v := ?_) (a' := ?_) FrameNames.M67 rfl rfl (any_of HT_.out (by kernel_rfl)) (fun _ _ _ h => h) (Or.inl ⟨by rfl, ?_⟩) ?_ ?_
  rotate_left
  · intro w'
    go_simp
    try with_reducible rfl
  rotate_left
  · simp only [Act.put, List.setIfInBounds_toArray, List.set_cons_zero, List.set_cons_succ, i64_w, i32_w]
    rfl
  refine pure_ (i := 67) (N := some 187) (v := ?_) (a' := ?_) FrameNames.M68 rfl rfl (any_of HT_.out (by kernel_rfl)) (fun _ _ _ h => h) (Or.inl ⟨by rfl, ?_⟩) ?_ ?_
  rotate_left
  · intro w'
    go_simp
    try with_reducible rfl
  rotate_left
  · simp only [Act.put, List.setIfInBounds_toArray, List.set_cons_zero, List.set_cons_succ, i64_w, i32_w]
    rfl
  refine one_ (i := 68) (N := some 188) FrameNames.M69 rfl rfl (one_of HT_.out (by kernel_rfl)) (by decide) (fun K hK => ?_)
  refine goes_ Try.func23 (by kernel_rfl) rfl #[.string (⟨#[120]⟩ : ByteArray), .int .i64 128] (by rfl) rfl rfl (by (try simp only [List.map_toArray, List.map_cons, List.map_nil]); first | done | rfl) ?_
  with_reducible refine (careenagekit_Times.calls 300 (⟨#[120]⟩ : ByteArray) 128 x1 _ T3.out).mono ?_
  rintro e wr68 ⟨rfl, hd_⟩
  have hb := below_drawn0 hd_
  clear hd_
  refine ⟨_, rfl, ?_⟩
  have n9_ := Aside0.mk (blk_below B29.out hb)
  have n1_ := Aside0.mk (below_step HB.out hb)
  have n3_ := Aside0.mk (blk_below B3_.out hb)
  clear HB hb B3_
  have HB := n1_
  clear n1_
  have B3_ := n3_
  clear n3_
  clear B29
  have B29 := n9_
  clear n9_
  clear hHeld
  have k0 : wr68.cell? ⟨g3, 0, none⟩ = some (.int .i64 4) := (blk_cell B3_.out 0).trans rfl
  have k1 : wr68.cell? ⟨g3, 1, none⟩ = some (.int .i64 3) := (blk_cell B3_.out 1).trans rfl
  have k2 : wr68.cell? ⟨g3, 2, none⟩ = some (.int .u32 7) := (blk_cell B3_.out 2).trans rfl
  have k3 : wr68.cell? ⟨g3, 3, none⟩ = some (.int .u32 9) := (blk_cell B3_.out 3).trans rfl
  have k4 : wr68.cell? ⟨g3, 4, none⟩ = some (.int .u64 5) := (blk_cell B3_.out 4).trans rfl
  have k5 : wr68.cell? ⟨g3, 5, none⟩ = some (.string b) := (blk_cell B3_.out 5).trans rfl
  have k6 : wr68.cell? ⟨g29, 0, none⟩ = some (.int .i64 4) := (blk_cell B29.out 0).trans rfl
  have k7 : wr68.cell? ⟨g29, 1, none⟩ = some (.int .i64 3) := (blk_cell B29.out 1).trans rfl
  have k8 : wr68.cell? ⟨g29, 2, none⟩ = some (.int .u32 7) := (blk_cell B29.out 2).trans rfl
  have k9 : wr68.cell? ⟨g29, 3, none⟩ = some (.int .u32 9) := (blk_cell B29.out 3).trans rfl
  have k10 : wr68.cell? ⟨g29, 4, none⟩ = some (.int .u64 5) := (blk_cell B29.out 4).trans rfl
  have k11 : wr68.cell? ⟨g29, 5, none⟩ = some (.string b) := (blk_cell B29.out 5).trans rfl
  refine hK.out _ _ ⟨k0, k1, k2, k3, k4, k5, k6, k7, k8, k9, k10, k11⟩ (fun hHeld => ?_)
  clear hK K k0 k1 k2 k3 k4 k5 k6 k7 k8 k9 k10 k11
  refine norm_ (a' := ?_) ?_ ?_
  rotate_left
  · show Act.put _ (some 188) _ = _
    simp only [Act.put, List.setIfInBounds_toArray, List.set_cons_zero, List.set_cons_succ, i64_w, i32_w]
    rfl
  refine pure_ (i := 69) (N := some 189) (v := ?_) (a' := ?_) FrameNames.M70 rfl rfl (any_of HT_.out (by kernel_rfl)) (fun _ _ _ h => h) (Or.inl ⟨by rfl, ?_⟩) ?_ ?_
  rotate_left
  · intro w'
    go_simp
    try with_reducible rfl
  rotate_left
  · simp only [Act.put, List.setIfInBounds_toArray, List.set_cons_zero, List.set_cons_succ, i64_w, i32_w]
    rfl
  refine pure_ (i := 70) (N := some 190) (v := ?_) (a' := ?_) FrameNames.M71 rfl rfl (any_of HT_.out (by kernel_rfl)) (fun _ _ _ h => h) (Or.inl ⟨by rfl, ?_⟩) ?_ ?_
  rotate_left
  · intro w'
    go_simp
    try with_reducible rfl
  rotate_left
  · simp only [Act.put, List.setIfInBounds_toArray, List.set_cons_zero, List.set_cons_succ, i64_w, i32_w]
    rfl
  refine pure_ (i := 71) (N := some 191) (v := ?_) (a' := ?_) FrameNames.M72 rfl rfl (any_of HT_.out (by kernel_rfl)) (fun _ _ _ h => h) (Or.inl ⟨by rfl, ?_⟩) ?_ ?_
  rotate_left
  · intro w'
    go_simp
    try with_reducible rfl
  rotate_left
  · simp only [Act.put, List.setIfInBounds_toArray, List.set_cons_zero, List.set_cons_succ, i64_w, i32_w]
    rfl
  refine pure_ (i := 72) (N := some 192) (v := ?_) (a' := ?_) FrameNames.M73 rfl rfl (any_of HT_.out (by kernel_rfl)) (fun _ _ _ h => h) (Or.inl ⟨by rfl, ?_⟩) ?_ ?_
  rotate_left
  · intro w'
    go_simp
    try with_reducible rfl
  rotate_left
  · simp only [Act.put, List.setIfInBounds_toArray, List.set_cons_zero, List.set_cons_succ, i64_w, i32_w]
    rfl
  refine pure_ (i := 73) (N := some 193) (v := ?_) (a' := ?_) FrameNames.M74 rfl rfl (any_of HT_.out (by kernel_rfl)) (fun _ _ _ h => h) (Or.inl ⟨by rfl, ?_⟩) ?_ ?_
  rotate_left
  · intro w'
    go_simp
    try with_reducible rfl
  rotate_left
  · simp only [Act.put, List.setIfInBounds_toArray, List.set_cons_zero, List.set_cons_succ, i64_w, i32_w]
    rfl
  refine pure_ (i := 74) (N := some 194) (v := ?_) (a' := ?_) FrameNames.M75 rfl rfl (any_of HT_.out (by kernel_rfl)) (fun _ _ _ h => h) (Or.inl ⟨by rfl, ?_⟩) ?_ ?_
  rotate_left
  · intro w'
    go_simp
    try with_reducible rfl
  rotate_left
  · simp only [Act.put, List.setIfInBounds_toArray, List.set_cons_zero, List.set_cons_succ, i64_w, i32_w]
    rfl
  refine pure_ (i := 75) (N := some 195) (v := ?_) (a' := ?_) FrameNames.M76 rfl rfl (any_of HT_.out (by kernel_rfl)) (fun _ _ _ h => h) (Or.inl ⟨by rfl, ?_⟩) ?_ ?_
  rotate_left
  · intro w'
    go_simp
    try with_reducible rfl
  rotate_left
  · simp only [Act.put, List.setIfInBounds_toArray, List.set_cons_zero, List.set_cons_succ, i64_w, i32_w]
    rfl
  refine pure_ (i := 76) (N := some 196) (v := ?_) (a' := ?_) FrameNames.M77 rfl rfl (any_of HT_.out (by kernel_rfl)) (fun _ _ _ h => h) (Or.inl ⟨by rfl, ?_⟩) ?_ ?_
  rotate_left
  · intro w'
    go_simp
    try with_reducible rfl
  rotate_left
  · simp only [Act.put, List.setIfInBounds_toArray, List.set_cons_zero, List.set_cons_succ, i64_w, i32_w]
    rfl
  refine pure_ (i := 77) (N := some 197) (v := ?_) (a' := ?_) FrameNames.M78 rfl rfl (any_of HT_.out (by kernel_rfl)) (fun _ _ _ h => h) (Or.inl ⟨by rfl, ?_⟩) ?_ ?_
  rotate_left
  · intro w'
    go_simp
    try with_reducible rfl
  rotate_left
  · simp only [Act.put, List.setIfInBounds_toArray, List.set_cons_zero, List.set_cons_succ, i64_w, i32_w]
    rfl
  refine pure_ (i := 78) (N := some 198) (v := ?_) (a' := ?_) FrameNames.M79 rfl rfl (any_of HT_.out (by kernel_rfl)) (fun _ _ _ h => h) (Or.inl ⟨by rfl, ?_⟩) ?_ ?_
  rotate_left
  · intro w'
    go_simp
    try with_reducible rfl
  rotate_left
  · simp only [Act.put, List.setIfInBounds_toArray, List.set_cons_zero, List.set_cons_succ, i64_w, i32_w]
    rfl
  refine pure_ (i := 79) (N := some 199) (v := ?_) (a' := ?_) FrameNames.M80 rfl rfl (any_of HT_.out (by kernel_rfl)) (fun _ _ _ h => h) (Or.inl ⟨by rfl, ?_⟩) ?_ ?_
  rotate_left
  · intro w'
    go_simp
    try with_reducible rfl
  rotate_left
  · simp only [Act.put, List.setIfInBounds_toArray, List.set_cons_zero, List.set_cons_succ, i64_w, i32_w]
    rfl
  refine pure_ (i := 80) (N := some 200) (v := ?_) (a' := ?_) FrameNames.M81 rfl rfl (any_of HT_.out (by kernel_rfl)) (fun _ _ _ h => h) (Or.inl ⟨by rfl, ?_⟩) ?_ ?_
  rotate_left
  · intro w'
    go_simp
    try with_reducible rfl
  rotate_left
  · simp only [Act.put, List.setIfInBounds_toArray, List.set_cons_zero, List.set_cons_succ, i64_w, i32_w]
    rfl
  refine pure_ (i := 81) (N := some 201) (v := ?_) (a' := ?_) FrameNames.M82 rfl rfl (any_of HT_.out (by kernel_rfl)) (fun _ _ _ h => h) (Or.inl ⟨by rfl, ?_⟩) ?_ ?_
  rotate_left
  · intro w'
    go_simp
    try with_reducible rfl
  rotate_left
  · simp only [Act.put, List.setIfInBounds_toArray, List.set_cons_zero, List.set_cons_succ, i64_w, i32_w]
    rfl
  refine pure_ (i := 82) (N := some 202) (v := ?_) (a' := ?_) FrameNames.M83 rfl rfl (any_of HT_.out (by kernel_rfl)) (fun _ _ _ h => h) (Or.inl ⟨by rfl, ?_⟩) ?_ ?_
  rotate_left
  · intro w'
    go_simp
    try with_reducible rfl
  rotate_left
  · simp only [Act.put, List.setIfInBounds_toArray, List.set_cons_zero, List.set_cons_succ, i64_w, i32_w]
    rfl
  refine pure_ (i := 83) (N := some 203) (v := ?_) (a' := ?_) FrameNames.M84 rfl rfl (any_of HT_.out (by kernel_rfl)) (fun _ _ _ h => h) (Or.inl ⟨by rfl, ?_⟩) ?_ ?_
  rotate_left
  · intro w'
    go_simp
    try with_reducible rfl
  rotate_left
  · simp only [Act.put, List.setIfInBounds_toArray, List.set_cons_zero, List.set_cons_succ, i64_w, i32_w]
    rfl
  refine take_ (i := 84) (N := some 204) (v := ?_) (a' := ?_) FrameNames.M85 rfl rfl (take_ofW HT_.out HW_.out (by kernel_rfl)) (fun _ _ _ h => h) (Or.inl ⟨by rfl, ?_⟩) hHeld ?_ ?_
  rotate_left
  · rintro w' ⟨s0, s1, s2, s3, s4, s5, s6, s7, s8, s9, s10, s11⟩
    go_simp
    with_reducible rfl
  rotate_left
  · simp only [Act.put, List.setIfInBounds_toArray, List.set_cons_zero, List.set_cons_succ, i64_w, i32_w]
    rfl
  refine one_ (i := 85) (N := some 205) FrameNames.M86 rfl rfl (one_of HT_.out (by kernel_rfl)) (by decide) (fun K hK => ?_)
  refine goes_ Try.func20 (by kernel_rfl) rfl #[] (by rfl) rfl rfl (by (try simp only [List.map_toArray, List.map_cons, List.map_nil]); first | done | rfl) ?_
  with_reducible refine (careenagelaw04_page.calls 300 4 3 7 9 5 b _ AP.out).mono ?_
  rintro e wr85 ⟨rfl, hb⟩
  refine ⟨_, rfl, ?_⟩
  have n9_ := Aside0.mk (blk_below B29.out hb)
  have n1_ := Aside0.mk (below_step HB.out hb)
  have n3_ := Aside0.mk (blk_below B3_.out hb)
  clear HB hb B3_
  have HB := n1_
  clear n1_
  have B3_ := n3_
  clear n3_
  clear B29
  have B29 := n9_
  clear n9_
  clear hHeld
  have k0 : wr85.cell? ⟨g3, 0, none⟩ = some (.int .i64 4) := (blk_cell B3_.out 0).trans rfl
  have k1 : wr85.cell? ⟨g3, 1, none⟩ = some (.int .i64 3) := (blk_cell B3_.out 1).trans rfl
  have k2 : wr85.cell? ⟨g3, 2, none⟩ = some (.int .u32 7) := (blk_cell B3_.out 2).trans rfl
  have k3 : wr85.cell? ⟨g3, 3, none⟩ = some (.int .u32 9) := (blk_cell B3_.out 3).trans rfl
  have k4 : wr85.cell? ⟨g3, 4, none⟩ = some (.int .u64 5) := (blk_cell B3_.out 4).trans rfl
  have k5 : wr85.cell? ⟨g3, 5, none⟩ = some (.string b) := (blk_cell B3_.out 5).trans rfl
  have k6 : wr85.cell? ⟨g29, 0, none⟩ = some (.int .i64 4) := (blk_cell B29.out 0).trans rfl
  have k7 : wr85.cell? ⟨g29, 1, none⟩ = some (.int .i64 3) := (blk_cell B29.out 1).trans rfl
  have k8 : wr85.cell? ⟨g29, 2, none⟩ = some (.int .u32 7) := (blk_cell B29.out 2).trans rfl
  have k9 : wr85.cell? ⟨g29, 3, none⟩ = some (.int .u32 9) := (blk_cell B29.out 3).trans rfl
  have k10 : wr85.cell? ⟨g29, 4, none⟩ = some (.int .u64 5) := (blk_cell B29.out 4).trans rfl
  have k11 : wr85.cell? ⟨g29, 5, none⟩ = some (.string b) := (blk_cell B29.out 5).trans rfl
  refine hK.out _ _ ⟨k0, k1, k2, k3, k4, k5, k6, k7, k8, k9, k10, k11⟩ (fun hHeld => ?_)
  clear hK K k0 k1 k2 k3 k4 k5 k6 k7 k8 k9 k10 k11
  refine norm_ (a' := ?_) ?_ ?_
  rotate_left
  · show Act.put _ (some 205) _ = _
    simp only [Act.put, List.setIfInBounds_toArray, List.set_cons_zero, List.set_cons_succ, i64_w, i32_w]
    rfl
  refine pure_ (i := 86) (N := some 206) (v := ?_) (a' := ?_) FrameNames.M87 rfl rfl (any_of HT_.out (by kernel_rfl)) (fun _ _ _ h => h) (Or.inl ⟨by rfl, ?_⟩) ?_ ?_
  rotate_left
  · intro w'
    go_simp
    try with_reducible rfl
  rotate_left
  · simp only [Act.put, List.setIfInBounds_toArray, List.set_cons_zero, List.set_cons_succ, i64_w, i32_w]
    rfl
  refine pure_ (i := 87) (N := some 207) (v := ?_) (a' := ?_) FrameNames.M88 rfl rfl (any_of HT_.out (by kernel_rfl)) (fun _ _ _ h => h) (Or.inl ⟨by rfl, ?_⟩) ?_ ?_
  rotate_left
  · intro w'
    go_simp
    try with_reducible rfl
  rotate_left
  · simp only [Act.put, List.setIfInBounds_toArray, List.set_cons_zero, List.set_cons_succ, i64_w, i32_w]
    rfl
  refine pure_ (i := 88) (N := some 208) (v := ?_) (a' := ?_) FrameNames.M89 rfl rfl (any_of HT_.out (by kernel_rfl)) (fun _ _ _ h => h) (Or.inl ⟨by rfl, ?_⟩) ?_ ?_
  rotate_left
  · intro w'
    go_simp
    try with_reducible rfl
  rotate_left
  · simp only [Act.put, List.setIfInBounds_toArray, List.set_cons_zero, List.set_cons_succ, i64_w, i32_w]
    rfl
  refine pure_ (i := 89) (N := some 209) (v := ?_) (a' := ?_) FrameNames.M90 rfl rfl (any_of HT_.out (by kernel_rfl)) (fun _ _ _ h => h) (Or.inl ⟨by rfl, ?_⟩) ?_ ?_
  rotate_left
  · intro w'
    go_simp
    try with_reducible rfl
  rotate_left
  · simp only [Act.put, List.setIfInBounds_toArray, List.set_cons_zero, List.set_cons_succ, i64_w, i32_w]
    rfl
  refine pure_ (i := 90) (N := some 210) (v := ?_) (a' := ?_) FrameNames.M91 rfl rfl (any_of HT_.out (by kernel_rfl)) (fun _ _ _ h => h) (Or.inl ⟨by rfl, ?_⟩) ?_ ?_
  rotate_left
  · intro w'
    go_simp
    try with_reducible rfl
  rotate_left
  · simp only [Act.put, List.setIfInBounds_toArray, List.set_cons_zero, List.set_cons_succ, i64_w, i32_w]
    rfl
  refine pure_ (i := 91) (N := some 211) (v := ?_) (a' := ?_) FrameNames.M92 rfl rfl (any_of HT_.out (by kernel_rfl)) (fun _ _ _ h => h) (Or.inl ⟨by rfl, ?_⟩) ?_ ?_
  rotate_left
  · intro w'
    go_simp
    try with_reducible rfl
  rotate_left
  · simp only [Act.put, List.setIfInBounds_toArray, List.set_cons_zero, List.set_cons_succ, i64_w, i32_w]
    rfl
  refine pure_ (i := 92) (N := some 212) (v := ?_) (a' := ?_) FrameNames.M93 rfl rfl (any_of HT_.out (by kernel_rfl)) (fun _ _ _ h => h) (Or.inl ⟨by rfl, ?_⟩) ?_ ?_
  rotate_left
  · intro w'
    go_simp
    try with_reducible rfl
  rotate_left
  · simp only [Act.put, List.setIfInBounds_toArray, List.set_cons_zero, List.set_cons_succ, i64_w, i32_w]
    rfl
  refine one_ (i := 93) (N := some 213) FrameNames.M94 rfl rfl (one_of HT_.out (by kernel_rfl)) (by decide) (fun K hK => ?_)
  refine goes_ Try.func23 (by kernel_rfl) rfl #[.string (⟨#[120]⟩ : ByteArray), .int .i64 300] (by rfl) rfl rfl (by (try simp only [List.map_toArray, List.map_cons, List.map_nil]); first | done | rfl) ?_
  with_reducible refine (careenagekit_Times.calls 300 (⟨#[120]⟩ : ByteArray) 300 x3 _ T1.out).mono ?_
  rintro e wr93 ⟨rfl, hd_⟩
  have hb := below_drawn0 hd_
  clear hd_
  refine ⟨_, rfl, ?_⟩
  have n9_ := Aside0.mk (blk_below B29.out hb)
  have n1_ := Aside0.mk (below_step HB.out hb)
  have n3_ := Aside0.mk (blk_below B3_.out hb)
  clear HB hb B3_
  have HB := n1_
  clear n1_
  have B3_ := n3_
  clear n3_
  clear B29
  have B29 := n9_
  clear n9_
  clear hHeld
  have k0 : wr93.cell? ⟨g3, 0, none⟩ = some (.int .i64 4) := (blk_cell B3_.out 0).trans rfl
  have k1 : wr93.cell? ⟨g3, 1, none⟩ = some (.int .i64 3) := (blk_cell B3_.out 1).trans rfl
  have k2 : wr93.cell? ⟨g3, 2, none⟩ = some (.int .u32 7) := (blk_cell B3_.out 2).trans rfl
  have k3 : wr93.cell? ⟨g3, 3, none⟩ = some (.int .u32 9) := (blk_cell B3_.out 3).trans rfl
  have k4 : wr93.cell? ⟨g3, 4, none⟩ = some (.int .u64 5) := (blk_cell B3_.out 4).trans rfl
  have k5 : wr93.cell? ⟨g3, 5, none⟩ = some (.string b) := (blk_cell B3_.out 5).trans rfl
  have k6 : wr93.cell? ⟨g29, 0, none⟩ = some (.int .i64 4) := (blk_cell B29.out 0).trans rfl
  have k7 : wr93.cell? ⟨g29, 1, none⟩ = some (.int .i64 3) := (blk_cell B29.out 1).trans rfl
  have k8 : wr93.cell? ⟨g29, 2, none⟩ = some (.int .u32 7) := (blk_cell B29.out 2).trans rfl
  have k9 : wr93.cell? ⟨g29, 3, none⟩ = some (.int .u32 9) := (blk_cell B29.out 3).trans rfl
  have k10 : wr93.cell? ⟨g29, 4, none⟩ = some (.int .u64 5) := (blk_cell B29.out 4).trans rfl
  have k11 : wr93.cell? ⟨g29, 5, none⟩ = some (.string b) := (blk_cell B29.out 5).trans rfl
  refine hK.out _ _ ⟨k0, k1, k2, k3, k4, k5, k6, k7, k8, k9, k10, k11⟩ (fun hHeld => ?_)
  clear hK K k0 k1 k2 k3 k4 k5 k6 k7 k8 k9 k10 k11
  refine norm_ (a' := ?_) ?_ ?_
  rotate_left
  · show Act.put _ (some 213) _ = _
    simp only [Act.put, List.setIfInBounds_toArray, List.set_cons_zero, List.set_cons_succ, i64_w, i32_w]
    rfl
  refine one_ (i := 94) (N := some 214) FrameNames.M95 rfl rfl (one_of HT_.out (by kernel_rfl)) (by decide) (fun K hK => ?_)
  refine goes_ Try.func25 (by kernel_rfl) rfl #[.int .i64 128, .string x3] (by rfl) rfl rfl (by (try simp only [List.map_toArray, List.map_cons, List.map_nil]); first | done | rfl) ?_
  with_reducible refine (frame_Pages.calls 128 x3 2 _ D1.out).mono ?_
  rintro e wr94 ⟨rfl, hd_⟩
  have hb := below_drawn0 hd_
  clear hd_
  refine ⟨_, rfl, ?_⟩
  have n9_ := Aside0.mk (blk_below B29.out hb)
  have n1_ := Aside0.mk (below_step HB.out hb)
  have n3_ := Aside0.mk (blk_below B3_.out hb)
  clear HB hb B3_
  have HB := n1_
  clear n1_
  have B3_ := n3_
  clear n3_
  clear B29
  have B29 := n9_
  clear n9_
  clear hHeld
  have k0 : wr94.cell? ⟨g3, 0, none⟩ = some (.int .i64 4) := (blk_cell B3_.out 0).trans rfl
  have k1 : wr94.cell? ⟨g3, 1, none⟩ = some (.int .i64 3) := (blk_cell B3_.out 1).trans rfl
  have k2 : wr94.cell? ⟨g3, 2, none⟩ = some (.int .u32 7) := (blk_cell B3_.out 2).trans rfl
  have k3 : wr94.cell? ⟨g3, 3, none⟩ = some (.int .u32 9) := (blk_cell B3_.out 3).trans rfl
  have k4 : wr94.cell? ⟨g3, 4, none⟩ = some (.int .u64 5) := (blk_cell B3_.out 4).trans rfl
  have k5 : wr94.cell? ⟨g3, 5, none⟩ = some (.string b) := (blk_cell B3_.out 5).trans rfl
  have k6 : wr94.cell? ⟨g29, 0, none⟩ = some (.int .i64 4) := (blk_cell B29.out 0).trans rfl
  have k7 : wr94.cell? ⟨g29, 1, none⟩ = some (.int .i64 3) := (blk_cell B29.out 1).trans rfl
  have k8 : wr94.cell? ⟨g29, 2, none⟩ = some (.int .u32 7) := (blk_cell B29.out 2).trans rfl
  have k9 : wr94.cell? ⟨g29, 3, none⟩ = some (.int .u32 9) := (blk_cell B29.out 3).trans rfl
  have k10 : wr94.cell? ⟨g29, 4, none⟩ = some (.int .u64 5) := (blk_cell B29.out 4).trans rfl
  have k11 : wr94.cell? ⟨g29, 5, none⟩ = some (.string b) := (blk_cell B29.out 5).trans rfl
  refine hK.out _ _ ⟨k0, k1, k2, k3, k4, k5, k6, k7, k8, k9, k10, k11⟩ (fun hHeld => ?_)
  clear hK K k0 k1 k2 k3 k4 k5 k6 k7 k8 k9 k10 k11
  refine norm_ (a' := ?_) ?_ ?_
  rotate_left
  · show Act.put _ (some 214) _ = _
    simp only [Act.put, List.setIfInBounds_toArray, List.set_cons_zero, List.set_cons_succ, i64_w, i32_w]
    rfl
  refine pure_ (i := 95) (N := some 215) (v := ?_) (a' := ?_) FrameNames.M96 rfl rfl (any_of HT_.out (by kernel_rfl)) (fun _ _ _ h => h) (Or.inl ⟨by rfl, ?_⟩) ?_ ?_
  rotate_left
  · intro w'
    go_simp
    try with_reducible rfl
  rotate_left
  · simp only [Act.put, List.setIfInBounds_toArray, List.set_cons_zero, List.set_cons_succ, i64_w, i32_w]
    rfl
  refine pure_ (i := 96) (N := some 216) (v := ?_) (a' := ?_) FrameNames.M97 rfl rfl (any_of HT_.out (by kernel_rfl)) (fun _ _ _ h => h) (Or.inl ⟨by rfl, ?_⟩) ?_ ?_
  rotate_left
  · intro w'
    go_simp
    try with_reducible rfl
  rotate_left
  · simp only [Act.put, List.setIfInBounds_toArray, List.set_cons_zero, List.set_cons_succ, i64_w, i32_w]
    rfl
  refine pure_ (i := 97) (N := some 217) (v := ?_) (a' := ?_) FrameNames.M98 rfl rfl (any_of HT_.out (by kernel_rfl)) (fun _ _ _ h => h) (Or.inl ⟨by rfl, ?_⟩) ?_ ?_
  rotate_left
  · intro w'
    go_simp
    try with_reducible rfl
  rotate_left
  · simp only [Act.put, List.setIfInBounds_toArray, List.set_cons_zero, List.set_cons_succ, i64_w, i32_w]
    rfl
  refine one_ (i := 98) (N := some 218) FrameNames.M99 rfl rfl (one_of HT_.out (by kernel_rfl)) (by decide) (fun K hK => ?_)
  refine goes_ Try.func25 (by kernel_rfl) rfl #[.int .i64 1, .string (⟨#[120, 120]⟩ : ByteArray)] (by rfl) rfl rfl (by (try simp only [List.map_toArray, List.map_cons, List.map_nil]); first | done | rfl) ?_
  with_reducible refine (frame_Pages.calls 1 (⟨#[120, 120]⟩ : ByteArray) 0 _ D2.out).mono ?_
  rintro e wr98 ⟨rfl, hd_⟩
  have hb := below_drawn0 hd_
  clear hd_
  refine ⟨_, rfl, ?_⟩
  have n9_ := Aside0.mk (blk_below B29.out hb)
  have n1_ := Aside0.mk (below_step HB.out hb)
  have n3_ := Aside0.mk (blk_below B3_.out hb)
  clear HB hb B3_
  have HB := n1_
  clear n1_
  have B3_ := n3_
  clear n3_
  clear B29
  have B29 := n9_
  clear n9_
  clear hHeld
  have k0 : wr98.cell? ⟨g3, 0, none⟩ = some (.int .i64 4) := (blk_cell B3_.out 0).trans rfl
  have k1 : wr98.cell? ⟨g3, 1, none⟩ = some (.int .i64 3) := (blk_cell B3_.out 1).trans rfl
  have k2 : wr98.cell? ⟨g3, 2, none⟩ = some (.int .u32 7) := (blk_cell B3_.out 2).trans rfl
  have k3 : wr98.cell? ⟨g3, 3, none⟩ = some (.int .u32 9) := (blk_cell B3_.out 3).trans rfl
  have k4 : wr98.cell? ⟨g3, 4, none⟩ = some (.int .u64 5) := (blk_cell B3_.out 4).trans rfl
  have k5 : wr98.cell? ⟨g3, 5, none⟩ = some (.string b) := (blk_cell B3_.out 5).trans rfl
  have k6 : wr98.cell? ⟨g29, 0, none⟩ = some (.int .i64 4) := (blk_cell B29.out 0).trans rfl
  have k7 : wr98.cell? ⟨g29, 1, none⟩ = some (.int .i64 3) := (blk_cell B29.out 1).trans rfl
  have k8 : wr98.cell? ⟨g29, 2, none⟩ = some (.int .u32 7) := (blk_cell B29.out 2).trans rfl
  have k9 : wr98.cell? ⟨g29, 3, none⟩ = some (.int .u32 9) := (blk_cell B29.out 3).trans rfl
  have k10 : wr98.cell? ⟨g29, 4, none⟩ = some (.int .u64 5) := (blk_cell B29.out 4).trans rfl
  have k11 : wr98.cell? ⟨g29, 5, none⟩ = some (.string b) := (blk_cell B29.out 5).trans rfl
  refine hK.out _ _ ⟨k0, k1, k2, k3, k4, k5, k6, k7, k8, k9, k10, k11⟩ (fun hHeld => ?_)
  clear hK K k0 k1 k2 k3 k4 k5 k6 k7 k8 k9 k10 k11
  refine norm_ (a' := ?_) ?_ ?_
  rotate_left
  · show Act.put _ (some 218) _ = _
    simp only [Act.put, List.setIfInBounds_toArray, List.set_cons_zero, List.set_cons_succ, i64_w, i32_w]
    rfl
  refine pure_ (i := 99) (N := some 219) (v := ?_) (a' := ?_) FrameNames.M100 rfl rfl (any_of HT_.out (by kernel_rfl)) (fun _ _ _ h => h) (Or.inl ⟨by rfl, ?_⟩) ?_ ?_
  rotate_left
  · intro w'
    go_simp
    try with_reducible rfl
  rotate_left
  · simp only [Act.put, List.setIfInBounds_toArray, List.set_cons_zero, List.set_cons_succ, i64_w, i32_w]
    rfl
  refine pure_ (i := 100) (N := some 220) (v := ?_) (a' := ?_) FrameNames.M101 rfl rfl (any_of HT_.out (by kernel_rfl)) (fun _ _ _ h => h) (Or.inl ⟨by rfl, ?_⟩) ?_ ?_
  rotate_left
  · intro w'
    go_simp
    try with_reducible rfl
  rotate_left
  · simp only [Act.put, List.setIfInBounds_toArray, List.set_cons_zero, List.set_cons_succ, i64_w, i32_w]
    rfl
  refine pure_ (i := 101) (N := some 221) (v := ?_) (a' := ?_) FrameNames.M102 rfl rfl (any_of HT_.out (by kernel_rfl)) (fun _ _ _ h => h) (Or.inl ⟨by rfl, ?_⟩) ?_ ?_
  rotate_left
  · intro w'
    go_simp
    try with_reducible rfl
  rotate_left
  · simp only [Act.put, List.setIfInBounds_toArray, List.set_cons_zero, List.set_cons_succ, i64_w, i32_w]
    rfl
  refine one_ (i := 102) (N := some 222) FrameNames.M103 rfl rfl (one_of HT_.out (by kernel_rfl)) (by decide) (fun K hK => ?_)
  refine goes_ Try.func26 (by kernel_rfl) rfl #[.int .i64 64] (by rfl) rfl rfl (by (try simp only [List.map_toArray, List.map_cons, List.map_nil]); first | done | rfl) ?_
  with_reducible refine (frame_Room.calls 64 0 _ D3.out).mono ?_
  rintro e wr102 ⟨rfl, hd_⟩
  have hb := below_drawn0 hd_
  clear hd_
  refine ⟨_, rfl, ?_⟩
  have n9_ := Aside0.mk (blk_below B29.out hb)
  have n1_ := Aside0.mk (below_step HB.out hb)
  have n3_ := Aside0.mk (blk_below B3_.out hb)
  clear HB hb B3_
  have HB := n1_
  clear n1_
  have B3_ := n3_
  clear n3_
  clear B29
  have B29 := n9_
  clear n9_
  clear hHeld
  have k0 : wr102.cell? ⟨g3, 0, none⟩ = some (.int .i64 4) := (blk_cell B3_.out 0).trans rfl
  have k1 : wr102.cell? ⟨g3, 1, none⟩ = some (.int .i64 3) := (blk_cell B3_.out 1).trans rfl
  have k2 : wr102.cell? ⟨g3, 2, none⟩ = some (.int .u32 7) := (blk_cell B3_.out 2).trans rfl
  have k3 : wr102.cell? ⟨g3, 3, none⟩ = some (.int .u32 9) := (blk_cell B3_.out 3).trans rfl
  have k4 : wr102.cell? ⟨g3, 4, none⟩ = some (.int .u64 5) := (blk_cell B3_.out 4).trans rfl
  have k5 : wr102.cell? ⟨g3, 5, none⟩ = some (.string b) := (blk_cell B3_.out 5).trans rfl
  have k6 : wr102.cell? ⟨g29, 0, none⟩ = some (.int .i64 4) := (blk_cell B29.out 0).trans rfl
  have k7 : wr102.cell? ⟨g29, 1, none⟩ = some (.int .i64 3) := (blk_cell B29.out 1).trans rfl
  have k8 : wr102.cell? ⟨g29, 2, none⟩ = some (.int .u32 7) := (blk_cell B29.out 2).trans rfl
  have k9 : wr102.cell? ⟨g29, 3, none⟩ = some (.int .u32 9) := (blk_cell B29.out 3).trans rfl
  have k10 : wr102.cell? ⟨g29, 4, none⟩ = some (.int .u64 5) := (blk_cell B29.out 4).trans rfl
  have k11 : wr102.cell? ⟨g29, 5, none⟩ = some (.string b) := (blk_cell B29.out 5).trans rfl
  refine hK.out _ _ ⟨k0, k1, k2, k3, k4, k5, k6, k7, k8, k9, k10, k11⟩ (fun hHeld => ?_)
  clear hK K k0 k1 k2 k3 k4 k5 k6 k7 k8 k9 k10 k11
  refine norm_ (a' := ?_) ?_ ?_
  rotate_left
  · show Act.put _ (some 222) _ = _
    simp only [Act.put, List.setIfInBounds_toArray, List.set_cons_zero, List.set_cons_succ, i64_w, i32_w]
    rfl
  refine pure_ (i := 103) (N := some 223) (v := ?_) (a' := ?_) FrameNames.M104 rfl rfl (any_of HT_.out (by kernel_rfl)) (fun _ _ _ h => h) (Or.inl ⟨by rfl, ?_⟩) ?_ ?_
  rotate_left
  · intro w'
    go_simp
    try with_reducible rfl
  rotate_left
  · simp only [Act.put, List.setIfInBounds_toArray, List.set_cons_zero, List.set_cons_succ, i64_w, i32_w]
    rfl
  refine pure_ (i := 104) (N := some 224) (v := ?_) (a' := ?_) FrameNames.M105 rfl rfl (any_of HT_.out (by kernel_rfl)) (fun _ _ _ h => h) (Or.inl ⟨by rfl, ?_⟩) ?_ ?_
  rotate_left
  · intro w'
    go_simp
    try with_reducible rfl
  rotate_left
  · simp only [Act.put, List.setIfInBounds_toArray, List.set_cons_zero, List.set_cons_succ, i64_w, i32_w]
    rfl
  refine pure_ (i := 105) (N := some 0) (v := ?_) (a' := ?_) FrameNames.M106 rfl rfl (any_of HT_.out (by kernel_rfl)) (fun _ _ _ h => h) (Or.inl ⟨by rfl, ?_⟩) ?_ ?_
  rotate_left
  · intro w'
    go_simp
    try with_reducible rfl
  rotate_left
  · simp only [Act.put, List.setIfInBounds_toArray, List.set_cons_zero, List.set_cons_succ, i64_w, i32_w]
    rfl
  refine done_ (done_of HT_.out (by kernel_rfl)) ?_
  go_wp2
  go_ret
  exact ⟨rfl, HB.out⟩
end Go.Proofs.Ytlnmdfffmflhgaa.P

namespace Go.Proofs.Ytlnmdfffmflhgaa.P
open Go.RowKit Go.Proofs.YtlnmdfffmflhgaaW.PrintWords Go.Proofs.YtlnmdfffmflhgaaW.PrintLast Go.Proofs.YtlnmdfffmflhgaaW.PrintMore
attribute [local go_sem] max2_int min2_int max_two min_two max_three min_three max_four min_four   -- for this text's walks alone
open Go.Proofs.YtlnmdfffmflhgaaO
attribute [local go_sem] min2_str max2_str
set_option linter.unusedVariables false
set_option linter.unusedSimpArgs false
/-! ### careenageref03_Good: function 58 -/
def careenageref03_Good.f (a0 : Int) : Option (Bool) := if a0 ≥ 128 then (if a0 ≤ 4096 then (some ((Int.tmod a0 64) == 0)) else (some false)) else (some false)
end Go.Proofs.Ytlnmdfffmflhgaa.P

namespace Go.Proofs.Ytlnmdfffmflhgaa.P
open Go.RowKit Go.Proofs.YtlnmdfffmflhgaaW.PrintWords Go.Proofs.YtlnmdfffmflhgaaW.PrintLast Go.Proofs.YtlnmdfffmflhgaaW.PrintMore
attribute [local go_sem] max2_int min2_int max_two min_two max_three min_three max_four min_four   -- for this text's walks alone
open Go.Proofs.YtlnmdfffmflhgaaO
attribute [local go_sem] min2_str max2_str
set_option linter.unusedVariables false
set_option linter.unusedSimpArgs false
/-! ### careenageref04_Room: function 66 -/
def careenageref04_Room.f (a0 : Int) : Option (Int) := (careenageref03_Good.f a0).bind fun t287 => (if t287 = true then (some (wrap64 (a0 - 24))) else (some 0))
end Go.Proofs.Ytlnmdfffmflhgaa.P

namespace Go.Proofs.Ytlnmdfffmflhgaa.P
open Go.RowKit Go.Proofs.YtlnmdfffmflhgaaW.PrintWords Go.Proofs.YtlnmdfffmflhgaaW.PrintLast Go.Proofs.YtlnmdfffmflhgaaW.PrintMore
attribute [local go_sem] max2_int min2_int max_two min_two max_three min_three max_four min_four   -- for this text's walks alone
open Go.Proofs.YtlnmdfffmflhgaaO
attribute [local go_sem] min2_str max2_str
set_option linter.unusedVariables false
set_option linter.unusedSimpArgs false
/-! ### careenageref04_Body: function 54 -/
def careenageref04_Body.f (a0 : Int) (l1 : List Int) : Option (ByteArray × Int) := (careenageref03_Good.f a0).bind fun t288 => (if t288 = true then ((careenageref04_Room.f a0).bind fun t289 => (if (l1.length : Int) > t289 then (some ((⟨#[]⟩ : ByteArray), 3)) else ((careenageref04_Room.f a0).bind fun t290 => (if 0 ≤ (wrap64 (t290 - (l1.length : Int))) then (if (wrap64 (t290 - (l1.length : Int)) : Int).toNat ≤ 281474976710656 then ((some (List.replicate (wrap64 (t290 - (l1.length : Int)) : Int).toNat 0 : List Int)).bind fun y291 => (if (strOfNums l1).size + (strOfNums y291).size ≤ 9223372036854775807 then (some ((strOfNums l1) ++ (strOfNums y291), 0)) else (none))) else (none)) else (none))))) else (some ((⟨#[]⟩ : ByteArray), 2)))
end Go.Proofs.Ytlnmdfffmflhgaa.P
