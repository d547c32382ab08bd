/- The texts that the statement's row rests on, one behind the other. -/
import Derived.Test.YtlkfcabklaaacaaMBranchNames1
import Derived.Test.YtlkfcabklaaacaaMBranchNames2
import Derived.Lib.Strings
import Derived.Lib.Bytes
import Derived.Laws.BitsAllLaws
import Derived.Test.YtlkfcabklaaacaaMBranchNames3
namespace Go.Proofs.Ytlkfcabklaaacaa.P
open Go.RowKit Go.Proofs.YtlkfcabklaaacaaW.PrintWords Go.Proofs.YtlkfcabklaaacaaW.PrintLast Go.Proofs.YtlkfcabklaaacaaW.PrintMore
attribute [local go_sem] max2_int min2_int max_two min_two max_three min_three max_four min_four   -- for this text's walks alone
open Go.Proofs.YtlkfcabklaaacaaO
attribute [local go_sem] min2_str max2_str
set_option linter.unusedVariables false
set_option linter.unusedSimpArgs false
/-! ### careenageref01_New: function 68 -/
def careenageref01_New.f (a0 : ByteArray) : Option (ByteArray) := some a0
end Go.Proofs.Ytlkfcabklaaacaa.P

namespace Go.Proofs.Ytlkfcabklaaacaa.P
open Go.RowKit Go.Proofs.YtlkfcabklaaacaaW.PrintWords Go.Proofs.YtlkfcabklaaacaaW.PrintLast Go.Proofs.YtlkfcabklaaacaaW.PrintMore
attribute [local go_sem] max2_int min2_int max_two min_two max_three min_three max_four min_four   -- for this text's walks alone
open Go.Proofs.YtlkfcabklaaacaaO
attribute [local go_sem] min2_str max2_str
set_option linter.unusedVariables false
set_option linter.unusedSimpArgs false
/-! ### careenageref01_Reader_Number: function 69 -/
mutual
def careenageref01_Reader_Number.j0 : Nat → Int → Bool → ByteArray → Option (Int × Int × ByteArray)
  | 0, _, _, _ => none
  | k + 1, x1, x13, x1000 => if x13 = true then (some (0, 2, x1000)) else (if (x1000.size : Int) < x1 then (some (0, 7, x1000)) else (careenageref01_Reader_Number.l0 k x1 0 0 x1000))
def careenageref01_Reader_Number.l0 : Nat → Int → Int → Int → ByteArray → Option (Int × Int × ByteArray)
  | 0, _, _, _, _ => none
  | k + 1, x1, x6, x7, x1000 => if x7 < x1 then (if 0 ≤ x7 then (if x7 < (x1000.size : Int) then (if 0 ≤ (IntKind.u64.wrap (wrap64 (8 * x7))) then (careenageref01_Reader_Number.l0 k x1 (Go.bits .or .u64 x6 (shl .u64 (IntKind.u64.wrap (bt x1000 x7)) (IntKind.u64.wrap (wrap64 (8 * x7))))) (wrap64 (x7 + 1)) x1000) else (none)) else (none)) else (none)) else (if 0 ≤ x1 then (if x1 ≤ (x1000.size : Int) then (some (x6, 0, x1000.extract (x1 : Int).toNat x1000.size)) else (none)) else (none))
end
def careenageref01_Reader_Number.f (k : Nat) (s0_0 : ByteArray) (a1 : Int) : Option (Int × Int × ByteArray) := if a1 < 1 then (careenageref01_Reader_Number.j0 k a1 true s0_0) else (careenageref01_Reader_Number.j0 k a1 (decide (a1 > 8)) s0_0)
end Go.Proofs.Ytlkfcabklaaacaa.P

namespace Go.Proofs.Ytlkfcabklaaacaa.P
open Go.RowKit Go.Proofs.YtlkfcabklaaacaaW.PrintWords Go.Proofs.YtlkfcabklaaacaaW.PrintLast Go.Proofs.YtlkfcabklaaacaaW.PrintMore
attribute [local go_sem] max2_int min2_int max_two min_two max_three min_three max_four min_four   -- for this text's walks alone
open Go.Proofs.YtlkfcabklaaacaaO
attribute [local go_sem] min2_str max2_str
set_option linter.unusedVariables false
set_option linter.unusedSimpArgs false
/-! ### careenageref03_Good: function 63 -/
def careenageref03_Good.f (a0 : Int) : Option (Bool) := if a0 ≥ 128 then (if a0 ≤ 4096 then (some ((Int.tmod a0 64) == 0)) else (some false)) else (some false)
end Go.Proofs.Ytlkfcabklaaacaa.P

namespace Go.Proofs.Ytlkfcabklaaacaa.P
open Go.RowKit Go.Proofs.YtlkfcabklaaacaaW.PrintWords Go.Proofs.YtlkfcabklaaacaaW.PrintLast Go.Proofs.YtlkfcabklaaacaaW.PrintMore
attribute [local go_sem] max2_int min2_int max_two min_two max_three min_three max_four min_four   -- for this text's walks alone
open Go.Proofs.YtlkfcabklaaacaaO
attribute [local go_sem] min2_str max2_str
set_option linter.unusedVariables false
set_option linter.unusedSimpArgs false
/-! ### careenageref04_Room: function 37 -/
def careenageref04_Room.f (a0 : Int) : Option (Int) := (careenageref03_Good.f a0).bind fun t325 => (if t325 = true then (some (wrap64 (a0 - 24))) else (some 0))
end Go.Proofs.Ytlkfcabklaaacaa.P

namespace Go.Proofs.Ytlkfcabklaaacaa.P
open Go.RowKit Go.Proofs.YtlkfcabklaaacaaW.PrintWords Go.Proofs.YtlkfcabklaaacaaW.PrintLast Go.Proofs.YtlkfcabklaaacaaW.PrintMore
attribute [local go_sem] max2_int min2_int max_two min_two max_three min_three max_four min_four   -- for this text's walks alone
open Go.Proofs.YtlkfcabklaaacaaO
attribute [local go_sem] min2_str max2_str
set_option linter.unusedVariables false
set_option linter.unusedSimpArgs false
/-! ### careenageref04_Number: function 65 -/
def careenageref04_Number.f (a0 : Int) : Option (Bool) := if a0 ≥ 2 then (some (decide (a0 ≤ 2147483647))) else (some false)
end Go.Proofs.Ytlkfcabklaaacaa.P

namespace Go.Proofs.Ytlkfcabklaaacaa.P
open Go.RowKit Go.Proofs.YtlkfcabklaaacaaW.PrintWords Go.Proofs.YtlkfcabklaaacaaW.PrintLast Go.Proofs.YtlkfcabklaaacaaW.PrintMore
attribute [local go_sem] max2_int min2_int max_two min_two max_three min_three max_four min_four   -- for this text's walks alone
open Go.Proofs.YtlkfcabklaaacaaO
attribute [local go_sem] min2_str max2_str
set_option linter.unusedVariables false
set_option linter.unusedSimpArgs false
/-! ### careenageref01_Put: function 66 -/
mutual
def careenageref01_Put.j0 : Nat → Int → Int → List Int → Bool → Option (List Int)
  | 0, _, _, _, _ => none
  | k + 1, x1, x2, x7, x17 => if x17 = true then (some x7) else (careenageref01_Put.l0 k x1 x2 x7 0)
def careenageref01_Put.l0 : Nat → Int → Int → List Int → Int → Option (List Int)
  | 0, _, _, _, _ => none
  | k + 1, x1, x2, x7, x8 => if x8 < x2 then (if 0 ≤ (IntKind.u64.wrap (wrap64 (8 * x8))) then (if x7.length < 140737488355328 then (careenageref01_Put.l0 k x1 x2 (x7 ++ [(shr .u64 x1 (IntKind.u64.wrap (wrap64 (8 * x8)))) % 256]) (wrap64 (x8 + 1))) else (none)) else (none)) else (some x7)
end
def careenageref01_Put.f (k : Nat) (l0 : List Int) (a1 : Int) (a2 : Int) : Option (List Int) := (some (([] : List Int) : List Int)).bind fun y332 => (if y332.length + l0.length < 140737488355328 then ((some (y332 ++ l0 : List Int)).bind fun y335 => (if a2 < 1 then (careenageref01_Put.j0 k a1 a2 y335 true) else (careenageref01_Put.j0 k a1 a2 y335 (decide (a2 > 8))))) else (none))
end Go.Proofs.Ytlkfcabklaaacaa.P

namespace Go.Proofs.Ytlkfcabklaaacaa.P
open Go.RowKit Go.Proofs.YtlkfcabklaaacaaW.PrintWords Go.Proofs.YtlkfcabklaaacaaW.PrintLast Go.Proofs.YtlkfcabklaaacaaW.PrintMore
attribute [local go_sem] max2_int min2_int max_two min_two max_three min_three max_four min_four   -- for this text's walks alone
open Go.Proofs.YtlkfcabklaaacaaO
attribute [local go_sem] min2_str max2_str
set_option linter.unusedVariables false
set_option linter.unusedSimpArgs false
/-! ### careenageref04_Body: function 67 -/
def careenageref04_Body.f (a0 : Int) (l1 : List Int) : Option (ByteArray × Int) := (careenageref03_Good.f a0).bind fun t341 => (if t341 = true then ((careenageref04_Room.f a0).bind fun t342 => (if (l1.length : Int) > t342 then (some ((⟨#[]⟩ : ByteArray), 3)) else ((careenageref04_Room.f a0).bind fun t343 => (if 0 ≤ (wrap64 (t343 - (l1.length : Int))) then (if (wrap64 (t343 - (l1.length : Int)) : Int).toNat ≤ 281474976710656 then ((some (List.replicate (wrap64 (t343 - (l1.length : Int)) : Int).toNat 0 : List Int)).bind fun y344 => (if (strOfNums l1).size + (strOfNums y344).size ≤ 9223372036854775807 then (some ((strOfNums l1) ++ (strOfNums y344), 0)) else (none))) else (none)) else (none))))) else (some ((⟨#[]⟩ : ByteArray), 2)))
end Go.Proofs.Ytlkfcabklaaacaa.P

namespace Go.Proofs.Ytlkfcabklaaacaa.P
open Go.RowKit Go.Proofs.YtlkfcabklaaacaaW.PrintWords Go.Proofs.YtlkfcabklaaacaaW.PrintLast Go.Proofs.YtlkfcabklaaacaaW.PrintMore
attribute [local go_sem] max2_int min2_int max_two min_two max_three min_three max_four min_four   -- for this text's walks alone
open Go.Proofs.YtlkfcabklaaacaaO
attribute [local go_sem] min2_str max2_str
set_option linter.unusedVariables false
set_option linter.unusedSimpArgs false
/-! ### careenageref07_One: function 74 -/
def careenageref07_One.f (a0_0 : ByteArray) (a0_1 : Int) : Option (Int) := some (wrap64 (5 + (a0_0.size : Int)))
end Go.Proofs.Ytlkfcabklaaacaa.P

namespace Go.Proofs.Ytlkfcabklaaacaa.P
open Go.RowKit Go.Proofs.YtlkfcabklaaacaaW.PrintWords Go.Proofs.YtlkfcabklaaacaaW.PrintLast Go.Proofs.YtlkfcabklaaacaaW.PrintMore
attribute [local go_sem] max2_int min2_int max_two min_two max_three min_three max_four min_four   -- for this text's walks alone
open Go.Proofs.YtlkfcabklaaacaaO
attribute [local go_sem] min2_str max2_str
set_option linter.unusedVariables false
set_option linter.unusedSimpArgs false
/-! ### careenageref07_Size: function 46 -/
def careenageref07_Size.l0 : Nat → List (S46) → Int → Int → Option (Int)
  | 0, _, _, _ => none
  | k + 1, x0, x3, x4 => if x4 < (x0.length : Int) then (if 0 ≤ x4 then ((careenageref07_One.f ((rd_T46 x0 x4).f0) ((rd_T46 x0 x4).f1)).bind fun t627 => (careenageref07_Size.l0 k x0 (wrap64 (x3 + t627)) (wrap64 (x4 + 1)))) else (none)) else (some x3)
def careenageref07_Size.f (k : Nat) (l0 : List (S46)) : Option (Int) := careenageref07_Size.l0 k l0 0 0
end Go.Proofs.Ytlkfcabklaaacaa.P

namespace Go.Proofs.Ytlkfcabklaaacaa.P
open Go.RowKit Go.Proofs.YtlkfcabklaaacaaW.PrintWords Go.Proofs.YtlkfcabklaaacaaW.PrintLast Go.Proofs.YtlkfcabklaaacaaW.PrintMore
attribute [local go_sem] max2_int min2_int max_two min_two max_three min_three max_four min_four   -- for this text's walks alone
open Go.Proofs.YtlkfcabklaaacaaO
attribute [local go_sem] min2_str max2_str
set_option linter.unusedVariables false
set_option linter.unusedSimpArgs false
/-! ### careenageref07_Key: function 48 -/
def careenageref07_Key.f (a0 : ByteArray) : Option (Bool) := some (decide ((a0.size : Int) ≤ 40))
end Go.Proofs.Ytlkfcabklaaacaa.P

namespace Go.Proofs.Ytlkfcabklaaacaa.P
open Go.RowKit Go.Proofs.YtlkfcabklaaacaaW.PrintWords Go.Proofs.YtlkfcabklaaacaaW.PrintLast Go.Proofs.YtlkfcabklaaacaaW.PrintMore
attribute [local go_sem] max2_int min2_int max_two min_two max_three min_three max_four min_four   -- for this text's walks alone
open Go.Proofs.YtlkfcabklaaacaaO
attribute [local go_sem] min2_str max2_str
set_option linter.unusedVariables false
set_option linter.unusedSimpArgs false
/-! ### careenageref07_May: function 72 -/
def careenageref07_May.l0 : Nat → List (S46) → Int → Option (Bool)
  | 0, _, _ => none
  | k + 1, x0, x3 => if x3 < (x0.length : Int) then (if 0 ≤ x3 then ((careenageref07_Key.f ((rd_T46 x0 x3).f0)).bind fun t629 => (if t629 = true then ((careenageref04_Number.f ((rd_T46 x0 x3).f1)).bind fun t631 => (if t631 = true then (if x3 > 0 then (if 0 ≤ (wrap64 (x3 - 1)) then (if (wrap64 (x3 - 1)) < (x0.length : Int) then (if ((Op.bytesLess (((rd_T46 x0 (wrap64 (x3 - 1))).f0).toList) (((rd_T46 x0 x3).f0).toList)) = true) then (careenageref07_May.l0 k x0 (wrap64 (x3 + 1))) else (some false)) else (none)) else (none)) else (careenageref07_May.l0 k x0 (wrap64 (x3 + 1)))) else (some false))) else (some false))) else (none)) else (some (decide ((x0.length : Int) > 0)))
def careenageref07_May.f (k : Nat) (l0 : List (S46)) : Option (Bool) := careenageref07_May.l0 k l0 0
end Go.Proofs.Ytlkfcabklaaacaa.P

namespace Go.Proofs.Ytlkfcabklaaacaa.P
open Go.RowKit Go.Proofs.YtlkfcabklaaacaaW.PrintWords Go.Proofs.YtlkfcabklaaacaaW.PrintLast Go.Proofs.YtlkfcabklaaacaaW.PrintMore
attribute [local go_sem] max2_int min2_int max_two min_two max_three min_three max_four min_four   -- for this text's walks alone
open Go.Proofs.YtlkfcabklaaacaaO
attribute [local go_sem] min2_str max2_str
set_option linter.unusedVariables false
set_option linter.unusedSimpArgs false
/-! ### careenageref07_Page: function 44 -/
mutual
def careenageref07_Page.j0 : Nat → Int → Int → Int → List (S46) → Bool → Option (Int × Int × Int × Int × Int × ByteArray × Int)
  | 0, _, _, _, _, _ => none
  | k + 1, x0, x1, x2, x3, x37 => if x37 = true then (some (0, 0, 0, 0, 0, (⟨#[]⟩ : ByteArray), 2)) else (careenageref07_Page.l0 k x0 x1 x2 x3 ([] : List Int) 0)
def careenageref07_Page.l0 : Nat → Int → Int → Int → List (S46) → List Int → Int → Option (Int × Int × Int × Int × Int × ByteArray × Int)
  | 0, _, _, _, _, _, _ => none
  | k + 1, x0, x1, x2, x3, x10, x11 => if x11 < (x3.length : Int) then (if 0 ≤ x11 then ((careenageref01_Put.f k x10 (IntKind.u64.wrap ((((rd_T46 x3 x11).f0).size : Int))) 1).bind fun t641 => (if t641.length + ((rd_T46 x3 x11).f0).size < 140737488355328 then ((careenageref01_Put.f k (t641 ++ bytesOf ((rd_T46 x3 x11).f0)) (IntKind.u64.wrap ((rd_T46 x3 x11).f1)) 4).bind fun t649 => (careenageref07_Page.l0 k x0 x1 x2 x3 t649 (wrap64 (x11 + 1)))) else (none))) else (none)) else ((careenageref04_Body.f x0 x10).bind fun bt652 => (some (3, (x3.length : Int), x1, 0, x2, bt652.1, 0)))
end
def careenageref07_Page.f (k : Nat) (a0 : Int) (a1 : Int) (a2 : Int) (l3 : List (S46)) : Option (Int × Int × Int × Int × Int × ByteArray × Int) := (careenageref03_Good.f a0).bind fun t635 => (if t635 = true then ((careenageref07_May.f k l3).bind fun t636 => (if t636 = true then ((careenageref07_Size.f k l3).bind fun t637 => ((careenageref04_Room.f a0).bind fun t638 => (if t637 > t638 then (careenageref07_Page.j0 k a0 a1 a2 l3 true) else ((careenageref04_Number.f a1).bind fun t639 => (if t639 = true then (careenageref07_Page.j0 k a0 a1 a2 l3 (decide (a2 > 4611686018427387904))) else (careenageref07_Page.j0 k a0 a1 a2 l3 true)))))) else (careenageref07_Page.j0 k a0 a1 a2 l3 true))) else (careenageref07_Page.j0 k a0 a1 a2 l3 true))
end Go.Proofs.Ytlkfcabklaaacaa.P

namespace Go.Proofs.Ytlkfcabklaaacaa.P
open Go.RowKit Go.Proofs.YtlkfcabklaaacaaW.PrintWords Go.Proofs.YtlkfcabklaaacaaW.PrintLast Go.Proofs.YtlkfcabklaaacaaW.PrintMore
attribute [local go_sem] max2_int min2_int max_two min_two max_three min_three max_four min_four   -- for this text's walks alone
open Go.Proofs.YtlkfcabklaaacaaO
attribute [local go_sem] min2_str max2_str
set_option linter.unusedVariables false
set_option linter.unusedSimpArgs false
/-! ### careenageref01_Reader_Bytes: function 73 -/
def careenageref01_Reader_Bytes.f (s0_0 : ByteArray) (a1 : Int) : Option (ByteArray × Int × ByteArray) := if a1 < 0 then (some ((⟨#[]⟩ : ByteArray), 2, s0_0)) else (if (s0_0.size : Int) < a1 then (some ((⟨#[]⟩ : ByteArray), 7, s0_0)) else (if 0 ≤ a1 then (if a1 ≤ (s0_0.size : Int) then (some (s0_0.extract 0 (a1 : Int).toNat, 0, s0_0.extract (a1 : Int).toNat s0_0.size)) else (none)) else (none)))
end Go.Proofs.Ytlkfcabklaaacaa.P

namespace Go.Proofs.Ytlkfcabklaaacaa.P
open Go.RowKit Go.Proofs.YtlkfcabklaaacaaW.PrintWords Go.Proofs.YtlkfcabklaaacaaW.PrintLast Go.Proofs.YtlkfcabklaaacaaW.PrintMore
attribute [local go_sem] max2_int min2_int max_two min_two max_three min_three max_four min_four   -- for this text's walks alone
open Go.Proofs.YtlkfcabklaaacaaO
attribute [local go_sem] min2_str max2_str
set_option linter.unusedVariables false
set_option linter.unusedSimpArgs false
attribute [local go_sem high] eqA39
/-! ### careenageref07_Of: function 45 -/
def careenageref07_Of.l0 : Nat → List (S46) → Int → Int → Int → Int → Int → Int → ByteArray → ByteArray → Option ((List (S46)) × Int)
  | 0, _, _, _, _, _, _, _, _, _ => none
  | k + 1, x5, x6, x655000, x655001, x655002, x655003, x655004, x655005, x657000 => if x6 < x655001 then ((careenageref01_Reader_Number.f k x657000 1).bind fun bt665 => ((careenageref01_Reader_Bytes.f bt665.2.2 (wrap64 (bt665.1))).bind fun bt668 => ((careenageref01_Reader_Number.f k bt668.2.2 4).bind fun bt671 => (if bt665.2.1 = 0 then (if bt668.2.1 = 0 then (if bt671.2.1 = 0 then (if x5.length < 5864062014805 then (careenageref07_Of.l0 k (x5 ++ [(⟨bt668.1, (bt671.1) % 4294967296⟩ : S46)]) (wrap64 (x6 + 1)) x655000 x655001 x655002 x655003 x655004 x655005 bt671.2.2) else (none)) else (some (([] : List (S46)), 4))) else (some (([] : List (S46)), 4))) else (some (([] : List (S46)), 4)))))) else ((careenageref07_Page.f k (wrap64 ((x655005.size : Int) + 24)) x655002 x655004 x5).bind fun bt657 => (if bt657.2.2.2.2.2.2 = 0 then (if (!(bt657.1 == x655000) || (!(bt657.2.1 == x655001) || (!(bt657.2.2.1 == x655002) || (!(bt657.2.2.2.1 == x655003) || (!(bt657.2.2.2.2.1 == x655004) || (!(bt657.2.2.2.2.2.1.toList == x655005.toList))))))) = true then (some (([] : List (S46)), 4)) else (some (x5, 0))) else (some (([] : List (S46)), 4))))
def careenageref07_Of.f (k : Nat) (a0_0 : Int) (a0_1 : Int) (a0_2 : Int) (a0_3 : Int) (a0_4 : Int) (a0_5 : ByteArray) : Option ((List (S46)) × Int) := (careenageref01_New.f a0_5).bind fun t655 => (careenageref07_Of.l0 k ([] : List (S46)) 0 a0_0 a0_1 a0_2 a0_3 a0_4 a0_5 t655)
end Go.Proofs.Ytlkfcabklaaacaa.P

namespace Go.Proofs.Ytlkfcabklaaacaa.P
open Go.RowKit Go.Proofs.YtlkfcabklaaacaaW.PrintWords Go.Proofs.YtlkfcabklaaacaaW.PrintLast Go.Proofs.YtlkfcabklaaacaaW.PrintMore
attribute [local go_sem] max2_int min2_int max_two min_two max_three min_three max_four min_four   -- for this text's walks alone
open Go.Proofs.YtlkfcabklaaacaaO
attribute [local go_sem] min2_str max2_str
set_option linter.unusedVariables false
set_option linter.unusedSimpArgs false
/-! ### careenagelaw07_light: function 24 -/
def careenagelaw07_light.l0 : Nat → List (S46) → Int → Int → Option (Bool)
  | 0, _, _, _ => none
  | k + 1, x0, x3, x4 => if x4 < (x0.length : Int) then (if 0 ≤ x4 then (careenagelaw07_light.l0 k x0 (wrap64 (x3 + (mn (((rd_T46 x0 x4).f0).size : Int) 3000))) (wrap64 (x4 + 1))) else (none)) else (if (x0.length : Int) ≤ 100 then (some (decide (x3 ≤ 3000))) else (some false))
def careenagelaw07_light.f (k : Nat) (l0 : List (S46)) : Option (Bool) := careenagelaw07_light.l0 k l0 0 0
end Go.Proofs.Ytlkfcabklaaacaa.P

namespace Go.Proofs.Ytlkfcabklaaacaa.P
open Go.RowKit Go.Proofs.YtlkfcabklaaacaaW.PrintWords Go.Proofs.YtlkfcabklaaacaaW.PrintLast Go.Proofs.YtlkfcabklaaacaaW.PrintMore
attribute [local go_sem] max2_int min2_int max_two min_two max_three min_three max_four min_four   -- for this text's walks alone
open Go.Proofs.YtlkfcabklaaacaaO
attribute [local go_sem] min2_str max2_str
attribute [local go_sem high] str_gtr str_leq
set_option linter.unusedVariables false
set_option linter.unusedSimpArgs false
/-! ### careenageref07_Pick: function 47 -/
def careenageref07_Pick.l0 : Nat → List (S46) → ByteArray → Int → Option (Int)
  | 0, _, _, _ => none
  | k + 1, x0, x1, x5 => if x5 < (x0.length : Int) then (if 0 ≤ x5 then (if ((Op.bytesLess x1.toList (((rd_T46 x0 x5).f0).toList)) = true) then (some (mx 0 (wrap64 (x5 - 1)))) else (careenageref07_Pick.l0 k x0 x1 (wrap64 (x5 + 1)))) else (none)) else (some (mx 0 (wrap64 (x5 - 1))))
def careenageref07_Pick.f (k : Nat) (l0 : List (S46)) (a1 : ByteArray) : Option (Int) := careenageref07_Pick.l0 k l0 a1 0
end Go.Proofs.Ytlkfcabklaaacaa.P

namespace Go.Proofs.Ytlkfcabklaaacaa.P
open Go.RowKit Go.Proofs.YtlkfcabklaaacaaW.PrintWords Go.Proofs.YtlkfcabklaaacaaW.PrintLast Go.Proofs.YtlkfcabklaaacaaW.PrintMore
attribute [local go_sem] max2_int min2_int max_two min_two max_three min_three max_four min_four   -- for this text's walks alone
open Go.Proofs.YtlkfcabklaaacaaO
attribute [local go_sem] min2_str max2_str
set_option linter.unusedVariables false
set_option linter.unusedSimpArgs false
/-! ### careenageref10_Most: function 36 -/
def careenageref10_Most.f (a0 : Int) : Option (Int) := (careenageref04_Room.f a0).bind fun t326 => (some (wrap64 (Int.tdiv t326 4)))
end Go.Proofs.Ytlkfcabklaaacaa.P

namespace Go.Proofs.Ytlkfcabklaaacaa.P
open Go.RowKit Go.Proofs.YtlkfcabklaaacaaW.PrintWords Go.Proofs.YtlkfcabklaaacaaW.PrintLast Go.Proofs.YtlkfcabklaaacaaW.PrintMore
attribute [local go_sem] max2_int min2_int max_two min_two max_three min_three max_four min_four   -- for this text's walks alone
open Go.Proofs.YtlkfcabklaaacaaO
attribute [local go_sem] min2_str max2_str
set_option linter.unusedVariables false
set_option linter.unusedSimpArgs false
/-! ### careenageref10_Rises: function 34 -/
def careenageref10_Rises.l0 : Nat → List Int → Int → Option (Bool)
  | 0, _, _ => none
  | k + 1, x0, x3 => if x3 < (x0.length : Int) then (if 0 ≤ (wrap64 (x3 - 1)) then (if (wrap64 (x3 - 1)) < (x0.length : Int) then (if 0 ≤ x3 then (if (rd x0 (wrap64 (x3 - 1))) ≥ (rd x0 x3) then (some false) else (careenageref10_Rises.l0 k x0 (wrap64 (x3 + 1)))) else (none)) else (none)) else (none)) else (some true)
def careenageref10_Rises.f (k : Nat) (l0 : List Int) : Option (Bool) := careenageref10_Rises.l0 k l0 1
end Go.Proofs.Ytlkfcabklaaacaa.P

namespace Go.Proofs.Ytlkfcabklaaacaa.P
open Go.RowKit Go.Proofs.YtlkfcabklaaacaaW.PrintWords Go.Proofs.YtlkfcabklaaacaaW.PrintLast Go.Proofs.YtlkfcabklaaacaaW.PrintMore
attribute [local go_sem] max2_int min2_int max_two min_two max_three min_three max_four min_four   -- for this text's walks alone
open Go.Proofs.YtlkfcabklaaacaaO
attribute [local go_sem] min2_str max2_str
set_option linter.unusedVariables false
set_option linter.unusedSimpArgs false
/-! ### careenageref10_Numbers: function 64 -/
def careenageref10_Numbers.l0 : Nat → List Int → Int → Option (Bool)
  | 0, _, _ => none
  | k + 1, x0, x3 => if x3 < (x0.length : Int) then (if 0 ≤ x3 then ((careenageref04_Number.f (rd x0 x3)).bind fun t330 => (if t330 = true then (careenageref10_Numbers.l0 k x0 (wrap64 (x3 + 1))) else (some false))) else (none)) else ((careenageref10_Rises.f k x0).bind fun t331 => (some t331))
def careenageref10_Numbers.f (k : Nat) (l0 : List Int) : Option (Bool) := careenageref10_Numbers.l0 k l0 0
end Go.Proofs.Ytlkfcabklaaacaa.P

namespace Go.Proofs.Ytlkfcabklaaacaa.P
open Go.RowKit Go.Proofs.YtlkfcabklaaacaaW.PrintWords Go.Proofs.YtlkfcabklaaacaaW.PrintLast Go.Proofs.YtlkfcabklaaacaaW.PrintMore
attribute [local go_sem] max2_int min2_int max_two min_two max_three min_three max_four min_four   -- for this text's walks alone
open Go.Proofs.YtlkfcabklaaacaaO
attribute [local go_sem] min2_str max2_str
set_option linter.unusedVariables false
set_option linter.unusedSimpArgs false
/-! ### careenageref10_Page: function 32 -/
mutual
def careenageref10_Page.j0 : Nat → Int → Int → Int → Int → List Int → Bool → Option (Int × Int × Int × Int × Int × ByteArray × Int)
  | 0, _, _, _, _, _, _ => none
  | k + 1, x0, x1, x2, x3, x4, x48 => if x48 = true then (some (0, 0, 0, 0, 0, (⟨#[]⟩ : ByteArray), 2)) else (careenageref10_Page.l0 k x0 x1 x2 x3 x4 ([] : List Int) 0)
def careenageref10_Page.l0 : Nat → Int → Int → Int → Int → List Int → List Int → Int → Option (Int × Int × Int × Int × Int × ByteArray × Int)
  | 0, _, _, _, _, _, _, _ => none
  | k + 1, x0, x1, x2, x3, x4, x12, x13 => if x13 < (x4.length : Int) then (if 0 ≤ x13 then ((careenageref01_Put.f k x12 (IntKind.u64.wrap (rd x4 x13)) 4).bind fun t354 => (careenageref10_Page.l0 k x0 x1 x2 x3 x4 t354 (wrap64 (x13 + 1)))) else (none)) else ((careenageref04_Body.f x0 x12).bind fun bt357 => (some (6, (x4.length : Int), x1, x2, x3, bt357.1, 0)))
end
def careenageref10_Page.f (k : Nat) (a0 : Int) (a1 : Int) (a2 : Int) (a3 : Int) (l4 : List Int) : Option (Int × Int × Int × Int × Int × ByteArray × Int) := (careenageref03_Good.f a0).bind fun t348 => (if t348 = true then ((careenageref10_Numbers.f k l4).bind fun t349 => (if t349 = true then ((careenageref10_Most.f a0).bind fun t350 => (if (l4.length : Int) > t350 then (careenageref10_Page.j0 k a0 a1 a2 a3 l4 true) else ((careenageref04_Number.f a1).bind fun t351 => (if t351 = true then (if a2 = 0 then (careenageref10_Page.j0 k a0 a1 a2 a3 l4 (decide (a3 > 4611686018427387904))) else ((careenageref04_Number.f a2).bind fun t352 => (if t352 = true then (careenageref10_Page.j0 k a0 a1 a2 a3 l4 (decide (a3 > 4611686018427387904))) else (careenageref10_Page.j0 k a0 a1 a2 a3 l4 true)))) else (careenageref10_Page.j0 k a0 a1 a2 a3 l4 true))))) else (careenageref10_Page.j0 k a0 a1 a2 a3 l4 true))) else (careenageref10_Page.j0 k a0 a1 a2 a3 l4 true))
end Go.Proofs.Ytlkfcabklaaacaa.P

namespace Go.Proofs.Ytlkfcabklaaacaa.P
open Go.RowKit Go.Proofs.YtlkfcabklaaacaaW.PrintWords Go.Proofs.YtlkfcabklaaacaaW.PrintLast Go.Proofs.YtlkfcabklaaacaaW.PrintMore
attribute [local go_sem] max2_int min2_int max_two min_two max_three min_three max_four min_four   -- for this text's walks alone
open Go.Proofs.YtlkfcabklaaacaaO
attribute [local go_sem] min2_str max2_str
set_option linter.unusedVariables false
set_option linter.unusedSimpArgs false
/-! ### free_Rises_1: function 62 -/
def free_Rises_1.f (a0 : Int) (a1 : Int) : Option (Int) := if a0 > a1 then (some 1) else (some (-1))
end Go.Proofs.Ytlkfcabklaaacaa.P

namespace Go.Proofs.Ytlkfcabklaaacaa.P
open Go.RowKit Go.Proofs.YtlkfcabklaaacaaW.PrintWords Go.Proofs.YtlkfcabklaaacaaW.PrintLast Go.Proofs.YtlkfcabklaaacaaW.PrintMore
attribute [local go_sem] max2_int min2_int max_two min_two max_three min_three max_four min_four   -- for this text's walks alone
open Go.Proofs.YtlkfcabklaaacaaO
attribute [local go_sem] min2_str max2_str
set_option linter.unusedVariables false
set_option linter.unusedSimpArgs false
/-! ### slices_IsSortedFunc_uint32_uint32_62: function 61 -/
def slices_IsSortedFunc_uint32_uint32_62.l0 : Nat → List Int → Int → Option (Bool)
  | 0, _, _ => none
  | k + 1, x0, x5 => if x5 > 0 then (if 0 ≤ x5 then (if x5 < (x0.length : Int) then (if 0 ≤ (wrap64 (x5 - 1)) then (if (wrap64 (x5 - 1)) < (x0.length : Int) then ((free_Rises_1.f (rd x0 x5) (rd x0 (wrap64 (x5 - 1)))).bind fun t189 => (if t189 < 0 then (some false) else (slices_IsSortedFunc_uint32_uint32_62.l0 k x0 (wrap64 (x5 - 1))))) else (none)) else (none)) else (none)) else (none)) else (some true)
def slices_IsSortedFunc_uint32_uint32_62.f (k : Nat) (l0 : List Int)  : Option (Bool) := slices_IsSortedFunc_uint32_uint32_62.l0 k l0 (wrap64 ((l0.length : Int) - 1))
end Go.Proofs.Ytlkfcabklaaacaa.P

namespace Go.Proofs.Ytlkfcabklaaacaa.P
open Go.RowKit Go.Proofs.YtlkfcabklaaacaaW.PrintWords Go.Proofs.YtlkfcabklaaacaaW.PrintLast Go.Proofs.YtlkfcabklaaacaaW.PrintMore
attribute [local go_sem] max2_int min2_int max_two min_two max_three min_three max_four min_four   -- for this text's walks alone
open Go.Proofs.YtlkfcabklaaacaaO
attribute [local go_sem] min2_str max2_str
set_option linter.unusedVariables false
set_option linter.unusedSimpArgs false
/-! ### free_Rises: function 29 -/
def free_Rises.f (k : Nat) (l0 : List Int) : Option (Bool) := (slices_IsSortedFunc_uint32_uint32_62.f k l0).bind fun t190 => (some t190)
end Go.Proofs.Ytlkfcabklaaacaa.P

namespace Go.Proofs.Ytlkfcabklaaacaa.P
open Go.RowKit Go.Proofs.YtlkfcabklaaacaaW.PrintWords Go.Proofs.YtlkfcabklaaacaaW.PrintLast Go.Proofs.YtlkfcabklaaacaaW.PrintMore
attribute [local go_sem] max2_int min2_int max_two min_two max_three min_three max_four min_four   -- for this text's walks alone
open Go.Proofs.YtlkfcabklaaacaaO
attribute [local go_sem] min2_str max2_str
set_option linter.unusedVariables false
set_option linter.unusedSimpArgs false
/-! ### free_Most: function 31 -/
def free_Most.f (a0 : Int) : Option (Int) := (frame_Room.f a0).bind fun t191 => (some (wrap64 (Int.tdiv t191 4)))
end Go.Proofs.Ytlkfcabklaaacaa.P

namespace Go.Proofs.Ytlkfcabklaaacaa.P
open Go.RowKit Go.Proofs.YtlkfcabklaaacaaW.PrintWords Go.Proofs.YtlkfcabklaaacaaW.PrintLast Go.Proofs.YtlkfcabklaaacaaW.PrintMore
attribute [local go_sem] max2_int min2_int max_two min_two max_three min_three max_four min_four   -- for this text's walks alone
open Go.Proofs.YtlkfcabklaaacaaO
attribute [local go_sem] min2_str max2_str
set_option linter.unusedVariables false
set_option linter.unusedSimpArgs false
/-! ### free_number: function 57 -/
def free_number.f (a0 : Int) : Option (Bool) := if a0 ≥ 2 then (some (decide (a0 ≤ 2147483647))) else (some false)
end Go.Proofs.Ytlkfcabklaaacaa.P

namespace Go.Proofs.Ytlkfcabklaaacaa.P
open Go.RowKit Go.Proofs.YtlkfcabklaaacaaW.PrintWords Go.Proofs.YtlkfcabklaaacaaW.PrintLast Go.Proofs.YtlkfcabklaaacaaW.PrintMore
attribute [local go_sem] max2_int min2_int max_two min_two max_three min_three max_four min_four   -- for this text's walks alone
open Go.Proofs.YtlkfcabklaaacaaO
attribute [local go_sem] min2_str max2_str
set_option linter.unusedVariables false
set_option linter.unusedSimpArgs false
/-! ### free_Page_1: function 56 -/
def free_Page_1.f (a0 : Int) : Option (Bool) := (free_number.f a0).bind fun t199 => (some (!t199))
end Go.Proofs.Ytlkfcabklaaacaa.P

namespace Go.Proofs.Ytlkfcabklaaacaa.P
open Go.RowKit Go.Proofs.YtlkfcabklaaacaaW.PrintWords Go.Proofs.YtlkfcabklaaacaaW.PrintLast Go.Proofs.YtlkfcabklaaacaaW.PrintMore
attribute [local go_sem] max2_int min2_int max_two min_two max_three min_three max_four min_four   -- for this text's walks alone
open Go.Proofs.YtlkfcabklaaacaaO
attribute [local go_sem] min2_str max2_str
set_option linter.unusedVariables false
set_option linter.unusedSimpArgs false
/-! ### slices_IndexFunc_uint32_uint32_56: function 77 -/
def slices_IndexFunc_uint32_uint32_56.l0 : Nat → List Int → Int → Int → Option (Int)
  | 0, _, _, _ => none
  | k + 1, x0, x7, x8 => if x8 < x7 then (if 0 ≤ x8 then (if x8 < (x0.length : Int) then ((free_Page_1.f (rd x0 x8)).bind fun t201 => (if t201 = true then (some x8) else (slices_IndexFunc_uint32_uint32_56.l0 k x0 x7 (wrap64 (x8 + 1))))) else (none)) else (none)) else (some (-1))
def slices_IndexFunc_uint32_uint32_56.f (k : Nat) (l0 : List Int)  : Option (Int) := slices_IndexFunc_uint32_uint32_56.l0 k l0 (l0.length : Int) 0
end Go.Proofs.Ytlkfcabklaaacaa.P

namespace Go.Proofs.Ytlkfcabklaaacaa.P
open Go.RowKit Go.Proofs.YtlkfcabklaaacaaW.PrintWords Go.Proofs.YtlkfcabklaaacaaW.PrintLast Go.Proofs.YtlkfcabklaaacaaW.PrintMore
attribute [local go_sem] max2_int min2_int max_two min_two max_three min_three max_four min_four   -- for this text's walks alone
open Go.Proofs.YtlkfcabklaaacaaO
attribute [local go_sem] min2_str max2_str
set_option linter.unusedVariables false
set_option linter.unusedSimpArgs false
/-! ### slices_ContainsFunc_uint32_uint32_56: function 58 -/
def slices_ContainsFunc_uint32_uint32_56.f (k : Nat) (l0 : List Int)  : Option (Bool) := (slices_IndexFunc_uint32_uint32_56.f k l0).bind fun t202 => (some (decide (t202 ≥ 0)))
end Go.Proofs.Ytlkfcabklaaacaa.P

namespace Go.Proofs.Ytlkfcabklaaacaa.P
open Go.RowKit Go.Proofs.YtlkfcabklaaacaaW.PrintWords Go.Proofs.YtlkfcabklaaacaaW.PrintLast Go.Proofs.YtlkfcabklaaacaaW.PrintMore
attribute [local go_sem] max2_int min2_int max_two min_two max_three min_three max_four min_four   -- for this text's walks alone
open Go.Proofs.YtlkfcabklaaacaaO
attribute [local go_sem] min2_str max2_str
set_option linter.unusedVariables false
set_option linter.unusedSimpArgs false
/-! ### free_Page: function 27 -/
mutual
def free_Page.j0 : Nat → Int → Int → Int → Int → List Int → Bool → Option (Int × Int × Int × Int × Int × ByteArray × Int)
  | 0, _, _, _, _, _, _ => none
  | k + 1, x0, x1, x2, x3, x4, x55 => if x55 = true then (some (0, 0, 0, 0, 0, (⟨#[]⟩ : ByteArray), 2)) else (free_Page.l0 k x0 x1 x2 x3 x4 ([] : List Int) x4 (x4.length : Int) 0)
def free_Page.l0 : Nat → Int → Int → Int → Int → List Int → List Int → List Int → Int → Int → Option (Int × Int × Int × Int × Int × ByteArray × Int)
  | 0, _, _, _, _, _, _, _, _, _ => none
  | k + 1, x0, x1, x2, x3, x4, x13, x57, x58, x59 => if x59 < x58 then (if 0 ≤ x59 then (if x59 < (x57.length : Int) then ((octet_Put.f k x13 (IntKind.u64.wrap (rd x57 x59)) 4).bind fun t211 => (free_Page.l0 k x0 x1 x2 x3 x4 t211 x57 x58 (wrap64 (x59 + 1)))) else (none)) else (none)) else ((frame_Body.f x0 x13).bind fun bt214 => (some (6, (x4.length : Int), x1, x2, x3, bt214.1, 0)))
end
def free_Page.f (k : Nat) (a0 : Int) (a1 : Int) (a2 : Int) (a3 : Int) (l4 : List Int) : Option (Int × Int × Int × Int × Int × ByteArray × Int) := (free_Most.f a0).bind fun t204 => (if t204 = 0 then (free_Page.j0 k a0 a1 a2 a3 l4 true) else ((free_Most.f a0).bind fun t205 => (if (l4.length : Int) > t205 then (free_Page.j0 k a0 a1 a2 a3 l4 true) else ((free_Rises.f k l4).bind fun t206 => (if t206 = true then ((slices_ContainsFunc_uint32_uint32_56.f k l4).bind fun t207 => (if t207 = true then (free_Page.j0 k a0 a1 a2 a3 l4 true) else ((free_Page_1.f a1).bind fun t208 => (if t208 = true then (free_Page.j0 k a0 a1 a2 a3 l4 true) else (if a2 = 0 then (free_Page.j0 k a0 a1 a2 a3 l4 (decide (a3 > 4611686018427387904))) else ((free_Page_1.f a2).bind fun t209 => (if t209 = true then (free_Page.j0 k a0 a1 a2 a3 l4 true) else (free_Page.j0 k a0 a1 a2 a3 l4 (decide (a3 > 4611686018427387904)))))))))) else (free_Page.j0 k a0 a1 a2 a3 l4 true))))))
end Go.Proofs.Ytlkfcabklaaacaa.P

namespace Go.Proofs.YtlkfcabklaaacaaO
set_option linter.unusedVariables false
set_option linter.unusedSimpArgs false
open Go.RowKit Go.Proofs.YtlkfcabklaaacaaW.PrintWords
/-- As a step of its own (no unfolding: the kernel is not to compare what stands on both sides). -/
theorem bs {α β : Type} (a : α) (f : α → Option β) : (some a).bind f = f a := Eq.trans (Option.bind_some a f) (Eq.refl (f a))
/-- Numbers that are bytes. -/
def isB (l : List Int) : Prop := ∀ x ∈ l, 0 ≤ x ∧ x < 256
theorem isB_nil : isB [] := fun _ h => by cases h
theorem isB_cons {x : Int} {l : List Int} (hx : 0 ≤ x ∧ x < 256) (h : isB l) : isB (x :: l) := by
  intro y hy
  rcases List.mem_cons.1 hy with rfl | hy
  · exact hx
  · exact h y hy
theorem isB_append {l m : List Int} (h1 : isB l) (h2 : isB m) : isB (l ++ m) := by
  intro y hy
  rcases List.mem_append.1 hy with hy | hy
  · exact h1 y hy
  · exact h2 y hy
theorem isB_take {l : List Int} (h : isB l) (n : Nat) : isB (l.take n) := fun x hx => h x (List.mem_of_mem_take hx)
/-- A string's bytes. -/
abbrev B (s : ByteArray) : List Int := bytesOf s
theorem isB_B (s : ByteArray) : isB (B s) := by
  intro x hx
  simp only [bytesOf, List.mem_map] at hx
  obtain ⟨b, _, rfl⟩ := hx
  have := b.toNat_lt
  omega
theorem B_length (s : ByteArray) : (B s).length = s.size := bytesOf_length s
theorem B_inj {s t : ByteArray} (h : B s = B t) : s = t := by
  have h2 : s.data.toList = t.data.toList := by
    refine List.map_inj_right (fun a b hab => ?_) |>.1 h
    exact UInt8.toNat_inj.1 (Int.ofNat_inj.1 hab)
  cases s; cases t
  simp only [ByteArray.mk.injEq]
  exact Array.toList_inj.1 h2
theorem toList_iff {s t : ByteArray} : s.toList = t.toList ↔ B s = B t := by
  rw [Lib.toList_data, Lib.toList_data]
  refine ⟨fun h => by simp only [bytesOf, h], fun h => by rw [B_inj h]⟩
theorem toList_eq_iff {s t : ByteArray} : s.toList = t.toList ↔ s = t := ⟨fun h => B_inj (toList_iff.1 h), fun h => by rw [h]⟩
theorem B_extract (s : ByteArray) (a b : Nat) : B (s.extract a b) = ((B s).take b).drop a := by
  simp only [bytesOf, Lib.extract_data, List.map_take, List.map_drop]
  rw [List.drop_take]
theorem B_drop (s : ByteArray) (a : Nat) : B (s.extract a s.size) = (B s).drop a := by
  rw [B_extract, List.take_of_length_le (by rw [B_length]; exact Nat.le_refl _)]
theorem B_take (s : ByteArray) (b : Nat) : B (s.extract 0 b) = (B s).take b := by
  rw [B_extract, List.drop_zero]
theorem B_empty : B ⟨#[]⟩ = [] := rfl
theorem B_str {l : List Int} (h : isB l) : B (strOfNums l) = l := by
  simp only [bytesOf, strOfNums_data, List.map_map]
  refine (List.map_congr_left (g := id) (fun x hx => ?_)).trans (List.map_id l)
  have := h x hx
  simp only [Function.comp, id, UInt8.toNat_ofNat']
  omega
theorem size_str (l : List Int) : (strOfNums l).size = l.length := strOfNums_size l
theorem bt_B (s : ByteArray) (i : Int) : bt s i = rd (B s) i := (rd_bytesOf s i).symm
theorem rd_get {l : List Int} {i : Nat} (h : i < l.length) : rd l (i : Int) = l[i] := by simp [rd, h]
/-! ### numbers, the least byte first -/
def le : Int → Nat → List Int
  | _, 0 => []
  | n, k + 1 => n % 256 :: le (n / 256) k
def ofLe : List Int → Int
  | [] => 0
  | b :: l => b + ofLe l * 256
theorem le_length : ∀ (k : Nat) (n : Int), (le n k).length = k
  | 0, _ => rfl
  | k + 1, n => by simp [le, le_length k]
theorem isB_le : ∀ (k : Nat) (n : Int), isB (le n k)
  | 0, _ => isB_nil
  | k + 1, n => isB_cons (by omega) (isB_le k _)
theorem pow_succ256 (k : Nat) : (256 : Int) ^ (k + 1) = 256 * 256 ^ k := by rw [Int.pow_succ, Int.mul_comm]
theorem pow_pos256 (k : Nat) : (0 : Int) < 256 ^ k := Int.pow_pos (by decide)
theorem ofLe_le : ∀ (k : Nat) (n : Int), ofLe (le n k) = n % 256 ^ k
  | 0, n => by simp [le, ofLe, Int.emod_one]
  | k + 1, n => by
    simp only [le, ofLe]
    rw [ofLe_le k, pow_succ256]
    rw [Int.emod_def n (256 * 256 ^ k), Int.emod_def (n / 256), ← Int.ediv_ediv_of_nonneg (by decide), Int.mul_assoc 256]
    generalize 256 ^ k * (n / 256 / 256 ^ k) = z
    omega
theorem ofLe_nonneg : ∀ {l : List Int}, isB l → 0 ≤ ofLe l
  | [], _ => Int.le_refl _
  | b :: l, h => by
    have h1 := h b (List.mem_cons_self ..)
    have h2 := ofLe_nonneg (l := l) (fun x hx => h x (List.mem_cons_of_mem _ hx))
    simp only [ofLe]
    omega
theorem ofLe_lt : ∀ {l : List Int}, isB l → ofLe l < 256 ^ l.length
  | [], _ => by simp [ofLe]
  | b :: l, h => by
    have h1 := h b (List.mem_cons_self ..)
    have h2 := ofLe_lt (l := l) (fun x hx => h x (List.mem_cons_of_mem _ hx))
    simp only [ofLe, List.length_cons]
    rw [pow_succ256]
    omega
theorem ofLe_snoc : ∀ (l : List Int) (b : Int), ofLe (l ++ [b]) = ofLe l + b * 256 ^ l.length
  | [], b => by simp [ofLe]
  | a :: l, b => by
    simp only [List.cons_append, ofLe, List.length_cons]
    rw [ofLe_snoc l b, pow_succ256, Int.add_mul, Int.mul_assoc b, Int.mul_comm (256 : Int) (256 ^ l.length), ← Int.mul_assoc b]
    omega
end Go.Proofs.YtlkfcabklaaacaaO

namespace Go.Proofs.Ytlkfcabklaaacaa.Q
set_option linter.unusedVariables false
set_option linter.unusedSimpArgs false
open Go.RowKit Go.Proofs.Ytlkfcabklaaacaa.P Go.Proofs.YtlkfcabklaaacaaW.PrintWords Go.Proofs.YtlkfcabklaaacaaW.PrintLast Go.Proofs.YtlkfcabklaaacaaW.PrintMore Go.Proofs.YtlkfcabklaaacaaO
/-- The sizes of pages. -/
def goodS (a : Int) : Bool := decide (128 ≤ a) && decide (a ≤ 4096) && (Int.tmod a 64 == 0)
def roomS (a : Int) : Int := if goodS a = true then a - 24 else 0
theorem roomS_range (a : Int) : 0 ≤ roomS a ∧ roomS a ≤ 4072 := by
  unfold roomS goodS
  split
  · rename_i h
    simp only [Bool.and_eq_true, decide_eq_true_eq, beq_iff_eq] at h
    omega
  · omega
theorem good_is (a : Int) : device_Good.f a = some (goodS a) := by
  unfold device_Good.f goodS
  by_cases h1 : a ≥ 128
  · by_cases h2 : a ≤ 4096
    · simp [h1, h2]
    · simp [h1, h2]
  · have h3 : ¬ (128 ≤ a) := by omega
    simp [h3]
theorem room_is (a : Int) : frame_Room.f a = some (roomS a) := by
  unfold frame_Room.f
  rw [good_is, bs]
  unfold roomS
  by_cases h : goodS a = true
  · rw [if_pos h, if_pos h]
    unfold goodS at h
    simp only [Bool.and_eq_true, decide_eq_true_eq, beq_iff_eq] at h
    congr 1
    unfold wrap64
    omega
  · rw [if_neg h, if_neg h]
def numB (x : Int) : Bool := decide (2 ≤ x) && decide (x ≤ 2147483647)
end Go.Proofs.Ytlkfcabklaaacaa.Q

namespace Go.Proofs.Ytlkfcabklaaacaa.Q
set_option linter.unusedVariables false
set_option linter.unusedSimpArgs false
open Go.RowKit Go.Proofs.Ytlkfcabklaaacaa.P Go.Proofs.YtlkfcabklaaacaaW.PrintWords Go.Proofs.YtlkfcabklaaacaaW.PrintLast Go.Proofs.YtlkfcabklaaacaaW.PrintMore Go.Proofs.YtlkfcabklaaacaaO
theorem w64 {x : Int} (h0 : -9223372036854775808 ≤ x) (h1 : x ≤ 9223372036854775807) : wrap64 x = x := by
  unfold wrap64
  omega
theorem u64w {x : Int} (h0 : 0 ≤ x) (h1 : x < 18446744073709551616) : IntKind.u64.wrap x = x := by
  rw [IntKind.wrap_u64]
  omega
theorem pow8 (i : Nat) : (2 : Int) ^ (8 * i) = 256 ^ i := by
  rw [Int.pow_mul]
  rfl
theorem pow256_le {i : Nat} (h : i ≤ 8) : (256 : Int) ^ i ≤ 18446744073709551616 := by
  have : i = 0 ∨ i = 1 ∨ i = 2 ∨ i = 3 ∨ i = 4 ∨ i = 5 ∨ i = 6 ∨ i = 7 ∨ i = 8 := by omega
  rcases this with rfl | rfl | rfl | rfl | rfl | rfl | rfl | rfl | rfl <;> decide
theorem shr_byte (n : Int) (i : Nat) (h : i ≤ 8) : shr .u64 n (8 * (i : Int)) = n / 256 ^ i := by
  unfold shr
  rw [show min (8 * (i : Int)).toNat IntKind.u64.bits = 8 * i by simp only [IntKind.bits]; omega, pow8]
theorem shl_byte (b : Int) (i : Nat) (h : i ≤ 7) (hb : 0 ≤ b ∧ b < 256) : shl .u64 b (8 * (i : Int)) = b * 256 ^ i := by
  unfold shl
  rw [show min (8 * (i : Int)).toNat IntKind.u64.bits = 8 * i by simp only [IntKind.bits]; omega, pow8]
  have h1 := pow256_le (i := i + 1) (by omega)
  rw [pow_succ256] at h1
  have h2 := pow_pos256 i
  refine u64w (Int.mul_nonneg hb.1 (Int.le_of_lt h2)) ?_
  have h3 : b * 256 ^ i ≤ 255 * 256 ^ i := Int.mul_le_mul_of_nonneg_right (by omega) (Int.le_of_lt h2)
  omega
theorem or_byte (v b : Int) (i : Nat) (h : i ≤ 7) (hv : 0 ≤ v ∧ v < 256 ^ i) (hb : 0 ≤ b ∧ b < 256) : Go.bits .or .u64 v (b * 256 ^ i) = v + b * 256 ^ i := by
  have h1 := pow256_le (i := i + 1) (by omega)
  rw [pow_succ256] at h1
  have h2 := pow_pos256 i
  have h3 : b * 256 ^ i ≤ 255 * 256 ^ i := Int.mul_le_mul_of_nonneg_right (by omega) (Int.le_of_lt h2)
  have h4 : 0 ≤ b * 256 ^ i := Int.mul_nonneg hb.1 (Int.le_of_lt h2)
  rw [u64_or _ _ hv.1 (by omega) h4 (by omega)]
  obtain ⟨v, rfl⟩ := Int.eq_ofNat_of_zero_le hv.1
  obtain ⟨b, rfl⟩ := Int.eq_ofNat_of_zero_le hb.1
  have e : ((b : Int) * 256 ^ i) = ((b * 256 ^ i : Nat) : Int) := by rw [Int.natCast_mul, Int.natCast_pow]; rfl
  have hv2 : v < 2 ^ (8 * i) := by
    have := hv.2
    rw [Nat.pow_mul]
    have e2 : ((256 : Int) ^ i) = (((2 ^ 8) ^ i : Nat) : Int) := by rw [Int.natCast_pow]; rfl
    rw [e2] at this
    exact Int.ofNat_lt.1 this
  rw [e, Int.toNat_natCast, Int.toNat_natCast, Nat.or_comm, nat_join (8 * i) (b * 256 ^ i) v (by rw [Nat.pow_mul]; exact Nat.mul_mod_left _ _) hv2]
  omega
theorem le_drop : ∀ (K i : Nat) (n : Int), i < K → (le n K).drop i = (n / 256 ^ i % 256) :: (le n K).drop (i + 1)
  | 0, i, n, h => by omega
  | K + 1, 0, n, h => by simp [le]
  | K + 1, i + 1, n, h => by
    simp only [le, List.drop_succ_cons]
    rw [le_drop K i _ (by omega), pow_succ256, Int.ediv_ediv_of_nonneg (by decide)]
theorem put_l0 (n : Int) (K : Nat) (hK : K ≤ 8) : ∀ (d k i : Nat) (x : List Int), i + d = K → d < k → x.length + d ≤ 140737488355327 → octet_Put.l0 k n x K i = some (x ++ (le n K).drop i)
  | 0, k + 1, i, x, h, _, _ => by
    simp only [octet_Put.l0]
    rw [if_neg (by omega), List.drop_eq_nil_of_le (by rw [le_length]; omega), List.append_nil]
  | d + 1, k + 1, i, x, h, hk, hl => by
    simp only [octet_Put.l0]
    have e1 : wrap64 (8 * (i : Int)) = 8 * (i : Int) := w64 (by omega) (by omega)
    have e2 : wrap64 ((i : Int) + 1) = ((i + 1 : Nat) : Int) := by rw [w64 (by omega) (by omega)]; rfl
    rw [if_pos (by omega), e1, if_pos (by omega), if_pos (by omega), shr_byte n i (by omega), e2,
      put_l0 n K hK d k (i + 1) _ (by omega) (by omega) (by simp; omega), le_drop K i n (by omega)]
    simp
/-- What Put answers. -/
def putL (l : List Int) (n K : Int) : List Int := if 1 ≤ K ∧ K ≤ 8 then l ++ le n K.toNat else l
theorem put_is (k : Nat) (l : List Int) (n K : Int) (hk : 12 ≤ k) (hl : l.length ≤ 140737488355000) : octet_Put.f k l n K = some (putL l n K) := by
  obtain ⟨k, rfl⟩ : ∃ m, k = m + 2 := ⟨k - 2, by omega⟩
  unfold octet_Put.f putL
  have e1 : wrap64 ((l.length : Int) + 8) = (l.length : Int) + 8 := w64 (by omega) (by omega)
  rw [e1, if_pos (by omega), if_pos (by omega)]
  simp only [bs, List.nil_append]
  rw [if_pos (by simp; omega)]
  by_cases h1 : K < 1
  · rw [if_pos h1, if_neg (by omega)]
    simp [octet_Put.j0]
  · rw [if_neg h1]
    by_cases h2 : K > 8
    · rw [if_neg (by omega)]
      simp [octet_Put.j0, h2]
    · rw [if_pos (by omega)]
      obtain ⟨K, rfl⟩ := Int.eq_ofNat_of_zero_le (show 0 ≤ K by omega)
      simp only [octet_Put.j0, h2, decide_false]
      rw [if_neg (by decide), show (0 : Int) = ((0 : Nat) : Int) from rfl, put_l0 n K (by omega) K (k + 1) 0 l (by omega) (by omega) (by omega)]
      simp
end Go.Proofs.Ytlkfcabklaaacaa.Q

namespace Go.Proofs.Ytlkfcabklaaacaa.Q
set_option linter.unusedVariables false
set_option linter.unusedSimpArgs false
open Go.RowKit Go.Proofs.Ytlkfcabklaaacaa.P Go.Proofs.YtlkfcabklaaacaaW.PrintWords Go.Proofs.YtlkfcabklaaacaaW.PrintLast Go.Proofs.YtlkfcabklaaacaaW.PrintMore Go.Proofs.YtlkfcabklaaacaaO
theorem put4 (l : List Int) (n : Int) : putL l n 4 = l ++ le n 4 := by
  unfold putL
  rw [if_pos (by decide)]
  rfl
/-- The bytes, and zeros behind them, as many as there is room for. -/
def padS (m : Int) (l : List Int) : ByteArray := strOfNums (l ++ List.replicate (m.toNat - l.length) 0)
theorem body_is (s : Int) (l : List Int) (hg : goodS s = true) (hl : (l.length : Int) ≤ roomS s) : frame_Body.f s l = some (padS (roomS s) l, 0) := by
  have hr := roomS_range s
  unfold frame_Body.f padded padS
  rw [good_is, bs, if_pos hg, room_is, bs, if_neg (by omega), if_pos (by omega)]
  rw [show min l.length (roomS s).toNat = l.length by omega, List.take_length, List.drop_replicate]
end Go.Proofs.Ytlkfcabklaaacaa.Q

namespace Go.Proofs.Ytlkfcabklaaacaa.Q
set_option linter.unusedVariables false
set_option linter.unusedSimpArgs false
open Go.RowKit Go.Proofs.Ytlkfcabklaaacaa.P Go.Proofs.YtlkfcabklaaacaaW.PrintWords Go.Proofs.YtlkfcabklaaacaaW.PrintLast Go.Proofs.YtlkfcabklaaacaaW.PrintMore Go.Proofs.YtlkfcabklaaacaaO
theorem bt_get {s : ByteArray} {i : Nat} (h : i < (B s).length) : bt s (i : Int) = (B s)[i] := by rw [bt_B, rd_get h]
/-- What Bytes answers. -/
def bytesR (s : ByteArray) (n : Int) : ByteArray × Int × ByteArray :=
  if n < 0 then (⟨#[]⟩, 2, s) else if n > (s.size : Int) then (⟨#[]⟩, 7, s) else (s.extract 0 n.toNat, 0, s.extract n.toNat s.size)
theorem bytes_is (s : ByteArray) (n : Int) : octet_Reader_Bytes.f s n = some (bytesR s n) := by
  unfold octet_Reader_Bytes.f octet_Reader_take.f bytesR
  by_cases h1 : n < 0
  · simp [h1]
  · rw [if_neg h1, if_neg h1]
    by_cases h2 : n > (s.size : Int)
    · simp [h2]
    · rw [if_neg h2, if_neg h2, if_pos (by omega), if_pos (by omega)]
      rfl
/-- What Number answers. -/
def numR (s : ByteArray) (n : Int) : Int × Int × ByteArray :=
  if n < 1 ∨ n > 8 then (0, 2, s) else if (s.size : Int) < n then (0, 7, s) else (ofLe ((B s).take n.toNat), 0, s.extract n.toNat s.size)
theorem ofLe_step {l : List Int} (hl : isB l) {i : Nat} (hi : i < l.length) (h8 : i ≤ 7) : Go.bits .or .u64 (ofLe (l.take i)) (shl .u64 (IntKind.u64.wrap l[i]) (8 * (i : Int))) = ofLe (l.take (i + 1)) := by
  have hb := hl l[i] (List.getElem_mem hi)
  have hv := ofLe_lt (isB_take hl i)
  rw [List.length_take, Nat.min_eq_left (by omega)] at hv
  rw [u64w hb.1 (by omega), shl_byte _ _ h8 hb, or_byte _ _ _ h8 ⟨ofLe_nonneg (isB_take hl i), hv⟩ hb, List.take_succ_eq_append_getElem hi, ofLe_snoc, List.length_take, Nat.min_eq_left (by omega)]
theorem num_l0 (s x : ByteArray) (e : Int) (hx : x.size ≤ 8) : ∀ (d k i : Nat), i + d = x.size → d < k → octet_Reader_Number.l0 k (ofLe ((B x).take i)) e x (x.size : Int) i s = some (ofLe (B x), e, s)
  | 0, k + 1, i, h, _ => by
    simp only [octet_Reader_Number.l0]
    rw [if_neg (by omega), List.take_of_length_le (by rw [B_length]; omega)]
  | d + 1, k + 1, i, h, hk => by
    have hi : i < (B x).length := by rw [B_length]; omega
    simp only [octet_Reader_Number.l0]
    rw [if_pos (by omega), if_pos (by omega), if_pos (by omega), w64 (x := 8 * (i : Int)) (by omega) (by omega), if_pos (by omega), bt_get hi, ofLe_step (isB_B x) hi (by omega), w64 (by omega) (by omega)]
    exact num_l0 s x e hx d k (i + 1) (by omega) (by omega)
theorem num_is (s : ByteArray) (n : Int) (k : Nat) (hk : 9 < k) : octet_Reader_Number.f k s n = some (numR s n) := by
  unfold octet_Reader_Number.f numR
  by_cases h1 : n < 1
  · rw [if_pos h1, if_pos (.inl h1)]
  · rw [if_neg h1]
    by_cases h2 : n > 8
    · rw [if_pos h2, if_pos (.inr h2)]
    · rw [if_neg h2, if_neg (by omega)]
      unfold octet_Reader_take.f
      by_cases h3 : n > (s.size : Int)
      · rw [if_pos h3, if_pos h3]
        simp only [bs]
        have := num_l0 s ⟨#[]⟩ 7 (by decide) 0 k 0 rfl (by omega)
        simpa [B_empty, ofLe] using this
      · rw [if_neg h3, if_neg h3, if_pos (by omega), if_pos (by omega)]
        simp only [bs]
        have hsz : (s.extract 0 n.toNat).size = n.toNat := by rw [ByteArray.size_extract]; omega
        have := num_l0 (s.extract n.toNat s.size) (s.extract 0 n.toNat) 0 (by omega) n.toNat k 0 (by omega) (by omega)
        rw [B_take] at this
        simpa [ofLe] using this
end Go.Proofs.Ytlkfcabklaaacaa.Q

namespace Go.Proofs.Ytlkfcabklaaacaa.Q
set_option linter.unusedVariables false
set_option linter.unusedSimpArgs false
open Go.RowKit Go.Proofs.Ytlkfcabklaaacaa.P Go.Proofs.YtlkfcabklaaacaaW.PrintWords Go.Proofs.YtlkfcabklaaacaaW.PrintLast Go.Proofs.YtlkfcabklaaacaaW.PrintMore Go.Proofs.YtlkfcabklaaacaaO
abbrev SF := S46
/-- A fork's key. -/
abbrev keyF (l : List SF) (j : Nat) : List UInt8 := (rd_T46 l (j : Int)).f0.toList
def okF (l : List SF) (j : Nat) : Prop := (rd_T46 l (j : Int)).f0.size ≤ 40 ∧ numB (rd_T46 l (j : Int)).f1 = true ∧ (0 < j → Op.bytesLess (keyF l (j - 1)) (keyF l j) = true)
instance (l : List SF) (j : Nat) : Decidable (okF l j) := by unfold okF; exact inferInstance
def mayF (l : List SF) : Bool := decide (∀ j, j < l.length → okF l j) && decide (0 < l.length)
theorem bnumber_is (a : Int) : branch_number.f a = some (numB a) := by
  unfold branch_number.f numB
  by_cases h : a ≥ 2
  · rw [if_pos h]
    simp [show (2 : Int) ≤ a from h]
  · rw [if_neg h]
    simp [show ¬ (2 : Int) ≤ a from h]
theorem may_up (l : List SF) (hl : l.length < 4611686018427387904) : ∀ (d i k : Nat), i + d = l.length → d < k → branch_may.l0 k l l (l.length : Int) (i : Int) = some (decide (∀ j, j < l.length → i ≤ j → okF l j) && decide (0 < l.length))
  | d, i, 0, _, h => by omega
  | 0, i, k + 1, hi, _ => by
    rw [branch_may.l0, if_neg (by omega), decide_eq_true (by intro j a b; omega : ∀ j, j < l.length → i ≤ j → okF l j), Bool.true_and]
    congr 1
    rw [decide_eq_decide]
    omega
  | d + 1, i, k + 1, hi, hk => by
    have ih := may_up l hl d (i + 1) k (by omega) (by omega)
    have hw2 : wrap64 ((i : Int) + 1) = ((i + 1 : Nat) : Int) := by unfold wrap64; omega
    have hbad : ¬ okF l i → some false = some (decide (∀ j, j < l.length → i ≤ j → okF l j) && decide (0 < l.length)) := fun h => by
      rw [decide_eq_false (fun h2 => h (h2 i (by omega) (Nat.le_refl _))), Bool.false_and]
    have hgood : okF l i → some (decide (∀ j, j < l.length → i + 1 ≤ j → okF l j) && decide (0 < l.length)) = some (decide (∀ j, j < l.length → i ≤ j → okF l j) && decide (0 < l.length)) := fun h => by
      congr 2
      rw [decide_eq_decide]
      refine ⟨fun hh j a b => ?_, fun hh j a b => hh j a (by omega)⟩
      by_cases e : j = i
      · subst e
        exact h
      · exact hh j a (by omega)
    rw [branch_may.l0, if_pos (by omega), if_pos (by omega), if_pos (by omega)]
    unfold branch_Key.f
    rw [bs, bnumber_is]
    by_cases h1 : (rd_T46 l (i : Int)).f0.size ≤ 40
    · rw [if_pos (by rw [decide_eq_true_eq]; omega), bs]
      cases h2 : numB (rd_T46 l (i : Int)).f1 with
      | false =>
        rw [if_neg (by decide)]
        exact hbad (fun h => by rw [h.2.1] at h2; cases h2)
      | true =>
        rw [if_pos rfl]
        by_cases h3 : (i : Int) > 0
        · have hw : wrap64 ((i : Int) - 1) = ((i - 1 : Nat) : Int) := by unfold wrap64; omega
          rw [if_pos h3, hw, if_pos (by omega), if_pos (by omega)]
          by_cases h4 : Op.bytesLess (keyF l (i - 1)) (keyF l i) = true
          · rw [if_pos h4, hw2, ih]
            exact hgood ⟨h1, h2, fun _ => h4⟩
          · rw [if_neg h4]
            exact hbad (fun h => h4 (h.2.2 (by omega)))
        · rw [if_neg h3, hw2, ih]
          exact hgood ⟨h1, h2, fun h => by omega⟩
    · rw [if_neg (by rw [decide_eq_true_eq]; omega)]
      exact hbad (fun h => h1 h.1)
theorem may_is (l : List SF) (hl : l.length < 4611686018427387904) (k : Nat) (hk : l.length < k) : branch_may.f k l = some (mayF l) := by
  unfold branch_may.f
  refine Eq.trans (may_up l hl l.length 0 k (by omega) hk) ?_
  unfold mayF
  congr 2
  rw [decide_eq_decide]
  exact ⟨fun h j a => h j a (Nat.zero_le _), fun h j a _ => h j a⟩
/-- How great forks are, as both count it. -/
def sizeW (n : Int) (l : List SF) : Int := l.foldl (fun n f => wrap64 (n + wrap64 (5 + (f.f0.size : Int)))) n
theorem drop_F (l : List SF) (i : Nat) (h : i < l.length) : l.drop i = rd_T46 l (i : Int) :: l.drop (i + 1) := by
  rw [List.drop_eq_getElem_cons h]
  simp [rd_T46, h]
theorem size_up (l : List SF) (hl : l.length < 4611686018427387904) : ∀ (d i k : Nat) (n : Int), i + d = l.length → d < k → branch_Size.l0 k n l (l.length : Int) (i : Int) = some (sizeW n (l.drop i))
  | d, i, 0, _, _, h => by omega
  | 0, i, k + 1, n, hi, _ => by
    rw [branch_Size.l0, if_neg (by omega), List.drop_of_length_le (by omega)]
    rfl
  | d + 1, i, k + 1, n, hi, hk => by
    have hw2 : wrap64 ((i : Int) + 1) = ((i + 1 : Nat) : Int) := by unfold wrap64; omega
    rw [branch_Size.l0, if_pos (by omega), if_pos (by omega), if_pos (by omega), hw2, size_up l hl d (i + 1) k _ (by omega) (by omega), drop_F l i (by omega)]
    rfl
theorem size_is (l : List SF) (hl : l.length < 4611686018427387904) (k : Nat) (hk : l.length < k) : branch_Size.f k l = some (sizeW 0 l) := by
  unfold branch_Size.f
  exact size_up l hl l.length 0 k 0 (by omega) hk
/-- A fork's bytes. -/
def forkL (f : SF) : List Int := le (IntKind.u64.wrap (f.f0.size : Int)) 1 ++ bytesOf f.f0 ++ le (IntKind.u64.wrap f.f1) 4
theorem forkL_length (f : SF) : (forkL f).length = 5 + f.f0.size := by
  unfold forkL
  rw [List.length_append, List.length_append, le_length, le_length, bytesOf_length]
  omega
def sizeN (l : List SF) : Nat := (l.map (fun f => 5 + f.f0.size)).sum
theorem forks_length (l : List SF) : (l.flatMap forkL).length = sizeN l := by
  unfold sizeN
  rw [List.length_flatMap]
  congr 1
  exact List.map_congr_left (fun f _ => forkL_length f)
theorem sizeN_cons (f : SF) (l : List SF) : sizeN (f :: l) = 5 + f.f0.size + sizeN l := by simp [sizeN]
theorem sizeW_is : ∀ (l : List SF) (n : Int), 0 ≤ n → n + (sizeN l : Int) ≤ 9223372036854775807 → sizeW n l = n + (sizeN l : Int)
  | [], n, _, _ => by simp [sizeW, sizeN]
  | f :: l, n, h0, h => by
    rw [sizeN_cons] at h ⊢
    have hw : wrap64 (n + wrap64 (5 + (f.f0.size : Int))) = n + (5 + (f.f0.size : Int)) := by
      have : wrap64 (5 + (f.f0.size : Int)) = 5 + (f.f0.size : Int) := w64 (by omega) (by omega)
      rw [this]
      exact w64 (by omega) (by omega)
    show sizeW (wrap64 (n + wrap64 (5 + (f.f0.size : Int)))) l = _
    rw [hw, sizeW_is l _ (by omega) (by omega)]
    omega
theorem sizeN_bound (b : Nat) : ∀ (l : List SF), (∀ f ∈ l, f.f0.size ≤ b) → sizeN l ≤ (5 + b) * l.length
  | [], _ => by simp [sizeN]
  | f :: l, h => by
    have h1 := h f (List.mem_cons_self ..)
    have h2 := sizeN_bound b l (fun g hg => h g (List.mem_cons_of_mem _ hg))
    rw [sizeN_cons, List.length_cons, Nat.mul_succ]
    omega
theorem mayF_ok {l : List SF} (h : mayF l = true) : ∀ j, j < l.length → okF l j := by
  unfold mayF at h
  rw [Bool.and_eq_true, decide_eq_true_eq] at h
  exact h.1
theorem mayF_pos {l : List SF} (h : mayF l = true) : 0 < l.length := by
  unfold mayF at h
  rw [Bool.and_eq_true, decide_eq_true_eq, decide_eq_true_eq] at h
  exact h.2
theorem rd_mem {l : List SF} {f : SF} (h : f ∈ l) : ∃ j, j < l.length ∧ rd_T46 l (j : Int) = f := by
  obtain ⟨j, hj, rfl⟩ := List.mem_iff_getElem.1 h
  exact ⟨j, hj, by simp [rd_T46, hj]⟩
theorem mayF_keys {l : List SF} (h : mayF l = true) : ∀ f ∈ l, f.f0.size ≤ 40 := by
  intro f hf
  obtain ⟨j, hj, rfl⟩ := rd_mem hf
  exact (mayF_ok h j hj).1
theorem mayF_size {l : List SF} (h : mayF l = true) (hl : l.length ≤ 100000000000000) : sizeW 0 l = (sizeN l : Int) := by
  have := sizeN_bound 40 l (mayF_keys h)
  rw [sizeW_is l 0 (by omega) (by omega)]
  omega
theorem sizeN_length : ∀ (l : List SF), 5 * l.length ≤ sizeN l
  | [] => by simp
  | f :: l => by
    have := sizeN_length l
    rw [sizeN_cons, List.length_cons]
    omega
/-- Forks that may be a page of this size. -/
def okP (s n tx : Int) (l : List SF) : Bool := mayF l && decide (sizeW 0 l ≤ roomS s) && numB n && decide (tx ≤ 4611686018427387904)
def pageP (s n tx : Int) (l : List SF) : Int × Int × Int × Int × Int × ByteArray × Int := if okP s n tx l = true then (3, (l.length : Int), n, 0, tx, padS (roomS s) (l.flatMap forkL), 0) else (0, 0, 0, 0, 0, (⟨#[]⟩ : ByteArray), 2)
theorem put1 (l : List Int) (n : Int) : putL l n 1 = l ++ le n 1 := by
  unfold putL
  rw [if_pos (by decide)]
  rfl
theorem bpage_loop (s n tx : Int) (l : List SF) (hl : l.length < 1000000) (hs : sizeN l ≤ 100000) : ∀ (d i k : Nat) (acc : List Int), i + d = l.length → d + 13 ≤ k → acc.length + sizeN (l.drop i) ≤ 8000000 →
    branch_Page.l0 k s n tx l acc l (l.length : Int) (i : Int) = (frame_Body.f s (acc ++ (l.drop i).flatMap forkL)).bind fun bt => some (3, (l.length : Int), n, 0, tx, bt.1, 0)
  | d, i, 0, acc, _, h, _ => by omega
  | 0, i, k + 1, acc, hi, hk, ha => by
    rw [branch_Page.l0, if_neg (by omega), List.drop_of_length_le (by omega), List.flatMap_nil, List.append_nil]
  | d + 1, i, k + 1, acc, hi, hk, ha => by
    have hw2 : wrap64 ((i : Int) + 1) = ((i + 1 : Nat) : Int) := by unfold wrap64; omega
    rw [drop_F l i (by omega), sizeN_cons] at ha
    rw [branch_Page.l0, if_pos (by omega), if_pos (by omega), if_pos (by omega), put_is k acc _ 1 (by omega) (by omega), bs, put1, if_pos (by rw [List.length_append, le_length]; omega), put_is k _ _ 4 (by omega) (by rw [List.length_append, List.length_append, le_length, bytesOf_length]; omega), bs, put4, hw2,
      bpage_loop s n tx l hl hs d (i + 1) k _ (by omega) (by omega) (by rw [List.length_append, List.length_append, List.length_append, le_length, le_length, bytesOf_length]; omega), drop_F l i (by omega), List.flatMap_cons]
    congr 2
    simp only [forkL, List.append_assoc]
theorem pageP_bad {s n tx : Int} {l : List SF} (h : okP s n tx l = false) : some (pageP s n tx l) = some (0, 0, 0, 0, 0, (⟨#[]⟩ : ByteArray), 2) := by
  unfold pageP
  rw [h, if_neg (by decide)]
theorem good_of_room {s : Int} (h : 0 < roomS s) : goodS s = true := by
  unfold roomS at h
  split at h
  · assumption
  · omega
theorem bpage_end (k : Nat) (s n tx : Int) (l : List SF) (b : Bool) (hl : l.length < 1000000) (hs : (sizeN l : Int) ≤ roomS s) (h0 : 0 < l.length) (hk : l.length + 14 ≤ k) :
    branch_Page.j0 k s n tx l b = some (if b = true then (0, 0, 0, 0, 0, (⟨#[]⟩ : ByteArray), 2) else (3, (l.length : Int), n, 0, tx, padS (roomS s) (l.flatMap forkL), 0)) := by
  have hr := roomS_range s
  have hsl := sizeN_length l
  obtain ⟨k, rfl⟩ : ∃ j, k = j + 1 := ⟨k - 1, by omega⟩
  rw [branch_Page.j0]
  cases b with
  | true => rw [if_pos rfl, if_pos rfl]
  | false =>
    rw [if_neg (by decide), if_neg (by decide), show (0 : Int) = ((0 : Nat) : Int) from rfl, bpage_loop s n tx l hl (by omega) l.length 0 k [] (by omega) (by omega) (by simp; omega), List.drop_zero, List.nil_append, body_is s _ (good_of_room (by omega)) (by rw [forks_length]; exact hs), bs]
    rfl
theorem bpage_is (k : Nat) (s n tx : Int) (l : List SF) (hl : l.length ≤ 100000000000000) (hk : l.length + 1000 ≤ k) : branch_Page.f k s n tx l = some (pageP s n tx l) := by
  have hr := roomS_range s
  have hbad : branch_Page.j0 k s n tx l true = some (0, 0, 0, 0, 0, (⟨#[]⟩ : ByteArray), 2) := by
    obtain ⟨k, rfl⟩ : ∃ j, k = j + 1 := ⟨k - 1, by omega⟩
    rw [branch_Page.j0, if_pos rfl]
  unfold branch_Page.f
  rw [may_is l (by omega) k (by omega), bs]
  cases h1 : mayF l with
  | false => rw [if_neg (by decide), hbad, pageP_bad (by unfold okP; simp [h1])]
  | true =>
    rw [if_pos rfl, size_is l (by omega) k (by omega), bs, room_is, bs]
    by_cases h2 : sizeW 0 l > roomS s
    · rw [if_pos h2, hbad, pageP_bad (by unfold okP; simp [show ¬ (sizeW 0 l ≤ roomS s) by omega])]
    · rw [if_neg h2, bnumber_is, bs]
      have h3 := mayF_size h1 hl
      have h4 := sizeN_length l
      cases h5 : numB n with
      | false => rw [if_neg (by decide), hbad, pageP_bad (by unfold okP; simp [h5])]
      | true =>
        rw [if_pos rfl, bpage_end k s n tx l _ (by omega) (by omega) (mayF_pos h1) (by omega)]
        congr 1
        unfold pageP okP
        by_cases h6 : tx > 4611686018427387904
        · simp [h6, show ¬ (tx ≤ 4611686018427387904) by omega]
        · simp [h6, show tx ≤ 4611686018427387904 by omega, h1, h5, show sizeW 0 l ≤ roomS s by omega]
/-- How many forks stand ahead of the first one that begins behind the key. -/
def fa (key : List UInt8) : List SF → Nat
  | [] => 0
  | f :: l => if Op.bytesLess key f.f0.toList = true then 0 else fa key l + 1
theorem pick_up (l : List SF) (key : ByteArray) (hl : l.length < 4611686018427387904) : ∀ (d i k : Nat), i + d = l.length → d < k → branch_Pick.l0 k key ((i - 1 : Nat) : Int) l (l.length : Int) (i : Int) = some ((i + fa key.toList (l.drop i) - 1 : Nat) : Int)
  | d, i, 0, _, h => by omega
  | 0, i, k + 1, hi, _ => by
    rw [branch_Pick.l0, if_neg (by omega), List.drop_of_length_le (by omega)]
    rfl
  | d + 1, i, k + 1, hi, hk => by
    have hw2 : wrap64 ((i : Int) + 1) = ((i + 1 : Nat) : Int) := by unfold wrap64; omega
    have ih := pick_up l key hl d (i + 1) k (by omega) (by omega)
    rw [show i + 1 - 1 = i from rfl] at ih
    rw [branch_Pick.l0, if_pos (by omega), if_pos (by omega), if_pos (by omega), drop_F l i (by omega), fa]
    by_cases h : Op.bytesLess key.toList (rd_T46 l (i : Int)).f0.toList = true
    · rw [if_pos h, if_pos h]
      rfl
    · rw [if_neg h, if_neg h, hw2, ih]
      congr 2
      omega
theorem fpick_is (l : List SF) (key : ByteArray) (hl : l.length < 4611686018427387904) (k : Nat) (hk : l.length < k) : branch_Pick.f k l key = some ((fa key.toList l - 1 : Nat) : Int) := by
  unfold branch_Pick.f
  refine Eq.trans (pick_up l key hl l.length 0 k (by omega) hk) ?_
  rw [Nat.zero_add, List.drop_zero]
end Go.Proofs.Ytlkfcabklaaacaa.Q

namespace Go.Proofs.Ytlkfcabklaaacaa.P
open Go.RowKit Go.Proofs.YtlkfcabklaaacaaW.PrintWords Go.Proofs.YtlkfcabklaaacaaW.PrintLast Go.Proofs.YtlkfcabklaaacaaW.PrintMore
attribute [local go_sem] max2_int min2_int max_two min_two max_three min_three max_four min_four   -- for this text's walks alone
open Go.Proofs.YtlkfcabklaaacaaO
attribute [local go_sem] min2_str max2_str
set_option linter.unusedVariables false
set_option linter.unusedSimpArgs false
attribute [local go_sem high] eqA39
/-! ### free_Of: function 28 -/
def free_Of.l0 : Nat → List Int → Int → Int → Int → Int → Int → Int → Int → ByteArray → ByteArray → Option (List Int × Int × Int)
  | 0, _, _, _, _, _, _, _, _, _, _ => none
  | k + 1, x2, x14, x15, x221000, x221001, x221002, x221003, x221004, x221005, x223000 => if x15 < x14 then ((octet_Reader_Number.f k x223000 4).bind fun bt223 => (if bt223.2.1 = 0 then (if x2.length < 35184372088832 then (free_Of.l0 k (x2 ++ [(bt223.1) % 4294967296]) x14 (wrap64 (x15 + 1)) x221000 x221001 x221002 x221003 x221004 x221005 bt223.2.2) else (none)) else (some (([] : List Int), 0, 4)))) else ((free_Page.f k (wrap64 ((x221005.size : Int) + 24)) x221002 x221003 x221004 x2).bind fun bt229 => (if bt229.2.2.2.2.2.2 = 0 then (if (!(bt229.1 == x221000) || (!(bt229.2.1 == x221001) || (!(bt229.2.2.1 == x221002) || (!(bt229.2.2.2.1 == x221003) || (!(bt229.2.2.2.2.1 == x221004) || (!(bt229.2.2.2.2.2.1.toList == x221005.toList))))))) = true then (some (([] : List Int), 0, 4)) else (some (x2, x221003, 0))) else (some (([] : List Int), 0, 4))))
def free_Of.f (k : Nat) (a0_0 : Int) (a0_1 : Int) (a0_2 : Int) (a0_3 : Int) (a0_4 : Int) (a0_5 : ByteArray) : Option (List Int × Int × Int) := (octet_New.f a0_5).bind fun t221 => (free_Of.l0 k ([] : List Int) a0_1 0 a0_0 a0_1 a0_2 a0_3 a0_4 a0_5 t221)
end Go.Proofs.Ytlkfcabklaaacaa.P

namespace Go.Proofs.Ytlkfcabklaaacaa.P
open Go.RowKit Go.Proofs.YtlkfcabklaaacaaW.PrintWords Go.Proofs.YtlkfcabklaaacaaW.PrintLast Go.Proofs.YtlkfcabklaaacaaW.PrintMore
attribute [local go_sem] max2_int min2_int max_two min_two max_three min_three max_four min_four   -- for this text's walks alone
open Go.Proofs.YtlkfcabklaaacaaO
attribute [local go_sem] min2_str max2_str
set_option linter.unusedVariables false
set_option linter.unusedSimpArgs false
/-! ### careenagekit_Same_uint32: function 21 -/
def careenagekit_Same_uint32.l0 : Nat → List Int → List Int → Int → Option (Bool)
  | 0, _, _, _ => none
  | k + 1, x0, x1, x5 => if x5 < (x0.length : Int) then (if 0 ≤ x5 then (if x5 < (x1.length : Int) then (if (rd x0 x5) = (rd x1 x5) then (careenagekit_Same_uint32.l0 k x0 x1 (wrap64 (x5 + 1))) else (some false)) else (none)) else (none)) else (some true)
def careenagekit_Same_uint32.f (k : Nat) (l0 : List Int) (l1 : List Int) : Option (Bool) := if (l0.length : Int) = (l1.length : Int) then (careenagekit_Same_uint32.l0 k l0 l1 0) else (some false)
end Go.Proofs.Ytlkfcabklaaacaa.P

namespace Go.Proofs.Ytlkfcabklaaacaa.P
open Go.RowKit Go.Proofs.YtlkfcabklaaacaaW.PrintWords Go.Proofs.YtlkfcabklaaacaaW.PrintLast Go.Proofs.YtlkfcabklaaacaaW.PrintMore
attribute [local go_sem] max2_int min2_int max_two min_two max_three min_three max_four min_four   -- for this text's walks alone
open Go.Proofs.YtlkfcabklaaacaaO
attribute [local go_sem] min2_str max2_str
set_option linter.unusedVariables false
set_option linter.unusedSimpArgs false
attribute [local go_sem high] eqA39
/-! ### careenageref10_Of: function 33 -/
def careenageref10_Of.l0 : Nat → List Int → Int → Int → Int → Int → Int → Int → ByteArray → ByteArray → Option (List Int × Int × Int)
  | 0, _, _, _, _, _, _, _, _, _ => none
  | k + 1, x6, x7, x361000, x361001, x361002, x361003, x361004, x361005, x363000 => if x7 < x361001 then ((careenageref01_Reader_Number.f k x363000 4).bind fun bt363 => (if bt363.2.1 = 0 then (if x6.length < 35184372088832 then (careenageref10_Of.l0 k (x6 ++ [(bt363.1) % 4294967296]) (wrap64 (x7 + 1)) x361000 x361001 x361002 x361003 x361004 x361005 bt363.2.2) else (none)) else (some (([] : List Int), 0, 4)))) else ((careenageref10_Page.f k (wrap64 ((x361005.size : Int) + 24)) x361002 x361003 x361004 x6).bind fun bt369 => (if bt369.2.2.2.2.2.2 = 0 then (if (!(bt369.1 == x361000) || (!(bt369.2.1 == x361001) || (!(bt369.2.2.1 == x361002) || (!(bt369.2.2.2.1 == x361003) || (!(bt369.2.2.2.2.1 == x361004) || (!(bt369.2.2.2.2.2.1.toList == x361005.toList))))))) = true then (some (([] : List Int), 0, 4)) else (some (x6, x361003, 0))) else (some (([] : List Int), 0, 4))))
def careenageref10_Of.f (k : Nat) (a0_0 : Int) (a0_1 : Int) (a0_2 : Int) (a0_3 : Int) (a0_4 : Int) (a0_5 : ByteArray) : Option (List Int × Int × Int) := (careenageref01_New.f a0_5).bind fun t361 => (careenageref10_Of.l0 k ([] : List Int) 0 a0_0 a0_1 a0_2 a0_3 a0_4 a0_5 t361)
end Go.Proofs.Ytlkfcabklaaacaa.P

namespace Go.Proofs.Ytlkfcabklaaacaa.P
open Go.RowKit Go.Proofs.YtlkfcabklaaacaaW.PrintWords Go.Proofs.YtlkfcabklaaacaaW.PrintLast Go.Proofs.YtlkfcabklaaacaaW.PrintMore
attribute [local go_sem] max2_int min2_int max_two min_two max_three min_three max_four min_four   -- for this text's walks alone
open Go.Proofs.YtlkfcabklaaacaaO
attribute [local go_sem] min2_str max2_str
set_option linter.unusedVariables false
set_option linter.unusedSimpArgs false
/-! ### careenagekit_Pick: function 18 -/
def careenagekit_Pick.f (a0 : Int) (a1 : Int) : Option (Int) := if a1 < 1 then (some 0) else (if a1 = 0 then (none) else (if (Int.tmod a0 a1) < 0 then (some (wrap64 ((Int.tmod a0 a1) + a1))) else (some (Int.tmod a0 a1))))
end Go.Proofs.Ytlkfcabklaaacaa.P

namespace Go.Proofs.Ytlkfcabklaaacaa.Q
set_option linter.unusedVariables false
set_option linter.unusedSimpArgs false
open Go.RowKit Go.Proofs.Ytlkfcabklaaacaa.P Go.Proofs.YtlkfcabklaaacaaW.PrintWords Go.Proofs.YtlkfcabklaaacaaW.PrintLast Go.Proofs.YtlkfcabklaaacaaW.PrintMore Go.Proofs.YtlkfcabklaaacaaO
theorem num4 (s : ByteArray) : numR s 4 = if s.size < 4 then (0, 7, s) else (ofLe ((B s).take 4), 0, s.extract 4 s.size) := by
  unfold numR
  rw [if_neg (by omega)]
  by_cases h : s.size < 4
  · rw [if_pos (by omega), if_pos h]
  · rw [if_neg (by omega), if_neg h]
    rfl
theorem page_same (a b c d e f : Int) (g : ByteArray) (p0 cnt p2 p3 p4 : Int) (p5 : ByteArray) (h : (!(a == p0) || (!(b == cnt) || (!(c == p2) || (!(d == p3) || (!(e == p4) || (!(g.toList == p5.toList))))))) = false) : (a, b, c, d, e, g) = (p0, cnt, p2, p3, p4, p5) := by
  simp only [Bool.or_eq_false_iff, Bool.not_eq_false', beq_iff_eq, toList_eq_iff] at h
  obtain ⟨rfl, rfl, rfl, rfl, rfl, rfl⟩ := h
  rfl
theorem isB_zeros (n : Nat) : isB (List.replicate n 0) := by
  intro x hx
  have := (List.mem_replicate.1 hx).2
  omega
theorem B_padS (m : Int) {l : List Int} (h : isB l) : B (padS m l) = l ++ List.replicate (m.toNat - l.length) 0 := B_str (isB_append h (isB_zeros _))
theorem size_padS (m : Int) (l : List Int) (h : (l.length : Int) ≤ m) : ((padS m l).size : Int) = m := by
  unfold padS
  rw [size_str, List.length_append, List.length_replicate]
  omega
theorem numB_lt {x : Int} (h : numB x = true) : 0 ≤ x ∧ x < 4294967296 := by
  unfold numB at h
  simp only [Bool.and_eq_true, decide_eq_true_eq] at h
  omega
theorem room_size {s : Int} (h : goodS s = true) : wrap64 (roomS s + 24) = s := by
  unfold roomS
  rw [if_pos h]
  unfold goodS at h
  simp only [Bool.and_eq_true, decide_eq_true_eq, beq_iff_eq] at h
  unfold wrap64
  omega
end Go.Proofs.Ytlkfcabklaaacaa.Q

namespace Go.Proofs.Ytlkfcabklaaacaa.Q
set_option linter.unusedVariables false
set_option linter.unusedSimpArgs false
open Go.RowKit Go.Proofs.Ytlkfcabklaaacaa.P Go.Proofs.YtlkfcabklaaacaaW.PrintWords Go.Proofs.YtlkfcabklaaacaaW.PrintLast Go.Proofs.YtlkfcabklaaacaaW.PrintMore Go.Proofs.YtlkfcabklaaacaaO
/-- One fork, read; none: there are too few bytes. -/
def forkR (s : ByteArray) : Option SF × ByteArray :=
  if s.size < 1 then (none, s) else
    if ((s.extract 1 s.size).size : Int) < ofLe ((B s).take 1) then (none, s.extract 1 s.size) else
      if ((s.extract 1 s.size).extract (ofLe ((B s).take 1)).toNat (s.extract 1 s.size).size).size < 4 then (none, (s.extract 1 s.size).extract (ofLe ((B s).take 1)).toNat (s.extract 1 s.size).size) else
        (some ⟨(s.extract 1 s.size).extract 0 (ofLe ((B s).take 1)).toNat, ofLe ((B ((s.extract 1 s.size).extract (ofLe ((B s).take 1)).toNat (s.extract 1 s.size).size)).take 4) % 4294967296⟩,
          ((s.extract 1 s.size).extract (ofLe ((B s).take 1)).toNat (s.extract 1 s.size).size).extract 4 ((s.extract 1 s.size).extract (ofLe ((B s).take 1)).toNat (s.extract 1 s.size).size).size)
theorem num1 (s : ByteArray) : numR s 1 = if s.size < 1 then (0, 7, s) else (ofLe ((B s).take 1), 0, s.extract 1 s.size) := by
  unfold numR
  rw [if_neg (by omega)]
  by_cases h : s.size < 1
  · rw [if_pos (by omega), if_pos h]
  · rw [if_neg (by omega), if_neg h]
    rfl
theorem bytes_nat (s : ByteArray) (n : Int) (h : 0 ≤ n) : bytesR s n = if (s.size : Int) < n then ((⟨#[]⟩ : ByteArray), 7, s) else (s.extract 0 n.toNat, 0, s.extract n.toNat s.size) := by
  unfold bytesR
  rw [if_neg (by omega)]
theorem one_byte (s : ByteArray) (h : ¬ s.size < 1) : 0 ≤ ofLe ((B s).take 1) ∧ ofLe ((B s).take 1) < 256 ∧ wrap64 (ofLe ((B s).take 1)) = ofLe ((B s).take 1) := by
  have hb := isB_take (isB_B s) 1
  have h1 := ofLe_nonneg hb
  have h2 := ofLe_lt hb
  have h3 : ((B s).take 1).length = 1 := by rw [List.length_take, B_length]; omega
  rw [h3] at h2
  exact ⟨h1, by omega, w64 (by omega) (by omega)⟩
theorem forkF_is (s : ByteArray) : forkF s = some (forkR s) := by
  unfold forkF forkR
  rw [num_is s 1 12 (by omega), bs, num1]
  by_cases h1 : s.size < 1
  · rw [if_pos h1, if_pos h1, if_neg (show ¬ ((7 : Int) = 0) by decide)]
  · obtain ⟨g0, g1, g2⟩ := one_byte s h1
    rw [if_neg h1, if_neg h1]
    simp only [if_true]
    rw [g2, bytes_is, bs, bytes_nat _ _ g0]
    by_cases h2 : ((s.extract 1 s.size).size : Int) < ofLe ((B s).take 1)
    · rw [if_pos h2, if_pos h2, if_neg (show ¬ ((7 : Int) = 0) by decide)]
    · rw [if_neg h2, if_neg h2]
      simp only [if_true]
      rw [num_is _ 4 12 (by omega), bs, num4]
      by_cases h3 : ((s.extract 1 s.size).extract (ofLe ((B s).take 1)).toNat (s.extract 1 s.size).size).size < 4
      · rw [if_pos h3, if_pos h3, if_neg (show ¬ ((7 : Int) = 0) by decide)]
      · rw [if_neg h3, if_neg h3]
        simp only [if_true]
theorem forkR_back (s : ByteArray) (f : SF) (rest : List Int) (h : B s = forkL f ++ rest) (hk : f.f0.size < 256) (hc : 0 ≤ f.f1 ∧ f.f1 < 4294967296) : ∃ s', forkR s = (some f, s') ∧ B s' = rest := by
  have hu : IntKind.u64.wrap (f.f0.size : Int) = (f.f0.size : Int) := u64w (by omega) (by omega)
  have hu2 : IntKind.u64.wrap f.f1 = f.f1 := u64w hc.1 (by omega)
  have hB : B s = le (f.f0.size : Int) 1 ++ (bytesOf f.f0 ++ (le f.f1 4 ++ rest)) := by rw [h]; unfold forkL; rw [hu, hu2]; simp only [List.append_assoc]
  have hsz : s.size = 5 + f.f0.size + rest.length := by rw [← B_length, hB]; simp only [List.length_append, le_length, bytesOf_length]; omega
  have ht : (B s).take 1 = le (f.f0.size : Int) 1 := by rw [hB, List.take_append_of_le_length (by rw [le_length]; omega), List.take_of_length_le (by rw [le_length]; omega)]
  have hn : ofLe ((B s).take 1) = (f.f0.size : Int) := by
    rw [ht, ofLe_le]
    have : (256 : Int) ^ 1 = 256 := by decide
    rw [this]
    omega
  have h1 : B (s.extract 1 s.size) = bytesOf f.f0 ++ (le f.f1 4 ++ rest) := by
    rw [B_drop, hB]
    exact List.drop_left' (le_length 1 _)
  have h2 : B ((s.extract 1 s.size).extract f.f0.size (s.extract 1 s.size).size) = le f.f1 4 ++ rest := by
    rw [B_drop, h1]
    exact List.drop_left' (bytesOf_length f.f0)
  have h3 : (s.extract 1 s.size).extract 0 f.f0.size = f.f0 := by
    refine B_inj ?_
    rw [B_take, h1]
    exact List.take_left' (bytesOf_length f.f0)
  have hs2 : ((s.extract 1 s.size).extract f.f0.size (s.extract 1 s.size).size).size = 4 + rest.length := by rw [← B_length, h2, List.length_append, le_length]
  refine ⟨((s.extract 1 s.size).extract f.f0.size (s.extract 1 s.size).size).extract 4 ((s.extract 1 s.size).extract f.f0.size (s.extract 1 s.size).size).size, ?_, ?_⟩
  · unfold forkR
    rw [hn, Int.toNat_natCast, if_neg (by omega), if_neg (by rw [ByteArray.size_extract]; omega), if_neg (by rw [hs2]; omega), h3, h2]
    have h4 : (le f.f1 4 ++ rest).take 4 = le f.f1 4 := by rw [List.take_append_of_le_length (by rw [le_length]; omega), List.take_of_length_le (by rw [le_length]; omega)]
    have h5 : ofLe (le f.f1 4) % 4294967296 = f.f1 := by
      rw [ofLe_le]
      have : (256 : Int) ^ 4 = 4294967296 := by decide
      rw [this]
      omega
    rw [h4, h5]
  · rw [B_drop, h2]
    exact List.drop_left' (le_length 4 _)
theorem read_back : ∀ (l acc : List SF) (j : Nat) (i : Nat) (s : ByteArray) (rest : List Int), B s = l.flatMap forkL ++ rest → l.length < j → (∀ f ∈ l, f.f0.size < 256 ∧ 0 ≤ f.f1 ∧ f.f1 < 4294967296) → acc.length + l.length ≤ 1000000 → i + l.length ≤ 1000000 →
    branch_Of.l0 j (i : Int) ((i + l.length : Nat) : Int) acc s = some (some (acc ++ l))
  | _, _, 0, _, _, _, _, h, _, _, _ => by omega
  | [], acc, j + 1, i, s, rest, hB, hj, hl, ha, hi => by
    rw [branch_Of.l0, if_neg (by simp), List.append_nil]
  | f :: l, acc, j + 1, i, s, rest, hB, hj, hl, ha, hi => by
    obtain ⟨h1, h2, h3⟩ := hl f (List.mem_cons_self ..)
    rw [List.length_cons] at hj ha hi
    obtain ⟨s', e1, e2⟩ := forkR_back s f (l.flatMap forkL ++ rest) (by rw [hB, List.flatMap_cons, List.append_assoc]) h1 ⟨h2, h3⟩
    have hw2 : wrap64 ((i : Int) + 1) = ((i + 1 : Nat) : Int) := by unfold wrap64; omega
    have ih := read_back l (acc ++ [f]) j (i + 1) s' rest e2 (by omega) (fun g hg => hl g (List.mem_cons_of_mem _ hg)) (by rw [List.length_append]; simp; omega) (by omega)
    rw [branch_Of.l0, if_pos (by rw [List.length_cons]; omega), forkF_is, bs, e1]
    simp only []
    rw [if_pos (by omega), hw2, List.length_cons, show i + (l.length + 1) = i + 1 + l.length by omega, ih, List.append_assoc]
    rfl
theorem okP_parts {s n tx : Int} {l : List SF} (h : okP s n tx l = true) : mayF l = true ∧ sizeW 0 l ≤ roomS s ∧ numB n = true ∧ tx ≤ 4611686018427387904 := by
  unfold okP at h
  simp only [Bool.and_eq_true, decide_eq_true_eq] at h
  exact ⟨h.1.1.1, h.1.1.2, h.1.2, h.2⟩
theorem isB_forks (l : List SF) : isB (l.flatMap forkL) := by
  intro x hx
  obtain ⟨f, _, hf⟩ := List.mem_flatMap.1 hx
  exact isB_append (isB_append (isB_le 1 _) (isB_B _)) (isB_le 4 _) x hf
/-- What is written is read again. -/
theorem bof_back {s n tx : Int} {l : List SF} (hl : l.length ≤ 100000000000000) (h : okP s n tx l = true) : branch_Of.f 3 (l.length : Int) n 0 tx (padS (roomS s) (l.flatMap forkL)) = some (l, 0) := by
  obtain ⟨h1, h2, h3, h4⟩ := okP_parts h
  have hr := roomS_range s
  have hz := mayF_size h1 hl
  have hz5 := sizeN_length l
  have hpos := mayF_pos h1
  have hg := good_of_room (s := s) (by omega)
  have hps := size_padS (roomS s) (l.flatMap forkL) (by rw [forks_length]; omega)
  have hbk := read_back l [] ((padS (roomS s) (l.flatMap forkL)).size + 1) 0 (padS (roomS s) (l.flatMap forkL)) _ (B_padS (roomS s) (isB_forks l)) (by omega) (fun f hf => ?_) (by simp; omega) (by omega)
  · unfold branch_Of.f
    rw [Nat.zero_add] at hbk
    rw [show (0 : Int) = ((0 : Nat) : Int) from rfl, hbk, bs]
    simp only [List.nil_append]
    rw [hps, room_size hg, bpage_is _ _ _ _ l hl (by omega), bs]
    unfold pageP
    rw [h, if_pos rfl]
    simp
  · obtain ⟨j, hj, rfl⟩ := rd_mem hf
    have ho := mayF_ok h1 j hj
    have := numB_lt ho.2.1
    exact ⟨by have := ho.1; omega, this.1, this.2⟩
theorem sameF_up (l : List SF) (hl : l.length < 1000000) : ∀ (d i k : Nat), i + d = l.length → d < k → api_Fork.l0 k l l (i : Int) = some true
  | d, i, 0, _, h => by omega
  | 0, i, k + 1, hi, _ => by rw [api_Fork.l0, if_neg (by omega)]
  | d + 1, i, k + 1, hi, hk => by
    have hw2 : wrap64 ((i : Int) + 1) = ((i + 1 : Nat) : Int) := by unfold wrap64; omega
    rw [api_Fork.l0, if_pos (by omega), if_pos (by omega), if_pos (by omega)]
    simp only [beq_self_eq_true, Bool.and_self, Bool.not_true, Bool.or_self, Bool.false_eq_true, if_false, if_true, hw2]
    exact sameF_up l hl d (i + 1) k (by omega) (by omega)
theorem sameF_is (l : List SF) (hl : l.length < 1000000) (k : Nat) (hk : l.length < k) : api_Fork.f k l l = some true := by
  unfold api_Fork.f
  rw [if_pos rfl]
  exact sameF_up l hl l.length 0 k (by omega) hk
end Go.Proofs.Ytlkfcabklaaacaa.Q

namespace Go.Proofs.Ytlkfcabklaaacaa.Pure
set_option linter.unusedVariables false
set_option linter.unusedSimpArgs false
open Go.RowKit Go.Proofs.Ytlkfcabklaaacaa.P Go.Proofs.YtlkfcabklaaacaaW.PrintWords Go.Proofs.YtlkfcabklaaacaaW.PrintLast Go.Proofs.YtlkfcabklaaacaaW.PrintMore Go.Proofs.YtlkfcabklaaacaaO Go.Proofs.Ytlkfcabklaaacaa.Q
theorem lives7 (k : Nat) (hk : 5 ≤ k) : careenagelaw07_lives.f k = some true := by
  unfold careenagelaw07_lives.f careenagelaw07_row.f
  rw [bs, fpick_is _ _ (by decide) k (by simp; omega), bs, if_pos (by decide +kernel), bs, fpick_is _ _ (by decide) k (by simp; omega), bs, if_pos (by decide +kernel), bs, fpick_is _ _ (by decide) k (by simp; omega), bs]
  decide +kernel
def rowL : List SF := [⟨(⟨#[]⟩ : ByteArray), 5⟩, ⟨(⟨#[98]⟩ : ByteArray), 6⟩, ⟨(⟨#[100]⟩ : ByteArray), 4⟩]
theorem row_is : careenagelaw07_row.f = some rowL := rfl
def tK : ByteArray := ⟨(List.replicate 39 107).toArray⟩
theorem times_is (k : Nat) (hk : 60 ≤ k) : careenagekit_Times.f k (⟨#[107]⟩ : ByteArray) 39 = some tK := by
  have h : ∀ d, careenagekit_Times.f (60 + d) (⟨#[107]⟩ : ByteArray) 39 = some tK := by
    intro d
    induction d with
    | zero => decide +kernel
    | succ d ih => exact careenagekit_Times.mono _ _ _ _ ih
  have := h (k - 60)
  rwa [show 60 + (k - 60) = k by omega] at this
theorem tK_size : tK.size = 39 := by decide +kernel
theorem room128 : roomS 128 = 104 := by decide +kernel
def dP : ByteArray := padS (roomS 128) (rowL.flatMap forkL)
theorem sizeP : (dP.size : Int) = 104 := by unfold dP; rw [size_padS _ _ (by decide +kernel), room128]
theorem okR : okP 128 7 9 rowL = true := by decide +kernel
theorem pgR : pageP 128 7 9 rowL = (3, 3, 7, 0, 9, dP, 0) := by unfold pageP; rw [if_pos okR]; rfl
theorem pgX (s n tx : Int) (l : List SF) (h : okP s n tx l = false) : pageP s n tx l = (0, 0, 0, 0, 0, (⟨#[]⟩ : ByteArray), 2) := by unfold pageP; rw [if_neg (by rw [h]; decide)]
theorem fmR : branch_Of.f 3 3 7 0 9 dP = some (rowL, 0) := bof_back (by decide) okR
theorem fmX : ∃ l, branch_Of.f 3 2 7 0 9 dP = some (l, 4) := by
  have h : (branch_Of.f 3 2 7 0 9 dP).map (fun x => x.2) = some 4 := by decide +kernel
  obtain ⟨x, h1, h2⟩ := Option.map_eq_some_iff.mp h
  exact ⟨x.1, by rw [h1, ← h2]⟩
theorem txP : (dP.extract 0 11).toList = ([0, 5, 0, 0, 0, 1, 98, 6, 0, 0, 0] : List UInt8) := by decide +kernel
theorem BranchNames : careenagelaw07_BranchNames.Pure := by
  suffices h : ∀ k, 6000 ≤ k → careenagelaw07_BranchNames.f k = some true from ⟨6000, h _ (Nat.le_refl _)⟩
  intro k hk
  have zP := sizeP
  have zK := tK_size
  obtain ⟨lx, fx⟩ := fmX
  unfold careenagelaw07_BranchNames.f
  rw [lives7 k (by omega), bs, if_pos rfl, row_is, bs, bpage_is k 128 7 9 rowL (by decide) (by simp [rowL]; omega), bs, pgR]
  dsimp only
  rw [fmR, bs, bpage_is k 128 7 9 [] (by simp) (by simp; omega), bs, pgX _ _ _ _ (by decide +kernel),
    bpage_is k 128 7 9 _ (by simp) (by simp; omega), bs, pgX _ _ _ _ (by decide +kernel),
    bpage_is k 128 7 9 _ (by simp) (by simp; omega), bs, pgX _ _ _ _ (by decide +kernel),
    times_is k (by omega), bs, if_pos (by omega),
    bpage_is k 128 7 9 _ (by simp) (by simp; omega), bs, pgX _ _ _ _ (by decide +kernel), if_pos (by decide +kernel),
    bpage_is k 128 7 9 _ (by simp) (by simp; omega), bs, pgX _ _ _ _ (by decide +kernel)]
  dsimp only
  rw [fx, bs, if_pos rfl, if_pos rfl, if_pos rfl, if_pos (by omega), if_pos (by decide), if_pos (by omega), if_pos txP, if_pos rfl,
    bs, sameF_is rowL (by decide) k (by simp [rowL]; omega), bs, if_pos rfl, if_pos rfl, if_pos rfl, if_pos rfl, if_pos rfl, if_pos rfl, if_pos rfl,
    bs, size_is rowL (by decide) k (by simp [rowL]; omega), bs, if_pos (by decide +kernel), fpick_is [] _ (by decide) k (by simp; omega), bs, if_pos (by decide +kernel)]
  unfold branch_Key.f
  rw [bs, if_pos (by decide +kernel), if_pos (by omega), bs]
  decide +kernel
end Go.Proofs.Ytlkfcabklaaacaa.Pure
