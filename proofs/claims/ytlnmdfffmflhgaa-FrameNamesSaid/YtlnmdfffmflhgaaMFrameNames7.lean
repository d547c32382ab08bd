/- The texts that the statement's row rests on, one behind the other. -/
import Derived.Test.YtlnmdfffmflhgaaMFrameNames6
import Derived.Test.YtlnmdfffmflhgaaMFrameNames1
import Derived.Test.YtlnmdfffmflhgaaMFrameNames3
import Derived.Test.YtlnmdfffmflhgaaMFrameNames5
import Derived.Test.YtlnmdfffmflhgaaMFrameNames4
import Derived.Test.YtlnmdfffmflhgaaMFrameNames2
namespace Go.Proofs.Ytlnmdfffmflhgaa.Q
set_option linter.unusedVariables false
set_option linter.unusedSimpArgs false
open Go.RowKit Go.Proofs.Ytlnmdfffmflhgaa.P Go.Proofs.YtlnmdfffmflhgaaW.PrintWords Go.Proofs.YtlnmdfffmflhgaaW.PrintLast Go.Proofs.YtlnmdfffmflhgaaW.PrintMore Go.Proofs.YtlnmdfffmflhgaaO
/-- The sizes of pages. -/
def goodS (a : Int) : Bool := decide (128 ≤ a) && decide (a ≤ 4096) && (Int.tmod a 64 == 0)
def roomS (a : Int) : Int := if goodS a = true then a - 24 else 0
theorem roomS_range (a : Int) : 0 ≤ roomS a ∧ roomS a ≤ 4072 := by
  unfold roomS goodS
  split
  · rename_i h
    simp only [Bool.and_eq_true, decide_eq_true_eq, beq_iff_eq] at h
    omega
  · omega
theorem good_is (a : Int) : device_Good.f a = some (goodS a) := by
  unfold device_Good.f goodS
  by_cases h1 : a ≥ 128
  · by_cases h2 : a ≤ 4096
    · simp [h1, h2]
    · simp [h1, h2]
  · have h3 : ¬ (128 ≤ a) := by omega
    simp [h3]
theorem room_is (a : Int) : frame_Room.f a = some (roomS a) := by
  unfold frame_Room.f
  rw [good_is, bs]
  unfold roomS
  by_cases h : goodS a = true
  · rw [if_pos h, if_pos h]
    unfold goodS at h
    simp only [Bool.and_eq_true, decide_eq_true_eq, beq_iff_eq] at h
    congr 1
    unfold wrap64
    omega
  · rw [if_neg h, if_neg h]
end Go.Proofs.Ytlnmdfffmflhgaa.Q

namespace Go.Proofs.Ytlnmdfffmflhgaa.P
open Go.RowKit Go.Proofs.YtlnmdfffmflhgaaW.PrintWords Go.Proofs.YtlnmdfffmflhgaaW.PrintLast Go.Proofs.YtlnmdfffmflhgaaW.PrintMore
attribute [local go_sem] max2_int min2_int max_two min_two max_three min_three max_four min_four   -- for this text's walks alone
open Go.Proofs.YtlnmdfffmflhgaaO
attribute [local go_sem] min2_str max2_str
set_option linter.unusedVariables false
set_option linter.unusedSimpArgs false
/-! ### careenageref01_Put: function 53 -/
mutual
def careenageref01_Put.j0 : Nat → Int → Int → List Int → Bool → Option (List Int)
  | 0, _, _, _, _ => none
  | k + 1, x1, x2, x7, x17 => if x17 = true then (some x7) else (careenageref01_Put.l0 k x1 x2 x7 0)
def careenageref01_Put.l0 : Nat → Int → Int → List Int → Int → Option (List Int)
  | 0, _, _, _, _ => none
  | k + 1, x1, x2, x7, x8 => if x8 < x2 then (if 0 ≤ (IntKind.u64.wrap (wrap64 (8 * x8))) then (if x7.length < 140737488355328 then (careenageref01_Put.l0 k x1 x2 (x7 ++ [(shr .u64 x1 (IntKind.u64.wrap (wrap64 (8 * x8)))) % 256]) (wrap64 (x8 + 1))) else (none)) else (none)) else (some x7)
end
def careenageref01_Put.f (k : Nat) (l0 : List Int) (a1 : Int) (a2 : Int) : Option (List Int) := (some (([] : List Int) : List Int)).bind fun y278 => (if y278.length + l0.length < 140737488355328 then ((some (y278 ++ l0 : List Int)).bind fun y281 => (if a2 < 1 then (careenageref01_Put.j0 k a1 a2 y281 true) else (careenageref01_Put.j0 k a1 a2 y281 (decide (a2 > 8))))) else (none))
end Go.Proofs.Ytlnmdfffmflhgaa.P

namespace Go.Proofs.Ytlnmdfffmflhgaa.Q
set_option linter.unusedVariables false
set_option linter.unusedSimpArgs false
open Go.RowKit Go.Proofs.Ytlnmdfffmflhgaa.P Go.Proofs.YtlnmdfffmflhgaaW.PrintWords Go.Proofs.YtlnmdfffmflhgaaW.PrintLast Go.Proofs.YtlnmdfffmflhgaaW.PrintMore Go.Proofs.YtlnmdfffmflhgaaO
theorem w64 {x : Int} (h0 : -9223372036854775808 ≤ x) (h1 : x ≤ 9223372036854775807) : wrap64 x = x := by
  unfold wrap64
  omega
theorem u64w {x : Int} (h0 : 0 ≤ x) (h1 : x < 18446744073709551616) : IntKind.u64.wrap x = x := by
  rw [IntKind.wrap_u64]
  omega
theorem pow8 (i : Nat) : (2 : Int) ^ (8 * i) = 256 ^ i := by
  rw [Int.pow_mul]
  rfl
theorem pow256_le {i : Nat} (h : i ≤ 8) : (256 : Int) ^ i ≤ 18446744073709551616 := by
  have : i = 0 ∨ i = 1 ∨ i = 2 ∨ i = 3 ∨ i = 4 ∨ i = 5 ∨ i = 6 ∨ i = 7 ∨ i = 8 := by omega
  rcases this with rfl | rfl | rfl | rfl | rfl | rfl | rfl | rfl | rfl <;> decide
theorem shr_byte (n : Int) (i : Nat) (h : i ≤ 8) : shr .u64 n (8 * (i : Int)) = n / 256 ^ i := by
  unfold shr
  rw [show min (8 * (i : Int)).toNat IntKind.u64.bits = 8 * i by simp only [IntKind.bits]; omega, pow8]
theorem shl_byte (b : Int) (i : Nat) (h : i ≤ 7) (hb : 0 ≤ b ∧ b < 256) : shl .u64 b (8 * (i : Int)) = b * 256 ^ i := by
  unfold shl
  rw [show min (8 * (i : Int)).toNat IntKind.u64.bits = 8 * i by simp only [IntKind.bits]; omega, pow8]
  have h1 := pow256_le (i := i + 1) (by omega)
  rw [pow_succ256] at h1
  have h2 := pow_pos256 i
  refine u64w (Int.mul_nonneg hb.1 (Int.le_of_lt h2)) ?_
  have h3 : b * 256 ^ i ≤ 255 * 256 ^ i := Int.mul_le_mul_of_nonneg_right (by omega) (Int.le_of_lt h2)
  omega
theorem or_byte (v b : Int) (i : Nat) (h : i ≤ 7) (hv : 0 ≤ v ∧ v < 256 ^ i) (hb : 0 ≤ b ∧ b < 256) : Go.bits .or .u64 v (b * 256 ^ i) = v + b * 256 ^ i := by
  have h1 := pow256_le (i := i + 1) (by omega)
  rw [pow_succ256] at h1
  have h2 := pow_pos256 i
  have h3 : b * 256 ^ i ≤ 255 * 256 ^ i := Int.mul_le_mul_of_nonneg_right (by omega) (Int.le_of_lt h2)
  have h4 : 0 ≤ b * 256 ^ i := Int.mul_nonneg hb.1 (Int.le_of_lt h2)
  rw [u64_or _ _ hv.1 (by omega) h4 (by omega)]
  obtain ⟨v, rfl⟩ := Int.eq_ofNat_of_zero_le hv.1
  obtain ⟨b, rfl⟩ := Int.eq_ofNat_of_zero_le hb.1
  have e : ((b : Int) * 256 ^ i) = ((b * 256 ^ i : Nat) : Int) := by rw [Int.natCast_mul, Int.natCast_pow]; rfl
  have hv2 : v < 2 ^ (8 * i) := by
    have := hv.2
    rw [Nat.pow_mul]
    have e2 : ((256 : Int) ^ i) = (((2 ^ 8) ^ i : Nat) : Int) := by rw [Int.natCast_pow]; rfl
    rw [e2] at this
    exact Int.ofNat_lt.1 this
  rw [e, Int.toNat_natCast, Int.toNat_natCast, Nat.or_comm, nat_join (8 * i) (b * 256 ^ i) v (by rw [Nat.pow_mul]; exact Nat.mul_mod_left _ _) hv2]
  omega
theorem le_drop : ∀ (K i : Nat) (n : Int), i < K → (le n K).drop i = (n / 256 ^ i % 256) :: (le n K).drop (i + 1)
  | 0, i, n, h => by omega
  | K + 1, 0, n, h => by simp [le]
  | K + 1, i + 1, n, h => by
    simp only [le, List.drop_succ_cons]
    rw [le_drop K i _ (by omega), pow_succ256, Int.ediv_ediv_of_nonneg (by decide)]
theorem put_l0 (n : Int) (K : Nat) (hK : K ≤ 8) : ∀ (d k i : Nat) (x : List Int), i + d = K → d < k → x.length + d ≤ 140737488355327 → octet_Put.l0 k n x K i = some (x ++ (le n K).drop i)
  | 0, k + 1, i, x, h, _, _ => by
    simp only [octet_Put.l0]
    rw [if_neg (by omega), List.drop_eq_nil_of_le (by rw [le_length]; omega), List.append_nil]
  | d + 1, k + 1, i, x, h, hk, hl => by
    simp only [octet_Put.l0]
    have e1 : wrap64 (8 * (i : Int)) = 8 * (i : Int) := w64 (by omega) (by omega)
    have e2 : wrap64 ((i : Int) + 1) = ((i + 1 : Nat) : Int) := by rw [w64 (by omega) (by omega)]; rfl
    rw [if_pos (by omega), e1, if_pos (by omega), if_pos (by omega), shr_byte n i (by omega), e2,
      put_l0 n K hK d k (i + 1) _ (by omega) (by omega) (by simp; omega), le_drop K i n (by omega)]
    simp
/-- What Put answers. -/
def putL (l : List Int) (n K : Int) : List Int := if 1 ≤ K ∧ K ≤ 8 then l ++ le n K.toNat else l
theorem put_is (k : Nat) (l : List Int) (n K : Int) (hk : 12 ≤ k) (hl : l.length ≤ 140737488355000) : octet_Put.f k l n K = some (putL l n K) := by
  obtain ⟨k, rfl⟩ : ∃ m, k = m + 2 := ⟨k - 2, by omega⟩
  unfold octet_Put.f putL
  have e1 : wrap64 ((l.length : Int) + 8) = (l.length : Int) + 8 := w64 (by omega) (by omega)
  rw [e1, if_pos (by omega), if_pos (by omega)]
  simp only [bs, List.nil_append]
  rw [if_pos (by simp; omega)]
  by_cases h1 : K < 1
  · rw [if_pos h1, if_neg (by omega)]
    simp [octet_Put.j0]
  · rw [if_neg h1]
    by_cases h2 : K > 8
    · rw [if_neg (by omega)]
      simp [octet_Put.j0, h2]
    · rw [if_pos (by omega)]
      obtain ⟨K, rfl⟩ := Int.eq_ofNat_of_zero_le (show 0 ≤ K by omega)
      simp only [octet_Put.j0, h2, decide_false]
      rw [if_neg (by decide), show (0 : Int) = ((0 : Nat) : Int) from rfl, put_l0 n K (by omega) K (k + 1) 0 l (by omega) (by omega) (by omega)]
      simp
end Go.Proofs.Ytlnmdfffmflhgaa.Q

namespace Go.Proofs.Ytlnmdfffmflhgaa.Q
set_option linter.unusedVariables false
set_option linter.unusedSimpArgs false
open Go.RowKit Go.Proofs.Ytlnmdfffmflhgaa.P Go.Proofs.YtlnmdfffmflhgaaW.PrintWords Go.Proofs.YtlnmdfffmflhgaaW.PrintLast Go.Proofs.YtlnmdfffmflhgaaW.PrintMore Go.Proofs.YtlnmdfffmflhgaaO
theorem put4 (l : List Int) (n : Int) : putL l n 4 = l ++ le n 4 := by
  unfold putL
  rw [if_pos (by decide)]
  rfl
/-- The bytes, and zeros behind them, as many as there is room for. -/
def padS (m : Int) (l : List Int) : ByteArray := strOfNums (l ++ List.replicate (m.toNat - l.length) 0)
theorem body_is (s : Int) (l : List Int) (hg : goodS s = true) (hl : (l.length : Int) ≤ roomS s) : frame_Body.f s l = some (padS (roomS s) l, 0) := by
  have hr := roomS_range s
  unfold frame_Body.f padded padS
  rw [good_is, bs, if_pos hg, room_is, bs, if_neg (by omega), if_pos (by omega)]
  rw [show min l.length (roomS s).toNat = l.length by omega, List.take_length, List.drop_replicate]
end Go.Proofs.Ytlnmdfffmflhgaa.Q

namespace Go.Proofs.Ytlnmdfffmflhgaa.Q
set_option linter.unusedVariables false
set_option linter.unusedSimpArgs false
open Go.RowKit Go.Proofs.Ytlnmdfffmflhgaa.P Go.Proofs.YtlnmdfffmflhgaaW.PrintWords Go.Proofs.YtlnmdfffmflhgaaW.PrintLast Go.Proofs.YtlnmdfffmflhgaaW.PrintMore Go.Proofs.YtlnmdfffmflhgaaO
theorem bt_get {s : ByteArray} {i : Nat} (h : i < (B s).length) : bt s (i : Int) = (B s)[i] := by rw [bt_B, rd_get h]
/-- What Number answers. -/
def numR (s : ByteArray) (n : Int) : Int × Int × ByteArray :=
  if n < 1 ∨ n > 8 then (0, 2, s) else if (s.size : Int) < n then (0, 7, s) else (ofLe ((B s).take n.toNat), 0, s.extract n.toNat s.size)
theorem ofLe_step {l : List Int} (hl : isB l) {i : Nat} (hi : i < l.length) (h8 : i ≤ 7) : Go.bits .or .u64 (ofLe (l.take i)) (shl .u64 (IntKind.u64.wrap l[i]) (8 * (i : Int))) = ofLe (l.take (i + 1)) := by
  have hb := hl l[i] (List.getElem_mem hi)
  have hv := ofLe_lt (isB_take hl i)
  rw [List.length_take, Nat.min_eq_left (by omega)] at hv
  rw [u64w hb.1 (by omega), shl_byte _ _ h8 hb, or_byte _ _ _ h8 ⟨ofLe_nonneg (isB_take hl i), hv⟩ hb, List.take_succ_eq_append_getElem hi, ofLe_snoc, List.length_take, Nat.min_eq_left (by omega)]
theorem num_l0 (s x : ByteArray) (e : Int) (hx : x.size ≤ 8) : ∀ (d k i : Nat), i + d = x.size → d < k → octet_Reader_Number.l0 k (ofLe ((B x).take i)) e x (x.size : Int) i s = some (ofLe (B x), e, s)
  | 0, k + 1, i, h, _ => by
    simp only [octet_Reader_Number.l0]
    rw [if_neg (by omega), List.take_of_length_le (by rw [B_length]; omega)]
  | d + 1, k + 1, i, h, hk => by
    have hi : i < (B x).length := by rw [B_length]; omega
    simp only [octet_Reader_Number.l0]
    rw [if_pos (by omega), if_pos (by omega), if_pos (by omega), w64 (x := 8 * (i : Int)) (by omega) (by omega), if_pos (by omega), bt_get hi, ofLe_step (isB_B x) hi (by omega), w64 (by omega) (by omega)]
    exact num_l0 s x e hx d k (i + 1) (by omega) (by omega)
theorem num_is (s : ByteArray) (n : Int) (k : Nat) (hk : 9 < k) : octet_Reader_Number.f k s n = some (numR s n) := by
  unfold octet_Reader_Number.f numR
  by_cases h1 : n < 1
  · rw [if_pos h1, if_pos (.inl h1)]
  · rw [if_neg h1]
    by_cases h2 : n > 8
    · rw [if_pos h2, if_pos (.inr h2)]
    · rw [if_neg h2, if_neg (by omega)]
      unfold octet_Reader_take.f
      by_cases h3 : n > (s.size : Int)
      · rw [if_pos h3, if_pos h3]
        simp only [bs]
        have := num_l0 s ⟨#[]⟩ 7 (by decide) 0 k 0 rfl (by omega)
        simpa [B_empty, ofLe] using this
      · rw [if_neg h3, if_neg h3, if_pos (by omega), if_pos (by omega)]
        simp only [bs]
        have hsz : (s.extract 0 n.toNat).size = n.toNat := by rw [ByteArray.size_extract]; omega
        have := num_l0 (s.extract n.toNat s.size) (s.extract 0 n.toNat) 0 (by omega) n.toNat k 0 (by omega) (by omega)
        rw [B_take] at this
        simpa [ofLe] using this
end Go.Proofs.Ytlnmdfffmflhgaa.Q

namespace Go.Proofs.Ytlnmdfffmflhgaa.P
open Go.RowKit Go.Proofs.YtlnmdfffmflhgaaW.PrintWords Go.Proofs.YtlnmdfffmflhgaaW.PrintLast Go.Proofs.YtlnmdfffmflhgaaW.PrintMore
attribute [local go_sem] max2_int min2_int max_two min_two max_three min_three max_four min_four   -- for this text's walks alone
open Go.Proofs.YtlnmdfffmflhgaaO
attribute [local go_sem] min2_str max2_str
set_option linter.unusedVariables false
set_option linter.unusedSimpArgs false
/-! ### careenagekit_Pick: function 18 -/
def careenagekit_Pick.f (a0 : Int) (a1 : Int) : Option (Int) := if a1 < 1 then (some 0) else (if a1 = 0 then (none) else (if (Int.tmod a0 a1) < 0 then (some (wrap64 ((Int.tmod a0 a1) + a1))) else (some (Int.tmod a0 a1))))
end Go.Proofs.Ytlnmdfffmflhgaa.P

namespace Go.Proofs.Ytlnmdfffmflhgaa.P
open Go.RowKit Go.Proofs.YtlnmdfffmflhgaaW.PrintWords Go.Proofs.YtlnmdfffmflhgaaW.PrintLast Go.Proofs.YtlnmdfffmflhgaaW.PrintMore
attribute [local go_sem] max2_int min2_int max_two min_two max_three min_three max_four min_four   -- for this text's walks alone
open Go.Proofs.YtlnmdfffmflhgaaO
attribute [local go_sem] min2_str max2_str
set_option linter.unusedVariables false
set_option linter.unusedSimpArgs false
/-- A state of type 90 at block g of W; what its slices lead to came in by w0. -/
def IsS90 (w0 W : World) (g : Nat) (f0 : ByteArray) : Prop := W.heap[g]? = some (.cells #[.string f0] 90 (0, 0)) ∧ w0.heap.size ≤ g
theorem IsS90.apart {w0 W : World} {g : Nat} {f0 : ByteArray} {α : Type} {d : Kd α} {e : Nat} {base : Nat} {ok : Nat → Prop} {v : Value} {xs : List α} (h : IsS90 w0 W g f0) (ho : d.R e W base ok v xs) (ht : ∀ q, q ∈ e :: d.E → q ≠ 90) : d.R e W base (fun k => ok k ∧ k ≠ g) v xs := by
  obtain ⟨hb, hg⟩ := h
  exact Kd.R_types ho hb ht
/-! ### careenageref01_New: function 55 -/
def careenageref01_New.f (a0 : ByteArray) : Option (ByteArray) := some a0
end Go.Proofs.Ytlnmdfffmflhgaa.P

namespace Go.Proofs.Ytlnmdfffmflhgaa.P
open Go.RowKit Go.Proofs.YtlnmdfffmflhgaaW.PrintWords Go.Proofs.YtlnmdfffmflhgaaW.PrintLast Go.Proofs.YtlnmdfffmflhgaaW.PrintMore
attribute [local go_sem] max2_int min2_int max_two min_two max_three min_three max_four min_four   -- for this text's walks alone
open Go.Proofs.YtlnmdfffmflhgaaO
attribute [local go_sem] min2_str max2_str
set_option linter.unusedVariables false
set_option linter.unusedSimpArgs false
/-! ### careenageref01_Reader_Number: function 56 -/
mutual
def careenageref01_Reader_Number.j0 : Nat → Int → Bool → ByteArray → Option (Int × Int × ByteArray)
  | 0, _, _, _ => none
  | k + 1, x1, x13, x1000 => if x13 = true then (some (0, 2, x1000)) else (if (x1000.size : Int) < x1 then (some (0, 7, x1000)) else (careenageref01_Reader_Number.l0 k x1 0 0 x1000))
def careenageref01_Reader_Number.l0 : Nat → Int → Int → Int → ByteArray → Option (Int × Int × ByteArray)
  | 0, _, _, _, _ => none
  | k + 1, x1, x6, x7, x1000 => if x7 < x1 then (if 0 ≤ x7 then (if x7 < (x1000.size : Int) then (if 0 ≤ (IntKind.u64.wrap (wrap64 (8 * x7))) then (careenageref01_Reader_Number.l0 k x1 (Go.bits .or .u64 x6 (shl .u64 (IntKind.u64.wrap (bt x1000 x7)) (IntKind.u64.wrap (wrap64 (8 * x7))))) (wrap64 (x7 + 1)) x1000) else (none)) else (none)) else (none)) else (if 0 ≤ x1 then (if x1 ≤ (x1000.size : Int) then (some (x6, 0, x1000.extract (x1 : Int).toNat x1000.size)) else (none)) else (none))
end
def careenageref01_Reader_Number.f (k : Nat) (s0_0 : ByteArray) (a1 : Int) : Option (Int × Int × ByteArray) := if a1 < 1 then (careenageref01_Reader_Number.j0 k a1 true s0_0) else (careenageref01_Reader_Number.j0 k a1 (decide (a1 > 8)) s0_0)
end Go.Proofs.Ytlnmdfffmflhgaa.P

namespace Go.Proofs.Ytlnmdfffmflhgaa.Q
set_option linter.unusedVariables false
set_option linter.unusedSimpArgs false
open Go.RowKit Go.Proofs.Ytlnmdfffmflhgaa.P Go.Proofs.YtlnmdfffmflhgaaW.PrintWords Go.Proofs.YtlnmdfffmflhgaaW.PrintLast Go.Proofs.YtlnmdfffmflhgaaW.PrintMore Go.Proofs.YtlnmdfffmflhgaaO
theorem isB_zeros (n : Nat) : isB (List.replicate n 0) := by
  intro x hx
  have := (List.mem_replicate.1 hx).2
  omega
theorem B_padS (m : Int) {l : List Int} (h : isB l) : B (padS m l) = l ++ List.replicate (m.toNat - l.length) 0 := B_str (isB_append h (isB_zeros _))
end Go.Proofs.Ytlnmdfffmflhgaa.Q

namespace Go.Proofs.Ytlnmdfffmflhgaa.Q
set_option linter.unusedVariables false
set_option linter.unusedSimpArgs false
open Go.RowKit Go.Proofs.Ytlnmdfffmflhgaa.P Go.Proofs.YtlnmdfffmflhgaaW.PrintWords Go.Proofs.YtlnmdfffmflhgaaW.PrintLast Go.Proofs.YtlnmdfffmflhgaaW.PrintMore Go.Proofs.YtlnmdfffmflhgaaO
theorem crcI_nn (c : Int) (s : ByteArray) : 0 ≤ crcI c s := by unfold crcI; exact Int.natCast_nonneg _
theorem crcI_lt (c : Int) (s : ByteArray) (h : c < 4294967296) : crcI c s < 4294967296 := by
  have := crcN_lt (c := c.toNat) (l := nb s) (by omega) (nb_lt s)
  unfold crcI
  omega
theorem more_is (c : Int) (s : ByteArray) (h0 : 0 ≤ c) (h1 : c < 4294967296) (hs : s.size < 4611686018427387904) : crc_More.f c s = some (crcI c s) := by
  unfold crc_More.f
  rw [if_pos ⟨h0, h1, hs⟩]
theorem of_is (s : ByteArray) (hs : s.size < 4611686018427387904) : crc_Of.f s = some (crcI 0 s) := by
  unfold crc_Of.f
  rw [more_is 0 s (by decide) (by decide) hs]
  rfl
end Go.Proofs.Ytlnmdfffmflhgaa.Q

namespace Go.Proofs.Ytlnmdfffmflhgaa.Q
set_option linter.unusedVariables false
set_option linter.unusedSimpArgs false
open Go.RowKit Go.Proofs.Ytlnmdfffmflhgaa.P Go.Proofs.YtlnmdfffmflhgaaW.PrintWords Go.Proofs.YtlnmdfffmflhgaaW.PrintLast Go.Proofs.YtlnmdfffmflhgaaW.PrintMore Go.Proofs.YtlnmdfffmflhgaaO
def mayP (s k n pg lk tx : Int) (b : ByteArray) : Bool := goodS s && decide (1 ≤ k) && decide (k ≤ 6) && decide (0 ≤ n) && decide (n ≤ 65535) && decide (pg ≤ 2147483647) && decide (lk ≤ 2147483647) && decide (tx ≤ 4611686018427387904) && ((b.size : Int) == roomS s)
theorem fmay_is (s k n pg lk tx : Int) (b : ByteArray) : frame_may.f s k n pg lk tx b = some (mayP s k n pg lk tx b) := by
  unfold frame_may.f mayP
  rw [good_is, bs, room_is, bs]
  cases goodS s with
  | false => simp
  | true =>
    rw [if_pos rfl]
    by_cases h1 : k ≥ 1
    · by_cases h2 : k ≤ 6
      · by_cases h3 : n ≥ 0
        · by_cases h4 : n ≤ 65535
          · by_cases h5 : pg ≤ 2147483647
            · by_cases h6 : lk ≤ 2147483647
              · by_cases h7 : tx ≤ 4611686018427387904
                · rw [if_pos h1, if_pos h2, if_pos h3, if_pos h4, if_pos h5, if_pos h6, if_pos h7, decide_eq_true (show 1 ≤ k from h1), decide_eq_true h2, decide_eq_true (show 0 ≤ n from h3), decide_eq_true h4, decide_eq_true h5, decide_eq_true h6, decide_eq_true h7]
                  simp
                · simp [h7]
              · simp [h6]
            · simp [h5]
          · simp [h4]
        · simp [show ¬ 0 ≤ n from h3]
      · simp [h2]
    · simp [show ¬ 1 ≤ k from h1]
theorem mayP_parts {s k n pg lk tx : Int} {b : ByteArray} (h : mayP s k n pg lk tx b = true) : goodS s = true ∧ 1 ≤ k ∧ k ≤ 6 ∧ 0 ≤ n ∧ n ≤ 65535 ∧ pg ≤ 2147483647 ∧ lk ≤ 2147483647 ∧ tx ≤ 4611686018427387904 ∧ (b.size : Int) = roomS s := by
  unfold mayP at h
  simp only [Bool.and_eq_true, decide_eq_true_eq, beq_iff_eq] at h
  obtain ⟨⟨⟨⟨⟨⟨⟨⟨h1, h2⟩, h3⟩, h4⟩, h5⟩, h6⟩, h7⟩, h8⟩, h9⟩ := h
  exact ⟨h1, h2, h3, h4, h5, h6, h7, h8, h9⟩
theorem good_rng {s : Int} (h : goodS s = true) : 128 ≤ s ∧ s ≤ 4096 ∧ roomS s = s - 24 := by
  have h2 := h
  unfold goodS at h2
  simp only [Bool.and_eq_true, decide_eq_true_eq, beq_iff_eq] at h2
  unfold roomS
  rw [if_pos h]
  omega
theorem putW (l : List Int) (v : Int) (d : Nat) (h : 1 ≤ d ∧ d ≤ 8) : putL l v (d : Int) = l ++ le v d := by
  unfold putL
  rw [if_pos (by omega), Int.toNat_natCast]
/-- The bytes of a head behind its check. -/
def headL (k n pg lk tx : Int) : List Int := le (IntKind.u64.wrap k) 1 ++ (le 1 1 ++ (le (IntKind.u64.wrap n) 2 ++ (le (IntKind.u64.wrap pg) 4 ++ (le (IntKind.u64.wrap lk) 4 ++ le tx 8))))
theorem headL_length (k n pg lk tx : Int) : (headL k n pg lk tx).length = 20 := by simp [headL, le_length]
theorem isB_headL (k n pg lk tx : Int) : isB (headL k n pg lk tx) := isB_append (isB_le _ _) (isB_append (isB_le _ _) (isB_append (isB_le _ _) (isB_append (isB_le _ _) (isB_append (isB_le _ _) (isB_le _ _)))))
theorem putAll_is (k n pg lk tx : Int) : putAll 12 (headV k n pg lk tx) [] = some (le 0 4 ++ headL k n pg lk tx) := by
  have e (l : List Int) (v : Int) (d : Nat) (t : List (Int × Int)) (h : 1 ≤ d ∧ d ≤ 8) (hl : l.length ≤ 1000) : putAll 12 ((v, (d : Int)) :: t) l = putAll 12 t (l ++ le v d) := by
    rw [P.putAll, put_is 12 l v d (by decide) (by omega), bs, putW l v d h]
  have h4 : (4 : Int) = ((4 : Nat) : Int) := rfl
  have h1 : (1 : Int) = ((1 : Nat) : Int) := rfl
  have h2 : (2 : Int) = ((2 : Nat) : Int) := rfl
  have h8 : (8 : Int) = ((8 : Nat) : Int) := rfl
  show putAll 12 [((0 : Int), ((4 : Nat) : Int)), (IntKind.u64.wrap k, ((1 : Nat) : Int)), ((1 : Int), ((1 : Nat) : Int)), (IntKind.u64.wrap n, ((2 : Nat) : Int)), (IntKind.u64.wrap pg, ((4 : Nat) : Int)), (IntKind.u64.wrap lk, ((4 : Nat) : Int)), (tx, ((8 : Nat) : Int))] [] = _
  rw [e _ _ _ _ (by omega) (by simp), e _ _ _ _ (by omega) (by simp [le_length]), e _ _ _ _ (by omega) (by simp [le_length]), e _ _ _ _ (by omega) (by simp [le_length]), e _ _ _ _ (by omega) (by simp [le_length]), e _ _ _ _ (by omega) (by simp [le_length]), e _ _ _ _ (by omega) (by simp [le_length]), P.putAll]
  unfold headL
  simp only [List.append_assoc, List.nil_append]
/-- A page's bytes behind its check, and all of them. -/
def restB (k n pg lk tx : Int) (b : ByteArray) : ByteArray := strOfNums (headL k n pg lk tx) ++ b
def pageB (k n pg lk tx : Int) (b : ByteArray) : ByteArray := strOfNums (le (crcI 0 (restB k n pg lk tx b)) 4) ++ restB k n pg lk tx b
theorem restB_size (k n pg lk tx : Int) (b : ByteArray) : (restB k n pg lk tx b).size = 20 + b.size := by
  unfold restB
  rw [ByteArray.size_append, size_str, headL_length]
theorem pageB_size (k n pg lk tx : Int) (b : ByteArray) : (pageB k n pg lk tx b).size = 24 + b.size := by
  unfold pageB
  rw [ByteArray.size_append, size_str, le_length, restB_size]
  omega
theorem B_restB (k n pg lk tx : Int) (b : ByteArray) : B (restB k n pg lk tx b) = headL k n pg lk tx ++ B b := by
  unfold restB
  rw [B_append, B_str (isB_headL _ _ _ _ _)]
theorem B_pageB (k n pg lk tx : Int) (b : ByteArray) : B (pageB k n pg lk tx b) = le (crcI 0 (restB k n pg lk tx b)) 4 ++ (headL k n pg lk tx ++ B b) := by
  unfold pageB
  rw [B_append, B_str (isB_le _ _), B_restB]
theorem fput_is (s k n pg lk tx : Int) (b : ByteArray) : frame_Put.f s k n pg lk tx b = some (if mayP s k n pg lk tx b = true then (pageB k n pg lk tx b, 0) else ((⟨#[]⟩ : ByteArray), 2)) := by
  unfold frame_Put.f frame_Put.fk
  rw [fmay_is, bs]
  cases hm : mayP s k n pg lk tx b with
  | false => rw [if_neg (by decide), if_neg (by decide)]
  | true =>
    obtain ⟨h1, _, _, _, _, _, _, _, h9⟩ := mayP_parts hm
    obtain ⟨g1, g2, g3⟩ := good_rng h1
    have hd : (le 0 4 ++ headL k n pg lk tx).drop 4 = headL k n pg lk tx := List.drop_left' (le_length 4 _)
    have hz : (strOfNums (headL k n pg lk tx) ++ b).size = 20 + b.size := restB_size k n pg lk tx b
    have hc := crcI_lt 0 (restB k n pg lk tx b) (by decide)
    have hc0 := crcI_nn 0 (restB k n pg lk tx b)
    rw [if_pos rfl, if_pos rfl, putAll_is, bs, if_pos (by rw [List.length_append, le_length]; omega), hd, if_pos (by rw [size_str, headL_length]; omega), of_is _ (by rw [hz]; omega), bs]
    rw [show crcI 0 (strOfNums (headL k n pg lk tx) ++ b) = crcI 0 (restB k n pg lk tx b) from rfl, u64w hc0 (by omega), put_is 12 _ _ _ (by decide) (by simp), bs, put4, List.nil_append, if_pos (by rw [size_str, le_length, hz]; omega)]
    rfl
theorem headR_step (n : Nat) (t : List Int) (s : ByteArray) (h : 1 ≤ n ∧ n ≤ 8) (hs : n ≤ s.size) (r : List Int) (s' : ByteArray) (ht : headR t (s.extract n s.size) = some (some r, s')) : headR ((n : Int) :: t) s = some (some (ofLe ((B s).take n) :: r), s') := by
  have hn : numR s (n : Int) = (ofLe ((B s).take n), 0, s.extract n s.size) := by
    unfold numR
    rw [if_neg (by omega), if_neg (by omega), Int.toNat_natCast]
  rw [headR, num_is s n 12 (by decide), bs, hn]
  simp only [if_true]
  rw [ht, bs]
  rfl
theorem drop_drop' (l : List Int) (a b : Nat) : (l.drop a).drop b = l.drop (a + b) := by rw [List.drop_drop]
/-- What the parts of a head are. -/
theorem headR_is (s : ByteArray) (h : 24 ≤ s.size) : headR widL s = some (some [ofLe ((B s).take 4), ofLe (((B s).drop 4).take 1), ofLe (((B s).drop 5).take 1), ofLe (((B s).drop 6).take 2), ofLe (((B s).drop 8).take 4), ofLe (((B s).drop 12).take 4), ofLe (((B s).drop 16).take 8)], strOfNums ((B s).drop 24)) := by
  obtain ⟨s1, h1⟩ : ∃ u, u = s.extract 4 s.size := ⟨_, rfl⟩
  have b1 : B s1 = (B s).drop 4 := by rw [h1, B_drop]
  obtain ⟨s2, h2⟩ : ∃ u, u = s1.extract 1 s1.size := ⟨_, rfl⟩
  have b2 : B s2 = (B s).drop 5 := by rw [h2, B_drop, b1, drop_drop']
  obtain ⟨s3, h3⟩ : ∃ u, u = s2.extract 1 s2.size := ⟨_, rfl⟩
  have b3 : B s3 = (B s).drop 6 := by rw [h3, B_drop, b2, drop_drop']
  obtain ⟨s4, h4⟩ : ∃ u, u = s3.extract 2 s3.size := ⟨_, rfl⟩
  have b4 : B s4 = (B s).drop 8 := by rw [h4, B_drop, b3, drop_drop']
  obtain ⟨s5, h5⟩ : ∃ u, u = s4.extract 4 s4.size := ⟨_, rfl⟩
  have b5 : B s5 = (B s).drop 12 := by rw [h5, B_drop, b4, drop_drop']
  obtain ⟨s6, h6⟩ : ∃ u, u = s5.extract 4 s5.size := ⟨_, rfl⟩
  have b6 : B s6 = (B s).drop 16 := by rw [h6, B_drop, b5, drop_drop']
  obtain ⟨s7, h7⟩ : ∃ u, u = s6.extract 8 s6.size := ⟨_, rfl⟩
  have b7 : B s7 = (B s).drop 24 := by rw [h7, B_drop, b6, drop_drop']
  have sz {u : ByteArray} {a : Nat} (hu : B u = (B s).drop a) : u.size = s.size - a := by rw [← B_length, hu, List.length_drop, B_length]
  have z1 := sz b1
  have z2 := sz b2
  have z3 := sz b3
  have z4 := sz b4
  have z5 := sz b5
  have z6 := sz b6
  have e7 : s7 = strOfNums ((B s).drop 24) := (str_B _).symm.trans (congrArg strOfNums b7)
  have q7 := headR_step 8 [] s6 (by omega) (by omega) [] s7 (by rw [← h7]; rfl)
  have q6 := headR_step 4 _ s5 (by omega) (by omega) _ _ (by rw [← h6]; exact q7)
  have q5 := headR_step 4 _ s4 (by omega) (by omega) _ _ (by rw [← h5]; exact q6)
  have q4 := headR_step 2 _ s3 (by omega) (by omega) _ _ (by rw [← h4]; exact q5)
  have q3 := headR_step 1 _ s2 (by omega) (by omega) _ _ (by rw [← h3]; exact q4)
  have q2 := headR_step 1 _ s1 (by omega) (by omega) _ _ (by rw [← h2]; exact q3)
  have q1 := headR_step 4 _ s (by omega) (by omega) _ _ (by rw [← h1]; exact q2)
  rw [b1, b2, b3, b4, b5, b6, e7] at q1
  exact q1
abbrev P7 := Int × Int × Int × Int × Int × ByteArray × Int
def badP (e : Int) : P7 := (0, 0, 0, 0, 0, (⟨#[]⟩ : ByteArray), e)
def getC (s : ByteArray) : Int := ofLe ((B s).take 4)
def getK (s : ByteArray) : Int := ofLe (((B s).drop 4).take 1)
def getV (s : ByteArray) : Int := ofLe (((B s).drop 5).take 1)
def getN (s : ByteArray) : Int := ofLe (((B s).drop 6).take 2)
def getP (s : ByteArray) : Int := ofLe (((B s).drop 8).take 4)
def getL (s : ByteArray) : Int := ofLe (((B s).drop 12).take 4)
def getT (s : ByteArray) : Int := ofLe (((B s).drop 16).take 8)
def getB (s : ByteArray) : ByteArray := strOfNums ((B s).drop 24)
def getS (a0 a1 : Int) (s : ByteArray) : P7 :=
  if goodS a0 = true then (if (s.size : Int) = a0 then (if mayP a0 (getK s) (getN s) (getP s) (getL s) (getT s) (getB s) = true ∧ getV s = 1 ∧ getP s = a1 ∧ getC s = crcI 0 (s.extract 4 s.size) then (getK s, getN s, getP s, getL s, getT s, getB s, 0) else badP 4) else badP 4) else badP 2
theorem part_rng (s : ByteArray) (a n : Nat) : 0 ≤ ofLe (((B s).drop a).take n) ∧ ofLe (((B s).drop a).take n) < 256 ^ n := by
  have hB : isB (((B s).drop a).take n) := isB_take (isB_drop (isB_B s) a) n
  have h1 := ofLe_lt hB
  have h2 : (256 : Int) ^ (((B s).drop a).take n).length ≤ 256 ^ n := by
    have hn : (((B s).drop a).take n).length ≤ n := by rw [List.length_take]; omega
    have hp := Nat.pow_le_pow_right (n := 256) (by decide) hn
    have e (j : Nat) : (256 : Int) ^ j = ((256 ^ j : Nat) : Int) := by rw [Int.natCast_pow]; rfl
    rw [e, e]
    exact Int.ofNat_le.2 hp
  exact ⟨ofLe_nonneg hB, by omega⟩
theorem fget_is (a0 a1 : Int) (s : ByteArray) : frame_Get.f a0 a1 s = some (getS a0 a1 s) := by
  unfold frame_Get.f getS
  rw [good_is, bs]
  cases hg : goodS a0 with
  | false => rfl
  | true =>
    rw [if_pos rfl, if_pos rfl]
    by_cases hs : (s.size : Int) = a0
    · obtain ⟨g1, g2, g3⟩ := good_rng hg
      rw [if_pos hs, if_pos hs, headR_is s (by omega), bs]
      simp only []
      unfold frame_Get.fin
      have r1 := part_rng s 4 1
      have r3 := part_rng s 6 2
      have r4 := part_rng s 8 4
      have r5 := part_rng s 12 4
      have p1 : (256 : Int) ^ 1 = 256 := by decide
      have p2 : (256 : Int) ^ 2 = 65536 := by decide
      have p4 : (256 : Int) ^ 4 = 4294967296 := by decide
      rw [p1] at r1
      rw [p2] at r3
      rw [p4] at r4 r5
      have hc := crcI_lt 0 (s.extract 4 s.size) (by decide)
      have hc0 := crcI_nn 0 (s.extract 4 s.size)
      rw [show wrap64 (ofLe (((B s).drop 4).take 1)) = getK s from w64 (by omega) (by omega), show wrap64 (ofLe (((B s).drop 6).take 2)) = getN s from w64 (by omega) (by omega), show ofLe (((B s).drop 8).take 4) % 4294967296 = getP s from Int.emod_eq_of_lt r4.1 r4.2, show ofLe (((B s).drop 12).take 4) % 4294967296 = getL s from Int.emod_eq_of_lt r5.1 r5.2,
        show ofLe (((B s).drop 16).take 8) = getT s from rfl, show strOfNums ((B s).drop 24) = getB s from rfl, show ofLe (((B s).drop 5).take 1) = getV s from rfl, show ofLe ((B s).take 4) = getC s from rfl, fmay_is, bs]
      cases hm : mayP a0 (getK s) (getN s) (getP s) (getL s) (getT s) (getB s) with
      | false => rw [if_neg (by decide), if_neg (fun z => by cases z.1)]; rfl
      | true =>
        rw [if_pos rfl]
        by_cases h2 : getV s = 1
        · rw [if_pos h2]
          by_cases h3 : getP s = a1
          · rw [if_pos h3, if_pos (by omega), of_is _ (by rw [ByteArray.size_extract]; omega), bs, u64w hc0 (by omega)]
            by_cases h4 : getC s = crcI 0 (s.extract 4 s.size)
            · rw [if_pos h4, if_pos ⟨rfl, h2, h3, h4⟩]
            · rw [if_neg h4, if_neg (fun z => h4 z.2.2.2)]; rfl
          · rw [if_neg h3, if_neg (fun z => h3 z.2.2.1)]; rfl
        · rw [if_neg h2, if_neg (fun z => h2 z.2.1)]; rfl
    · rw [if_neg hs, if_neg hs]; rfl
/-- What is written is read again. -/
theorem pageB_parts {k n pg lk tx : Int} {b : ByteArray} (hk : 0 ≤ k ∧ k < 256) (hn : 0 ≤ n ∧ n < 65536) (hp : 0 ≤ pg ∧ pg < 4294967296) (hl : 0 ≤ lk ∧ lk < 4294967296) (ht : 0 ≤ tx ∧ tx < 18446744073709551616) :
    getK (pageB k n pg lk tx b) = k ∧ getV (pageB k n pg lk tx b) = 1 ∧ getN (pageB k n pg lk tx b) = n ∧ getP (pageB k n pg lk tx b) = pg ∧ getL (pageB k n pg lk tx b) = lk ∧ getT (pageB k n pg lk tx b) = tx ∧ getB (pageB k n pg lk tx b) = b ∧ getC (pageB k n pg lk tx b) = crcI 0 (restB k n pg lk tx b) ∧ (pageB k n pg lk tx b).extract 4 (pageB k n pg lk tx b).size = restB k n pg lk tx b := by
  have hB := B_pageB k n pg lk tx b
  have hc := crcI_lt 0 (restB k n pg lk tx b) (by decide)
  have hc0 := crcI_nn 0 (restB k n pg lk tx b)
  generalize crcI 0 (restB k n pg lk tx b) = c at hB hc hc0 ⊢
  generalize hs : pageB k n pg lk tx b = s at hB
  unfold headL at hB
  simp only [List.append_assoc] at hB
  have d4 : (B s).drop 4 = le (IntKind.u64.wrap k) 1 ++ (le 1 1 ++ (le (IntKind.u64.wrap n) 2 ++ (le (IntKind.u64.wrap pg) 4 ++ (le (IntKind.u64.wrap lk) 4 ++ (le tx 8 ++ B b))))) := by rw [hB]; exact List.drop_left' (le_length 4 _)
  have dn {a m : Nat} {v : Int} {rest : List Int} (h : (B s).drop a = le v m ++ rest) : (B s).drop (a + m) = rest := by rw [← drop_drop', h]; exact List.drop_left' (le_length m _)
  have tk {a m : Nat} {v : Int} {rest : List Int} (h : (B s).drop a = le v m ++ rest) : ((B s).drop a).take m = le v m := by rw [h]; exact List.take_left' (le_length m _)
  have d5 := dn d4
  have d6 := dn d5
  have d8 := dn d6
  have d12 := dn d8
  have d16 := dn d12
  have d24 := dn d16
  have p1 : (256 : Int) ^ 1 = 256 := by decide
  have p2 : (256 : Int) ^ 2 = 65536 := by decide
  have p4 : (256 : Int) ^ 4 = 4294967296 := by decide
  have p8 : (256 : Int) ^ 8 = 18446744073709551616 := by decide
  have u1 : IntKind.u64.wrap k = k := u64w hk.1 (by omega)
  have u2 : IntKind.u64.wrap n = n := u64w hn.1 (by omega)
  have u3 : IntKind.u64.wrap pg = pg := u64w hp.1 (by omega)
  have u4 : IntKind.u64.wrap lk = lk := u64w hl.1 (by omega)
  unfold getK getV getN getP getL getT getB getC
  refine ⟨?_, ?_, ?_, ?_, ?_, ?_, ?_, ?_, ?_⟩
  · rw [tk d4, ofLe_le, u1, p1]; omega
  · rw [tk d5, ofLe_le, p1]; decide
  · rw [tk d6, ofLe_le, u2, p2]; omega
  · rw [tk d8, ofLe_le, u3, p4]; omega
  · rw [tk d12, ofLe_le, u4, p4]; omega
  · rw [tk d16, ofLe_le, p8]; omega
  · rw [d24, str_B]
  · rw [hB, List.take_left' (le_length 4 _), ofLe_le, p4]; omega
  · refine B_inj ?_
    rw [B_drop, d4, B_restB]
    unfold headL
    try simp only [List.append_assoc]
theorem get_put {s k n pg lk tx : Int} {b : ByteArray} (h : mayP s k n pg lk tx b = true) (hp : 0 ≤ pg) (hl : 0 ≤ lk) (ht : 0 ≤ tx) (a1 : Int) :
    getS s a1 (pageB k n pg lk tx b) = if pg = a1 then (k, n, pg, lk, tx, b, 0) else badP 4 := by
  obtain ⟨h1, h2, h3, h4, h5, h6, h7, h8, h9⟩ := mayP_parts h
  obtain ⟨g1, g2, g3⟩ := good_rng h1
  obtain ⟨e1, e2, e3, e4, e5, e6, e7, e8, e9⟩ := pageB_parts (b := b) (k := k) (n := n) (pg := pg) (lk := lk) (tx := tx) ⟨by omega, by omega⟩ ⟨h4, by omega⟩ ⟨hp, by omega⟩ ⟨hl, by omega⟩ ⟨ht, by omega⟩
  have hz := pageB_size k n pg lk tx b
  unfold getS
  rw [if_pos h1, if_pos (by omega), e1, e2, e3, e4, e5, e6, e7, e8, e9]
  by_cases ha : pg = a1
  · rw [if_pos ha, if_pos ⟨h, rfl, ha, rfl⟩]
  · rw [if_neg ha, if_neg (fun z => ha z.2.2.1)]
theorem rep2 (l : List Int) : ∀ q : Nat, (List.replicate q (l ++ l)).flatten = (List.replicate (2 * q) l).flatten
  | 0 => rfl
  | q + 1 => by
    rw [show 2 * (q + 1) = 2 * q + 1 + 1 by omega, List.replicate_succ, List.replicate_succ, List.replicate_succ, List.flatten_cons, List.flatten_cons, List.flatten_cons, rep2 l q, List.append_assoc]
/-- A string, so many times. -/
theorem times_l0 : ∀ (k n : Nat) (s acc : ByteArray), n < 2 ^ k → n ≤ 1000000 → s.size * (2 * n) ≤ 1000000000000 → acc.size + s.size * n ≤ 1000000000000 → ∃ r, careenagekit_Times.l0 (k + 1) s (n : Int) acc = some r ∧ B r = B acc ++ (List.replicate n (B s)).flatten
  | 0, n, s, acc, h, _, _, _ => by
    obtain rfl : n = 0 := by omega
    exact ⟨acc, by rw [careenagekit_Times.l0, if_neg (by decide)], by rw [List.replicate_zero, List.flatten_nil, List.append_nil]⟩
  | k + 1, n, s, acc, h, hn, h1, h2 => by
    by_cases h0 : n = 0
    · subst h0
      exact ⟨acc, by rw [careenagekit_Times.l0, if_neg (by decide)], by rw [List.replicate_zero, List.flatten_nil, List.append_nil]⟩
    · obtain ⟨q, hq⟩ : ∃ q, q = n / 2 := ⟨_, rfl⟩
      have hqn : n = 2 * q ∨ n = 2 * q + 1 := by omega
      have hw : wrap64 (Int.tdiv (n : Int) 2) = (q : Int) := by
        rw [Int.tdiv_eq_ediv_of_nonneg (by omega)]
        unfold wrap64
        omega
      have hm : Int.tmod (n : Int) 2 = (n : Int) % 2 := Int.tmod_eq_emod_of_nonneg (by omega)
      have h2k : q < 2 ^ k := by rw [Nat.pow_succ] at h; omega
      have hs1 : s.size * 1 ≤ s.size * n := Nat.mul_le_mul_left _ (by omega)
      have hs2 : s.size * (2 * n) = 2 * (s.size * n) := by rw [Nat.mul_left_comm]
      have hz : (s ++ s).size = 2 * s.size := by rw [ByteArray.size_append]; omega
      have hq4 : (s ++ s).size * (2 * q) ≤ 1000000000000 := by
        rw [hz, show 2 * s.size * (2 * q) = s.size * (2 * (2 * q)) by rw [Nat.mul_comm 2 s.size, Nat.mul_assoc]]
        exact Nat.le_trans (Nat.mul_le_mul_left _ (by omega)) h1
      have hsq : (s ++ s).size * q = s.size * (2 * q) := by rw [hz, Nat.mul_comm 2 s.size, Nat.mul_assoc]
      rw [careenagekit_Times.l0, if_pos (by omega), hm, hw]
      rcases hqn with he | he
      · have hsn : s.size * n = s.size * (2 * q) := by rw [he]
        obtain ⟨r, e1, e2⟩ := times_l0 k q (s ++ s) acc h2k (by omega) hq4 (by omega)
        refine ⟨r, ?_, ?_⟩
        · rw [if_neg (by omega), if_pos (by omega)]
          exact e1
        · rw [e2, B_append, rep2, ← he]
      · have hsn : s.size * n = s.size * (2 * q) + s.size := by rw [he, Nat.mul_succ]
        obtain ⟨r, e1, e2⟩ := times_l0 k q (s ++ s) (acc ++ s) h2k (by omega) hq4 (by rw [ByteArray.size_append]; omega)
        refine ⟨r, ?_, ?_⟩
        · rw [if_pos (by omega), if_pos (by omega), if_pos (by omega)]
          exact e1
        · rw [e2, B_append, B_append, rep2, he, List.replicate_succ, List.flatten_cons, List.append_assoc]
theorem times_is (k n : Nat) (s : ByteArray) (hk : 21 ≤ k) (hn : n ≤ 1000000) (hs : s.size ≤ 1000) : ∃ r, careenagekit_Times.f k s (n : Int) = some r ∧ B r = (List.replicate n (B s)).flatten := by
  obtain ⟨m, rfl⟩ : ∃ m, k = m + 1 := ⟨k - 1, by omega⟩
  have hp : 2 ^ 20 ≤ 2 ^ m := Nat.pow_le_pow_right (by decide) (by omega)
  have h1 : s.size * n ≤ 1000 * 1000000 := Nat.mul_le_mul hs hn
  have h2 : s.size * (2 * n) = 2 * (s.size * n) := by rw [Nat.mul_left_comm]
  obtain ⟨r, e1, e2⟩ := times_l0 m n s ⟨#[]⟩ (by omega) hn (by omega) (by rw [show (⟨#[]⟩ : ByteArray).size = 0 from rfl]; omega)
  exact ⟨r, e1, by rw [e2, B_empty, List.nil_append]⟩
theorem flat_one (n : Nat) (x : Int) : (List.replicate n [x]).flatten = List.replicate n x := by
  induction n with
  | zero => rfl
  | succ n ih => rw [List.replicate_succ, List.flatten_cons, ih, List.replicate_succ]; rfl
/-- The chapter's example lives. -/
theorem lives4 (k : Nat) (hk : 21 ≤ k) : careenagelaw04_lives.f k = some true := by
  obtain ⟨r, e1, e2⟩ := times_is k 104 (⟨#[98]⟩ : ByteArray) hk (by decide) (by decide)
  have hz : r.size = 104 := by
    rw [← B_length, e2]
    rfl
  have hr : roomS 128 = 104 := by decide
  have hm : mayP 128 4 3 7 9 5 r = true := by
    unfold mayP
    rw [hz, hr]
    decide
  have hg : getS 128 0 (strOfNums (List.replicate 128 0)) = badP 4 := by
    have hK : getK (strOfNums (List.replicate 128 0)) = 0 := by
      unfold getK
      rw [B_str (isB_zeros 128)]
      rfl
    have hmm : ∀ (n p l t : Int) (b : ByteArray), mayP 128 0 n p l t b = false := fun n p l t b => by simp [mayP]
    unfold getS
    rw [if_pos (by decide), if_pos (by rw [size_str, List.length_replicate]; rfl), hK, hmm, if_neg (fun z => by cases z.1)]
  unfold careenagelaw04_lives.f careenagelaw04_page.f
  rw [if_pos (by decide), fget_is, hg, bs, show (104 : Int) = ((104 : Nat) : Int) from rfl, e1, bs, bs]
  simp only []
  rw [fput_is, hm, bs, room_is, bs, hr, if_pos rfl, if_pos rfl]
  simp only [if_true]
  rw [pageB_size, hz]
  rfl
end Go.Proofs.Ytlnmdfffmflhgaa.Q

namespace Go.Proofs.Ytlnmdfffmflhgaa.Pure
set_option linter.unusedVariables false
set_option linter.unusedSimpArgs false
open Go.RowKit Go.Proofs.Ytlnmdfffmflhgaa.P Go.Proofs.YtlnmdfffmflhgaaW.PrintWords Go.Proofs.YtlnmdfffmflhgaaW.PrintLast Go.Proofs.YtlnmdfffmflhgaaW.PrintMore Go.Proofs.YtlnmdfffmflhgaaO Go.Proofs.Ytlnmdfffmflhgaa.Q
theorem names_extract {s : ByteArray} {l : List Int} (hl : isB l) {a b : Nat} (h : ((B s).take b).drop a = l) : s.extract a b = strOfNums l := by
  refine B_inj ?_
  rw [B_extract, h, B_str hl]
theorem names_lit (u : ByteArray) (l : List Int) (h : B u = l) : strOfNums l = u := by rw [← h, str_B]
theorem FrameNames : careenagelaw04_FrameNames.Pure := by
  obtain ⟨b, hb1, hb2⟩ := times_is 300 104 (⟨#[98]⟩ : ByteArray) (by decide) (by decide) (by decide)
  obtain ⟨x1, hx1, hx1b⟩ := times_is 300 128 (⟨#[120]⟩ : ByteArray) (by decide) (by decide) (by decide)
  obtain ⟨x3, hx3, hx3b⟩ := times_is 300 300 (⟨#[120]⟩ : ByteArray) (by decide) (by decide) (by decide)
  obtain ⟨x8, hx8, hx8b⟩ := times_is 300 896 (⟨#[120]⟩ : ByteArray) (by decide) (by decide) (by decide)
  have e98 : B (⟨#[98]⟩ : ByteArray) = [98] := rfl
  have e120 : B (⟨#[120]⟩ : ByteArray) = [120] := rfl
  rw [e98, flat_one] at hb2
  rw [e120, flat_one] at hx1b hx3b hx8b
  have hbz : b.size = 104 := by rw [← B_length, hb2, List.length_replicate]
  have z1 : x1.size = 128 := by rw [← B_length, hx1b, List.length_replicate]
  have z3 : x3.size = 300 := by rw [← B_length, hx3b, List.length_replicate]
  have z8 : x8.size = 896 := by rw [← B_length, hx8b, List.length_replicate]
  have hr : roomS 128 = 104 := by decide
  have hm : mayP 128 4 3 7 9 5 b = true := by
    unfold mayP
    rw [hbz, hr]
    decide
  have hg128 : goodS 128 = true := by decide
  have hz : (pageB 4 3 7 9 5 b).size = 128 := by rw [pageB_size, hbz]
  have hB := B_pageB 4 3 7 9 5 b
  have hget := fun a1 : Int => get_put hm (by decide) (by decide) (by decide) a1
  have hput : frame_Put.f 128 4 3 7 9 5 b = some (pageB 4 3 7 9 5 b, 0) := by rw [fput_is, hm, if_pos rfl]
  generalize pageB 4 3 7 9 5 b = s at hz hB hget hput
  generalize crcI 0 (restB 4 3 7 9 5 b) = c at hB
  have hC : (le c 4).length = 4 := le_length 4 c
  have hH : headL 4 3 7 9 5 = [4, 1, 3, 0, 7, 0, 0, 0, 9, 0, 0, 0, 5, 0, 0, 0, 0, 0, 0, 0] := by decide +kernel
  rw [hH] at hB
  generalize le c 4 = cl at hB hC
  obtain ⟨c0, c1, c2, c3, rfl⟩ : ∃ c0 c1 c2 c3 : Int, cl = [c0, c1, c2, c3] := by
    match cl, hC with
    | [a, b, c, d], _ => exact ⟨a, b, c, d, rfl⟩
  have r128 := roomS_range 128
  have hbody : frame_Body.f 128 [97, 98] = some (padS 104 [97, 98], 0) := by
    have := body_is 128 [97, 98] hg128 (by rw [hr]; decide)
    rwa [hr] at this
  have hb2B : B (padS 104 [97, 98]) = [97, 98] ++ List.replicate 102 0 := by
    rw [B_padS 104 (isB_cons (by decide) (isB_cons (by decide) isB_nil))]
    rfl
  have hpg : frame_Pages.f 128 x3 = some 2 := by
    unfold frame_Pages.f
    rw [good_is, bs, if_pos hg128, if_neg (by decide), z3, show ((300 : Nat) : Int) / 128 = 2 from by decide, w64 (by decide) (by decide)]
  have w0 : wrap64 (0 : Int) = 0 := w64 (by decide) (by decide)
  refine ⟨b, s, s.extract 0 127, padS 104 [97, 98], x1, x3, x8, lives4 300 (by decide), ?_, hput, hz, ?_, ?_, rfl, ?_, ?_, ?_, ?_, ?_, ?_, hbody, ?_, ?_, ?_, ?_, hx3, hx8, hx1, ?_, ?_, ?_, by omega, ?_, ?_, hpg, ?_, ?_⟩
  · unfold careenagelaw04_page.f
    rw [show (104 : Int) = ((104 : Nat) : Int) from rfl, hb1, bs]
  · rw [names_extract (l := [4, 1, 3, 0]) (fun x hx => by simp only [List.mem_cons, List.not_mem_nil, or_false] at hx; omega) (by rw [hB]; rfl)]
    exact names_lit _ _ (by decide)
  · rw [names_extract (l := [7, 0, 0, 0, 9, 0, 0, 0, 5, 0, 0, 0, 0, 0, 0, 0]) (fun x hx => by simp only [List.mem_cons, List.not_mem_nil, or_false] at hx; omega) (by rw [hB]; rfl)]
    exact names_lit _ _ (by decide)
  · rw [fget_is, hget, if_pos rfl]
  · rw [fget_is, hget, if_neg (by decide)]
    rfl
  · rw [fget_is]
    unfold getS
    rw [if_neg (by decide)]
    rfl
  · rw [fget_is]
    unfold getS
    rw [if_pos hg128, if_neg (by rw [ByteArray.size_extract, hz]; decide)]
    rfl
  · rw [fput_is, show mayP 128 4 3 7 9 4611686018427387905 b = false from by simp [mayP], if_neg (by decide)]
  · rw [fput_is, show mayP 128 7 3 7 9 5 b = false from by simp [mayP], if_neg (by decide)]
  · rw [← B_length, hb2B]
    rfl
  · rw [names_extract (l := [97, 98, 0]) (fun x hx => by simp only [List.mem_cons, List.not_mem_nil, or_false] at hx; omega) (by rw [hb2B]; rfl)]
    exact names_lit _ _ (by decide)
  · unfold frame_Body.f
    rw [good_is, bs, if_pos hg128, room_is, bs, hr, List.length_replicate, if_pos (by decide)]
  · unfold frame_Body.f
    rw [good_is, bs, if_neg (by decide)]
  · unfold frame_At.f
    rw [hpg, bs, if_neg (by decide), w64 (x := 1) (by decide) (by decide), show (1 : Int) * 128 = 128 from rfl, w64 (x := 128) (by decide) (by decide), w64 (x := 128 + 128) (by decide) (by decide), if_pos (by decide), if_pos (by decide), if_pos (by rw [z3]; decide)]
    have e : x3.extract (128 : Int).toNat ((128 : Int) + 128).toNat = x1 := B_inj (by
      rw [B_extract, hx3b, hx1b]
      decide +kernel)
    rw [e]
  · unfold frame_At.f
    rw [hpg, bs, if_pos (by decide)]
  · unfold frame_Read.f
    have : frame_At.f 128 s 1 = some ((⟨#[]⟩ : ByteArray), false) := by
      unfold frame_At.f frame_Pages.f
      rw [good_is, bs, if_pos hg128, if_neg (by decide), hz, show ((128 : Nat) : Int) / 128 = 1 from by decide, w64 (x := 1) (by decide) (by decide), bs, if_pos (by decide)]
    rw [good_is, bs, if_pos hg128, this, bs]
    simp
  · have hcat : (x8 ++ s).size = 1024 := by rw [ByteArray.size_append, z8, hz]
    have hat : frame_At.f 128 (x8 ++ s) 7 = some (s, true) := by
      unfold frame_At.f frame_Pages.f
      rw [good_is, bs, if_pos hg128, if_neg (by decide), hcat, show ((1024 : Nat) : Int) / 128 = 8 from by decide, w64 (x := 8) (by decide) (by decide), bs, if_neg (by decide), w64 (x := 7) (by decide) (by decide), show (7 : Int) * 128 = 896 from rfl, w64 (x := 896) (by decide) (by decide), w64 (x := 896 + 128) (by decide) (by decide), if_pos (by decide), if_pos (by decide), if_pos (by decide)]
      have e : (x8 ++ s).extract (896 : Int).toNat ((896 : Int) + 128).toNat = s := B_inj (by
        rw [show ((896 : Int) + 128).toNat = (x8 ++ s).size by rw [hcat]; rfl, B_drop, B_append]
        exact List.drop_left' (by rw [B_length, z8]; rfl))
      rw [e]
    unfold frame_Read.f
    rw [good_is, bs, if_pos hg128, hat, bs]
    simp only [if_true]
    rw [fget_is, hget, if_pos rfl, bs]
  · unfold frame_Read.f
    rw [good_is, bs, if_neg (by decide)]
  · unfold frame_Pages.f
    rw [good_is, bs, if_neg (by decide)]
  · rw [room_is]
    decide
end Go.Proofs.Ytlnmdfffmflhgaa.Pure
