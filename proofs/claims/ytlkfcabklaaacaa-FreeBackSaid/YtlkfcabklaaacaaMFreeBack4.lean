/- The texts that the statement's row rests on, one behind the other. -/
import Derived.Test.YtlkfcabklaaacaaMFreeBack1
import Derived.Test.YtlkfcabklaaacaaMFreeBack2
import Derived.Test.YtlkfcabklaaacaaMFreeBack0
import Derived.Test.YtlkfcabklaaacaaMFreeBack3
namespace Go.Proofs.Ytlkfcabklaaacaa.Q
set_option linter.unusedVariables false
set_option linter.unusedSimpArgs false
open Go.RowKit Go.Proofs.Ytlkfcabklaaacaa.P Go.Proofs.YtlkfcabklaaacaaW.PrintWords Go.Proofs.YtlkfcabklaaacaaW.PrintLast Go.Proofs.YtlkfcabklaaacaaW.PrintMore Go.Proofs.YtlkfcabklaaacaaO

/-- The sizes of pages. -/
def goodS (a : Int) : Bool := decide (128 ≤ a) && decide (a ≤ 4096) && (Int.tmod a 64 == 0)
def roomS (a : Int) : Int := if goodS a = true then a - 24 else 0
theorem roomS_range (a : Int) : 0 ≤ roomS a ∧ roomS a ≤ 4072 := by
  unfold roomS goodS
  split
  · rename_i h
    simp only [Bool.and_eq_true, decide_eq_true_eq, beq_iff_eq] at h
    omega
  · omega
theorem good_is (a : Int) : device_Good.f a = some (goodS a) := by
  unfold device_Good.f goodS
  by_cases h1 : a ≥ 128
  · by_cases h2 : a ≤ 4096
    · simp [h1, h2]
    · simp [h1, h2]
  · have h3 : ¬ (128 ≤ a) := by omega
    simp [h3]
theorem room_is (a : Int) : frame_Room.f a = some (roomS a) := by
  unfold frame_Room.f
  rw [good_is, bs]
  unfold roomS
  by_cases h : goodS a = true
  · rw [if_pos h, if_pos h]
    unfold goodS at h
    simp only [Bool.and_eq_true, decide_eq_true_eq, beq_iff_eq] at h
    congr 1
    unfold wrap64
    omega
  · rw [if_neg h, if_neg h]
theorem rgood_is (a : Int) : careenageref03_Good.f a = some (goodS a) := by
  unfold careenageref03_Good.f goodS
  by_cases h1 : a ≥ 128
  · by_cases h2 : a ≤ 4096
    · simp [h1, h2]
    · simp [h1, h2]
  · have h3 : ¬ (128 ≤ a) := by omega
    simp [h3]
theorem rroom_is (a : Int) : careenageref04_Room.f a = some (roomS a) := by
  unfold careenageref04_Room.f
  rw [rgood_is, bs]
  unfold roomS
  by_cases h : goodS a = true
  · rw [if_pos h, if_pos h]
    unfold goodS at h
    simp only [Bool.and_eq_true, decide_eq_true_eq, beq_iff_eq] at h
    congr 1
    unfold wrap64
    omega
  · rw [if_neg h, if_neg h]
def mostS (a : Int) : Int := roomS a / 4
theorem most_is (a : Int) : free_Most.f a = some (mostS a) := by
  unfold free_Most.f
  rw [room_is, bs]
  have := roomS_range a
  congr 1
  rw [Int.tdiv_eq_ediv_of_nonneg this.1]
  unfold mostS wrap64
  omega
theorem rmost_is (a : Int) : careenageref10_Most.f a = some (mostS a) := by
  unfold careenageref10_Most.f
  rw [rroom_is, bs]
  have := roomS_range a
  congr 1
  rw [Int.tdiv_eq_ediv_of_nonneg this.1]
  unfold mostS wrap64
  omega
theorem mostS_zero (a : Int) : mostS a = 0 ↔ goodS a = false := by
  unfold mostS roomS goodS
  split
  · rename_i h
    simp only [Bool.and_eq_true, decide_eq_true_eq, beq_iff_eq] at h
    simp only [h, decide_true, beq_self_eq_true, Bool.and_self, Bool.true_eq_false, iff_false]
    omega
  · rename_i h
    simp only [Bool.not_eq_true] at h
    simp [h]
/-- Each number is greater than the one before it. -/
def riseP (l : List Int) : Prop := ∀ i : Nat, 0 < i → i < l.length → rd l ((i : Int) - 1) < rd l (i : Int)
theorem rises_down (l : List Int) (hl : l.length < 4611686018427387904) : ∀ (n k : Nat), n < k → n < l.length → slices_IsSortedFunc_uint32_uint32_62.l0 k l (n : Int) = some true ∨ slices_IsSortedFunc_uint32_uint32_62.l0 k l (n : Int) = some false
  | n, 0, h, _ => by omega
  | 0, k + 1, _, _ => by
    rw [slices_IsSortedFunc_uint32_uint32_62.l0, if_neg (by omega)]
    exact Or.inl rfl
  | n + 1, k + 1, h, hn => by
    have ih := rises_down l hl n k (by omega) (by omega)
    have hw : wrap64 (((n + 1 : Nat) : Int) - 1) = (n : Int) := by unfold wrap64; omega
    rw [slices_IsSortedFunc_uint32_uint32_62.l0, if_pos (by omega), if_pos (by omega), if_pos (by omega), hw, if_pos (by omega), if_pos (by omega)]
    unfold free_Rises_1.f
    split
    · rw [bs, if_neg (by omega)]
      exact ih
    · rw [bs, if_pos (by omega)]
      exact Or.inr rfl
theorem rises_iff (l : List Int) (hl : l.length < 4611686018427387904) : ∀ (n k : Nat), n < k → n < l.length → (slices_IsSortedFunc_uint32_uint32_62.l0 k l (n : Int) = some true ↔ ∀ i : Nat, 0 < i → i ≤ n → rd l ((i : Int) - 1) < rd l (i : Int))
  | n, 0, h, _ => by omega
  | 0, k + 1, _, _ => by
    rw [slices_IsSortedFunc_uint32_uint32_62.l0, if_neg (by omega)]
    exact ⟨fun _ i h0 h1 => by omega, fun _ => rfl⟩
  | n + 1, k + 1, h, hn => by
    have ih := rises_iff l hl n k (by omega) (by omega)
    have hw : wrap64 (((n + 1 : Nat) : Int) - 1) = (n : Int) := by unfold wrap64; omega
    have hn1 : ((n + 1 : Nat) : Int) - 1 = (n : Int) := by omega
    rw [slices_IsSortedFunc_uint32_uint32_62.l0, if_pos (by omega), if_pos (by omega), if_pos (by omega), hw, if_pos (by omega), if_pos (by omega)]
    unfold free_Rises_1.f
    split
    · rename_i hlt
      rw [bs, if_neg (by omega), ih]
      refine ⟨fun hh i h0 h1 => ?_, fun hh i h0 h1 => hh i h0 (by omega)⟩
      by_cases e : i = n + 1
      · subst e
        rw [hn1]
        exact hlt
      · exact hh i h0 (by omega)
    · rename_i hlt
      rw [bs, if_pos (by omega)]
      refine ⟨fun hh => (by cases hh), fun hh => absurd (hh (n + 1) (by omega) (Nat.le_refl _)) ?_⟩
      rw [hn1]
      exact hlt
def riseB (l : List Int) : Bool := (List.range l.length).all (fun i => decide (i = 0 ∨ rd l ((i : Int) - 1) < rd l (i : Int)))
theorem riseB_iff (l : List Int) : riseB l = true ↔ riseP l := by
  unfold riseB riseP
  rw [List.all_eq_true]
  refine ⟨fun h i h0 h1 => ?_, fun h i hi => ?_⟩
  · have := h i (List.mem_range.2 h1)
    simp only [decide_eq_true_eq] at this
    rcases this with h2 | h2
    · omega
    · exact h2
  · simp only [decide_eq_true_eq]
    by_cases e : i = 0
    · exact Or.inl e
    · exact Or.inr (h i (by omega) (List.mem_range.1 hi))
theorem rises_is (l : List Int) (hl : l.length < 4611686018427387904) (k : Nat) (hk : l.length ≤ k) (hk0 : 0 < k) : free_Rises.f k l = some (riseB l) := by
  unfold free_Rises.f slices_IsSortedFunc_uint32_uint32_62.f
  by_cases h0 : l.length = 0
  · have hw : wrap64 ((l.length : Int) - 1) = -1 := by unfold wrap64; omega
    obtain ⟨k, rfl⟩ : ∃ j, k = j + 1 := ⟨k - 1, by omega⟩
    rw [hw, slices_IsSortedFunc_uint32_uint32_62.l0, if_neg (by omega), bs]
    congr 1
    symm
    rw [riseB_iff]
    intro i _ hi
    omega
  · obtain ⟨n, hn⟩ : ∃ n, l.length = n + 1 := ⟨l.length - 1, by omega⟩
    have hw : wrap64 ((l.length : Int) - 1) = (n : Int) := by unfold wrap64; omega
    rw [hw]
    have h1 := rises_iff l hl n k (by omega) (by omega)
    have h2 := rises_down l hl n k (by omega) (by omega)
    have h3 : (∀ i : Nat, 0 < i → i ≤ n → rd l ((i : Int) - 1) < rd l (i : Int)) ↔ riseB l = true := by
      rw [riseB_iff]
      exact ⟨fun h i a b => h i a (by omega), fun h i a b => h i a (by omega)⟩
    rw [h3] at h1
    rcases h2 with h2 | h2
    · rw [h2, bs, h1.1 h2]
    · rw [h2, bs]
      congr 1
      cases hb : riseB l with
      | false => rfl
      | true =>
        rw [h1.2 hb] at h2
        cases h2
theorem rrises_up (l : List Int) (hl : l.length < 4611686018427387904) : ∀ (d i k : Nat), i + d = l.length → d < k → 1 ≤ i → careenageref10_Rises.l0 k l (i : Int) = some (decide (∀ j, j < l.length → i ≤ j → rd l ((j : Int) - 1) < rd l (j : Int)))
  | d, i, 0, _, h, _ => by omega
  | 0, i, k + 1, hi, _, _ => by
    rw [careenageref10_Rises.l0, if_neg (by omega)]
    congr 1
    symm
    rw [decide_eq_true_eq]
    intro j hj hij
    omega
  | d + 1, i, k + 1, hi, hk, h1 => by
    have ih := rrises_up l hl d (i + 1) k (by omega) (by omega) (by omega)
    have hw : wrap64 ((i : Int) - 1) = (i : Int) - 1 := by unfold wrap64; omega
    have hw2 : wrap64 ((i : Int) + 1) = ((i + 1 : Nat) : Int) := by unfold wrap64; omega
    rw [careenageref10_Rises.l0, if_pos (by omega), hw, if_pos (by omega), if_pos (by omega), if_pos (by omega)]
    by_cases hge : rd l ((i : Int) - 1) ≥ rd l (i : Int)
    · rw [if_pos hge]
      congr 1
      symm
      rw [decide_eq_false_iff_not]
      intro h
      have := h i (by omega) (Nat.le_refl _)
      omega
    · rw [if_neg hge, hw2, ih]
      congr 1
      rw [decide_eq_decide]
      refine ⟨fun h j hj hij => ?_, fun h j hj hij => h j hj (by omega)⟩
      by_cases e : j = i
      · subst e
        omega
      · exact h j hj (by omega)
theorem rrises_is (l : List Int) (hl : l.length < 4611686018427387904) (k : Nat) (hk : l.length ≤ k) (hk0 : 0 < k) : careenageref10_Rises.f k l = some (riseB l) := by
  unfold careenageref10_Rises.f
  by_cases h0 : l.length = 0
  · obtain ⟨k, rfl⟩ : ∃ j, k = j + 1 := ⟨k - 1, by omega⟩
    rw [careenageref10_Rises.l0, if_neg (by omega)]
    congr 1
    symm
    rw [riseB_iff]
    intro i _ hi
    omega
  · have := rrises_up l hl (l.length - 1) 1 k (by omega) (by omega) (Nat.le_refl _)
    refine Eq.trans this ?_
    congr 1
    rw [Bool.eq_iff_iff, decide_eq_true_eq, riseB_iff]
    exact ⟨fun h i a b => h i b a, fun h j a b => h j b a⟩
def numB (x : Int) : Bool := decide (2 ≤ x) && decide (x ≤ 2147483647)
theorem number_is (a : Int) : free_number.f a = some (numB a) := by
  unfold free_number.f numB
  by_cases h : a ≥ 2
  · rw [if_pos h]
    simp [show (2 : Int) ≤ a from h]
  · rw [if_neg h]
    simp [show ¬ (2 : Int) ≤ a from h]
theorem rnumber_is (a : Int) : careenageref04_Number.f a = some (numB a) := by
  unfold careenageref04_Number.f numB
  by_cases h : a ≥ 2
  · rw [if_pos h]
    simp [show (2 : Int) ≤ a from h]
  · rw [if_neg h]
    simp [show ¬ (2 : Int) ≤ a from h]
theorem odd_is (a : Int) : free_Page_1.f a = some (!numB a) := by
  unfold free_Page_1.f
  rw [number_is, bs]
def numsB (l : List Int) : Bool := l.all numB
theorem numsB_iff (l : List Int) : numsB l = true ↔ ∀ j : Nat, j < l.length → numB (rd l (j : Int)) = true := by
  unfold numsB
  rw [List.all_eq_true]
  refine ⟨fun h j hj => ?_, fun h x hx => ?_⟩
  · rw [rd_get hj]
    exact h _ (List.getElem_mem hj)
  · obtain ⟨j, hj, rfl⟩ := List.mem_iff_getElem.1 hx
    have := h j hj
    rwa [rd_get hj] at this
theorem index_up (l : List Int) (hl : l.length < 4611686018427387904) : ∀ (d i k : Nat), i + d = l.length → d < k → ∃ r, slices_IndexFunc_uint32_uint32_56.l0 k l (l.length : Int) (i : Int) = some r ∧ (0 ≤ r ↔ ∃ j : Nat, i ≤ j ∧ j < l.length ∧ numB (rd l (j : Int)) = false)
  | d, i, 0, _, h => by omega
  | 0, i, k + 1, hi, _ => by
    rw [slices_IndexFunc_uint32_uint32_56.l0, if_neg (by omega)]
    refine ⟨-1, rfl, ⟨fun h => by omega, fun ⟨j, a, b, _⟩ => by omega⟩⟩
  | d + 1, i, k + 1, hi, hk => by
    obtain ⟨r, hr, hiff⟩ := index_up l hl d (i + 1) k (by omega) (by omega)
    have hw2 : wrap64 ((i : Int) + 1) = ((i + 1 : Nat) : Int) := by unfold wrap64; omega
    rw [slices_IndexFunc_uint32_uint32_56.l0, if_pos (by omega), if_pos (by omega), if_pos (by omega), odd_is, bs]
    cases hb : numB (rd l (i : Int)) with
    | false =>
      rw [Bool.not_false, if_pos rfl]
      exact ⟨_, rfl, ⟨fun _ => ⟨i, Nat.le_refl _, by omega, hb⟩, fun _ => by omega⟩⟩
    | true =>
      rw [Bool.not_true, if_neg (by decide), hw2, hr]
      refine ⟨r, rfl, hiff.trans ⟨fun ⟨j, a, b, c⟩ => ⟨j, by omega, b, c⟩, fun ⟨j, a, b, c⟩ => ?_⟩⟩
      by_cases e : j = i
      · subst e
        rw [hb] at c
        cases c
      · exact ⟨j, by omega, b, c⟩
theorem contains_is (l : List Int) (hl : l.length < 4611686018427387904) (k : Nat) (hk : l.length < k) : slices_ContainsFunc_uint32_uint32_56.f k l = some (!numsB l) := by
  unfold slices_ContainsFunc_uint32_uint32_56.f slices_IndexFunc_uint32_uint32_56.f
  obtain ⟨r, hr, hiff⟩ := index_up l hl l.length 0 k (by omega) hk
  rw [show (0 : Int) = ((0 : Nat) : Int) from rfl, hr, bs]
  congr 1
  cases hb : numsB l with
  | true =>
    rw [Bool.not_true, decide_eq_false_iff_not]
    intro h
    obtain ⟨j, _, hj, hf⟩ := hiff.1 h
    rw [(numsB_iff l).1 hb j hj] at hf
    cases hf
  | false =>
    rw [Bool.not_false, decide_eq_true_eq]
    refine hiff.2 ?_
    refine Classical.byContradiction fun hn => ?_
    have : numsB l = true := (numsB_iff l).2 fun j hj => by
      cases hq : numB (rd l (j : Int)) with
      | true => rfl
      | false => exact absurd ⟨j, Nat.zero_le _, hj, hq⟩ hn
    rw [hb] at this
    cases this
theorem rnums_up (l : List Int) (hl : l.length < 4611686018427387904) : ∀ (d i k : Nat), i + d = l.length → d + l.length + 1 < k → careenageref10_Numbers.l0 k l (i : Int) = some (decide (∀ j : Nat, j < l.length → i ≤ j → numB (rd l (j : Int)) = true) && riseB l)
  | d, i, 0, _, h => by omega
  | 0, i, k + 1, hi, hk => by
    rw [careenageref10_Numbers.l0, if_neg (by omega), rrises_is l hl k (by omega) (by omega), bs]
    congr 1
    rw [decide_eq_true (by intro j a b; omega), Bool.true_and]
  | d + 1, i, k + 1, hi, hk => by
    have ih := rnums_up l hl d (i + 1) k (by omega) (by omega)
    have hw2 : wrap64 ((i : Int) + 1) = ((i + 1 : Nat) : Int) := by unfold wrap64; omega
    rw [careenageref10_Numbers.l0, if_pos (by omega), if_pos (by omega), rnumber_is, bs]
    cases hb : numB (rd l (i : Int)) with
    | false =>
      rw [if_neg (by decide)]
      congr 1
      symm
      rw [decide_eq_false (fun h => by rw [h i (by omega) (Nat.le_refl _)] at hb; cases hb), Bool.false_and]
    | true =>
      rw [if_pos rfl, hw2, ih]
      congr 2
      rw [decide_eq_decide]
      refine ⟨fun h j a b => ?_, fun h j a b => h j a (by omega)⟩
      by_cases e : j = i
      · subst e
        exact hb
      · exact h j a (by omega)
theorem rnums_is (l : List Int) (hl : l.length < 4611686018427387904) (k : Nat) (hk : 2 * l.length + 1 < k) : careenageref10_Numbers.f k l = some (numsB l && riseB l) := by
  unfold careenageref10_Numbers.f
  have := rnums_up l hl l.length 0 k (by omega) (by omega)
  refine Eq.trans this ?_
  congr 2
  rw [Bool.eq_iff_iff, decide_eq_true_eq, numsB_iff]
  exact ⟨fun h j a => h j a (Nat.zero_le _), fun h j a _ => h j a⟩

end Go.Proofs.Ytlkfcabklaaacaa.Q

namespace Go.Proofs.Ytlkfcabklaaacaa.Q
set_option linter.unusedVariables false
set_option linter.unusedSimpArgs false
open Go.RowKit Go.Proofs.Ytlkfcabklaaacaa.P Go.Proofs.YtlkfcabklaaacaaW.PrintWords Go.Proofs.YtlkfcabklaaacaaW.PrintLast Go.Proofs.YtlkfcabklaaacaaW.PrintMore Go.Proofs.YtlkfcabklaaacaaO

theorem w64 {x : Int} (h0 : -9223372036854775808 ≤ x) (h1 : x ≤ 9223372036854775807) : wrap64 x = x := by
  unfold wrap64
  omega
theorem u64w {x : Int} (h0 : 0 ≤ x) (h1 : x < 18446744073709551616) : IntKind.u64.wrap x = x := by
  rw [IntKind.wrap_u64]
  omega
theorem pow8 (i : Nat) : (2 : Int) ^ (8 * i) = 256 ^ i := by
  rw [Int.pow_mul]
  rfl
theorem pow256_le {i : Nat} (h : i ≤ 8) : (256 : Int) ^ i ≤ 18446744073709551616 := by
  have : i = 0 ∨ i = 1 ∨ i = 2 ∨ i = 3 ∨ i = 4 ∨ i = 5 ∨ i = 6 ∨ i = 7 ∨ i = 8 := by omega
  rcases this with rfl | rfl | rfl | rfl | rfl | rfl | rfl | rfl | rfl <;> decide
theorem shr_byte (n : Int) (i : Nat) (h : i ≤ 8) : shr .u64 n (8 * (i : Int)) = n / 256 ^ i := by
  unfold shr
  rw [show min (8 * (i : Int)).toNat IntKind.u64.bits = 8 * i by simp only [IntKind.bits]; omega, pow8]
theorem shl_byte (b : Int) (i : Nat) (h : i ≤ 7) (hb : 0 ≤ b ∧ b < 256) : shl .u64 b (8 * (i : Int)) = b * 256 ^ i := by
  unfold shl
  rw [show min (8 * (i : Int)).toNat IntKind.u64.bits = 8 * i by simp only [IntKind.bits]; omega, pow8]
  have h1 := pow256_le (i := i + 1) (by omega)
  rw [pow_succ256] at h1
  have h2 := pow_pos256 i
  refine u64w (Int.mul_nonneg hb.1 (Int.le_of_lt h2)) ?_
  have h3 : b * 256 ^ i ≤ 255 * 256 ^ i := Int.mul_le_mul_of_nonneg_right (by omega) (Int.le_of_lt h2)
  omega
theorem or_byte (v b : Int) (i : Nat) (h : i ≤ 7) (hv : 0 ≤ v ∧ v < 256 ^ i) (hb : 0 ≤ b ∧ b < 256) : Go.bits .or .u64 v (b * 256 ^ i) = v + b * 256 ^ i := by
  have h1 := pow256_le (i := i + 1) (by omega)
  rw [pow_succ256] at h1
  have h2 := pow_pos256 i
  have h3 : b * 256 ^ i ≤ 255 * 256 ^ i := Int.mul_le_mul_of_nonneg_right (by omega) (Int.le_of_lt h2)
  have h4 : 0 ≤ b * 256 ^ i := Int.mul_nonneg hb.1 (Int.le_of_lt h2)
  rw [u64_or _ _ hv.1 (by omega) h4 (by omega)]
  obtain ⟨v, rfl⟩ := Int.eq_ofNat_of_zero_le hv.1
  obtain ⟨b, rfl⟩ := Int.eq_ofNat_of_zero_le hb.1
  have e : ((b : Int) * 256 ^ i) = ((b * 256 ^ i : Nat) : Int) := by rw [Int.natCast_mul, Int.natCast_pow]; rfl
  have hv2 : v < 2 ^ (8 * i) := by
    have := hv.2
    rw [Nat.pow_mul]
    have e2 : ((256 : Int) ^ i) = (((2 ^ 8) ^ i : Nat) : Int) := by rw [Int.natCast_pow]; rfl
    rw [e2] at this
    exact Int.ofNat_lt.1 this
  rw [e, Int.toNat_natCast, Int.toNat_natCast, Nat.or_comm, nat_join (8 * i) (b * 256 ^ i) v (by rw [Nat.pow_mul]; exact Nat.mul_mod_left _ _) hv2]
  omega
theorem le_drop : ∀ (K i : Nat) (n : Int), i < K → (le n K).drop i = (n / 256 ^ i % 256) :: (le n K).drop (i + 1)
  | 0, i, n, h => by omega
  | K + 1, 0, n, h => by simp [le]
  | K + 1, i + 1, n, h => by
    simp only [le, List.drop_succ_cons]
    rw [le_drop K i _ (by omega), pow_succ256, Int.ediv_ediv_of_nonneg (by decide)]
theorem put_l0 (n : Int) (K : Nat) (hK : K ≤ 8) : ∀ (d k i : Nat) (x : List Int), i + d = K → d < k → x.length + d ≤ 140737488355327 → octet_Put.l0 k n x K i = some (x ++ (le n K).drop i)
  | 0, k + 1, i, x, h, _, _ => by
    simp only [octet_Put.l0]
    rw [if_neg (by omega), List.drop_eq_nil_of_le (by rw [le_length]; omega), List.append_nil]
  | d + 1, k + 1, i, x, h, hk, hl => by
    simp only [octet_Put.l0]
    have e1 : wrap64 (8 * (i : Int)) = 8 * (i : Int) := w64 (by omega) (by omega)
    have e2 : wrap64 ((i : Int) + 1) = ((i + 1 : Nat) : Int) := by rw [w64 (by omega) (by omega)]; rfl
    rw [if_pos (by omega), e1, if_pos (by omega), if_pos (by omega), shr_byte n i (by omega), e2,
      put_l0 n K hK d k (i + 1) _ (by omega) (by omega) (by simp; omega), le_drop K i n (by omega)]
    simp
theorem rput_l0 (n : Int) (K : Nat) (hK : K ≤ 8) : ∀ (d k i : Nat) (x : List Int), i + d = K → d < k → x.length + d ≤ 140737488355327 → careenageref01_Put.l0 k n K x i = some (x ++ (le n K).drop i)
  | 0, k + 1, i, x, h, _, _ => by
    simp only [careenageref01_Put.l0]
    rw [if_neg (by omega), List.drop_eq_nil_of_le (by rw [le_length]; omega), List.append_nil]
  | d + 1, k + 1, i, x, h, hk, hl => by
    simp only [careenageref01_Put.l0]
    have e1 : IntKind.u64.wrap (wrap64 (8 * (i : Int))) = 8 * (i : Int) := by rw [w64 (by omega) (by omega), u64w (by omega) (by omega)]
    have e2 : wrap64 ((i : Int) + 1) = ((i + 1 : Nat) : Int) := by rw [w64 (by omega) (by omega)]; rfl
    rw [if_pos (by omega), e1, if_pos (by omega), if_pos (by omega), shr_byte n i (by omega), e2,
      rput_l0 n K hK d k (i + 1) _ (by omega) (by omega) (by simp; omega), le_drop K i n (by omega)]
    simp
/-- What Put answers. -/
def putL (l : List Int) (n K : Int) : List Int := if 1 ≤ K ∧ K ≤ 8 then l ++ le n K.toNat else l
theorem put_is (k : Nat) (l : List Int) (n K : Int) (hk : 12 ≤ k) (hl : l.length ≤ 140737488355000) : octet_Put.f k l n K = some (putL l n K) := by
  obtain ⟨k, rfl⟩ : ∃ m, k = m + 2 := ⟨k - 2, by omega⟩
  unfold octet_Put.f putL
  have e1 : wrap64 ((l.length : Int) + 8) = (l.length : Int) + 8 := w64 (by omega) (by omega)
  rw [e1, if_pos (by omega), if_pos (by omega)]
  simp only [bs, List.nil_append]
  rw [if_pos (by simp; omega)]
  by_cases h1 : K < 1
  · rw [if_pos h1, if_neg (by omega)]
    simp [octet_Put.j0]
  · rw [if_neg h1]
    by_cases h2 : K > 8
    · rw [if_neg (by omega)]
      simp [octet_Put.j0, h2]
    · rw [if_pos (by omega)]
      obtain ⟨K, rfl⟩ := Int.eq_ofNat_of_zero_le (show 0 ≤ K by omega)
      simp only [octet_Put.j0, h2, decide_false]
      rw [if_neg (by decide), show (0 : Int) = ((0 : Nat) : Int) from rfl, put_l0 n K (by omega) K (k + 1) 0 l (by omega) (by omega) (by omega)]
      simp
theorem rput_is (k : Nat) (l : List Int) (n K : Int) (hk : 12 ≤ k) (hl : l.length ≤ 140737488355000) : careenageref01_Put.f k l n K = some (putL l n K) := by
  obtain ⟨k, rfl⟩ : ∃ m, k = m + 2 := ⟨k - 2, by omega⟩
  unfold careenageref01_Put.f putL
  simp only [bs, List.nil_append]
  rw [if_pos (by simp; omega)]
  by_cases h1 : K < 1
  · rw [if_pos h1, if_neg (by omega)]
    simp [careenageref01_Put.j0]
  · rw [if_neg h1]
    by_cases h2 : K > 8
    · rw [if_neg (by omega)]
      simp [careenageref01_Put.j0, h2]
    · rw [if_pos (by omega)]
      obtain ⟨K, rfl⟩ := Int.eq_ofNat_of_zero_le (show 0 ≤ K by omega)
      simp only [careenageref01_Put.j0, h2, decide_false]
      rw [if_neg (by decide), show (0 : Int) = ((0 : Nat) : Int) from rfl, rput_l0 n K (by omega) K (k + 1) 0 l (by omega) (by omega) (by omega)]
      simp

end Go.Proofs.Ytlkfcabklaaacaa.Q

namespace Go.Proofs.Ytlkfcabklaaacaa.Q
set_option linter.unusedVariables false
set_option linter.unusedSimpArgs false
open Go.RowKit Go.Proofs.Ytlkfcabklaaacaa.P Go.Proofs.YtlkfcabklaaacaaW.PrintWords Go.Proofs.YtlkfcabklaaacaaW.PrintLast Go.Proofs.YtlkfcabklaaacaaW.PrintMore Go.Proofs.YtlkfcabklaaacaaO

def numL (x : Int) : List Int := le (IntKind.u64.wrap x) 4
theorem numL_length (x : Int) : (numL x).length = 4 := le_length 4 _
theorem put4 (l : List Int) (n : Int) : putL l n 4 = l ++ le n 4 := by
  unfold putL
  rw [if_pos (by decide)]
  rfl
theorem drop_rd (l : List Int) (i : Nat) (h : i < l.length) : l.drop i = rd l (i : Int) :: l.drop (i + 1) := by
  rw [rd_get h]
  exact List.drop_eq_getElem_cons h
theorem page_loop (s n nx tx : Int) (l : List Int) (hl : l.length < 1000000) : ∀ (d i k : Nat) (acc : List Int), i + d = l.length → d + 13 ≤ k → acc.length + 4 * d ≤ 8000000 →
    free_Page.l0 k s n nx tx l acc l (l.length : Int) (i : Int) = (frame_Body.f s (acc ++ (l.drop i).flatMap numL)).bind fun bt => some (6, (l.length : Int), n, nx, tx, bt.1, 0)
  | d, i, 0, acc, _, h, _ => by omega
  | 0, i, k + 1, acc, hi, hk, ha => by
    rw [free_Page.l0, if_neg (by omega), List.drop_of_length_le (by omega), List.flatMap_nil, List.append_nil]
  | d + 1, i, k + 1, acc, hi, hk, ha => by
    have hw2 : wrap64 ((i : Int) + 1) = ((i + 1 : Nat) : Int) := by unfold wrap64; omega
    rw [free_Page.l0, if_pos (by omega), if_pos (by omega), if_pos (by omega), put_is k acc _ 4 (by omega) (by omega), bs, put4, hw2,
      page_loop s n nx tx l hl d (i + 1) k _ (by omega) (by omega) (by rw [List.length_append, le_length]; omega), drop_rd l i (by omega), List.flatMap_cons, List.append_assoc]
    rfl
theorem rpage_loop (s n nx tx : Int) (l : List Int) (hl : l.length < 1000000) : ∀ (d i k : Nat) (acc : List Int), i + d = l.length → d + 13 ≤ k → acc.length + 4 * d ≤ 8000000 →
    careenageref10_Page.l0 k s n nx tx l acc (i : Int) = (careenageref04_Body.f s (acc ++ (l.drop i).flatMap numL)).bind fun bt => some (6, (l.length : Int), n, nx, tx, bt.1, 0)
  | d, i, 0, acc, _, h, _ => by omega
  | 0, i, k + 1, acc, hi, hk, ha => by
    rw [careenageref10_Page.l0, if_neg (by omega), List.drop_of_length_le (by omega), List.flatMap_nil, List.append_nil]
  | d + 1, i, k + 1, acc, hi, hk, ha => by
    have hw2 : wrap64 ((i : Int) + 1) = ((i + 1 : Nat) : Int) := by unfold wrap64; omega
    rw [careenageref10_Page.l0, if_pos (by omega), if_pos (by omega), rput_is k acc _ 4 (by omega) (by omega), bs, put4, hw2,
      rpage_loop s n nx tx l hl d (i + 1) k _ (by omega) (by omega) (by rw [List.length_append, le_length]; omega), drop_rd l i (by omega), List.flatMap_cons, List.append_assoc]
    rfl
theorem nums_length (l : List Int) : (l.flatMap numL).length = 4 * l.length := by
  induction l with
  | nil => rfl
  | cons x l ih =>
    rw [List.flatMap_cons, List.length_append, numL_length, ih, List.length_cons]
    omega
/-- The bytes, and zeros behind them, as many as there is room for. -/
def padS (m : Int) (l : List Int) : ByteArray := strOfNums (l ++ List.replicate (m.toNat - l.length) 0)
theorem body_is (s : Int) (l : List Int) (hg : goodS s = true) (hl : (l.length : Int) ≤ roomS s) : frame_Body.f s l = some (padS (roomS s) l, 0) := by
  have hr := roomS_range s
  unfold frame_Body.f padded padS
  rw [good_is, bs, if_pos hg, room_is, bs, if_neg (by omega), if_pos (by omega)]
  rw [show min l.length (roomS s).toNat = l.length by omega, List.take_length, List.drop_replicate]
theorem strOfNums_append (l m : List Int) : strOfNums (l ++ m) = strOfNums l ++ strOfNums m := by
  apply ByteArray.ext
  simp [strOfNums, ByteArray.data_append]
theorem rbody_is (s : Int) (l : List Int) (hg : goodS s = true) (hl : (l.length : Int) ≤ roomS s) : careenageref04_Body.f s l = some (padS (roomS s) l, 0) := by
  have hr := roomS_range s
  have hw : wrap64 (roomS s - (l.length : Int)) = roomS s - (l.length : Int) := by unfold wrap64; omega
  unfold careenageref04_Body.f padS
  rw [rgood_is, bs, if_pos hg, rroom_is, bs, if_neg (by omega), bs, hw, if_pos (by omega), if_pos (by omega), bs, if_pos (by rw [size_str, size_str, List.length_replicate]; omega),
    show (roomS s - (l.length : Int)).toNat = (roomS s).toNat - l.length by omega, strOfNums_append]
def okS (s n nx tx : Int) (l : List Int) : Bool := goodS s && (numsB l && riseB l) && decide ((l.length : Int) ≤ mostS s) && numB n && (decide (nx = 0) || numB nx) && decide (tx ≤ 4611686018427387904)
def pageS (s n nx tx : Int) (l : List Int) : Int × Int × Int × Int × Int × ByteArray × Int := if okS s n nx tx l = true then (6, (l.length : Int), n, nx, tx, padS (roomS s) (l.flatMap numL), 0) else (0, 0, 0, 0, 0, (⟨#[]⟩ : ByteArray), 2)
theorem most_len (s : Int) (l : List Int) (h : (l.length : Int) ≤ mostS s) : ((l.flatMap numL).length : Int) ≤ roomS s := by
  rw [nums_length]
  unfold mostS at h
  omega
theorem page_end (k : Nat) (s n nx tx : Int) (l : List Int) (b : Bool) (hl : l.length < 1000000) (hk : l.length + 14 ≤ k) (hg : goodS s = true) (hm : (l.length : Int) ≤ mostS s) :
    free_Page.j0 k s n nx tx l b = some (if b = true then (0, 0, 0, 0, 0, (⟨#[]⟩ : ByteArray), 2) else (6, (l.length : Int), n, nx, tx, padS (roomS s) (l.flatMap numL), 0)) := by
  obtain ⟨k, rfl⟩ : ∃ j, k = j + 1 := ⟨k - 1, by omega⟩
  rw [free_Page.j0]
  cases b with
  | true => rw [if_pos rfl, if_pos rfl]
  | false =>
    rw [if_neg (by decide), if_neg (by decide), show (0 : Int) = ((0 : Nat) : Int) from rfl, page_loop s n nx tx l hl l.length 0 k [] (by omega) (by omega) (by simp; omega), List.drop_zero, List.nil_append, body_is s _ hg (most_len s l hm), bs]
    rfl
theorem page_bad (k : Nat) (s n nx tx : Int) (l : List Int) (hk : 0 < k) : free_Page.j0 k s n nx tx l true = some (0, 0, 0, 0, 0, (⟨#[]⟩ : ByteArray), 2) := by
  obtain ⟨k, rfl⟩ : ∃ j, k = j + 1 := ⟨k - 1, by omega⟩
  rw [free_Page.j0, if_pos rfl]
theorem page_is (k : Nat) (s n nx tx : Int) (l : List Int) (hl : l.length < 1000000) (hk : 2 * l.length + 14 ≤ k) : free_Page.f k s n nx tx l = some (pageS s n nx tx l) := by
  have hbad := page_bad k s n nx tx l (by omega)
  have hnot : okS s n nx tx l = false → some (pageS s n nx tx l) = some (0, 0, 0, 0, 0, (⟨#[]⟩ : ByteArray), 2) := fun h => by
    unfold pageS
    rw [h, if_neg (by decide)]
  unfold free_Page.f
  rw [most_is, bs]
  by_cases h0 : mostS s = 0
  · rw [if_pos h0, hbad, hnot (by unfold okS; simp [(mostS_zero s).1 h0])]
  · have hg : goodS s = true := by
      cases hq : goodS s with
      | true => rfl
      | false => exact absurd ((mostS_zero s).2 hq) h0
    rw [if_neg h0, bs]
    by_cases h1 : (l.length : Int) > mostS s
    · rw [if_pos h1, hbad, hnot (by unfold okS; simp [show ¬ ((l.length : Int) ≤ mostS s) by omega])]
    · rw [if_neg h1, rises_is l (by omega) k (by omega) (by omega), bs]
      cases h2 : riseB l with
      | false => rw [if_neg (by decide), hbad, hnot (by unfold okS; simp [h2])]
      | true =>
        rw [if_pos rfl, contains_is l (by omega) k (by omega), bs]
        cases h3 : numsB l with
        | false => rw [Bool.not_false, if_pos rfl, hbad, hnot (by unfold okS; simp [h3])]
        | true =>
          rw [Bool.not_true, if_neg (by decide), odd_is, bs]
          cases h4 : numB n with
          | false => rw [Bool.not_false, if_pos rfl, hbad, hnot (by unfold okS; simp [h4])]
          | true =>
            rw [Bool.not_true, if_neg (by decide)]
            have hend := page_end k s n nx tx l (decide (tx > 4611686018427387904)) hl (by omega) hg (by omega)
            by_cases h5 : nx = 0
            · rw [if_pos h5, hend]
              congr 1
              unfold pageS okS
              by_cases h6 : tx > 4611686018427387904
              · simp [h6, show ¬ (tx ≤ 4611686018427387904) by omega]
              · simp [h6, show tx ≤ 4611686018427387904 by omega, hg, h2, h3, h4, h5, show (l.length : Int) ≤ mostS s by omega]
            · rw [if_neg h5, odd_is, bs]
              cases h7 : numB nx with
              | false => rw [Bool.not_false, if_pos rfl, hbad, hnot (by unfold okS; simp [h5, h7])]
              | true =>
                rw [Bool.not_true, if_neg (by decide), hend]
                congr 1
                unfold pageS okS
                by_cases h6 : tx > 4611686018427387904
                · simp [h6, show ¬ (tx ≤ 4611686018427387904) by omega]
                · simp [h6, show tx ≤ 4611686018427387904 by omega, hg, h2, h3, h4, h7, show (l.length : Int) ≤ mostS s by omega]
theorem rpage_end (k : Nat) (s n nx tx : Int) (l : List Int) (b : Bool) (hl : l.length < 1000000) (hk : l.length + 14 ≤ k) (hg : goodS s = true) (hm : (l.length : Int) ≤ mostS s) :
    careenageref10_Page.j0 k s n nx tx l b = some (if b = true then (0, 0, 0, 0, 0, (⟨#[]⟩ : ByteArray), 2) else (6, (l.length : Int), n, nx, tx, padS (roomS s) (l.flatMap numL), 0)) := by
  obtain ⟨k, rfl⟩ : ∃ j, k = j + 1 := ⟨k - 1, by omega⟩
  rw [careenageref10_Page.j0]
  cases b with
  | true => rw [if_pos rfl, if_pos rfl]
  | false =>
    rw [if_neg (by decide), if_neg (by decide), show (0 : Int) = ((0 : Nat) : Int) from rfl, rpage_loop s n nx tx l hl l.length 0 k [] (by omega) (by omega) (by simp; omega), List.drop_zero, List.nil_append, rbody_is s _ hg (most_len s l hm), bs]
    rfl
theorem rpage_bad (k : Nat) (s n nx tx : Int) (l : List Int) (hk : 0 < k) : careenageref10_Page.j0 k s n nx tx l true = some (0, 0, 0, 0, 0, (⟨#[]⟩ : ByteArray), 2) := by
  obtain ⟨k, rfl⟩ : ∃ j, k = j + 1 := ⟨k - 1, by omega⟩
  rw [careenageref10_Page.j0, if_pos rfl]
theorem rpage_is (k : Nat) (s n nx tx : Int) (l : List Int) (hl : l.length < 1000000) (hk : 2 * l.length + 14 ≤ k) : careenageref10_Page.f k s n nx tx l = some (pageS s n nx tx l) := by
  have hbad := rpage_bad k s n nx tx l (by omega)
  have hnot : okS s n nx tx l = false → some (pageS s n nx tx l) = some (0, 0, 0, 0, 0, (⟨#[]⟩ : ByteArray), 2) := fun h => by
    unfold pageS
    rw [h, if_neg (by decide)]
  unfold careenageref10_Page.f
  rw [rgood_is, bs]
  cases hg : goodS s with
  | false => rw [if_neg (by decide), hbad, hnot (by unfold okS; simp [hg])]
  | true =>
    rw [if_pos rfl, rnums_is l (by omega) k (by omega), bs]
    cases h2 : numsB l && riseB l with
    | false => rw [if_neg (by decide), hbad, hnot (by unfold okS; simp only [h2]; simp)]
    | true =>
      rw [if_pos rfl, rmost_is, bs]
      by_cases h1 : (l.length : Int) > mostS s
      · rw [if_pos h1, hbad, hnot (by unfold okS; simp [show ¬ ((l.length : Int) ≤ mostS s) by omega])]
      · rw [if_neg h1, rnumber_is, bs]
        cases h4 : numB n with
        | false => rw [if_neg (by decide), hbad, hnot (by unfold okS; simp [h4])]
        | true =>
          rw [if_pos rfl]
          have hend := rpage_end k s n nx tx l (decide (tx > 4611686018427387904)) hl (by omega) hg (by omega)
          by_cases h5 : nx = 0
          · rw [if_pos h5, hend]
            congr 1
            unfold pageS okS
            by_cases h6 : tx > 4611686018427387904
            · simp [h6, show ¬ (tx ≤ 4611686018427387904) by omega]
            · simp only [h2]
              simp [h6, show tx ≤ 4611686018427387904 by omega, hg, h4, h5, show (l.length : Int) ≤ mostS s by omega]
          · rw [if_neg h5, rnumber_is, bs]
            cases h7 : numB nx with
            | false => rw [if_neg (by decide), hbad, hnot (by unfold okS; simp [h5, h7])]
            | true =>
              rw [if_pos rfl, hend]
              congr 1
              unfold pageS okS
              by_cases h6 : tx > 4611686018427387904
              · simp [h6, show ¬ (tx ≤ 4611686018427387904) by omega]
              · simp only [h2]
                simp [h6, show tx ≤ 4611686018427387904 by omega, hg, h4, h7, show (l.length : Int) ≤ mostS s by omega]

end Go.Proofs.Ytlkfcabklaaacaa.Q

namespace Go.Proofs.Ytlkfcabklaaacaa.Q
set_option linter.unusedVariables false
set_option linter.unusedSimpArgs false
open Go.RowKit Go.Proofs.Ytlkfcabklaaacaa.P Go.Proofs.YtlkfcabklaaacaaW.PrintWords Go.Proofs.YtlkfcabklaaacaaW.PrintLast Go.Proofs.YtlkfcabklaaacaaW.PrintMore Go.Proofs.YtlkfcabklaaacaaO

def zeroL (l : List Int) : Bool := l.all (· == 0)
theorem B_size (s : ByteArray) : (s.size : Int) = ((B s).length : Int) := by rw [B_length]
theorem bt_get {s : ByteArray} {i : Nat} (h : i < (B s).length) : bt s (i : Int) = (B s)[i] := by rw [bt_B, rd_get h]
/-- What Bytes answers. -/
def bytesR (s : ByteArray) (n : Int) : ByteArray × Int × ByteArray :=
  if n < 0 then (⟨#[]⟩, 2, s) else if n > (s.size : Int) then (⟨#[]⟩, 7, s) else (s.extract 0 n.toNat, 0, s.extract n.toNat s.size)
/-- What Number answers. -/
def numR (s : ByteArray) (n : Int) : Int × Int × ByteArray :=
  if n < 1 ∨ n > 8 then (0, 2, s) else if (s.size : Int) < n then (0, 7, s) else (ofLe ((B s).take n.toNat), 0, s.extract n.toNat s.size)
theorem ofLe_step {l : List Int} (hl : isB l) {i : Nat} (hi : i < l.length) (h8 : i ≤ 7) : Go.bits .or .u64 (ofLe (l.take i)) (shl .u64 (IntKind.u64.wrap l[i]) (8 * (i : Int))) = ofLe (l.take (i + 1)) := by
  have hb := hl l[i] (List.getElem_mem hi)
  have hv := ofLe_lt (isB_take hl i)
  rw [List.length_take, Nat.min_eq_left (by omega)] at hv
  rw [u64w hb.1 (by omega), shl_byte _ _ h8 hb, or_byte _ _ _ h8 ⟨ofLe_nonneg (isB_take hl i), hv⟩ hb, List.take_succ_eq_append_getElem hi, ofLe_snoc, List.length_take, Nat.min_eq_left (by omega)]
theorem num_l0 (s x : ByteArray) (e : Int) (hx : x.size ≤ 8) : ∀ (d k i : Nat), i + d = x.size → d < k → octet_Reader_Number.l0 k (ofLe ((B x).take i)) e x (x.size : Int) i s = some (ofLe (B x), e, s)
  | 0, k + 1, i, h, _ => by
    simp only [octet_Reader_Number.l0]
    rw [if_neg (by omega), List.take_of_length_le (by rw [B_length]; omega)]
  | d + 1, k + 1, i, h, hk => by
    have hi : i < (B x).length := by rw [B_length]; omega
    simp only [octet_Reader_Number.l0]
    rw [if_pos (by omega), if_pos (by omega), if_pos (by omega), w64 (x := 8 * (i : Int)) (by omega) (by omega), if_pos (by omega), bt_get hi, ofLe_step (isB_B x) hi (by omega), w64 (by omega) (by omega)]
    exact num_l0 s x e hx d k (i + 1) (by omega) (by omega)
theorem num_is (s : ByteArray) (n : Int) (k : Nat) (hk : 9 < k) : octet_Reader_Number.f k s n = some (numR s n) := by
  unfold octet_Reader_Number.f numR
  by_cases h1 : n < 1
  · rw [if_pos h1, if_pos (.inl h1)]
  · rw [if_neg h1]
    by_cases h2 : n > 8
    · rw [if_pos h2, if_pos (.inr h2)]
    · rw [if_neg h2, if_neg (by omega)]
      unfold octet_Reader_take.f
      by_cases h3 : n > (s.size : Int)
      · rw [if_pos h3, if_pos h3]
        simp only [bs]
        have := num_l0 s ⟨#[]⟩ 7 (by decide) 0 k 0 rfl (by omega)
        simpa [B_empty, ofLe] using this
      · rw [if_neg h3, if_neg h3, if_pos (by omega), if_pos (by omega)]
        simp only [bs]
        have hsz : (s.extract 0 n.toNat).size = n.toNat := by rw [ByteArray.size_extract]; omega
        have := num_l0 (s.extract n.toNat s.size) (s.extract 0 n.toNat) 0 (by omega) n.toNat k 0 (by omega) (by omega)
        rw [B_take] at this
        simpa [ofLe] using this

end Go.Proofs.Ytlkfcabklaaacaa.Q

namespace Go.Proofs.Ytlkfcabklaaacaa.P
open Go.RowKit Go.Proofs.YtlkfcabklaaacaaW.PrintWords Go.Proofs.YtlkfcabklaaacaaW.PrintLast Go.Proofs.YtlkfcabklaaacaaW.PrintMore
attribute [local go_sem] max2_int min2_int max_two min_two max_three min_three max_four min_four   -- for this text's walks alone
open Go.Proofs.YtlkfcabklaaacaaO
attribute [local go_sem] min2_str max2_str
set_option linter.unusedVariables false
set_option linter.unusedSimpArgs false

/-! ### careenageref01_Reader_Bytes: function 73 -/
def careenageref01_Reader_Bytes.f (s0_0 : ByteArray) (a1 : Int) : Option (ByteArray × Int × ByteArray) := if a1 < 0 then (some ((⟨#[]⟩ : ByteArray), 2, s0_0)) else (if (s0_0.size : Int) < a1 then (some ((⟨#[]⟩ : ByteArray), 7, s0_0)) else (if 0 ≤ a1 then (if a1 ≤ (s0_0.size : Int) then (some (s0_0.extract 0 (a1 : Int).toNat, 0, s0_0.extract (a1 : Int).toNat s0_0.size)) else (none)) else (none)))
set_option maxHeartbeats 8000000 in
set_option maxRecDepth 100000 in
theorem careenageref01_Reader_Bytes.calls (g : Nat) (s0_0 : ByteArray) (a1 : Int) (r1 : ByteArray) (r2 : Int) (r3 : ByteArray) (w0 w : World) (hI : IsS96 w0 w g s0_0) (hB : Below w0.heap.size w0 w) (h : careenageref01_Reader_Bytes.f s0_0 a1 = some (r1, r2, r3)) :
    Calls Try.prog 73 #[.pointer (some ⟨g, 0, none⟩), .int .i64 a1] w fun e w' => e = .returned (.tuple #[.string r1, .int .i64 r2]) ∧ IsS96 w0 w' g r3 ∧ Below w0.heap.size w0 w' ∧ KeepBut w w' g none := by
  have HI0 := Aside0.mk hI
  have HK := Aside0.mk (KeepBut.refl w g none)
  have HL := Aside0.mk hB.size
  clear hI
  have HW0 := Aside0.mk hB.size
  have HB := Aside0.mk hB
  clear hB
  have H : (if a1 < 0 then (some ((⟨#[]⟩ : ByteArray), 2, s0_0)) else (if (s0_0.size : Int) < a1 then (some ((⟨#[]⟩ : ByteArray), 7, s0_0)) else (if 0 ≤ a1 then (if a1 ≤ (s0_0.size : Int) then (some (s0_0.extract 0 (a1 : Int).toNat, 0, s0_0.extract (a1 : Int).toNat s0_0.size)) else (none)) else (none)))) = some (r1, r2, r3) := h
  clear h
  by_cases c3 : a1 < 0
  · rw [if_pos c3] at H
    have c3b0 : decide (a1 < 0) = true := decide_eq_true c3
    clear c3
    simp only [Option.some.injEq, Prod.mk.injEq] at H
    obtain ⟨rfl, rfl, rfl⟩ := H
    go_enter Try.func73, Try.ntmps73
    go_wp2
    go_ret2
    exact ⟨by first | rfl | (simp [errW_none, errW_some] <;> rfl) | (simp [*, errW_none, errW_some] <;> rfl), by repeat (first | (with_reducible first | exact HI0.out | apply IsS96.alloc | apply IsS96.drewN | apply IsS96.drew | apply IsS96.set_0) | exact HI0.out), by repeat (first | (with_reducible first | exact HB.out | apply below_alloc | apply pw_below_drewN | apply below_drew1 | refine below_set ?_ (IsS96.ge HI0.out)) | exact HB.out), by repeat (first | (with_reducible first | exact HK.out | apply KeepBut.set_ | apply keep_drewN | apply keep_drew | apply keep_alloc) | exact HK.out)⟩
  · rw [if_neg c3] at H
    have c3b0 : decide (a1 < 0) = false := decide_eq_false c3
    clear c3
    by_cases c4 : (s0_0.size : Int) < a1
    · rw [if_pos c4] at H
      have c4b0 : decide ((s0_0.size : Int) < a1) = true := decide_eq_true c4
      clear c4
      simp only [Option.some.injEq, Prod.mk.injEq] at H
      obtain ⟨rfl, rfl, rfl⟩ := H
      obtain ⟨HGz5, hgz5⟩ := HI0.out
      have hcz5_0 := cellS96_0 HGz5
      have hfz5_0 := blk_frozen HGz5 0
      clear HGz5 hgz5
      go_enter Try.func73, Try.ntmps73
      go_wp2
      go_ret2
      exact ⟨by first | rfl | (simp [errW_none, errW_some] <;> rfl) | (simp [*, errW_none, errW_some] <;> rfl), by repeat (first | (with_reducible first | exact HI0.out | apply IsS96.alloc | apply IsS96.drewN | apply IsS96.drew | apply IsS96.set_0) | exact HI0.out), by repeat (first | (with_reducible first | exact HB.out | apply below_alloc | apply pw_below_drewN | apply below_drew1 | refine below_set ?_ (IsS96.ge HI0.out)) | exact HB.out), by repeat (first | (with_reducible first | exact HK.out | apply KeepBut.set_ | apply keep_drewN | apply keep_drew | apply keep_alloc) | exact HK.out)⟩
    · rw [if_neg c4] at H
      have c4b0 : decide ((s0_0.size : Int) < a1) = false := decide_eq_false c4
      clear c4
      by_cases c6 : 0 ≤ a1
      · rw [if_pos c6] at H
        have c6b0 := eq_true c6
        have c6b1 : decide (0 ≤ a1) = true := decide_eq_true c6
        clear c6
        by_cases c7 : a1 ≤ (s0_0.size : Int)
        · rw [if_pos c7] at H
          have c7b0 := eq_true c7
          have c7b1 : decide (a1 ≤ (s0_0.size : Int)) = true := decide_eq_true c7
          clear c7
          have c8b0 := eq_true (of_decide_eq_true (by first | (with_reducible assumption) | assumption) : 0 ≤ a1)
          have c9b0 := eq_true (of_decide_eq_true (by first | (with_reducible assumption) | assumption) : a1 ≤ (s0_0.size : Int))
          simp only [Option.some.injEq, Prod.mk.injEq] at H
          obtain ⟨rfl, rfl, rfl⟩ := H
          obtain ⟨HGz10, hgz10⟩ := HI0.out
          have hcz10_0 := cellS96_0 HGz10
          have hfz10_0 := blk_frozen HGz10 0
          clear HGz10 hgz10
          go_enter Try.func73, Try.ntmps73
          go_wp2
          go_ret2
          exact ⟨by first | rfl | (simp [errW_none, errW_some] <;> rfl) | (simp [*, errW_none, errW_some] <;> rfl), by repeat (first | (with_reducible first | exact HI0.out | apply IsS96.alloc | apply IsS96.drewN | apply IsS96.drew | apply IsS96.set_0) | exact HI0.out), by repeat (first | (with_reducible first | exact HB.out | apply below_alloc | apply pw_below_drewN | apply below_drew1 | refine below_set ?_ (IsS96.ge HI0.out)) | exact HB.out), by repeat (first | (with_reducible first | exact HK.out | apply KeepBut.set_ | apply keep_drewN | apply keep_drew | apply keep_alloc) | exact HK.out)⟩
        · rw [if_neg c7] at H
          exact absurd H (by simp)
      · rw [if_neg c6] at H
        exact absurd H (by simp)

end Go.Proofs.Ytlkfcabklaaacaa.P

namespace Go.Proofs.Ytlkfcabklaaacaa.Q
set_option linter.unusedVariables false
set_option linter.unusedSimpArgs false
open Go.RowKit Go.Proofs.Ytlkfcabklaaacaa.P Go.Proofs.YtlkfcabklaaacaaW.PrintWords Go.Proofs.YtlkfcabklaaacaaW.PrintLast Go.Proofs.YtlkfcabklaaacaaW.PrintMore Go.Proofs.YtlkfcabklaaacaaO

theorem pick_is (n m : Int) (h1 : 1 ≤ m) (h2 : m ≤ 4611686018427387904) : careenagekit_Pick.f n m = some (n % m) := by
  unfold careenagekit_Pick.f
  rw [if_neg (by omega), if_neg (by omega)]
  have he := Int.tmod_eq_emod (a := n) (b := m)
  have hlt := Int.emod_lt_of_pos n (show 0 < m by omega)
  have hge := Int.emod_nonneg n (show m ≠ 0 by omega)
  by_cases h : n.tmod m < 0
  · rw [if_pos h]
    split at he
    · omega
    · rw [w64 (by omega) (by omega)]
      congr 1
      omega
  · rw [if_neg h]
    split at he
    · rw [he]; simp
    · congr 1
      omega
theorem rnum_l0 (s : ByteArray) (n : Nat) (hn : n ≤ 8) (hs : n ≤ s.size) : ∀ (d k i : Nat), i + d = n → d < k → careenageref01_Reader_Number.l0 k n (ofLe ((B s).take i)) i s = some (ofLe ((B s).take n), 0, s.extract n s.size)
  | 0, k + 1, i, h, _ => by
    simp only [careenageref01_Reader_Number.l0]
    obtain rfl : i = n := by omega
    rw [if_neg (by omega), if_pos (by omega), if_pos (by omega), Int.toNat_natCast]
  | d + 1, k + 1, i, h, hk => by
    have hi : i < (B s).length := by rw [B_length]; omega
    simp only [careenageref01_Reader_Number.l0]
    rw [if_pos (by omega), if_pos (by omega), if_pos (by omega), w64 (x := 8 * (i : Int)) (by omega) (by omega), u64w (x := 8 * (i : Int)) (by omega) (by omega), if_pos (by omega), bt_get hi, ofLe_step (isB_B s) hi (by omega), w64 (by omega) (by omega)]
    exact rnum_l0 s n hn hs d k (i + 1) (by omega) (by omega)
theorem rnum_is (s : ByteArray) (n : Int) (k : Nat) (hk : 11 < k) : careenageref01_Reader_Number.f k s n = some (numR s n) := by
  obtain ⟨k, rfl⟩ : ∃ m, k = m + 1 := ⟨k - 1, by omega⟩
  unfold careenageref01_Reader_Number.f numR
  by_cases h1 : n < 1
  · rw [if_pos h1, if_pos (.inl h1), careenageref01_Reader_Number.j0, if_pos rfl]
  · rw [if_neg h1]
    by_cases h2 : n > 8
    · rw [if_pos (.inr h2), decide_eq_true h2, careenageref01_Reader_Number.j0, if_pos rfl]
    · rw [if_neg (by omega), decide_eq_false h2, careenageref01_Reader_Number.j0, if_neg (by decide)]
      by_cases h3 : (s.size : Int) < n
      · rw [if_pos h3, if_pos h3]
      · rw [if_neg h3, if_neg h3]
        obtain ⟨n, rfl⟩ := Int.eq_ofNat_of_zero_le (show 0 ≤ n by omega)
        have := rnum_l0 s n (by omega) (by omega) n k 0 (by omega) (by omega)
        simpa [ofLe] using this
theorem rbytes_is (s : ByteArray) (n : Int) : careenageref01_Reader_Bytes.f s n = some (bytesR s n) := by
  unfold careenageref01_Reader_Bytes.f bytesR
  by_cases h1 : n < 0
  · simp [h1]
  · rw [if_neg h1, if_neg h1]
    by_cases h2 : n > (s.size : Int)
    · rw [if_pos h2, if_pos (show (s.size : Int) < n from h2)]
    · rw [if_neg h2, if_neg (show ¬ (s.size : Int) < n from h2), if_pos (by omega), if_pos (by omega)]

end Go.Proofs.Ytlkfcabklaaacaa.Q

namespace Go.Proofs.Ytlkfcabklaaacaa.Q
set_option linter.unusedVariables false
set_option linter.unusedSimpArgs false
open Go.RowKit Go.Proofs.Ytlkfcabklaaacaa.P Go.Proofs.YtlkfcabklaaacaaW.PrintWords Go.Proofs.YtlkfcabklaaacaaW.PrintLast Go.Proofs.YtlkfcabklaaacaaW.PrintMore Go.Proofs.YtlkfcabklaaacaaO

theorem same_up (l : List Int) (hl : l.length < 1000000) : ∀ (d i k : Nat), i + d = l.length → d < k → careenagekit_Same_uint32.l0 k l l (i : Int) = some true
  | d, i, 0, _, h => by omega
  | 0, i, k + 1, hi, _ => by rw [careenagekit_Same_uint32.l0, if_neg (by omega)]
  | d + 1, i, k + 1, hi, hk => by
    have hw2 : wrap64 ((i : Int) + 1) = ((i + 1 : Nat) : Int) := by unfold wrap64; omega
    rw [careenagekit_Same_uint32.l0, if_pos (by omega), if_pos (by omega), if_pos (by omega), if_pos rfl, hw2]
    exact same_up l hl d (i + 1) k (by omega) (by omega)
theorem same_is (l : List Int) (hl : l.length < 1000000) (k : Nat) (hk : l.length < k) : careenagekit_Same_uint32.f k l l = some true := by
  unfold careenagekit_Same_uint32.f
  rw [if_pos rfl]
  exact same_up l hl l.length 0 k (by omega) hk
theorem of_eq (cnt p0 p2 p3 p4 : Int) (p5 : ByteArray) : ∀ (d k : Nat) (i : Int) (acc : List Int) (s : ByteArray), s.size / 4 ≤ d → acc.length + d ≤ 2000 → d + 4100 ≤ k →
    ∃ r, free_Of.l0 k acc cnt i p0 cnt p2 p3 p4 p5 s = some r ∧ careenageref10_Of.l0 k acc i p0 cnt p2 p3 p4 p5 s = some r ∧ r.1.length ≤ 2000
  | d, 0, i, acc, s, _, _, h => by omega
  | d, k + 1, i, acc, s, hs, ha, hk => by
    rw [free_Of.l0, careenageref10_Of.l0]
    by_cases hi : i < cnt
    · rw [if_pos hi, if_pos hi, num_is s 4 k (by omega), rnum_is s 4 k (by omega), bs, bs]
      by_cases h4 : (s.size : Int) < 4
      · have hn : numR s 4 = (0, 7, s) := by unfold numR; rw [if_neg (by omega), if_pos h4]
        rw [hn]
        exact ⟨_, rfl, rfl, by simp⟩
      · have hn : numR s 4 = (ofLe ((B s).take (4 : Int).toNat), 0, s.extract (4 : Int).toNat s.size) := by unfold numR; rw [if_neg (by omega), if_neg h4]
        rw [hn]
        simp only [if_true]
        obtain ⟨d, rfl⟩ : ∃ e, d = e + 1 := ⟨d - 1, by omega⟩
        rw [if_pos (by omega), if_pos (by omega)]
        exact of_eq cnt p0 p2 p3 p4 p5 d k (wrap64 (i + 1)) _ _ (by rw [ByteArray.size_extract]; omega) (by rw [List.length_append]; simp; omega) (by omega)
    · rw [if_neg hi, if_neg hi, page_is k _ _ _ _ acc (by omega) (by omega), rpage_is k _ _ _ _ acc (by omega) (by omega), bs]
      split
      · split
        · exact ⟨_, rfl, rfl, by simp⟩
        · exact ⟨_, rfl, rfl, by simp; omega⟩
      · exact ⟨_, rfl, rfl, by simp⟩

end Go.Proofs.Ytlkfcabklaaacaa.Q

namespace Go.Proofs.Ytlkfcabklaaacaa.Q
set_option linter.unusedVariables false
set_option linter.unusedSimpArgs false
open Go.RowKit Go.Proofs.Ytlkfcabklaaacaa.P Go.Proofs.YtlkfcabklaaacaaW.PrintWords Go.Proofs.YtlkfcabklaaacaaW.PrintLast Go.Proofs.YtlkfcabklaaacaaW.PrintMore Go.Proofs.YtlkfcabklaaacaaO

/-- So many numbers of four bytes each. -/
def numsOf : Nat → List Int → List Int
  | 0, _ => []
  | n + 1, s => ofLe (s.take 4) % 4294967296 :: numsOf n (s.drop 4)
def finS (p0 cnt p2 p3 p4 : Int) (p5 : ByteArray) (l : List Int) : List Int × Int × Int :=
  if pageS (wrap64 ((p5.size : Int) + 24)) p2 p3 p4 l = (p0, cnt, p2, p3, p4, p5, 0) then (l, p3, 0) else ([], 0, 4)
def ofS (p0 cnt p2 p3 p4 : Int) (p5 : ByteArray) : List Int × Int × Int :=
  if 4 * cnt.toNat ≤ p5.size then finS p0 cnt p2 p3 p4 p5 (numsOf cnt.toNat (B p5)) else ([], 0, 4)
theorem num4 (s : ByteArray) : numR s 4 = if s.size < 4 then (0, 7, s) else (ofLe ((B s).take 4), 0, s.extract 4 s.size) := by
  unfold numR
  rw [if_neg (by omega)]
  by_cases h : s.size < 4
  · rw [if_pos (by omega), if_pos h]
  · rw [if_neg (by omega), if_neg h]
    rfl
theorem page_same (a b c d e f : Int) (g : ByteArray) (p0 cnt p2 p3 p4 : Int) (p5 : ByteArray) (h : (!(a == p0) || (!(b == cnt) || (!(c == p2) || (!(d == p3) || (!(e == p4) || (!(g.toList == p5.toList))))))) = false) : (a, b, c, d, e, g) = (p0, cnt, p2, p3, p4, p5) := by
  simp only [Bool.or_eq_false_iff, Bool.not_eq_false', beq_iff_eq, toList_eq_iff] at h
  obtain ⟨rfl, rfl, rfl, rfl, rfl, rfl⟩ := h
  rfl
theorem page_diff (a b c d e f : Int) (g : ByteArray) (p0 cnt p2 p3 p4 : Int) (p5 : ByteArray) (h : (!(a == p0) || (!(b == cnt) || (!(c == p2) || (!(d == p3) || (!(e == p4) || (!(g.toList == p5.toList))))))) = true) : ¬ (a, b, c, d, e, g) = (p0, cnt, p2, p3, p4, p5) := by
  intro hh
  simp only [Prod.mk.injEq] at hh
  obtain ⟨rfl, rfl, rfl, rfl, rfl, rfl⟩ := hh
  simp at h
theorem fin_is (x : Int × Int × Int × Int × Int × ByteArray × Int) (p0 cnt p2 p3 p4 : Int) (p5 : ByteArray) {α : Type} (u v : α) :
    (if x.2.2.2.2.2.2 = 0 then (if (!(x.1 == p0) || (!(x.2.1 == cnt) || (!(x.2.2.1 == p2) || (!(x.2.2.2.1 == p3) || (!(x.2.2.2.2.1 == p4) || (!(x.2.2.2.2.2.1.toList == p5.toList))))))) = true then v else u) else v) = if x = (p0, cnt, p2, p3, p4, p5, 0) then u else v := by
  obtain ⟨a, b, c, d, e, g, f⟩ := x
  simp only []
  by_cases hf : f = 0
  · subst hf
    rw [if_pos rfl]
    cases h : (!(a == p0) || (!(b == cnt) || (!(c == p2) || (!(d == p3) || (!(e == p4) || (!(g.toList == p5.toList))))))) with
    | true =>
      have := page_diff a b c d e 0 g p0 cnt p2 p3 p4 p5 h
      rw [if_pos rfl, if_neg]
      intro hh
      simp only [Prod.mk.injEq] at hh this
      exact this ⟨hh.1, hh.2.1, hh.2.2.1, hh.2.2.2.1, hh.2.2.2.2.1, hh.2.2.2.2.2.1⟩
    | false =>
      have := page_same a b c d e 0 g p0 cnt p2 p3 p4 p5 h
      simp only [Prod.mk.injEq] at this
      obtain ⟨rfl, rfl, rfl, rfl, rfl, rfl⟩ := this
      rw [if_neg (by decide), if_pos rfl]
  · rw [if_neg hf, if_neg]
    intro hh
    simp only [Prod.mk.injEq] at hh
    exact hf hh.2.2.2.2.2.2
theorem of_loop (cnt p0 p2 p3 p4 : Int) (p5 : ByteArray) (hc : cnt ≤ 9223372036854775807) : ∀ (d k : Nat) (i : Int) (acc : List Int) (s : ByteArray), s.size / 4 ≤ d → acc.length + d ≤ 2000 → d + 4100 ≤ k → 0 ≤ i →
    free_Of.l0 k acc cnt i p0 cnt p2 p3 p4 p5 s = some (if 4 * (cnt - i).toNat ≤ s.size then finS p0 cnt p2 p3 p4 p5 (acc ++ numsOf (cnt - i).toNat (B s)) else ([], 0, 4))
  | d, 0, i, acc, s, _, _, h, _ => by omega
  | d, k + 1, i, acc, s, hs, ha, hk, h0 => by
    rw [free_Of.l0]
    by_cases hi : i < cnt
    · rw [if_pos hi, num_is s 4 k (by omega), bs, num4]
      by_cases h4 : s.size < 4
      · rw [if_pos h4, if_neg (show ¬ ((7 : Int) = 0) by decide), if_neg (by omega)]
      · obtain ⟨r, hr⟩ : ∃ r, (cnt - i).toNat = r + 1 := ⟨(cnt - i).toNat - 1, by omega⟩
        have hw : wrap64 (i + 1) = i + 1 := w64 (by omega) (by omega)
        have hr2 : (cnt - (i + 1)).toNat = r := by omega
        obtain ⟨d, rfl⟩ : ∃ e, d = e + 1 := ⟨d - 1, by omega⟩
        rw [if_neg h4]
        simp only [if_true]
        rw [if_pos (by omega), hw, of_loop cnt p0 p2 p3 p4 p5 hc d k (i + 1) _ _ (by rw [ByteArray.size_extract]; omega) (by rw [List.length_append]; simp; omega) (by omega) (by omega), hr2, hr, B_drop, numsOf, List.append_assoc, ByteArray.size_extract]
        congr 1
        by_cases h5 : 4 * (r + 1) ≤ s.size
        · rw [if_pos h5, if_pos (by omega)]
          rfl
        · rw [if_neg h5, if_neg (by omega)]
    · have hr : (cnt - i).toNat = 0 := by omega
      rw [if_neg hi, page_is k _ _ _ _ acc (by omega) (by omega), bs, fin_is, hr, if_pos (show 4 * 0 ≤ s.size by omega), numsOf, List.append_nil]
      unfold finS
      split <;> rfl
theorem of_is (k : Nat) (p0 cnt p2 p3 p4 : Int) (p5 : ByteArray) (hc : cnt ≤ 9223372036854775807) (hs : p5.size ≤ 4800) (hk : 5400 ≤ k) : free_Of.f k p0 cnt p2 p3 p4 p5 = some (ofS p0 cnt p2 p3 p4 p5) := by
  unfold free_Of.f octet_New.f
  rw [bs, of_loop cnt p0 p2 p3 p4 p5 hc 1200 k 0 [] p5 (by omega) (by simp) (by omega) (by omega)]
  unfold ofS
  rw [List.nil_append, Int.sub_zero]
theorem numsOf_length : ∀ (n : Nat) (s : List Int), (numsOf n s).length = n
  | 0, _ => rfl
  | n + 1, s => by rw [numsOf, List.length_cons, numsOf_length n]
theorem numsOf_back : ∀ (l rest : List Int), (∀ x ∈ l, 0 ≤ x ∧ x < 4294967296) → numsOf l.length (l.flatMap numL ++ rest) = l
  | [], _, _ => rfl
  | x :: l, rest, h => by
    have hx := h x (List.mem_cons_self ..)
    have ih := numsOf_back l rest (fun y hy => h y (List.mem_cons_of_mem _ hy))
    have h1 : ((x :: l).flatMap numL ++ rest).take 4 = numL x := by
      rw [List.flatMap_cons, List.append_assoc, List.take_append_of_le_length (by rw [numL_length]; omega), List.take_of_length_le (by rw [numL_length]; omega)]
    have h2 : ((x :: l).flatMap numL ++ rest).drop 4 = l.flatMap numL ++ rest := by
      rw [List.flatMap_cons, List.append_assoc, ← numL_length x, List.drop_left]
    rw [List.length_cons, numsOf, h1, h2, ih]
    congr 1
    unfold numL
    rw [ofLe_le, u64w hx.1 (by omega)]
    have : (256 : Int) ^ 4 = 4294967296 := by decide
    rw [this]
    omega
theorem isB_nums (l : List Int) : isB (l.flatMap numL) := by
  intro x hx
  obtain ⟨y, _, hy⟩ := List.mem_flatMap.1 hx
  exact isB_le 4 _ x hy
theorem isB_zeros (n : Nat) : isB (List.replicate n 0) := by
  intro x hx
  have := (List.mem_replicate.1 hx).2
  omega
theorem B_padS (m : Int) {l : List Int} (h : isB l) : B (padS m l) = l ++ List.replicate (m.toNat - l.length) 0 := B_str (isB_append h (isB_zeros _))
theorem size_padS (m : Int) (l : List Int) (h : (l.length : Int) ≤ m) : ((padS m l).size : Int) = m := by
  unfold padS
  rw [size_str, List.length_append, List.length_replicate]
  omega
theorem okS_good {s n nx tx : Int} {l : List Int} (h : okS s n nx tx l = true) : goodS s = true ∧ numsB l = true ∧ riseB l = true ∧ (l.length : Int) ≤ mostS s ∧ numB n = true ∧ (nx = 0 ∨ numB nx = true) ∧ tx ≤ 4611686018427387904 := by
  unfold okS at h
  simp only [Bool.and_eq_true, decide_eq_true_eq, Bool.or_eq_true] at h
  obtain ⟨⟨⟨⟨⟨h1, h2, h3⟩, h4⟩, h5⟩, h6⟩, h7⟩ := h
  exact ⟨h1, h2, h3, h4, h5, h6, h7⟩
theorem numB_lt {x : Int} (h : numB x = true) : 0 ≤ x ∧ x < 4294967296 := by
  unfold numB at h
  simp only [Bool.and_eq_true, decide_eq_true_eq] at h
  omega
theorem numsB_all {l : List Int} (h : numsB l = true) : ∀ x ∈ l, 0 ≤ x ∧ x < 4294967296 := by
  intro x hx
  unfold numsB at h
  exact numB_lt ((List.all_eq_true.1 h) x hx)
theorem room_size {s : Int} (h : goodS s = true) : wrap64 (roomS s + 24) = s := by
  unfold roomS
  rw [if_pos h]
  unfold goodS at h
  simp only [Bool.and_eq_true, decide_eq_true_eq, beq_iff_eq] at h
  unfold wrap64
  omega
/-- What is written is read again. -/
theorem ofS_back {s n nx tx : Int} {l : List Int} (h : okS s n nx tx l = true) : ofS 6 (l.length : Int) n nx tx (padS (roomS s) (l.flatMap numL)) = (l, nx, 0) := by
  obtain ⟨h1, h2, h3, h4, h5, h6, h7⟩ := okS_good h
  have h8 := most_len s l h4
  have h9 := size_padS (roomS s) (l.flatMap numL) h8
  unfold ofS
  rw [Int.toNat_natCast, if_pos (by rw [nums_length] at h8; omega), B_padS _ (isB_nums l), numsOf_back l _ (numsB_all h2)]
  unfold finS
  rw [h9, room_size h1]
  unfold pageS
  rw [h, if_pos rfl, if_pos rfl]
theorem pageS_err {s n nx tx : Int} {l : List Int} : (pageS s n nx tx l).2.2.2.2.2.2 = 0 ↔ okS s n nx tx l = true := by
  unfold pageS
  split
  · rename_i h
    exact ⟨fun _ => h, fun _ => rfl⟩
  · rename_i h
    exact ⟨fun hh => absurd hh (by decide), fun hh => absurd hh h⟩
theorem ofS_err {p0 cnt p2 p3 p4 : Int} {p5 : ByteArray} (h : (ofS p0 cnt p2 p3 p4 p5).2.2 = 0) : (ofS p0 cnt p2 p3 p4 p5).2.1 = p3 ∧ pageS (wrap64 ((p5.size : Int) + 24)) p2 p3 p4 (ofS p0 cnt p2 p3 p4 p5).1 = (p0, cnt, p2, p3, p4, p5, 0) := by
  unfold ofS finS at h ⊢
  split at h
  · rename_i h1
    split at h
    · rename_i h2
      rw [if_pos h1, if_pos h2]
      exact ⟨rfl, h2⟩
    · exact absurd h (by decide)
  · exact absurd h (by decide)
theorem of_short (p0 cnt p2 p3 p4 : Int) (p5 : ByteArray) : (ofS p0 cnt p2 p3 p4 p5).1.length ≤ p5.size := by
  unfold ofS finS
  split
  · split
    · show (numsOf _ _).length ≤ _
      rw [numsOf_length]
      omega
    · exact Nat.zero_le _
  · exact Nat.zero_le _
theorem good_of_room' {s : Int} (h : 0 < roomS s) : goodS s = true := by
  unfold roomS at h
  split at h
  · assumption
  · omega

end Go.Proofs.Ytlkfcabklaaacaa.Q

namespace Go.Proofs.Ytlkfcabklaaacaa.Pure
set_option linter.unusedVariables false
set_option linter.unusedSimpArgs false
open Go.RowKit Go.Proofs.Ytlkfcabklaaacaa.P Go.Proofs.YtlkfcabklaaacaaW.PrintWords Go.Proofs.YtlkfcabklaaacaaW.PrintLast Go.Proofs.YtlkfcabklaaacaaW.PrintMore Go.Proofs.YtlkfcabklaaacaaO Go.Proofs.Ytlkfcabklaaacaa.Q

theorem lives10 (k : Nat) (hk : 5 ≤ k) : careenagelaw10_lives.f k = some true := by
  unfold careenagelaw10_lives.f
  rw [most_is, bs, if_pos (by decide)]
  have h1 : free_Need.f 128 27 = some 2 := by
    unfold free_Need.f
    rw [most_is, bs]
    decide +kernel
  have h2 : riseB [1, 2] = true := by decide
  rw [h1, bs, if_pos rfl, rises_is _ (by decide) k (by simp; omega) (by omega), bs, h2]
def runL (b : Int) (n : Nat) : List Int := (List.range n).map (fun i : Nat => b + (i : Int))
theorem runL_snoc (b : Int) (n : Nat) : runL b (n + 1) = runL b n ++ [b + (n : Int)] := by
  unfold runL
  rw [List.range_succ, List.map_append]
  rfl
theorem runL_length (b : Int) (n : Nat) : (runL b n).length = n := by simp [runL]
theorem runL_rd (b : Int) (n i : Nat) (h : i < n) : rd (runL b n) (i : Int) = b + (i : Int) := by
  rw [rd_get (by rw [runL_length]; exact h)]
  simp [runL]
theorem runL_rise (b : Int) (n : Nat) : riseB (runL b n) = true := by
  rw [riseB_iff]
  intro i h0 hi
  rw [runL_length] at hi
  obtain ⟨j, rfl⟩ : ∃ j, i = j + 1 := ⟨i - 1, by omega⟩
  rw [show ((j + 1 : Nat) : Int) - 1 = (j : Int) by omega, runL_rd b n j (by omega), runL_rd b n (j + 1) hi]
  omega
theorem runL_nums (b : Int) (n : Nat) (hb : 2 ≤ b ∧ b ≤ 2000) (hn : n ≤ 2000) : numsB (runL b n) = true := by
  unfold numsB runL
  rw [List.all_eq_true]
  intro x hx
  obtain ⟨i, hi, rfl⟩ := List.mem_map.1 hx
  have := List.mem_range.1 hi
  unfold numB
  simp only [Bool.and_eq_true, decide_eq_true_eq]
  omega
theorem back_run (s f : Int) (m : Nat) (hm : m ≤ 1100) (hg : goodS s = true) (hf : 0 ≤ f ∧ f < 4294967296) : ∀ (d i k : Nat), i + d = m → d + 5000 ≤ k → careenagelaw10_FreeBack.l0 k s f (m : Int) (runL (2 + Int.tmod f 1000) i) (i : Int) = some true
  | d, i, 0, _, h => by omega
  | 0, i, k + 1, hi, hk => by
    obtain rfl : i = m := by omega
    have hr := roomS_range s
    have htm : 0 ≤ Int.tmod f 1000 ∧ Int.tmod f 1000 < 1000 := by rw [Int.tmod_eq_emod_of_nonneg hf.1]; omega
    rw [careenagelaw10_FreeBack.l0, if_neg (by omega), page_is k _ _ _ _ _ (by rw [runL_length]; omega) (by rw [runL_length]; omega), bs, most_is, bs]
    have h1 : ((pageS s 2 0 0 (runL (2 + Int.tmod f 1000) i)).2.2.2.2.2.2 == 0) = decide ((i : Int) ≤ mostS s) := by
      rw [Bool.eq_iff_iff, beq_iff_eq, pageS_err, decide_eq_true_eq]
      unfold okS
      rw [hg, runL_nums _ _ (by omega) (by omega), runL_rise, runL_length]
      simp [numB]
    have h2 : ∃ r, free_Need.f s (i : Int) = some r ∧ (r ≤ 1 ↔ (i : Int) ≤ mostS s) := by
      have h0 : ¬ mostS s = 0 := fun h => by rw [(mostS_zero s).1 h] at hg; cases hg
      have hm0 : 0 < mostS s ∧ mostS s ≤ 1018 := by unfold mostS at h0 ⊢; omega
      unfold free_Need.f
      rw [most_is, bs, if_neg h0]
      by_cases h3 : (i : Int) < 1
      · rw [if_pos h3]
        exact ⟨0, rfl, by omega⟩
      · rw [if_neg h3]
        refine ⟨_, rfl, ?_⟩
        have hq : wrap64 ((i : Int) - 1) = (i : Int) - 1 := w64 (by omega) (by omega)
        rw [hq, Int.tdiv_eq_ediv_of_nonneg (by omega)]
        have hd0 : 0 ≤ ((i : Int) - 1) / mostS s := Int.ediv_nonneg (by omega) (by omega)
        have hd1 : ((i : Int) - 1) / mostS s ≤ (i : Int) - 1 := Int.ediv_le_self _ (by omega)
        rw [show wrap64 (((i : Int) - 1) / mostS s) = ((i : Int) - 1) / mostS s from w64 (by omega) (by omega), show wrap64 (1 + ((i : Int) - 1) / mostS s) = 1 + ((i : Int) - 1) / mostS s from w64 (by omega) (by omega)]
        have h5 : ((i : Int) - 1) / mostS s < 1 ↔ (i : Int) - 1 < 1 * mostS s := Int.ediv_lt_iff_lt_mul hm0.1
        omega
    obtain ⟨r, hr1, hr2⟩ := h2
    rw [h1, if_pos (by simp), hr1, bs, bs]
    congr 1
    rw [beq_iff_eq, decide_eq_decide]
    exact hr2
  | d + 1, i, k + 1, hi, hk => by
    have htm : 0 ≤ Int.tmod f 1000 ∧ Int.tmod f 1000 < 1000 := by rw [Int.tmod_eq_emod_of_nonneg hf.1]; omega
    have hw2 : wrap64 ((i : Int) + 1) = ((i + 1 : Nat) : Int) := by unfold wrap64; omega
    rw [careenagelaw10_FreeBack.l0, if_pos (by omega), if_pos (by rw [runL_length]; omega), hw2, show ((((2 + (Int.tmod f 1000)) % 4294967296) + ((i : Int) % 4294967296)) % 4294967296) = 2 + Int.tmod f 1000 + (i : Int) by omega, ← runL_snoc]
    exact back_run s f m hm hg hf d (i + 1) k (by omega) (by omega)
theorem u32_range {x : Int} (h : (Lit.int .u32 x).wf = true) : 0 ≤ x ∧ x < 4294967296 := by
  have h1 : IntKind.u32.min = 0 := rfl
  have h2 : IntKind.u32.max = 4294967295 := rfl
  simp [Lit.wf, h1, h2] at h
  omega
theorem i64_range {x : Int} (h : (Lit.int .i64 x).wf = true) : -9223372036854775808 ≤ x ∧ x ≤ 9223372036854775807 := by
  have h1 : IntKind.i64.min = -9223372036854775808 := rfl
  have h2 : IntKind.i64.max = 9223372036854775807 := rfl
  simp [Lit.wf, h1, h2] at h
  omega
theorem FreeBack : careenagelaw10_FreeBack.Pure := by
  intro s n nx l p0 p1 p2 p3 p4 p5 f m w0 w1 w2 wl1 wl2 wl3 w5 w6 w7 w8 w9 w10 w11 w12
  have hf := u32_range w11
  have hp1 := (i64_range w6).2
  refine ⟨20004, ?_⟩
  unfold careenagelaw10_FreeBack.f
  rw [lives10 _ (by omega), bs, if_pos rfl]
  have hj : ∀ b : Bool, b = decide (1200 < l.length ∨ 4200 < p5.size) → careenagelaw10_FreeBack.j0 20004 s n nx l f m b p0 p1 p2 p3 p4 p5 = some true := by
    intro b hb
    rw [careenagelaw10_FreeBack.j0]
    cases b with
    | true => rw [if_pos rfl]
    | false =>
      have hb2 := of_decide_eq_false hb.symm
      have h1 : l.length ≤ 1200 := by omega
      have h2 : p5.size ≤ 4200 := by omega
      have hj2 : careenagelaw10_FreeBack.j2 20002 s f m = some true := by
        rw [careenagelaw10_FreeBack.j2, rroom_is, bs]
        by_cases h3 : roomS s = 0
        · rw [if_pos h3]
        · rw [if_neg h3, pick_is _ _ (by omega) (by omega), bs]
          have hr := roomS_range s
          obtain ⟨q, hq⟩ := Int.eq_ofNat_of_zero_le (Int.emod_nonneg m (show (1100 : Int) ≠ 0 by decide))
          have hq2 : m % 1100 < 1100 := Int.emod_lt_of_pos _ (by decide)
          rw [hq]
          exact back_run s f q (by omega) (good_of_room' (by omega)) hf q 0 20001 (by omega) (by omega)
      have hj1 : careenagelaw10_FreeBack.j1 20003 s f m p0 p1 p2 p3 p4 p5 = some true := by
        rw [careenagelaw10_FreeBack.j1, of_is _ _ _ _ _ _ _ hp1 (by omega) (by omega), bs]
        by_cases he : (ofS p0 p1 p2 p3 p4 p5).2.2 = 0
        · obtain ⟨e1, e2⟩ := ofS_err he
          have e3 := of_short p0 p1 p2 p3 p4 p5
          rw [if_pos he, page_is _ _ _ _ _ _ (by omega) (by omega), bs, e1, e2, if_pos rfl, if_neg (by simp)]
          exact hj2
        · rw [if_neg he]
          exact hj2
      rw [if_neg (by decide), page_is _ _ _ _ _ _ (by omega) (by omega), bs]
      cases hok : okS s n nx 9 l with
      | false =>
        have : ¬ (pageS s n nx 9 l).2.2.2.2.2.2 = 0 := fun h => by rw [pageS_err.1 h] at hok; cases hok
        rw [if_neg this]
        exact hj1
      | true =>
        obtain ⟨g1, g2, g3, g4, g5, g6, g7⟩ := okS_good hok
        have hr := roomS_range s
        have hsz := size_padS (roomS s) (l.flatMap numL) (most_len s l g4)
        have hpg : pageS s n nx 9 l = (6, (l.length : Int), n, nx, 9, padS (roomS s) (l.flatMap numL), 0) := by
          unfold pageS
          rw [hok, if_pos rfl]
        rw [hpg]
        simp only [if_true]
        rw [of_is _ _ _ _ _ _ _ (by omega) (by omega) (by omega), ofS_back hok, bs]
        simp only [if_true]
        rw [same_is _ (by omega) _ (by omega), bs, if_pos rfl, rises_is _ (by omega) _ (by omega) (by omega), bs, g3, if_pos rfl]
        exact hj1
  split
  · exact hj _ (by rename_i h; rw [decide_eq_true]; left; omega)
  · exact hj _ (by rename_i h; rw [decide_eq_decide]; omega)

end Go.Proofs.Ytlkfcabklaaacaa.Pure
