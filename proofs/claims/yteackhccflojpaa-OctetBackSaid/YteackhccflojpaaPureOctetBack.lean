/- What is appended is read again, in order, and then nothing is left; with one byte less there are too few. No conditions. -/
import Derived.Test.YteackhccflojpaaPx13
import Derived.Test.YteackhccflojpaaPx14
import Derived.Test.YteackhccflojpaaPx17
import Derived.Test.YteackhccflojpaaPx20
import Derived.Test.YteackhccflojpaaQOct2
import Derived.Test.YteackhccflojpaaQOct1
import Derived.Test.YteackhccflojpaaQOctet
import Derived.Test.YteackhccflojpaaOBytes
set_option linter.unusedVariables false
set_option linter.unusedSimpArgs false
namespace Go.Proofs.Yteackhccflojpaa.Pure
open Go.RowKit Go.Proofs.Yteackhccflojpaa.P Go.Proofs.YteackhccflojpaaW.PrintWords Go.Proofs.YteackhccflojpaaW.PrintLast Go.Proofs.YteackhccflojpaaW.PrintMore Go.Proofs.YteackhccflojpaaO Go.Proofs.Yteackhccflojpaa.Q

theorem and_mask (x : Int) (n : Nat) (hn : n ≤ 7) (h0 : 0 ≤ x) (h1 : x < 18446744073709551616) : Go.bits .and .u64 x (256 ^ n - 1) = x % 256 ^ n := by
  have hp := pow256_le (i := n) (by omega)
  have hq := pow_pos256 n
  rw [u64_and x _ h0 h1 (by omega) (by omega)]
  obtain ⟨x, rfl⟩ := Int.eq_ofNat_of_zero_le h0
  have e : ((256 : Int) ^ n) = ((2 ^ (8 * n) : Nat) : Int) := by rw [← pow8, Int.natCast_pow]; rfl
  rw [e, show (((2 ^ (8 * n) : Nat) : Int) - 1).toNat = 2 ^ (8 * n) - 1 by omega, Int.toNat_natCast, Nat.and_two_pow_sub_one_eq_mod]
  rfl
theorem shl_one (n : Nat) (hn : n ≤ 7) : shl .u64 1 (8 * (n : Int)) = 256 ^ n := by
  rw [shl_byte 1 n hn (by omega), Int.one_mul]
/-- The widths. -/
def wid (z : List Int) (i : Nat) : Nat := (1 + rd z i % 8).toNat
theorem wid_le (z : List Int) (i : Nat) : 1 ≤ wid z i ∧ wid z i ≤ 8 ∧ (wid z i : Int) = 1 + rd z i % 8 := by unfold wid; omega
/-- The bytes of the numbers from place i on. -/
def encs (l z : List Int) : Nat → Nat → List Int
  | 0, _ => []
  | d + 1, i => le (rd l i) (wid z i) ++ encs l z d (i + 1)
theorem isB_encs (l z : List Int) : ∀ d i, isB (encs l z d i)
  | 0, _ => isB_nil
  | d + 1, i => isB_append (isB_le _ _) (isB_encs l z d (i + 1))
theorem back_l1 (l z : List Int) (hl : l.length ≤ 40) (hz : l.length ≤ z.length) (hw : ∀ x ∈ l, 0 ≤ x ∧ x < 18446744073709551616) : ∀ (d k i : Nat) (s : ByteArray), i + d = l.length → 3 * d + 20 < k → B s = encs l z d i → careenagelaw01_OctetBack.l1 k l z i s = some true
  | 0, k + 1, i, s, h, _, hs => by
    have h0 : s.size = 0 := by rw [← B_length, hs]; rfl
    simp only [careenagelaw01_OctetBack.l1, octet_Reader_Left.f, octet_Reader_Rest.f, bs]
    rw [if_neg (by omega), if_pos (by omega)]
    have : s = ⟨#[]⟩ := B_inj (by rw [hs]; rfl)
    subst this
    decide +kernel
  | d + 1, k + 3, i, s, h, hk, hs => by
    have hi : i < l.length := by omega
    obtain ⟨w1, w8, hwid⟩ := wid_le z i
    have hx : rd l i = l[i] := rd_get hi
    obtain ⟨x0, x1⟩ := hw l[i] (List.getElem_mem hi)
    have hsz : s.size = wid z i + (encs l z d (i + 1)).length := by rw [← B_length, hs]; simp [encs, le_length]
    have j4 : careenagelaw01_OctetBack.j4 (k + 1) l z i (wid z i) (l[i] % 256 ^ wid z i) false s = some true := by
      simp only [careenagelaw01_OctetBack.j4]
      rw [if_neg (by decide), num_is _ _ _ (by omega)]
      have hn : numR s (wid z i) = (l[i] % 256 ^ wid z i, 0, s.extract (wid z i) s.size) := by
        unfold numR
        rw [if_neg (by omega), if_neg (by omega), Int.toNat_natCast, hs]
        simp only [encs]
        rw [List.take_left' (le_length _ _), ofLe_le, hx]
      rw [hn]
      simp only [bs, if_true]
      rw [w64 (by omega) (by omega)]
      refine back_l1 l z hl hz hw d k (i + 1) _ (by omega) (by omega) ?_
      rw [B_drop, hs]
      simp only [encs]
      exact List.drop_left' (le_length _ _)
    have j3 : ∀ v, v = l[i] % 256 ^ wid z i → careenagelaw01_OctetBack.j3 (k + 2) l z i (wid z i) v s = some true := by
      intro v hv
      subst hv
      simp only [careenagelaw01_OctetBack.j3, octet_Reader_Left.f, octet_Reader_Rest.f, octet_New.f, bs]
      have em : mx 0 (wrap64 ((mn (s.size : Int) (wid z i : Int)) - 1)) = ((wid z i - 1 : Nat) : Int) := by
        have e1 : mn (s.size : Int) (wid z i : Int) = (wid z i : Int) := by unfold mn; split <;> omega
        rw [e1, w64 (by omega) (by omega)]
        unfold mx
        split <;> omega
      rw [em, if_pos (by omega), if_pos (by omega), num_is _ _ _ (by omega)]
      have hn : numR (s.extract 0 (((wid z i - 1 : Nat) : Int)).toNat) (wid z i) = (0, 7, s.extract 0 (((wid z i - 1 : Nat) : Int)).toNat) := by
        unfold numR
        rw [if_neg (by omega), if_pos (by rw [ByteArray.size_extract]; omega)]
      rw [hn]
      simp only [bs, if_true]
      exact j4
    simp only [careenagelaw01_OctetBack.l1]
    rw [if_pos (by omega), if_pos (by omega), if_pos (by omega), pick_is _ 8 (by decide) (by decide)]
    simp only [bs]
    rw [w64 (x := 1 + rd z i % 8) (by omega) (by omega), ← hwid, hx]
    by_cases hlt : (wid z i : Int) < 8
    · rw [if_pos hlt, w64 (x := 8 * (wid z i : Int)) (by omega) (by omega), u64w (x := 8 * (wid z i : Int)) (by omega) (by omega), if_pos (by omega), shl_one _ (by omega)]
      have hp := pow256_le (i := wid z i) (by omega)
      have hq := pow_pos256 (wid z i)
      rw [u64w (by omega) (by omega), and_mask _ _ (by omega) x0 x1]
      exact j3 _ rfl
    · rw [if_neg hlt]
      refine j3 _ ?_
      have e8 : wid z i = 8 := by omega
      rw [e8]
      exact (Int.emod_eq_of_lt x0 (by simpa using x1)).symm
theorem back_l0 (l z E : List Int) (hE : encs l z l.length 0 = E) (hl : l.length ≤ 40) (hz : l.length ≤ z.length) (hw : ∀ x ∈ l, 0 ≤ x ∧ x < 18446744073709551616) : ∀ (d k i : Nat) (x : List Int), i + d = l.length → d + 150 < k → x.length ≤ 8 * i → x ++ encs l z d i = E →
    careenagelaw01_OctetBack.l0 k l z x i = some true
  | 0, k + 1, i, x, h, hk, _, hx => by
    simp only [careenagelaw01_OctetBack.l0, octet_New.f, bs]
    rw [if_neg (by omega)]
    simp only [encs, List.append_nil] at hx
    exact back_l1 l z hl hz hw l.length k 0 _ (by omega) (by omega) (by rw [hx, ← hE, B_str (isB_encs _ _ _ _)])
  | d + 1, k + 1, i, x, h, hk, hlen, hx => by
    obtain ⟨w1, w8, hwid⟩ := wid_le z i
    simp only [careenagelaw01_OctetBack.l0]
    rw [if_pos (by omega), if_pos (by omega), if_pos (by omega), pick_is _ 8 (by decide) (by decide)]
    simp only [bs]
    rw [w64 (x := 1 + rd z i % 8) (by omega) (by omega), ← hwid, put_is _ _ _ _ (by omega) (by omega), w64 (by omega) (by omega)]
    simp only [bs, putL]
    rw [if_pos (by omega), Int.toNat_natCast]
    have hx2 : (x ++ le (rd l i) (wid z i)) ++ encs l z d (i + 1) = E := by
      simp only [encs] at hx
      rw [List.append_assoc, hx]
    exact back_l0 l z E hE hl hz hw d k (i + 1) _ (by omega) (by omega) (by rw [List.length_append, le_length]; omega) hx2
theorem back_k (l z : List Int) (hw : ∀ x ∈ l, (Lit.int .u64 x).wf = true) (k : Nat) (hk : 400 ≤ k) : careenagelaw01_OctetBack.f k l z = some true := by
  obtain ⟨k, rfl⟩ : ∃ m, k = m + 1 := ⟨k - 1, by omega⟩
  unfold careenagelaw01_OctetBack.f
  rw [oct_lives (k + 1) (by omega)]
  simp only [bs, if_true]
  have hj : careenagelaw01_OctetBack.j0 (k + 1) l z true = some true := by rw [careenagelaw01_OctetBack.j0]; rfl
  by_cases h : (l.length : Int) > 40
  · rw [if_pos h, hj]
  · rw [if_neg h]
    by_cases h2 : (z.length : Int) < (l.length : Int)
    · rw [decide_eq_true h2, hj]
    · rw [decide_eq_false h2, careenagelaw01_OctetBack.j0, if_neg (by decide)]
      refine back_l0 l z _ rfl (by omega) (by omega) (fun x hx => ?_) l.length k 0 [] (by omega) (by omega) (by simp) rfl
      have h3 := hw x hx
      have e1 : IntKind.u64.min = 0 := rfl
      have e2 : IntKind.u64.max = 18446744073709551615 := rfl
      simp [Lit.wf, e1, e2] at h3
      omega
theorem OctetBack : careenagelaw01_OctetBack.Pure := fun l z _ _ hw _ _ _ => ⟨_, back_k l z hw 400 (Nat.le_refl _)⟩

end Go.Proofs.Yteackhccflojpaa.Pure
