/- What is read in parts is what is read at once; a reader that returns an error has taken nothing; bytes that are not all zero are not Zero. No conditions. -/
import Derived.Test.YteackhccflojpaaPx13
import Derived.Test.YteackhccflojpaaPx14
import Derived.Test.YteackhccflojpaaPx17
import Derived.Test.YteackhccflojpaaPx18
import Derived.Test.YteackhccflojpaaQOct1
import Derived.Test.YteackhccflojpaaQOctet
import Derived.Test.YteackhccflojpaaOBytes
set_option linter.unusedVariables false
set_option linter.unusedSimpArgs false
namespace Go.Proofs.Yteackhccflojpaa.Pure
open Go.RowKit Go.Proofs.Yteackhccflojpaa.P Go.Proofs.YteackhccflojpaaW.PrintWords Go.Proofs.YteackhccflojpaaW.PrintLast Go.Proofs.YteackhccflojpaaW.PrintMore Go.Proofs.YteackhccflojpaaO Go.Proofs.Yteackhccflojpaa.Q

theorem l1_is (s : ByteArray) (hs : s.size ≤ 300) (K : Nat) : ∀ (d k i : Nat) (z : Bool), i + d = s.size → d + 400 < k → (zeroL (B s) = (z && zeroL ((B s).drop i))) → careenagelaw01_OctetRests.l1 k s z i = some true
  | 0, k + 1, i, z, h, hk, hz => by
    simp only [careenagelaw01_OctetRests.l1]
    rw [if_neg (by omega), zero_is s k (by omega) (by omega)]
    rw [List.drop_eq_nil_of_le (by rw [B_length]; omega)] at hz
    rw [hz]
    simp [zeroL]
  | d + 1, k + 1, i, z, h, hk, hz => by
    have hi : i < (B s).length := by rw [B_length]; omega
    simp only [careenagelaw01_OctetRests.l1]
    have e2 : wrap64 ((i : Int) + 1) = ((i + 1 : Nat) : Int) := by rw [w64 (by omega) (by omega)]; rfl
    rw [if_pos (by omega), e2]
    rw [List.drop_eq_getElem_cons hi] at hz
    cases z with
    | true =>
      rw [if_pos rfl, if_pos (by omega), bt_get hi]
      refine l1_is s hs K d k (i + 1) _ (by omega) (by omega) ?_
      rw [hz, Bool.true_and]
      rfl
    | false =>
      rw [if_neg (by decide)]
      exact l1_is s hs K d k (i + 1) false (by omega) (by omega) (by simpa using hz)
theorem eq_of_split (s t u : ByteArray) (h : B s = B t ++ B u) : (t ++ u).toList = s.toList := toList_iff.2 (by rw [B_append, h])
theorem l0_is (s : ByteArray) (l : List Int) (hs : s.size ≤ 300) (hl : l.length ≤ 40) : ∀ (d k i : Nat) (got rest : ByteArray), i + d = l.length → 2 * d + 800 < k → B s = B got ++ B rest →
    careenagelaw01_OctetRests.l0 k s l got i rest = some true
  | 0, k + 1, i, got, rest, h, hk, hB => by
    simp only [careenagelaw01_OctetRests.l0]
    rw [if_neg (by omega)]
    exact l1_is s hs 0 s.size k 0 true (by omega) (by omega) (by simp)
  | d + 1, k + 2, i, got, rest, h, hk, hB => by
    have hsz : s.size = got.size + rest.size := by rw [← B_length, ← B_length, ← B_length, hB, List.length_append]
    have e2 : wrap64 ((i : Int) + 1) = ((i + 1 : Nat) : Int) := by rw [w64 (by omega) (by omega)]; rfl
    have j2 : ∀ (x r : ByteArray), B rest = B x ++ B r → careenagelaw01_OctetRests.j2 (k + 1) s l got i x false r = some true := by
      intro x r hx
      have hxr : rest.size = x.size + r.size := by rw [← B_length, ← B_length, ← B_length, hx, List.length_append]
      have hB2 : B s = B (got ++ x) ++ B r := by rw [hB, hx, B_append, List.append_assoc]
      simp only [careenagelaw01_OctetRests.j2]
      rw [if_neg (by decide), if_pos (by omega)]
      simp only [octet_Reader_Rest.f, octet_Reader_Left.f, Option.bind_some]
      rw [if_pos (by rw [ByteArray.size_append]; omega), if_pos (eq_of_split _ _ _ hB2), if_pos trivial, e2]
      exact l0_is s l hs hl d k (i + 1) _ r (by omega) (by omega) hB2
    simp only [careenagelaw01_OctetRests.l0]
    rw [if_pos (by omega)]
    simp only [octet_Reader_Rest.f, Option.bind_some, bytes_is]
    rw [if_pos (by omega)]
    generalize rd l i = p
    have hnil : B rest = B (⟨#[]⟩ : ByteArray) ++ B rest := by simp [B_empty]
    unfold bytesR
    by_cases h1 : p < 0
    · rw [if_pos h1, if_neg (by omega)]
      simp [toList_iff, B_empty, j2 _ _ hnil]
    · rw [if_neg h1, if_pos (by omega)]
      by_cases h2 : p > (rest.size : Int)
      · rw [if_pos h2]
        have h3 : ¬ p ≤ (rest.size : Int) := by omega
        simp [toList_iff, B_empty, j2 _ _ hnil, h3]
      · rw [if_neg h2]
        have h3 : p ≤ (rest.size : Int) := by omega
        have hx : B rest = B (rest.extract 0 p.toNat) ++ B (rest.extract p.toNat rest.size) := by rw [B_take, B_drop, List.take_append_drop]
        simp [h3, j2 _ _ hx]
theorem rests_k (s : ByteArray) (l : List Int) (k : Nat) (hk : 1500 ≤ k) : careenagelaw01_OctetRests.f k s l = some true := by
  obtain ⟨k, rfl⟩ : ∃ m, k = m + 1 := ⟨k - 1, by omega⟩
  unfold careenagelaw01_OctetRests.f
  rw [oct_lives (k + 1) (by omega)]
  simp only [Option.bind_some, if_true]
  have hj : careenagelaw01_OctetRests.j0 (k + 1) s l true = some true := by rw [careenagelaw01_OctetRests.j0]; rfl
  by_cases h : (s.size : Int) > 300
  · rw [if_pos h, hj]
  · rw [if_neg h]
    by_cases h2 : (l.length : Int) > 40
    · rw [decide_eq_true h2, hj]
    · rw [decide_eq_false h2]
      rw [careenagelaw01_OctetRests.j0, if_neg (by decide)]
      simp only [octet_New.f, Option.bind_some]
      exact l0_is s l (by omega) (by omega) l.length k 0 ⟨#[]⟩ s (by omega) (by omega) (by simp [B_empty])
theorem OctetRests : careenagelaw01_OctetRests.Pure := fun s l _ _ _ _ => ⟨_, rests_k s l 1500 (Nat.le_refl _)⟩

end Go.Proofs.Yteackhccflojpaa.Pure
