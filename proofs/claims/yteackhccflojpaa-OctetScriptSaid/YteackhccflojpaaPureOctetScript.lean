/- A reader returns what the document says, whatever is read from it. No conditions. -/
import Derived.Test.YteackhccflojpaaPx0
import Derived.Test.YteackhccflojpaaPx13
import Derived.Test.YteackhccflojpaaPx14
import Derived.Test.YteackhccflojpaaPx17
import Derived.Test.YteackhccflojpaaPx21
import Derived.Test.YteackhccflojpaaPx25
import Derived.Test.YteackhccflojpaaPx26
import Derived.Test.YteackhccflojpaaQOct2
import Derived.Test.YteackhccflojpaaQOct1
import Derived.Test.YteackhccflojpaaQOctet
import Derived.Test.YteackhccflojpaaOBytes
set_option linter.unusedVariables false
set_option linter.unusedSimpArgs false
namespace Go.Proofs.Yteackhccflojpaa.Pure
open Go.RowKit Go.Proofs.Yteackhccflojpaa.P Go.Proofs.YteackhccflojpaaW.PrintWords Go.Proofs.YteackhccflojpaaW.PrintLast Go.Proofs.YteackhccflojpaaW.PrintMore Go.Proofs.YteackhccflojpaaO Go.Proofs.Yteackhccflojpaa.Q

theorem script_l0 (l : List S60) (hl : l.length ≤ 60) : ∀ (d k i : Nat) (s : ByteArray), i + d = l.length → 2 * d + 20 < k → careenagelaw01_OctetScript.l0 k l i s s = some true
  | 0, k + 1, i, s, h, _ => by
    simp only [careenagelaw01_OctetScript.l0]
    rw [if_neg (by omega)]
  | d + 1, k + 2, i, s, h, hk => by
    have j2 : ∀ s : ByteArray, careenagelaw01_OctetScript.j2 (k + 1) l i true s s = some true := by
      intro s
      simp only [careenagelaw01_OctetScript.j2, octet_Reader_Left.f, octet_Reader_Rest.f, careenageref01_Reader_Left.f, bs, if_true]
      rw [w64 (by omega) (by omega)]
      exact script_l0 l hl d k (i + 1) s (by omega) (by omega)
    simp only [careenagelaw01_OctetScript.l0]
    rw [if_pos (by omega), if_pos (by omega), pick_is _ 3 (by decide) (by decide)]
    simp only [bs]
    split
    · rw [num_is _ _ _ (by omega), rnum_is _ _ _ (by omega)]
      simp only [bs, if_true, beq_self_eq_true]
      exact j2 _
    · split
      · rw [bytes_is, rbytes_is]
        simp only [bs, if_true, beq_self_eq_true]
        exact j2 _
      · exact j2 _
theorem script_k (s : ByteArray) (l : List S60) (k : Nat) (hk : 600 ≤ k) : careenagelaw01_OctetScript.f k s l = some true := by
  obtain ⟨k, rfl⟩ : ∃ m, k = m + 1 := ⟨k - 1, by omega⟩
  unfold careenagelaw01_OctetScript.f
  rw [oct_lives (k + 1) (by omega)]
  simp only [bs, if_true]
  have hj : careenagelaw01_OctetScript.j0 (k + 1) s l true = some true := by rw [careenagelaw01_OctetScript.j0]; rfl
  by_cases h : (s.size : Int) > 300
  · rw [if_pos h, hj]
  · rw [if_neg h]
    by_cases h2 : (l.length : Int) > 60
    · rw [decide_eq_true h2, hj]
    · rw [decide_eq_false h2, careenagelaw01_OctetScript.j0, if_neg (by decide)]
      simp only [octet_New.f, careenageref01_New.f, bs]
      rw [zero_is s k (by omega) (by omega), rzero_is s k (by omega) (by omega)]
      simp only [bs, bne_self_eq_false, Bool.false_eq_true, if_false]
      exact script_l0 l (by omega) l.length k 0 s (by omega) (by omega)
theorem OctetScript : careenagelaw01_OctetScript.Pure := fun s l _ _ _ _ => ⟨_, script_k s l 600 (Nat.le_refl _)⟩

end Go.Proofs.Yteackhccflojpaa.Pure
