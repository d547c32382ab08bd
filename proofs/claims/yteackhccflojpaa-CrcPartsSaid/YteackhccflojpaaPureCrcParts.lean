/- The check of a string is that of its first part, continued with the rest, wherever it is cut. No conditions. -/
import Derived.Test.YteackhccflojpaaPx18
import Derived.Test.YteackhccflojpaaQCrcL
import Derived.Test.YteackhccflojpaaQCrc
import Derived.Test.YteackhccflojpaaOCrcGo
set_option linter.unusedVariables false
set_option linter.unusedSimpArgs false
namespace Go.Proofs.Yteackhccflojpaa.Pure
open Go.RowKit Go.Proofs.Yteackhccflojpaa.P Go.Proofs.YteackhccflojpaaW.PrintWords Go.Proofs.YteackhccflojpaaW.PrintLast Go.Proofs.YteackhccflojpaaW.PrintMore Go.Proofs.YteackhccflojpaaO Go.Proofs.Yteackhccflojpaa.Q

theorem CrcParts : careenagelaw02_CrcParts.Pure := by
  intro s c hs _
  unfold careenagelaw02_CrcParts.f
  rw [crc_lives]
  simp only [bs, if_true]
  by_cases h : (s.size : Int) > 600
  · rw [if_pos h]
  · rw [if_neg h]
    have hs6 : s.size < 4611686018427387904 := by omega
    have hw : wrap64 ((s.size : Int) + 1) = (s.size : Int) + 1 := by unfold wrap64; omega
    rw [hw]
    obtain ⟨r, hr, h0, h1⟩ := pick_range c ((s.size : Int) + 1) (by omega) (by omega)
    rw [hr, bs, if_pos h0, if_pos (by omega), of_is _ (ext_size s _ _ hs6), bs, more_is _ _ (crcI_nn _ _) (crcI_lt _ _ (by decide)) (ext_size s _ _ hs6), bs, of_is _ hs6, bs, crcI_cut, if_pos rfl, bs, more_is _ _ (crcI_nn _ _) (crcI_lt _ _ (by decide)) (by decide), bs, bs, crcI_nil, if_pos rfl, more_is _ _ (by decide) (by decide) hs6, bs, bs]
    simp

end Go.Proofs.Yteackhccflojpaa.Pure
