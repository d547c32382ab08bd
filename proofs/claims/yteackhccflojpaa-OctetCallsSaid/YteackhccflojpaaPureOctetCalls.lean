/- Put appends a number's bytes as the document says, behind what was there, which is unchanged. No conditions. -/
import Derived.Test.YteackhccflojpaaPx10
import Derived.Test.YteackhccflojpaaQOct1
import Derived.Test.YteackhccflojpaaQOctet
import Derived.Test.YteackhccflojpaaOBytes
set_option linter.unusedVariables false
set_option linter.unusedSimpArgs false
namespace Go.Proofs.Yteackhccflojpaa.Pure
open Go.RowKit Go.Proofs.Yteackhccflojpaa.P Go.Proofs.YteackhccflojpaaW.PrintWords Go.Proofs.YteackhccflojpaaW.PrintLast Go.Proofs.YteackhccflojpaaW.PrintMore Go.Proofs.YteackhccflojpaaO Go.Proofs.Yteackhccflojpaa.Q

theorem OctetCalls : careenagelaw01_OctetCalls.Pure := by
  intro l n K _ _ _ _ _
  refine ⟨20, ?_⟩
  unfold careenagelaw01_OctetCalls.f
  rw [oct_lives 20 (by omega)]
  simp only [Option.bind_some, if_true]
  by_cases h : (l.length : Int) > 300
  · rw [if_pos h]
  · rw [if_neg h, put_is 20 l n K (by omega) (by omega), rput_is 20 l n K (by omega) (by omega)]
    simp

end Go.Proofs.Yteackhccflojpaa.Pure
