/- The examples of chapter 1 have the results that it gives. No conditions. -/
import Derived.Test.YteackhccflojpaaPx25
set_option linter.unusedVariables false
set_option linter.unusedSimpArgs false
namespace Go.Proofs.Yteackhccflojpaa.Pure
open Go.RowKit Go.Proofs.Yteackhccflojpaa.P Go.Proofs.YteackhccflojpaaW.PrintWords Go.Proofs.YteackhccflojpaaW.PrintLast Go.Proofs.YteackhccflojpaaW.PrintMore Go.Proofs.YteackhccflojpaaO

theorem OctetNames : careenagelaw01_OctetNames.Pure := ⟨30, by decide +kernel⟩

end Go.Proofs.Yteackhccflojpaa.Pure
