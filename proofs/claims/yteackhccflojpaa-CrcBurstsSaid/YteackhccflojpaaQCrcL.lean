/- The chapter's example lives. No conditions. -/
import Derived.Test.YteackhccflojpaaPx13
import Derived.Test.YteackhccflojpaaQCrc
import Derived.Test.YteackhccflojpaaOCrcGo
set_option linter.unusedVariables false
set_option linter.unusedSimpArgs false
namespace Go.Proofs.Yteackhccflojpaa.Q
open Go.RowKit Go.Proofs.Yteackhccflojpaa.P Go.Proofs.YteackhccflojpaaW.PrintWords Go.Proofs.YteackhccflojpaaW.PrintLast Go.Proofs.YteackhccflojpaaW.PrintMore Go.Proofs.YteackhccflojpaaO

theorem crc_ex : crcI 0 (⟨#[49, 50, 51, 52, 53, 54, 55, 56, 57]⟩ : ByteArray) = 3808858755 := by
  unfold crcI
  rw [nb_data]
  decide +kernel
theorem crc_lives : careenagelaw02_lives.f = some true := by
  unfold careenagelaw02_lives.f
  rw [of_is _ (by decide), crc_ex]
  rfl

end Go.Proofs.Yteackhccflojpaa.Q
