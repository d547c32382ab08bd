/- The examples of chapter 2 have the results that it gives. No conditions. -/
import Derived.Test.YteackhccflojpaaPx14
import Derived.Test.YteackhccflojpaaQCrcL
import Derived.Test.YteackhccflojpaaQCrc
import Derived.Test.YteackhccflojpaaOCrcGo
set_option linter.unusedVariables false
set_option linter.unusedSimpArgs false
namespace Go.Proofs.Yteackhccflojpaa.Pure
open Go.RowKit Go.Proofs.Yteackhccflojpaa.P Go.Proofs.YteackhccflojpaaW.PrintWords Go.Proofs.YteackhccflojpaaW.PrintLast Go.Proofs.YteackhccflojpaaW.PrintMore Go.Proofs.YteackhccflojpaaO Go.Proofs.Yteackhccflojpaa.Q

theorem CrcNames : careenagelaw02_CrcNames.Pure := by
  refine ⟨crc_lives, ?_, crcI 0 (⟨#[49, 50, 51, 52]⟩ : ByteArray), of_is _ (by decide), ?_⟩
  · rw [of_is _ (by decide)]
    unfold crcI
    rw [nb_data]
    decide +kernel
  · rw [more_is _ _ (crcI_nn _ _) (crcI_lt _ _ (by decide)) (by decide), crcI_more, nb_data, nb_data]
    decide +kernel

end Go.Proofs.Yteackhccflojpaa.Pure
