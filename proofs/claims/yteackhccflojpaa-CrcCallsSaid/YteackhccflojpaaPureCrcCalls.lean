/- The checks are as the document says. No conditions. -/
import Derived.Test.YteackhccflojpaaPx16
import Derived.Test.YteackhccflojpaaPx17
import Derived.Test.YteackhccflojpaaPx18
import Derived.Test.YteackhccflojpaaQCrcL
import Derived.Test.YteackhccflojpaaQCrc
import Derived.Test.YteackhccflojpaaOCrcGo
set_option linter.unusedVariables false
set_option linter.unusedSimpArgs false
namespace Go.Proofs.Yteackhccflojpaa.Pure
open Go.RowKit Go.Proofs.Yteackhccflojpaa.P Go.Proofs.YteackhccflojpaaW.PrintWords Go.Proofs.YteackhccflojpaaW.PrintLast Go.Proofs.YteackhccflojpaaW.PrintMore Go.Proofs.YteackhccflojpaaO Go.Proofs.Yteackhccflojpaa.Q

theorem CrcCalls : careenagelaw02_CrcCalls.Pure := by
  intro a b c ha hb hc
  have hc2 : 0 ≤ c ∧ c < 4294967296 := by
    simp [Lit.wf, IntKind.min, IntKind.max, IntKind.signed, IntKind.bits] at hc
    omega
  have h2 : ∀ (c : Int) (s : ByteArray), 0 ≤ c → c < 4294967296 → s.size ≤ 140737488351232 → careenageref02_More.f c s = some (crcI c s) := fun c s h0 h1 hs => by
    unfold careenageref02_More.f
    rw [if_pos ⟨h0, h1, by omega⟩]
  refine ⟨crc_lives, ⟨crcI 0 a, of_is a (by omega), ?_⟩, crcI c b, more_is c b hc2.1 hc2.2 (by omega), h2 c b hc2.1 hc2.2 hb⟩
  unfold careenageref02_Of.f
  rw [h2 0 a (by decide) (by decide) ha]
  rfl

end Go.Proofs.Yteackhccflojpaa.Pure
