/- A key inside bounds is inside wider bounds; nothing is inside reversed bounds. No conditions. -/
import Derived.Test.YteackhccflojpaaPx2
import Derived.Test.YteackhccflojpaaPx3
import Derived.Test.YteackhccflojpaaPx4
import Derived.Test.YteackhccflojpaaPx5
import Derived.Test.YteackhccflojpaaOStr
set_option linter.unusedVariables false
set_option linter.unusedSimpArgs false
namespace Go.Proofs.Yteackhccflojpaa.Pure
open Go.RowKit Go.Proofs.Yteackhccflojpaa.P Go.Proofs.YteackhccflojpaaW.PrintWords Go.Proofs.YteackhccflojpaaW.PrintLast Go.Proofs.YteackhccflojpaaW.PrintMore Go.Proofs.YteackhccflojpaaO

theorem lives_ok : careenagelaw18_lives.f 10 = some true := by decide +kernel

/-- What Inside answers. -/
def insB (key low less : ByteArray) (high : Bool) : Bool := !(Op.bytesLess key.toList low.toList) && (!high || Op.bytesLess key.toList less.toList)
theorem inside_is (key low less : ByteArray) (high : Bool) : shape_Inside.f key 0 0 0 0 0 low less high = some (insB key low less high) := by
  unfold shape_Inside.f shape_edge_holds.f insB
  cases Op.bytesLess key.toList low.toList <;> cases high <;> simp
theorem empty_list : (⟨#[]⟩ : ByteArray).toList = [] := by decide +kernel

theorem ShapeBounds : careenagelaw18_ShapeBounds.Pure := by
  intro key low less lower above _ _ _ _ _
  refine ⟨10, ?_⟩
  unfold careenagelaw18_ShapeBounds.f
  rw [lives_ok]
  simp only [Option.bind_some, if_true, inside_is]
  have e1 : insB key ⟨#[]⟩ ⟨#[]⟩ false = true := by simp [insB, empty_list, bl_nil]
  have e2 : insB key (smn low lower) ⟨#[]⟩ false = !(Op.bytesLess key.toList (smn low lower).toList) := by simp [insB]
  have e3 : insB key low less true = (!(Op.bytesLess key.toList low.toList) && Op.bytesLess key.toList less.toList) := by simp [insB]
  have e4 : insB key (smn low lower) (smx less above) true = (!(Op.bytesLess key.toList (smn low lower).toList) && Op.bytesLess key.toList (smx less above).toList) := by simp [insB]
  rw [e1, e2, e3, e4]
  cases h1 : Op.bytesLess key.toList low.toList with
  | true => cases h3 : Op.bytesLess low.toList less.toList <;> cases h2 : Op.bytesLess key.toList less.toList <;> simp
  | false =>
    cases h2 : Op.bytesLess key.toList less.toList with
    | false => cases h3 : Op.bytesLess low.toList less.toList <;> simp
    | true =>
      have h3 : Op.bytesLess low.toList less.toList = true := bl_of_le h1 h2
      have h4 : Op.bytesLess key.toList (smn low lower).toList = false := by
        cases e : Op.bytesLess key.toList (smn low lower).toList with
        | false => rfl
        | true => rw [bl_of_lt_le e (smn_le_left low lower)] at h1; exact h1
      have h5 : Op.bytesLess key.toList (smx less above).toList = true := bl_of_lt_le h2 (smx_ge_left less above)
      simp [h3, h4, h5]

end Go.Proofs.Yteackhccflojpaa.Pure
