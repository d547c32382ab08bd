/- The example of the chapter has the results that it states. No conditions. -/
import Derived.Test.YtfelkamfmdcapaaRows
import Derived.Test.YtfelkamfmdcapaaTab
import Derived.WalkKit
import Derived.ProofKit
import Derived.OpenShut
import Derived.ShutString
import Derived.ChangeOld
import Derived.Below
import Derived.SizedLaws
namespace Go.Proofs.Ytfelkamfmdcapaa.shapeNames
open Go.ChangeShapes Go.WideShapes Go.ChangeAt Go.RowKit
open Go.ChangeMaps (open_string shut_string)
set_option linter.unusedVariables false
/-- The law's run, worked out by the kernel. -/
noncomputable def isTrue (r : Option (Ev.Out × Value × Ev.St)) : Bool := match r with
  | some (.normal, .bool b, _) => b
  | _ => false
theorem ran : isTrue ((Ev.evF Ev.cfg (Ev.evDrF Ev.cfg) 1000).1 4 [] Ev.st0) = true := by kernel_rfl
theorem walk (W : World) : Calls Try.prog 4 #[] W fun e W' => e = .returned (.bool true) ∧ Below W.heap.size W W' := by
  have h := ran
  unfold isTrue at h
  split at h
  · rename_i b s hr
    subst h
    rw [Ev.fast_eq] at hr
    exact Ev.run_ok Ev.cfg_ok (fun B W0 hB => Ev.evDr_ok Ev.cfg_ok hB (by kernel_rfl)) rfl hr W
  · cases h
theorem own : ownKnob Try.prog.godebug = none := by kernel_rfl
set_option maxRecDepth 100000 in
theorem lifted (os : Os) (started : os.Started) (H : Type) (enc : TypeId × Value → H) :
    ReturnsInHanded {} Try.checked os 4 .any (Rows.shapeNamesSpec.pre6 enc Try.prog Try.f4 Rows.shapeNamesRow.domain false) (Rows.shapeNamesSpec.post enc Try.prog Try.f4 false true false false) := by
  refine returnsInHanded_of_change_sized (C := Try.checked) own started (by kernel_rfl) Try.func4
    (ChangeSpec.witness6 (enc := enc) (C := Try.checked) false ⟨#[], #[], []⟩ 8 (by kernel_rfl) (by kernel_rfl) (by kernel_rfl) (by kernel_rfl)) ?_
  intro W base args ds gs before hval0 hW hcnd hsz0 _
  have hW' := hW
  obtain ⟨p, q, hA0, hV, rfl, hfz, hnd⟩ := hW
  have hA : DataW.TrodAll enc Try.prog W 0 (fun _ => true) true Try.f4.params.toList args.toList ds p := hA0
  rw [Try.params4] at hA
  obtain ⟨rfl, rfl, rfl⟩ := trodAll_none hA
  obtain ⟨rfl, rfl⟩ := trodVars_none hV
  refine (walk W).mono fun e W' ⟨he, bel⟩ => ?_
  subst he
  exact ⟨_, rfl, _, _, _, [], _, [], hW', trodAll_mk1 (shut_bool Try.underlying4 _), trodAll_mk0, rfl, bel.frame _, fun h => by cases h⟩
theorem over : Rows.shapeNamesRow.holds Try.pinned (OpenSpec.ofChange Rows.shapeNamesSpec) :=
  OpenClaim.holds_of_wide 4 Try.f4 rfl rfl rfl rfl rfl rfl rfl ⟨rfl, rfl, rfl, rfl, rfl⟩ rfl rfl rfl rfl rfl (by kernel_rfl) Try.func4 (by kernel_rfl)
    (of_decide_eq_true (by kernel_rfl)) (by unfold Func.isWrapper; first | (rw [if_pos (by decide +kernel)]; kernel_rfl) | (rw [if_neg (by decide +kernel)]; exact ⟨rfl, rfl⟩))
    (fun os started H enc _ => lifted os started H enc)
theorem proved : Rows.ShapeNamesSaid := over
#print axioms proved
end Go.Proofs.Ytfelkamfmdcapaa.shapeNames
namespace Go.Proofs.Ytfelkamfmdcapaa
/-- The row, under a short name, for the claim. -/
theorem shapeNames_holds : Rows.ShapeNamesSaid := shapeNames.proved
end Go.Proofs.Ytfelkamfmdcapaa
