/- The chapter's examples have the results that it gives. No conditions. -/
import Derived.Test.YtlnmdfffmflhgaaRows
import Derived.Test.YtlnmdfffmflhgaaPlain
import Derived.Test.YtlnmdfffmflhgaaHo
import Derived.WalkKit
import Derived.ProofKit
import Derived.OpenShut
import Derived.ShutString
import Derived.ChangeOld
import Derived.Below
import Derived.SizedLaws
namespace Go.Proofs.Ytlnmdfffmflhgaa.metaNames
open Go.ChangeShapes Go.WideShapes Go.ChangeAt Go.RowKit
open Go.ChangeMaps (open_string shut_string)
set_option linter.unusedVariables false
theorem walkW : Ev.CW Ev.cfg0 7 [] ⟨[], 0, [], [], []⟩ fun v s1 => v = .bool true := by
  have h := Ev.law05_MetaNames_ok 10000 [] [] _ rfl true Ev.metaNames_m
  exact Ev.CW.mono h fun v s h => h.1
theorem walk (W : World) : Calls Try.prog 7 #[] W fun e W' => e = .returned (.bool true) ∧ Below W.heap.size W W' :=
  Ev.law_run (C := Ev.cfg0) (ν0 := fun _ => none) (us := #[]) walkW (fun v s h => h) .nil (fun _ _ => rfl) (by decide) rfl (fun a o h => by cases h) (fun a o g S h _ => by cases h)
theorem own : ownKnob Try.prog.godebug = none := by kernel_rfl
set_option maxRecDepth 100000 in
theorem lifted (os : Os) (started : os.Started) (H : Type) (enc : TypeId × Value → H) :
    ReturnsInHanded {} Try.checked os 7 .any (Rows.metaNamesSpec.pre6 enc Try.prog Try.f7 Rows.metaNamesRow.domain false) (Rows.metaNamesSpec.post enc Try.prog Try.f7 false true false false) := by
  refine returnsInHanded_of_change_sized (C := Try.checked) own started (by kernel_rfl) Try.func7
    (ChangeSpec.witness6 (enc := enc) (C := Try.checked) false ⟨#[], #[], []⟩ 8 (by kernel_rfl) (by kernel_rfl) (by kernel_rfl) (by kernel_rfl)) ?_
  intro W base args ds gs before hval0 hW hcnd hsz0 _
  have hW' := hW
  obtain ⟨p, q, hA0, hV, rfl, hfz, hnd⟩ := hW
  have hA : DataW.TrodAll enc Try.prog W 0 (fun _ => true) true Try.f7.params.toList args.toList ds p := hA0
  rw [Try.params7] at hA
  obtain ⟨rfl, rfl, rfl⟩ := trodAll_none hA
  obtain ⟨rfl, rfl⟩ := trodVars_none hV
  refine (walk W).mono fun e W' ⟨he, bel⟩ => ?_
  subst he
  exact ⟨_, rfl, _, _, _, [], _, [], hW', trodAll_mk1 (shut_bool Try.underlying4 _), trodAll_mk0, rfl, bel.frame _, fun h => by cases h⟩
theorem over : Rows.metaNamesRow.holds Try.pinned (OpenSpec.ofChange Rows.metaNamesSpec) :=
  OpenClaim.holds_of_wide 7 Try.f7 rfl rfl rfl rfl rfl rfl rfl ⟨rfl, rfl, rfl, rfl, rfl⟩ rfl rfl rfl rfl rfl (by kernel_rfl) Try.func7 (by kernel_rfl)
    (of_decide_eq_true (by kernel_rfl)) (by unfold Func.isWrapper; first | (rw [if_pos (by decide +kernel)]; kernel_rfl) | (rw [if_neg (by decide +kernel)]; exact ⟨rfl, rfl⟩))
    (fun os started H enc _ => lifted os started H enc)
theorem proved : Rows.MetaNamesSaid := over
#print axioms proved
end Go.Proofs.Ytlnmdfffmflhgaa.metaNames
namespace Go.Proofs.Ytlnmdfffmflhgaa
/-- The row, under a short name, for the claim. -/
theorem metaNames_holds : Rows.MetaNamesSaid := metaNames.proved
end Go.Proofs.Ytlnmdfffmflhgaa
