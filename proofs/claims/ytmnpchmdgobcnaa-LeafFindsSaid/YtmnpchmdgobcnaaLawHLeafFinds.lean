/- Each item is found by its key, at its index, and no other key is; where that would be, all earlier keys are less, and all later ones are not. No conditions. -/
import Derived.Test.YtmnpchmdgobcnaaRows
import Derived.Test.YtmnpchmdgobcnaaPlain
import Derived.Test.YtmnpchmdgobcnaaHq
import Derived.WalkKit
import Derived.ProofKit
import Derived.OpenShut
import Derived.ShutString
import Derived.ChangeOld
import Derived.Below
import Derived.SizedLaws
import Derived.ChangeSlices
namespace Go.Proofs.Ytmnpchmdgobcnaa.leafFinds
open Go.ChangeShapes Go.WideShapes Go.ChangeAt Go.RowKit Go.Ev
open Go.ChangeMaps (open_string shut_string)
set_option linter.unusedVariables false
set_option maxHeartbeats 4000000
theorem own : ownKnob Try.prog.godebug = none := by kernel_rfl
theorem laidOut : laidOutB Try.prog = true := by kernel_rfl
set_option maxRecDepth 100000 in
theorem open35 : Opens Try.prog 35 kI (fun x => (x.key.length ≤ 140737488351232) ∧ (x.value.length ≤ 140737488351232) ∧ (True) ∧ ((Lit.int .i64 x.len).wf = true) ∧ ((Lit.int .u32 (x.head : Int)).wf = true)) :=
  opens_struct (β := List UInt8 × List UInt8 × Bool × Int × Nat × Unit) (fun z => Item.mk z.1 z.2.1 z.2.2.1 z.2.2.2.1 z.2.2.2.2.1) Try.underlying35 (by kernel_rfl) (by kernel_rfl) (fun _ => rfl) (opensF_cons (opens_string Try.underlying9) (opensF_cons (opens_string Try.underlying9) (opensF_cons (opens_bool Try.underlying4) (opensF_cons (opens_int Try.underlying3) (opensF_cons (opens_nat rfl Try.underlying24) opensF_nil))))) (fun z h => ⟨h.1, h.2.1, h.2.2.1, h.2.2.2.1, h.2.2.2.2.1⟩)
theorem leafFinds_W {o : Nat} {l : List Ev.Item} {s : Int} {k : List UInt8} (hl : ∀ x ∈ l, x.key.length + x.value.length ≤ 300000000000000) (hn : l.length ≤ 140737488351232) : CW cfg0 3 [.int .i64 s, .slice (some ⟨0, o, some 5⟩) l.length 0, str k] ⟨[(0, .cells ⟨rowJ kI o l⟩ 35 (1, 0))], 1, [], [], []⟩ fun v s1 => v = .bool true := by
  have h := law08_LeafFinds_ok (l.length + 10000) [.i .i64 s, .sl 0 5, .s k] [(0, .row .item o l 35 (1, 0))] _ rfl true (leafFinds_m l s k hl hn)
  exact CW.mono h fun v s h => h.1

set_option maxRecDepth 100000 in
theorem lifted (os : Os) (started : os.Started) (H : Type) (enc : TypeId × Value → H) :
    ReturnsInHanded {} Try.checked os 3 .any (Rows.leafFindsSpec.pre6 enc Try.prog Try.f3 Rows.leafFindsRow.domain false) (Rows.leafFindsSpec.post enc Try.prog Try.f3 false true false false) := by
  refine returnsInHanded_of_change_sized (C := Try.checked) own started (by kernel_rfl) Try.func3
    (ChangeSpec.witness6 (enc := enc) (C := Try.checked) false ⟨#[], #[.int .i64 0, .slice none 0 0, .string ByteArray.empty], []⟩ 8 (by kernel_rfl) (by kernel_rfl) (by kernel_rfl) (by kernel_rfl)) ?_
  intro W base args ds gs before hval0 hW hcnd hsz0 _
  have hsz : (DataW.weightsEach Try.prog (Try.f3.params.toList ++ Rows.leafFindsSpec.plain.varTypes Try.prog) (ds ++ gs)).all (· ≤ reachBytes) = true := hsz0
  have hval : ∀ (j : Nat) t v, Try.f3.params[j]? = some t → args[j]? = some v → Value.okWide Try.prog W .any base t v := hval0
  have hW' := hW
  obtain ⟨p, q, hA0, hV, rfl, hfz, hnd⟩ := hW
  have hA : DataW.TrodAll enc Try.prog W 0 (fun _ => true) true Try.f3.params.toList args.toList ds p := hA0
  rw [Try.params3] at hA hval hsz
  obtain ⟨v0, vs0, d0, ds0, p0, q0, hargs, rfl, rfl, h0, r0⟩ := trodAll_cons hA
  obtain ⟨v1, vs1, d1, ds1, p1, q1, rfl, rfl, rfl, h1, r1⟩ := trodAll_cons r0
  obtain ⟨v2, vs2, d2, ds2, p2, q2, rfl, rfl, rfl, h2, r2⟩ := trodAll_cons r1
  obtain ⟨rfl, rfl, rfl⟩ := trodAll_nil r2
  obtain rfl : args = #[v0, v1, v2] := by cases args; simp_all
  obtain ⟨rfl, rfl⟩ := trodVars_none hV
  obtain ⟨a0, rfl, rfl, rfl, w0⟩ := open_int Try.underlying3 (hval 0 3 v0 rfl rfl) h0
  have k1 := h1
  have lt1 : ∀ x ∈ p1, x.block < W.heap.size := by obtain ⟨m, hm⟩ := k1; exact DataW.trod_lt m _ _ _ hm
  obtain ⟨l1, o1, pp1, hB1, hg1, hL1⟩ := look_arg (k := kI) (B := 56) Try.underlying22 (by kernel_rfl) (by kernel_rfl) (by decide) open35 0 1 (hval 1 22 v1 rfl rfl) hsz rfl rfl h1
  have k2 := h2
  have lt2 : ∀ x ∈ p2, x.block < W.heap.size := by obtain ⟨m, hm⟩ := k2; exact DataW.trod_lt m _ _ _ hm
  obtain ⟨b2, rfl⟩ := okWide_string Try.underlying9 (hval 2 9 v2 rfl rfl)
  obtain ⟨s2, e2, w2⟩ := opens_arg (opens_string Try.underlying9) hsz (j := 2) rfl rfl h2
  obtain rfl : b2 = ⟨⟨s2⟩⟩ := by simpa [Value.cells] using e2
  clear hA0 hval0 hsz0 hsz
  refine (law_run (C := cfg0) (ν0 := fun id => if id = 0 then pp1 else none) (leafFinds_W (fun x hx => by have := hg1 x hx; omega) (by omega)) (fun v s h => h) (by exact (.cons (.flat rfl) (.cons (hL1.1 _ rfl) (.cons (.flat rfl) .nil)))) (fun id h => by repeat rw [if_neg (by omega)]) (by decide) rfl (fun a o h => ?_) (fun a o g S h hg => ?_)).mono fun e W' ⟨he, bel⟩ => ?_
  · simp only [aget_cons, aget_nil] at h
    (repeat' split at h) <;> first | (obtain rfl := Option.some.inj h; rfl) | cases h
  · simp only [aget_cons, aget_nil] at h
    (repeat' split at h) <;> first | cases h; done | skip
    · rename_i ha; subst ha
      obtain rfl := Option.some.inj h
      exact hL1.2 _ _ _ hg
  subst he
  exact ⟨_, rfl, _, _, _, [], _, [], hW', trodAll_mk1 (shut_bool Try.underlying4 _), (trodAll_cons_mk (shut_int Try.underlying3 w0) (trodAll_cons_mk (Below.trod laidOut (by kernel_rfl) (of_decide_eq_true (by kernel_rfl)) k1 bel lt1) (trodAll_cons_mk (Below.trod laidOut (by kernel_rfl) (of_decide_eq_true (by kernel_rfl)) k2 bel lt2) trodAll_mk0))), rfl, bel.frame _, fun h => by cases h⟩
theorem over : Rows.leafFindsRow.holds Try.pinned (OpenSpec.ofChange Rows.leafFindsSpec) :=
  OpenClaim.holds_of_wide 3 Try.f3 rfl rfl rfl rfl rfl rfl rfl ⟨rfl, rfl, rfl, rfl, rfl⟩ rfl rfl rfl rfl rfl (by kernel_rfl) Try.func3 (by kernel_rfl)
    (of_decide_eq_true (by kernel_rfl)) (by unfold Func.isWrapper; first | (rw [if_pos (by decide +kernel)]; kernel_rfl) | (rw [if_neg (by decide +kernel)]; exact ⟨rfl, rfl⟩))
    (fun os started H enc _ => lifted os started H enc)
theorem proved : Rows.LeafFindsSaid := over
#print axioms proved
end Go.Proofs.Ytmnpchmdgobcnaa.leafFinds
namespace Go.Proofs.Ytmnpchmdgobcnaa
/-- The row, under a short name, for the claim. -/
theorem leafFinds_holds : Rows.LeafFindsSaid := leafFinds.proved
end Go.Proofs.Ytmnpchmdgobcnaa
