/- Of two correct metas the one with the greater transaction is chosen; if one is damaged, the other one; changed bits within 32 consecutive ones damage it. No conditions. -/
import Derived.Test.YtlnmdfffmflhgaaRows
import Derived.Test.YtlnmdfffmflhgaaPlain
import Derived.Test.YtlnmdfffmflhgaaHq
import Derived.WalkKit
import Derived.ProofKit
import Derived.OpenShut
import Derived.ShutString
import Derived.ChangeOld
import Derived.Below
import Derived.SizedLaws
import Derived.ChangeSlices
namespace Go.Proofs.Ytlnmdfffmflhgaa.metaNewer
open Go.ChangeShapes Go.WideShapes Go.ChangeAt Go.RowKit Go.Ev
open Go.ChangeMaps (open_string shut_string)
set_option linter.unusedVariables false
set_option linter.unusedSimpArgs false
set_option maxHeartbeats 4000000
theorem own : ownKnob Try.prog.godebug = none := by kernel_rfl
theorem laidOut : laidOutB Try.prog = true := by kernel_rfl
set_option maxRecDepth 100000 in
theorem open25 : Opens Try.prog 25 kM (fun x => ((Lit.int .u64 (x.tx : Int)).wf = true) ∧ ((Lit.int .i64 x.size).wf = true) ∧ ((Lit.int .u32 (x.root : Int)).wf = true) ∧ ((Lit.int .u32 (x.free : Int)).wf = true) ∧ ((Lit.int .u32 (x.pages : Int)).wf = true)) :=
  opens_struct (β := Nat × Int × Nat × Nat × Nat × Unit) (fun z => Mta.mk z.1 z.2.1 z.2.2.1 z.2.2.2.1 z.2.2.2.2.1) Try.underlying25 (by kernel_rfl) (by kernel_rfl) (fun _ => rfl) (opensF_cons (opens_nat rfl Try.underlying22) (opensF_cons (opens_int Try.underlying3) (opensF_cons (opens_nat rfl Try.underlying23) (opensF_cons (opens_nat rfl Try.underlying23) (opensF_cons (opens_nat rfl Try.underlying23) opensF_nil))))) (fun z h => ⟨h.1, h.2.1, h.2.2.1, h.2.2.2.1, h.2.2.2.2.1⟩)
theorem metaNewer_W {m : Mta} {r f : Nat} {pk c : Int} {mask : Nat} (hm : mask < 4294967296) : CW cfg0 9 [.agg ⟨kM m⟩, .int .u32 (r : Int), .int .u32 (f : Int), .int .i64 pk, .int .i64 c, .int .u32 (mask : Int)] ⟨[], 0, [], [], []⟩ fun v s1 => v = .bool true := by
  have h := law05_MetaNewer_ok 10000 [.ag [.n .u64 m.tx, .i .i64 m.size, .n .u32 m.root, .n .u32 m.free, .n .u32 m.pages], .n .u32 r, .n .u32 f, .i .i64 pk, .i .i64 c, .n .u32 mask] [] _ rfl true (metaNewer_m m r f pk c mask hm)
  exact CW.mono h fun v s h => h.1

set_option maxRecDepth 100000 in
theorem lifted (os : Os) (started : os.Started) (H : Type) (enc : TypeId × Value → H) :
    ReturnsInHanded {} Try.checked os 9 .any (Rows.metaNewerSpec.pre6 enc Try.prog Try.f9 Rows.metaNewerRow.domain false) (Rows.metaNewerSpec.post enc Try.prog Try.f9 false true false false) := by
  refine returnsInHanded_of_change_sized (C := Try.checked) own started (by kernel_rfl) Try.func9
    (ChangeSpec.witness6 (enc := enc) (C := Try.checked) false ⟨#[], #[.agg #[.int .u64 0, .int .i64 0, .int .u32 0, .int .u32 0, .int .u32 0], .int .u32 0, .int .u32 0, .int .i64 0, .int .i64 0, .int .u32 0], []⟩ 8 (by kernel_rfl) (by kernel_rfl) (by kernel_rfl) (by kernel_rfl)) ?_
  intro W base args ds gs before hval0 hW hcnd hsz0 _
  have hsz : (DataW.weightsEach Try.prog (Try.f9.params.toList ++ Rows.metaNewerSpec.plain.varTypes Try.prog) (ds ++ gs)).all (· ≤ reachBytes) = true := hsz0
  have hval : ∀ (j : Nat) t v, Try.f9.params[j]? = some t → args[j]? = some v → Value.okWide Try.prog W .any base t v := hval0
  have hW' := hW
  obtain ⟨p, q, hA0, hV, rfl, hfz, hnd⟩ := hW
  have hA : DataW.TrodAll enc Try.prog W 0 (fun _ => true) true Try.f9.params.toList args.toList ds p := hA0
  rw [Try.params9] at hA hval hsz
  obtain ⟨v0, vs0, d0, ds0, p0, q0, hargs, rfl, rfl, h0, r0⟩ := trodAll_cons hA
  obtain ⟨v1, vs1, d1, ds1, p1, q1, rfl, rfl, rfl, h1, r1⟩ := trodAll_cons r0
  obtain ⟨v2, vs2, d2, ds2, p2, q2, rfl, rfl, rfl, h2, r2⟩ := trodAll_cons r1
  obtain ⟨v3, vs3, d3, ds3, p3, q3, rfl, rfl, rfl, h3, r3⟩ := trodAll_cons r2
  obtain ⟨v4, vs4, d4, ds4, p4, q4, rfl, rfl, rfl, h4, r4⟩ := trodAll_cons r3
  obtain ⟨v5, vs5, d5, ds5, p5, q5, rfl, rfl, rfl, h5, r5⟩ := trodAll_cons r4
  obtain ⟨rfl, rfl, rfl⟩ := trodAll_nil r5
  obtain rfl : args = #[v0, v1, v2, v3, v4, v5] := by cases args; simp_all
  obtain ⟨rfl, rfl⟩ := trodVars_none hV
  have k0 := h0
  have lt0 : ∀ x ∈ p0, x.block < W.heap.size := by obtain ⟨m, hm⟩ := k0; exact DataW.trod_lt m _ _ _ hm
  obtain ⟨cs0, rfl, _⟩ := okWide_struct Try.underlying25 (hval 0 25 v0 rfl rfl)
  obtain ⟨x0, e0, w0⟩ := opens_arg open25 hsz (j := 0) rfl rfl h0
  obtain rfl : cs0 = ⟨kM x0⟩ := Array.toList_inj.1 (by simpa [Value.cells] using e0)
  obtain ⟨a1, rfl, rfl, rfl, w1⟩ := open_int Try.underlying23 (hval 1 23 v1 rfl rfl) h1
  obtain ⟨n1, rfl⟩ := wf_nat rfl w1
  obtain ⟨a2, rfl, rfl, rfl, w2⟩ := open_int Try.underlying23 (hval 2 23 v2 rfl rfl) h2
  obtain ⟨n2, rfl⟩ := wf_nat rfl w2
  obtain ⟨a3, rfl, rfl, rfl, w3⟩ := open_int Try.underlying3 (hval 3 3 v3 rfl rfl) h3
  obtain ⟨a4, rfl, rfl, rfl, w4⟩ := open_int Try.underlying3 (hval 4 3 v4 rfl rfl) h4
  obtain ⟨a5, rfl, rfl, rfl, w5⟩ := open_int Try.underlying23 (hval 5 23 v5 rfl rfl) h5
  obtain ⟨n5, rfl⟩ := wf_nat rfl w5
  clear hA0 hval0 hsz0 hsz
  refine (law_run (C := cfg0) (ν0 := fun id => none) (metaNewer_W (mask := n5) (by revert w5; simp [Lit.wf, IntKind.signed, IntKind.bits, IntKind.min, IntKind.max]; omega)) (fun v s h => h) (by exact (.cons (VR.agg_iff.2 ⟨_, rfl, VRs.flats rfl⟩) (.cons (.flat rfl) (.cons (.flat rfl) (.cons (.flat rfl) (.cons (.flat rfl) (.cons (.flat rfl) .nil))))))) (fun id h => rfl) (by decide) rfl (fun a o h => ?_) (fun a o g S h hg => ?_)).mono fun e W' ⟨he, bel⟩ => ?_
  · simp only [aget_cons, aget_nil] at h
    (repeat' split at h) <;> first | (obtain rfl := Option.some.inj h; rfl) | cases h
  · simp only [aget_cons, aget_nil] at h
    (repeat' split at h) <;> first | cases h; done | skip

  subst he
  exact ⟨_, rfl, _, _, _, [], _, [], hW', trodAll_mk1 (shut_bool Try.underlying4 _), (trodAll_cons_mk (Below.trod laidOut (by kernel_rfl) (of_decide_eq_true (by kernel_rfl)) k0 bel lt0) (trodAll_cons_mk (shut_int Try.underlying23 w1) (trodAll_cons_mk (shut_int Try.underlying23 w2) (trodAll_cons_mk (shut_int Try.underlying3 w3) (trodAll_cons_mk (shut_int Try.underlying3 w4) (trodAll_cons_mk (shut_int Try.underlying23 w5) trodAll_mk0)))))), rfl, bel.frame _, fun h => by cases h⟩
theorem over : Rows.metaNewerRow.holds Try.pinned (OpenSpec.ofChange Rows.metaNewerSpec) :=
  OpenClaim.holds_of_wide 9 Try.f9 rfl rfl rfl rfl rfl rfl rfl ⟨rfl, rfl, rfl, rfl, rfl⟩ rfl rfl rfl rfl rfl (by kernel_rfl) Try.func9 (by kernel_rfl)
    (of_decide_eq_true (by kernel_rfl)) (by unfold Func.isWrapper; first | (rw [if_pos (by decide +kernel)]; kernel_rfl) | (rw [if_neg (by decide +kernel)]; exact ⟨rfl, rfl⟩))
    (fun os started H enc _ => lifted os started H enc)
theorem proved : Rows.MetaNewerSaid := over
#print axioms proved
end Go.Proofs.Ytlnmdfffmflhgaa.metaNewer
namespace Go.Proofs.Ytlnmdfffmflhgaa
/-- The row, under a short name, for the claim. -/
theorem metaNewer_holds : Rows.MetaNewerSaid := metaNewer.proved
end Go.Proofs.Ytlnmdfffmflhgaa
