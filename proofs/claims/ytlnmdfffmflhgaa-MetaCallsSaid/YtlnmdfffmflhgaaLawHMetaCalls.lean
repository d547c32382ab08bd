/- Metas are written, read and chosen as the document says. No conditions. -/
import Derived.Test.YtlnmdfffmflhgaaRows
import Derived.Test.YtlnmdfffmflhgaaPlain
import Derived.Test.YtlnmdfffmflhgaaHq
import Derived.WalkKit
import Derived.ProofKit
import Derived.OpenShut
import Derived.ShutString
import Derived.ChangeOld
import Derived.Below
import Derived.SizedLaws
import Derived.ChangeSlices
namespace Go.Proofs.Ytlnmdfffmflhgaa.metaCalls
open Go.ChangeShapes Go.WideShapes Go.ChangeAt Go.RowKit Go.Ev
open Go.ChangeMaps (open_string shut_string)
set_option linter.unusedVariables false
set_option linter.unusedSimpArgs false
set_option maxHeartbeats 4000000
theorem own : ownKnob Try.prog.godebug = none := by kernel_rfl
theorem laidOut : laidOutB Try.prog = true := by kernel_rfl
set_option maxRecDepth 100000 in
theorem open25 : Opens Try.prog 25 kM (fun x => ((Lit.int .u64 (x.tx : Int)).wf = true) ∧ ((Lit.int .i64 x.size).wf = true) ∧ ((Lit.int .u32 (x.root : Int)).wf = true) ∧ ((Lit.int .u32 (x.free : Int)).wf = true) ∧ ((Lit.int .u32 (x.pages : Int)).wf = true)) :=
  opens_struct (β := Nat × Int × Nat × Nat × Nat × Unit) (fun z => Mta.mk z.1 z.2.1 z.2.2.1 z.2.2.2.1 z.2.2.2.2.1) Try.underlying25 (by kernel_rfl) (by kernel_rfl) (fun _ => rfl) (opensF_cons (opens_nat rfl Try.underlying22) (opensF_cons (opens_int Try.underlying3) (opensF_cons (opens_nat rfl Try.underlying23) (opensF_cons (opens_nat rfl Try.underlying23) (opensF_cons (opens_nat rfl Try.underlying23) opensF_nil))))) (fun z h => ⟨h.1, h.2.1, h.2.2.1, h.2.2.2.1, h.2.2.2.2.1⟩)
set_option maxRecDepth 100000 in
theorem open27 : Opens Try.prog 27 kP (fun x => ((Lit.int .i64 x.kind).wf = true) ∧ ((Lit.int .i64 x.count).wf = true) ∧ ((Lit.int .u32 (x.page : Int)).wf = true) ∧ ((Lit.int .u32 (x.link : Int)).wf = true) ∧ ((Lit.int .u64 (x.tx : Int)).wf = true) ∧ (x.body.length ≤ 140737488351232)) :=
  opens_struct (β := Int × Int × Nat × Nat × Nat × List UInt8 × Unit) (fun z => Pg.mk z.1 z.2.1 z.2.2.1 z.2.2.2.1 z.2.2.2.2.1 z.2.2.2.2.2.1) Try.underlying27 (by kernel_rfl) (by kernel_rfl) (fun _ => rfl) (opensF_cons (opens_int Try.underlying3) (opensF_cons (opens_int Try.underlying3) (opensF_cons (opens_nat rfl Try.underlying23) (opensF_cons (opens_nat rfl Try.underlying23) (opensF_cons (opens_nat rfl Try.underlying22) (opensF_cons (opens_string Try.underlying9) opensF_nil)))))) (fun z h => ⟨h.1, h.2.1, h.2.2.1, h.2.2.2.1, h.2.2.2.2.1, h.2.2.2.2.2.1⟩)
theorem metaCalls_W {m : Mta} {s : Int} {p : Pg} {b : List UInt8} : CW cfg0 8 [.agg ⟨kM m⟩, .int .i64 s, .agg ⟨kP p⟩, str b] ⟨[], 0, [], [], []⟩ fun v s1 => v = .bool true := by
  have h := law05_MetaCalls_ok 10000 [.ag [.n .u64 m.tx, .i .i64 m.size, .n .u32 m.root, .n .u32 m.free, .n .u32 m.pages], .i .i64 s, .ag [.i .i64 p.kind, .i .i64 p.count, .n .u32 p.page, .n .u32 p.link, .n .u64 p.tx, .s p.body], .s b] [] _ rfl true (metaCalls_m m s p b)
  exact CW.mono h fun v s h => h.1

set_option maxRecDepth 100000 in
theorem lifted (os : Os) (started : os.Started) (H : Type) (enc : TypeId × Value → H) :
    ReturnsInHanded {} Try.checked os 8 .any (Rows.metaCallsSpec.pre6 enc Try.prog Try.f8 Rows.metaCallsRow.domain false) (Rows.metaCallsSpec.post enc Try.prog Try.f8 false true false false) := by
  refine returnsInHanded_of_change_sized (C := Try.checked) own started (by kernel_rfl) Try.func8
    (ChangeSpec.witness6 (enc := enc) (C := Try.checked) false ⟨#[], #[.agg #[.int .u64 0, .int .i64 0, .int .u32 0, .int .u32 0, .int .u32 0], .int .i64 0, .agg #[.int .i64 0, .int .i64 0, .int .u32 0, .int .u32 0, .int .u64 0, .string ByteArray.empty], .string ByteArray.empty], []⟩ 8 (by kernel_rfl) (by kernel_rfl) (by kernel_rfl) (by kernel_rfl)) ?_
  intro W base args ds gs before hval0 hW hcnd hsz0 _
  have hsz : (DataW.weightsEach Try.prog (Try.f8.params.toList ++ Rows.metaCallsSpec.plain.varTypes Try.prog) (ds ++ gs)).all (· ≤ reachBytes) = true := hsz0
  have hval : ∀ (j : Nat) t v, Try.f8.params[j]? = some t → args[j]? = some v → Value.okWide Try.prog W .any base t v := hval0
  have hW' := hW
  obtain ⟨p, q, hA0, hV, rfl, hfz, hnd⟩ := hW
  have hA : DataW.TrodAll enc Try.prog W 0 (fun _ => true) true Try.f8.params.toList args.toList ds p := hA0
  rw [Try.params8] at hA hval hsz
  obtain ⟨v0, vs0, d0, ds0, p0, q0, hargs, rfl, rfl, h0, r0⟩ := trodAll_cons hA
  obtain ⟨v1, vs1, d1, ds1, p1, q1, rfl, rfl, rfl, h1, r1⟩ := trodAll_cons r0
  obtain ⟨v2, vs2, d2, ds2, p2, q2, rfl, rfl, rfl, h2, r2⟩ := trodAll_cons r1
  obtain ⟨v3, vs3, d3, ds3, p3, q3, rfl, rfl, rfl, h3, r3⟩ := trodAll_cons r2
  obtain ⟨rfl, rfl, rfl⟩ := trodAll_nil r3
  obtain rfl : args = #[v0, v1, v2, v3] := by cases args; simp_all
  obtain ⟨rfl, rfl⟩ := trodVars_none hV
  have k0 := h0
  have lt0 : ∀ x ∈ p0, x.block < W.heap.size := by obtain ⟨m, hm⟩ := k0; exact DataW.trod_lt m _ _ _ hm
  obtain ⟨cs0, rfl, _⟩ := okWide_struct Try.underlying25 (hval 0 25 v0 rfl rfl)
  obtain ⟨x0, e0, w0⟩ := opens_arg open25 hsz (j := 0) rfl rfl h0
  obtain rfl : cs0 = ⟨kM x0⟩ := Array.toList_inj.1 (by simpa [Value.cells] using e0)
  obtain ⟨a1, rfl, rfl, rfl, w1⟩ := open_int Try.underlying3 (hval 1 3 v1 rfl rfl) h1
  have k2 := h2
  have lt2 : ∀ x ∈ p2, x.block < W.heap.size := by obtain ⟨m, hm⟩ := k2; exact DataW.trod_lt m _ _ _ hm
  obtain ⟨cs2, rfl, _⟩ := okWide_struct Try.underlying27 (hval 2 27 v2 rfl rfl)
  obtain ⟨x2, e2, w2⟩ := opens_arg open27 hsz (j := 2) rfl rfl h2
  obtain rfl : cs2 = ⟨kP x2⟩ := Array.toList_inj.1 (by simpa [Value.cells] using e2)
  have k3 := h3
  have lt3 : ∀ x ∈ p3, x.block < W.heap.size := by obtain ⟨m, hm⟩ := k3; exact DataW.trod_lt m _ _ _ hm
  obtain ⟨b3, rfl⟩ := okWide_string Try.underlying9 (hval 3 9 v3 rfl rfl)
  obtain ⟨s3, e3, w3⟩ := opens_arg (opens_string Try.underlying9) hsz (j := 3) rfl rfl h3
  obtain rfl : b3 = ⟨⟨s3⟩⟩ := by simpa [Value.cells] using e3
  clear hA0 hval0 hsz0 hsz
  refine (law_run (C := cfg0) (ν0 := fun id => none) (metaCalls_W ) (fun v s h => h) (by exact (.cons (VR.agg_iff.2 ⟨_, rfl, VRs.flats rfl⟩) (.cons (.flat rfl) (.cons (VR.agg_iff.2 ⟨_, rfl, VRs.flats rfl⟩) (.cons (.flat rfl) .nil))))) (fun id h => rfl) (by decide) rfl (fun a o h => ?_) (fun a o g S h hg => ?_)).mono fun e W' ⟨he, bel⟩ => ?_
  · simp only [aget_cons, aget_nil] at h
    (repeat' split at h) <;> first | (obtain rfl := Option.some.inj h; rfl) | cases h
  · simp only [aget_cons, aget_nil] at h
    (repeat' split at h) <;> first | cases h; done | skip

  subst he
  exact ⟨_, rfl, _, _, _, [], _, [], hW', trodAll_mk1 (shut_bool Try.underlying4 _), (trodAll_cons_mk (Below.trod laidOut (by kernel_rfl) (of_decide_eq_true (by kernel_rfl)) k0 bel lt0) (trodAll_cons_mk (shut_int Try.underlying3 w1) (trodAll_cons_mk (Below.trod laidOut (by kernel_rfl) (of_decide_eq_true (by kernel_rfl)) k2 bel lt2) (trodAll_cons_mk (Below.trod laidOut (by kernel_rfl) (of_decide_eq_true (by kernel_rfl)) k3 bel lt3) trodAll_mk0)))), rfl, bel.frame _, fun h => by cases h⟩
theorem over : Rows.metaCallsRow.holds Try.pinned (OpenSpec.ofChange Rows.metaCallsSpec) :=
  OpenClaim.holds_of_wide 8 Try.f8 rfl rfl rfl rfl rfl rfl rfl ⟨rfl, rfl, rfl, rfl, rfl⟩ rfl rfl rfl rfl rfl (by kernel_rfl) Try.func8 (by kernel_rfl)
    (of_decide_eq_true (by kernel_rfl)) (by unfold Func.isWrapper; first | (rw [if_pos (by decide +kernel)]; kernel_rfl) | (rw [if_neg (by decide +kernel)]; exact ⟨rfl, rfl⟩))
    (fun os started H enc _ => lifted os started H enc)
theorem proved : Rows.MetaCallsSaid := over
#print axioms proved
end Go.Proofs.Ytlnmdfffmflhgaa.metaCalls
namespace Go.Proofs.Ytlnmdfffmflhgaa
/-- The row, under a short name, for the claim. -/
theorem metaCalls_holds : Rows.MetaCallsSaid := metaCalls.proved
end Go.Proofs.Ytlnmdfffmflhgaa
