/- Leaves are written, read and searched as the document says. No conditions. -/
import Derived.Test.YtmnpchmdgobcnaaRows
import Derived.Test.YtmnpchmdgobcnaaPlain
import Derived.Test.YtmnpchmdgobcnaaHq
import Derived.WalkKit
import Derived.ProofKit
import Derived.OpenShut
import Derived.ShutString
import Derived.ChangeOld
import Derived.Below
import Derived.SizedLaws
import Derived.ChangeSlices
namespace Go.Proofs.Ytmnpchmdgobcnaa.leafCalls
open Go.ChangeShapes Go.WideShapes Go.ChangeAt Go.RowKit Go.Ev
open Go.ChangeMaps (open_string shut_string)
set_option linter.unusedVariables false
set_option linter.unusedSimpArgs false
set_option maxHeartbeats 4000000
theorem own : ownKnob Try.prog.godebug = none := by kernel_rfl
theorem laidOut : laidOutB Try.prog = true := by kernel_rfl
set_option maxRecDepth 100000 in
theorem open35 : Opens Try.prog 35 kI (fun x => (x.key.length ≤ 140737488351232) ∧ (x.value.length ≤ 140737488351232) ∧ (True) ∧ ((Lit.int .i64 x.len).wf = true) ∧ ((Lit.int .u32 (x.head : Int)).wf = true)) :=
  opens_struct (β := List UInt8 × List UInt8 × Bool × Int × Nat × Unit) (fun z => Item.mk z.1 z.2.1 z.2.2.1 z.2.2.2.1 z.2.2.2.2.1) Try.underlying35 (by kernel_rfl) (by kernel_rfl) (fun _ => rfl) (opensF_cons (opens_string Try.underlying9) (opensF_cons (opens_string Try.underlying9) (opensF_cons (opens_bool Try.underlying4) (opensF_cons (opens_int Try.underlying3) (opensF_cons (opens_nat rfl Try.underlying24) opensF_nil))))) (fun z h => ⟨h.1, h.2.1, h.2.2.1, h.2.2.2.1, h.2.2.2.2.1⟩)
set_option maxRecDepth 100000 in
theorem open27 : Opens Try.prog 27 kP (fun x => ((Lit.int .i64 x.kind).wf = true) ∧ ((Lit.int .i64 x.count).wf = true) ∧ ((Lit.int .u32 (x.page : Int)).wf = true) ∧ ((Lit.int .u32 (x.link : Int)).wf = true) ∧ ((Lit.int .u64 (x.tx : Int)).wf = true) ∧ (x.body.length ≤ 140737488351232)) :=
  opens_struct (β := Int × Int × Nat × Nat × Nat × List UInt8 × Unit) (fun z => Pg.mk z.1 z.2.1 z.2.2.1 z.2.2.2.1 z.2.2.2.2.1 z.2.2.2.2.2.1) Try.underlying27 (by kernel_rfl) (by kernel_rfl) (fun _ => rfl) (opensF_cons (opens_int Try.underlying3) (opensF_cons (opens_int Try.underlying3) (opensF_cons (opens_nat rfl Try.underlying24) (opensF_cons (opens_nat rfl Try.underlying24) (opensF_cons (opens_nat rfl Try.underlying25) (opensF_cons (opens_string Try.underlying9) opensF_nil)))))) (fun z h => ⟨h.1, h.2.1, h.2.2.1, h.2.2.2.1, h.2.2.2.2.1, h.2.2.2.2.2.1⟩)
theorem leafCalls_W {o : Nat} {l : List Ev.Item} {s : Int} {a tx : Nat} {p : Pg} {k : List UInt8} {j : Int} (hl : ∀ x ∈ l, x.key.length + x.value.length ≤ 300000000000000) : CW cfg0 8 [.int .i64 s, .int .u32 (a : Int), .int .u64 (tx : Int), .slice (some ⟨0, o, some 5⟩) l.length 0, .agg ⟨kP p⟩, str k, .int .i64 j] ⟨[(0, .cells ⟨rowJ kI o l⟩ 35 (1, 0))], 1, [], [], []⟩ fun v s1 => v = .bool true := by
  have h := law08_LeafCalls_ok 10000 [.i .i64 s, .n .u32 a, .n .u64 tx, .sl 0 5, .ag [.i .i64 p.kind, .i .i64 p.count, .n .u32 p.page, .n .u32 p.link, .n .u64 p.tx, .s p.body], .s k, .i .i64 j] [(0, .row .item o l 35 (1, 0))] _ rfl true (leafCalls_m l s a tx p k j hl)
  exact CW.mono h fun v s h => h.1

set_option maxRecDepth 100000 in
theorem lifted (os : Os) (started : os.Started) (H : Type) (enc : TypeId × Value → H) :
    ReturnsInHanded {} Try.checked os 8 .any (Rows.leafCallsSpec.pre6 enc Try.prog Try.f8 Rows.leafCallsRow.domain false) (Rows.leafCallsSpec.post enc Try.prog Try.f8 false true false false) := by
  refine returnsInHanded_of_change_sized (C := Try.checked) own started (by kernel_rfl) Try.func8
    (ChangeSpec.witness6 (enc := enc) (C := Try.checked) false ⟨#[], #[.int .i64 0, .int .u32 0, .int .u64 0, .slice none 0 0, .agg #[.int .i64 0, .int .i64 0, .int .u32 0, .int .u32 0, .int .u64 0, .string ByteArray.empty], .string ByteArray.empty, .int .i64 0], []⟩ 8 (by kernel_rfl) (by kernel_rfl) (by kernel_rfl) (by kernel_rfl)) ?_
  intro W base args ds gs before hval0 hW hcnd hsz0 _
  have hsz : (DataW.weightsEach Try.prog (Try.f8.params.toList ++ Rows.leafCallsSpec.plain.varTypes Try.prog) (ds ++ gs)).all (· ≤ reachBytes) = true := hsz0
  have hval : ∀ (j : Nat) t v, Try.f8.params[j]? = some t → args[j]? = some v → Value.okWide Try.prog W .any base t v := hval0
  have hW' := hW
  obtain ⟨p, q, hA0, hV, rfl, hfz, hnd⟩ := hW
  have hA : DataW.TrodAll enc Try.prog W 0 (fun _ => true) true Try.f8.params.toList args.toList ds p := hA0
  rw [Try.params8] at hA hval hsz
  obtain ⟨v0, vs0, d0, ds0, p0, q0, hargs, rfl, rfl, h0, r0⟩ := trodAll_cons hA
  obtain ⟨v1, vs1, d1, ds1, p1, q1, rfl, rfl, rfl, h1, r1⟩ := trodAll_cons r0
  obtain ⟨v2, vs2, d2, ds2, p2, q2, rfl, rfl, rfl, h2, r2⟩ := trodAll_cons r1
  obtain ⟨v3, vs3, d3, ds3, p3, q3, rfl, rfl, rfl, h3, r3⟩ := trodAll_cons r2
  obtain ⟨v4, vs4, d4, ds4, p4, q4, rfl, rfl, rfl, h4, r4⟩ := trodAll_cons r3
  obtain ⟨v5, vs5, d5, ds5, p5, q5, rfl, rfl, rfl, h5, r5⟩ := trodAll_cons r4
  obtain ⟨v6, vs6, d6, ds6, p6, q6, rfl, rfl, rfl, h6, r6⟩ := trodAll_cons r5
  obtain ⟨rfl, rfl, rfl⟩ := trodAll_nil r6
  obtain rfl : args = #[v0, v1, v2, v3, v4, v5, v6] := by cases args; simp_all
  obtain ⟨rfl, rfl⟩ := trodVars_none hV
  obtain ⟨a0, rfl, rfl, rfl, w0⟩ := open_int Try.underlying3 (hval 0 3 v0 rfl rfl) h0
  obtain ⟨a1, rfl, rfl, rfl, w1⟩ := open_int Try.underlying24 (hval 1 24 v1 rfl rfl) h1
  obtain ⟨n1, rfl⟩ := wf_nat rfl w1
  obtain ⟨a2, rfl, rfl, rfl, w2⟩ := open_int Try.underlying25 (hval 2 25 v2 rfl rfl) h2
  obtain ⟨n2, rfl⟩ := wf_nat rfl w2
  have k3 := h3
  have lt3 : ∀ x ∈ p3, x.block < W.heap.size := by obtain ⟨m, hm⟩ := k3; exact DataW.trod_lt m _ _ _ hm
  obtain ⟨l3, o3, pp3, hB3, hg3, hL3⟩ := look_arg (k := kI) (B := 56) Try.underlying22 (by kernel_rfl) (by kernel_rfl) (by decide) open35 0 3 (hval 3 22 v3 rfl rfl) hsz rfl rfl h3
  have k4 := h4
  have lt4 : ∀ x ∈ p4, x.block < W.heap.size := by obtain ⟨m, hm⟩ := k4; exact DataW.trod_lt m _ _ _ hm
  obtain ⟨cs4, rfl, _⟩ := okWide_struct Try.underlying27 (hval 4 27 v4 rfl rfl)
  obtain ⟨x4, e4, w4⟩ := opens_arg open27 hsz (j := 4) rfl rfl h4
  obtain rfl : cs4 = ⟨kP x4⟩ := Array.toList_inj.1 (by simpa [Value.cells] using e4)
  have k5 := h5
  have lt5 : ∀ x ∈ p5, x.block < W.heap.size := by obtain ⟨m, hm⟩ := k5; exact DataW.trod_lt m _ _ _ hm
  obtain ⟨b5, rfl⟩ := okWide_string Try.underlying9 (hval 5 9 v5 rfl rfl)
  obtain ⟨s5, e5, w5⟩ := opens_arg (opens_string Try.underlying9) hsz (j := 5) rfl rfl h5
  obtain rfl : b5 = ⟨⟨s5⟩⟩ := by simpa [Value.cells] using e5
  obtain ⟨a6, rfl, rfl, rfl, w6⟩ := open_int Try.underlying3 (hval 6 3 v6 rfl rfl) h6
  clear hA0 hval0 hsz0 hsz
  refine (law_run (C := cfg0) (ν0 := fun id => if id = 0 then pp3 else none) (leafCalls_W (fun x hx => by have := hg3 x hx; omega)) (fun v s h => h) (by exact (.cons (.flat rfl) (.cons (.flat rfl) (.cons (.flat rfl) (.cons (hL3.1 _ rfl) (.cons (VR.agg_iff.2 ⟨_, rfl, VRs.flats rfl⟩) (.cons (.flat rfl) (.cons (.flat rfl) .nil)))))))) (fun id h => by repeat rw [if_neg (by omega)]) (by decide) rfl (fun a o h => ?_) (fun a o g S h hg => ?_)).mono fun e W' ⟨he, bel⟩ => ?_
  · simp only [aget_cons, aget_nil] at h
    (repeat' split at h) <;> first | (obtain rfl := Option.some.inj h; rfl) | cases h
  · simp only [aget_cons, aget_nil] at h
    (repeat' split at h) <;> first | cases h; done | skip
    · rename_i ha; subst ha
      obtain rfl := Option.some.inj h
      exact hL3.2 _ _ _ hg
  subst he
  exact ⟨_, rfl, _, _, _, [], _, [], hW', trodAll_mk1 (shut_bool Try.underlying4 _), (trodAll_cons_mk (shut_int Try.underlying3 w0) (trodAll_cons_mk (shut_int Try.underlying24 w1) (trodAll_cons_mk (shut_int Try.underlying25 w2) (trodAll_cons_mk (Below.trod laidOut (by kernel_rfl) (of_decide_eq_true (by kernel_rfl)) k3 bel lt3) (trodAll_cons_mk (Below.trod laidOut (by kernel_rfl) (of_decide_eq_true (by kernel_rfl)) k4 bel lt4) (trodAll_cons_mk (Below.trod laidOut (by kernel_rfl) (of_decide_eq_true (by kernel_rfl)) k5 bel lt5) (trodAll_cons_mk (shut_int Try.underlying3 w6) trodAll_mk0))))))), rfl, bel.frame _, fun h => by cases h⟩
theorem over : Rows.leafCallsRow.holds Try.pinned (OpenSpec.ofChange Rows.leafCallsSpec) :=
  OpenClaim.holds_of_wide 8 Try.f8 rfl rfl rfl rfl rfl rfl rfl ⟨rfl, rfl, rfl, rfl, rfl⟩ rfl rfl rfl rfl rfl (by kernel_rfl) Try.func8 (by kernel_rfl)
    (of_decide_eq_true (by kernel_rfl)) (by unfold Func.isWrapper; first | (rw [if_pos (by decide +kernel)]; kernel_rfl) | (rw [if_neg (by decide +kernel)]; exact ⟨rfl, rfl⟩))
    (fun os started H enc _ => lifted os started H enc)
theorem proved : Rows.LeafCallsSaid := over
#print axioms proved
end Go.Proofs.Ytmnpchmdgobcnaa.leafCalls
namespace Go.Proofs.Ytmnpchmdgobcnaa
/-- The row, under a short name, for the claim. -/
theorem leafCalls_holds : Rows.LeafCallsSaid := leafCalls.proved
end Go.Proofs.Ytmnpchmdgobcnaa
