/- Of several pages one after the other each is read by its own number, and by no other; what follows the last whole one is not a page. No conditions. -/
import Derived.Test.YtlnmdfffmflhgaaRows
import Derived.Test.YtlnmdfffmflhgaaPlain
import Derived.Test.YtlnmdfffmflhgaaHq
import Derived.WalkKit
import Derived.ProofKit
import Derived.OpenShut
import Derived.ShutString
import Derived.ChangeOld
import Derived.Below
import Derived.SizedLaws
import Derived.ChangeSlices
namespace Go.Proofs.Ytlnmdfffmflhgaa.frameReads
open Go.ChangeShapes Go.WideShapes Go.ChangeAt Go.RowKit Go.Ev
open Go.ChangeMaps (open_string shut_string)
set_option linter.unusedVariables false
set_option maxHeartbeats 4000000
theorem own : ownKnob Try.prog.godebug = none := by kernel_rfl
theorem laidOut : laidOutB Try.prog = true := by kernel_rfl

theorem frameReads_W {o : Nat} {bs : List (List UInt8)} {tx a : Nat} {r : List UInt8} (hs : ∀ x ∈ bs, x.length ≤ 140737488351232) (ha : a < 4294967296) : CW cfg0 6 [.slice (some ⟨0, o, some 1⟩) bs.length 0, .int .u64 (tx : Int), .int .u32 (a : Int), str r] ⟨[(0, .cells ⟨rowJ kS o bs⟩ 9 (1, 0))], 1, [], [], []⟩ fun v s1 => v = .bool true := by
  have h := law04_FrameReads_ok 10000 [.sl 0 1, .n .u64 tx, .n .u32 a, .s r] [(0, .row .st o bs 9 (1, 0))] _ rfl true (frameReads_m bs tx a r hs ha)
  exact CW.mono h fun v s h => h.1

set_option maxRecDepth 100000 in
theorem lifted (os : Os) (started : os.Started) (H : Type) (enc : TypeId × Value → H) :
    ReturnsInHanded {} Try.checked os 6 .any (Rows.frameReadsSpec.pre6 enc Try.prog Try.f6 Rows.frameReadsRow.domain false) (Rows.frameReadsSpec.post enc Try.prog Try.f6 false true false false) := by
  refine returnsInHanded_of_change_sized (C := Try.checked) own started (by kernel_rfl) Try.func6
    (ChangeSpec.witness6 (enc := enc) (C := Try.checked) false ⟨#[], #[.slice none 0 0, .int .u64 0, .int .u32 0, .string ByteArray.empty], []⟩ 8 (by kernel_rfl) (by kernel_rfl) (by kernel_rfl) (by kernel_rfl)) ?_
  intro W base args ds gs before hval0 hW hcnd hsz0 _
  have hsz : (DataW.weightsEach Try.prog (Try.f6.params.toList ++ Rows.frameReadsSpec.plain.varTypes Try.prog) (ds ++ gs)).all (· ≤ reachBytes) = true := hsz0
  have hval : ∀ (j : Nat) t v, Try.f6.params[j]? = some t → args[j]? = some v → Value.okWide Try.prog W .any base t v := hval0
  have hW' := hW
  obtain ⟨p, q, hA0, hV, rfl, hfz, hnd⟩ := hW
  have hA : DataW.TrodAll enc Try.prog W 0 (fun _ => true) true Try.f6.params.toList args.toList ds p := hA0
  rw [Try.params6] at hA hval hsz
  obtain ⟨v0, vs0, d0, ds0, p0, q0, hargs, rfl, rfl, h0, r0⟩ := trodAll_cons hA
  obtain ⟨v1, vs1, d1, ds1, p1, q1, rfl, rfl, rfl, h1, r1⟩ := trodAll_cons r0
  obtain ⟨v2, vs2, d2, ds2, p2, q2, rfl, rfl, rfl, h2, r2⟩ := trodAll_cons r1
  obtain ⟨v3, vs3, d3, ds3, p3, q3, rfl, rfl, rfl, h3, r3⟩ := trodAll_cons r2
  obtain ⟨rfl, rfl, rfl⟩ := trodAll_nil r3
  obtain rfl : args = #[v0, v1, v2, v3] := by cases args; simp_all
  obtain ⟨rfl, rfl⟩ := trodVars_none hV
  have k0 := h0
  have lt0 : ∀ x ∈ p0, x.block < W.heap.size := by obtain ⟨m, hm⟩ := k0; exact DataW.trod_lt m _ _ _ hm
  obtain ⟨l0, o0, pp0, hB0, hg0, hL0⟩ := look_arg (k := kS) (B := 16) Try.underlying51 (by kernel_rfl) (by kernel_rfl) (by decide) (opens_string Try.underlying9) 0 0 (hval 0 51 v0 rfl rfl) hsz rfl rfl h0
  obtain ⟨a1, rfl, rfl, rfl, w1⟩ := open_int Try.underlying22 (hval 1 22 v1 rfl rfl) h1
  obtain ⟨n1, rfl⟩ := wf_nat rfl w1
  obtain ⟨a2, rfl, rfl, rfl, w2⟩ := open_int Try.underlying23 (hval 2 23 v2 rfl rfl) h2
  obtain ⟨n2, rfl⟩ := wf_nat rfl w2
  have k3 := h3
  have lt3 : ∀ x ∈ p3, x.block < W.heap.size := by obtain ⟨m, hm⟩ := k3; exact DataW.trod_lt m _ _ _ hm
  obtain ⟨b3, rfl⟩ := okWide_string Try.underlying9 (hval 3 9 v3 rfl rfl)
  obtain ⟨s3, e3, w3⟩ := opens_arg (opens_string Try.underlying9) hsz (j := 3) rfl rfl h3
  obtain rfl : b3 = ⟨⟨s3⟩⟩ := by simpa [Value.cells] using e3
  clear hA0 hval0 hsz0 hsz
  refine (law_run (C := cfg0) (ν0 := fun id => if id = 0 then pp0 else none) (frameReads_W (a := n2) (fun x hx => hg0 x hx) (by revert w2; simp [Lit.wf, IntKind.signed, IntKind.bits, IntKind.min, IntKind.max]; omega)) (fun v s h => h) (by exact (.cons (hL0.1 _ rfl) (.cons (.flat rfl) (.cons (.flat rfl) (.cons (.flat rfl) .nil))))) (fun id h => by repeat rw [if_neg (by omega)]) (by decide) rfl (fun a o h => ?_) (fun a o g S h hg => ?_)).mono fun e W' ⟨he, bel⟩ => ?_
  · simp only [aget_cons, aget_nil] at h
    (repeat' split at h) <;> first | (obtain rfl := Option.some.inj h; rfl) | cases h
  · simp only [aget_cons, aget_nil] at h
    (repeat' split at h) <;> first | cases h; done | skip
    · rename_i ha; subst ha
      obtain rfl := Option.some.inj h
      exact hL0.2 _ _ _ hg
  subst he
  exact ⟨_, rfl, _, _, _, [], _, [], hW', trodAll_mk1 (shut_bool Try.underlying4 _), (trodAll_cons_mk (Below.trod laidOut (by kernel_rfl) (of_decide_eq_true (by kernel_rfl)) k0 bel lt0) (trodAll_cons_mk (shut_int Try.underlying22 w1) (trodAll_cons_mk (shut_int Try.underlying23 w2) (trodAll_cons_mk (Below.trod laidOut (by kernel_rfl) (of_decide_eq_true (by kernel_rfl)) k3 bel lt3) trodAll_mk0)))), rfl, bel.frame _, fun h => by cases h⟩
theorem over : Rows.frameReadsRow.holds Try.pinned (OpenSpec.ofChange Rows.frameReadsSpec) :=
  OpenClaim.holds_of_wide 6 Try.f6 rfl rfl rfl rfl rfl rfl rfl ⟨rfl, rfl, rfl, rfl, rfl⟩ rfl rfl rfl rfl rfl (by kernel_rfl) Try.func6 (by kernel_rfl)
    (of_decide_eq_true (by kernel_rfl)) (by unfold Func.isWrapper; first | (rw [if_pos (by decide +kernel)]; kernel_rfl) | (rw [if_neg (by decide +kernel)]; exact ⟨rfl, rfl⟩))
    (fun os started H enc _ => lifted os started H enc)
theorem proved : Rows.FrameReadsSaid := over
#print axioms proved
end Go.Proofs.Ytlnmdfffmflhgaa.frameReads
namespace Go.Proofs.Ytlnmdfffmflhgaa
/-- The row, under a short name, for the claim. -/
theorem frameReads_holds : Rows.FrameReadsSaid := frameReads.proved
end Go.Proofs.Ytlnmdfffmflhgaa
