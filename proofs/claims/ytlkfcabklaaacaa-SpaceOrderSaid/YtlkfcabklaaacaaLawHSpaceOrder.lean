/- Neither the order, nor how often a page occurs in one list, matters for partitions, nor for the rest. No conditions. -/
import Derived.Test.YtlkfcabklaaacaaRows
import Derived.Test.YtlkfcabklaaacaaPlain
import Derived.Test.YtlkfcabklaaacaaHq
import Derived.WalkKit
import Derived.ProofKit
import Derived.OpenShut
import Derived.ShutString
import Derived.ChangeOld
import Derived.Below
import Derived.SizedLaws
import Derived.ChangeSlices
namespace Go.Proofs.Ytlkfcabklaaacaa.spaceOrder
open Go.ChangeShapes Go.WideShapes Go.ChangeAt Go.RowKit Go.Ev
open Go.ChangeMaps (open_string shut_string)
set_option linter.unusedVariables false
set_option linter.unusedSimpArgs false
set_option maxHeartbeats 4000000
theorem own : ownKnob Try.prog.godebug = none := by kernel_rfl
theorem laidOut : laidOutB Try.prog = true := by kernel_rfl

theorem spaceOrder_W {o o2 o3 : Nat} {n turn : Int} {l2 l3 l4 : List Nat} (s2 : ∀ x ∈ l2, x < 4294967296) (s3 : ∀ x ∈ l3, x < 4294967296) (s4 : ∀ x ∈ l4, x < 4294967296) : CW cfg0 4 [.int .i64 n, .slice (some ⟨0, o, some 1⟩) l2.length 0, .slice (some ⟨1, o2, some 1⟩) l3.length 0, .slice (some ⟨2, o3, some 1⟩) l4.length 0, .int .i64 turn] ⟨[(0, .cells ⟨rowJ kU o l2⟩ 28 (1, 0)), (1, .cells ⟨rowJ kU o2 l3⟩ 28 (1, 0)), (2, .cells ⟨rowJ kU o3 l4⟩ 28 (1, 0))], 3, [], [], []⟩ fun v s1 => v = .bool true := by
  have h := law20_SpaceOrder_ok 10000 [.i .i64 n, .sl 0 1, .sl 1 1, .sl 2 1, .i .i64 turn] [(0, .row .u32 o l2 28 (1, 0)), (1, .row .u32 o2 l3 28 (1, 0)), (2, .row .u32 o3 l4 28 (1, 0))] _ rfl true (spaceOrder_m n l2 l3 l4 turn s2 s3 s4)
  exact CW.mono h fun v s h => h.1

set_option maxRecDepth 100000 in
theorem lifted (os : Os) (started : os.Started) (H : Type) (enc : TypeId × Value → H) :
    ReturnsInHanded {} Try.checked os 4 .any (Rows.spaceOrderSpec.pre6 enc Try.prog Try.f4 Rows.spaceOrderRow.domain false) (Rows.spaceOrderSpec.post enc Try.prog Try.f4 false true false false) := by
  refine returnsInHanded_of_change_sized (C := Try.checked) own started (by kernel_rfl) Try.func4
    (ChangeSpec.witness6 (enc := enc) (C := Try.checked) false ⟨#[], #[.int .i64 0, .slice none 0 0, .slice none 0 0, .slice none 0 0, .int .i64 0], []⟩ 8 (by kernel_rfl) (by kernel_rfl) (by kernel_rfl) (by kernel_rfl)) ?_
  intro W base args ds gs before hval0 hW hcnd hsz0 _
  have hsz : (DataW.weightsEach Try.prog (Try.f4.params.toList ++ Rows.spaceOrderSpec.plain.varTypes Try.prog) (ds ++ gs)).all (· ≤ reachBytes) = true := hsz0
  have hval : ∀ (j : Nat) t v, Try.f4.params[j]? = some t → args[j]? = some v → Value.okWide Try.prog W .any base t v := hval0
  have hW' := hW
  obtain ⟨p, q, hA0, hV, rfl, hfz, hnd⟩ := hW
  have hA : DataW.TrodAll enc Try.prog W 0 (fun _ => true) true Try.f4.params.toList args.toList ds p := hA0
  rw [Try.params4] at hA hval hsz
  obtain ⟨v0, vs0, d0, ds0, p0, q0, hargs, rfl, rfl, h0, r0⟩ := trodAll_cons hA
  obtain ⟨v1, vs1, d1, ds1, p1, q1, rfl, rfl, rfl, h1, r1⟩ := trodAll_cons r0
  obtain ⟨v2, vs2, d2, ds2, p2, q2, rfl, rfl, rfl, h2, r2⟩ := trodAll_cons r1
  obtain ⟨v3, vs3, d3, ds3, p3, q3, rfl, rfl, rfl, h3, r3⟩ := trodAll_cons r2
  obtain ⟨v4, vs4, d4, ds4, p4, q4, rfl, rfl, rfl, h4, r4⟩ := trodAll_cons r3
  obtain ⟨rfl, rfl, rfl⟩ := trodAll_nil r4
  obtain rfl : args = #[v0, v1, v2, v3, v4] := by cases args; simp_all
  obtain ⟨rfl, rfl⟩ := trodVars_none hV
  obtain ⟨a0, rfl, rfl, rfl, w0⟩ := open_int Try.underlying3 (hval 0 3 v0 rfl rfl) h0
  have k1 := h1
  have lt1 : ∀ x ∈ p1, x.block < W.heap.size := by obtain ⟨m, hm⟩ := k1; exact DataW.trod_lt m _ _ _ hm
  obtain ⟨l1, o1, pp1, hB1, hg1, hL1⟩ := look_arg (k := kU) (B := 4) Try.underlying22 (by kernel_rfl) (by kernel_rfl) (by decide) (opens_u32 Try.underlying28) 0 1 (hval 1 22 v1 rfl rfl) hsz rfl rfl h1
  have k2 := h2
  have lt2 : ∀ x ∈ p2, x.block < W.heap.size := by obtain ⟨m, hm⟩ := k2; exact DataW.trod_lt m _ _ _ hm
  obtain ⟨l2, o2, pp2, hB2, hg2, hL2⟩ := look_arg (k := kU) (B := 4) Try.underlying22 (by kernel_rfl) (by kernel_rfl) (by decide) (opens_u32 Try.underlying28) 1 2 (hval 2 22 v2 rfl rfl) hsz rfl rfl h2
  have k3 := h3
  have lt3 : ∀ x ∈ p3, x.block < W.heap.size := by obtain ⟨m, hm⟩ := k3; exact DataW.trod_lt m _ _ _ hm
  obtain ⟨l3, o3, pp3, hB3, hg3, hL3⟩ := look_arg (k := kU) (B := 4) Try.underlying22 (by kernel_rfl) (by kernel_rfl) (by decide) (opens_u32 Try.underlying28) 2 3 (hval 3 22 v3 rfl rfl) hsz rfl rfl h3
  obtain ⟨a4, rfl, rfl, rfl, w4⟩ := open_int Try.underlying3 (hval 4 3 v4 rfl rfl) h4
  clear hA0 hval0 hsz0 hsz
  refine (law_run (C := cfg0) (ν0 := fun id => if id = 0 then pp1 else if id = 1 then pp2 else if id = 2 then pp3 else none) (spaceOrder_W (fun x hx => hg1 x hx) (fun x hx => hg2 x hx) (fun x hx => hg3 x hx)) (fun v s h => h) (by exact (.cons (.flat rfl) (.cons (hL1.1 _ rfl) (.cons (hL2.1 _ rfl) (.cons (hL3.1 _ rfl) (.cons (.flat rfl) .nil)))))) (fun id h => by repeat rw [if_neg (by omega)]) (by decide) rfl (fun a o h => ?_) (fun a o g S h hg => ?_)).mono fun e W' ⟨he, bel⟩ => ?_
  · simp only [aget_cons, aget_nil] at h
    (repeat' split at h) <;> first | (obtain rfl := Option.some.inj h; rfl) | cases h
  · simp only [aget_cons, aget_nil] at h
    (repeat' split at h) <;> first | cases h; done | skip
    · rename_i ha; subst ha
      obtain rfl := Option.some.inj h
      exact hL1.2 _ _ _ hg
    · rename_i ha; subst ha
      obtain rfl := Option.some.inj h
      exact hL2.2 _ _ _ hg
    · rename_i ha; subst ha
      obtain rfl := Option.some.inj h
      exact hL3.2 _ _ _ hg
  subst he
  exact ⟨_, rfl, _, _, _, [], _, [], hW', trodAll_mk1 (shut_bool Try.underlying4 _), (trodAll_cons_mk (shut_int Try.underlying3 w0) (trodAll_cons_mk (Below.trod laidOut (by kernel_rfl) (of_decide_eq_true (by kernel_rfl)) k1 bel lt1) (trodAll_cons_mk (Below.trod laidOut (by kernel_rfl) (of_decide_eq_true (by kernel_rfl)) k2 bel lt2) (trodAll_cons_mk (Below.trod laidOut (by kernel_rfl) (of_decide_eq_true (by kernel_rfl)) k3 bel lt3) (trodAll_cons_mk (shut_int Try.underlying3 w4) trodAll_mk0))))), rfl, bel.frame _, fun h => by cases h⟩
theorem over : Rows.spaceOrderRow.holds Try.pinned (OpenSpec.ofChange Rows.spaceOrderSpec) :=
  OpenClaim.holds_of_wide 4 Try.f4 rfl rfl rfl rfl rfl rfl rfl ⟨rfl, rfl, rfl, rfl, rfl⟩ rfl rfl rfl rfl rfl (by kernel_rfl) Try.func4 (by kernel_rfl)
    (of_decide_eq_true (by kernel_rfl)) (by unfold Func.isWrapper; first | (rw [if_pos (by decide +kernel)]; kernel_rfl) | (rw [if_neg (by decide +kernel)]; exact ⟨rfl, rfl⟩))
    (fun os started H enc _ => lifted os started H enc)
theorem proved : Rows.SpaceOrderSaid := over
#print axioms proved
end Go.Proofs.Ytlkfcabklaaacaa.spaceOrder
namespace Go.Proofs.Ytlkfcabklaaacaa
/-- The row, under a short name, for the claim. -/
theorem spaceOrder_holds : Rows.SpaceOrderSaid := spaceOrder.proved
end Go.Proofs.Ytlkfcabklaaacaa
