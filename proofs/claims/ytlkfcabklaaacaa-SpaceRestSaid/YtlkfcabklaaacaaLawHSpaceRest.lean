/- What is used, and the rest, partition all pages correctly; a page that is removed from the rest leaks, one that is added to it is used twice. No conditions. -/
import Derived.Test.YtlkfcabklaaacaaRows
import Derived.Test.YtlkfcabklaaacaaPlain
import Derived.Test.YtlkfcabklaaacaaHq
import Derived.WalkKit
import Derived.ProofKit
import Derived.OpenShut
import Derived.ShutString
import Derived.ChangeOld
import Derived.Below
import Derived.SizedLaws
import Derived.ChangeSlices
namespace Go.Proofs.Ytlkfcabklaaacaa.spaceRest
open Go.ChangeShapes Go.WideShapes Go.ChangeAt Go.RowKit Go.Ev
open Go.ChangeMaps (open_string shut_string)
set_option linter.unusedVariables false
set_option linter.unusedSimpArgs false
set_option maxHeartbeats 4000000
theorem own : ownKnob Try.prog.godebug = none := by kernel_rfl
theorem laidOut : laidOutB Try.prog = true := by kernel_rfl

theorem spaceRest_W {o : Nat} {n w : Int} {l : List Nat} (s : ∀ x ∈ l, x < 4294967296) : CW cfg0 3 [.int .i64 n, .slice (some ⟨0, o, some 1⟩) l.length 0, .int .i64 w] ⟨[(0, .cells ⟨rowJ kU o l⟩ 28 (1, 0))], 1, [], [], []⟩ fun v s1 => v = .bool true := by
  have h := law20_SpaceRest_ok 10000 [.i .i64 n, .sl 0 1, .i .i64 w] [(0, .row .u32 o l 28 (1, 0))] _ rfl true (spaceRest_m n l w s)
  exact CW.mono h fun v s h => h.1

set_option maxRecDepth 100000 in
theorem lifted (os : Os) (started : os.Started) (H : Type) (enc : TypeId × Value → H) :
    ReturnsInHanded {} Try.checked os 3 .any (Rows.spaceRestSpec.pre6 enc Try.prog Try.f3 Rows.spaceRestRow.domain false) (Rows.spaceRestSpec.post enc Try.prog Try.f3 false true false false) := by
  refine returnsInHanded_of_change_sized (C := Try.checked) own started (by kernel_rfl) Try.func3
    (ChangeSpec.witness6 (enc := enc) (C := Try.checked) false ⟨#[], #[.int .i64 0, .slice none 0 0, .int .i64 0], []⟩ 8 (by kernel_rfl) (by kernel_rfl) (by kernel_rfl) (by kernel_rfl)) ?_
  intro W base args ds gs before hval0 hW hcnd hsz0 _
  have hsz : (DataW.weightsEach Try.prog (Try.f3.params.toList ++ Rows.spaceRestSpec.plain.varTypes Try.prog) (ds ++ gs)).all (· ≤ reachBytes) = true := hsz0
  have hval : ∀ (j : Nat) t v, Try.f3.params[j]? = some t → args[j]? = some v → Value.okWide Try.prog W .any base t v := hval0
  have hW' := hW
  obtain ⟨p, q, hA0, hV, rfl, hfz, hnd⟩ := hW
  have hA : DataW.TrodAll enc Try.prog W 0 (fun _ => true) true Try.f3.params.toList args.toList ds p := hA0
  rw [Try.params3] at hA hval hsz
  obtain ⟨v0, vs0, d0, ds0, p0, q0, hargs, rfl, rfl, h0, r0⟩ := trodAll_cons hA
  obtain ⟨v1, vs1, d1, ds1, p1, q1, rfl, rfl, rfl, h1, r1⟩ := trodAll_cons r0
  obtain ⟨v2, vs2, d2, ds2, p2, q2, rfl, rfl, rfl, h2, r2⟩ := trodAll_cons r1
  obtain ⟨rfl, rfl, rfl⟩ := trodAll_nil r2
  obtain rfl : args = #[v0, v1, v2] := by cases args; simp_all
  obtain ⟨rfl, rfl⟩ := trodVars_none hV
  obtain ⟨a0, rfl, rfl, rfl, w0⟩ := open_int Try.underlying3 (hval 0 3 v0 rfl rfl) h0
  have k1 := h1
  have lt1 : ∀ x ∈ p1, x.block < W.heap.size := by obtain ⟨m, hm⟩ := k1; exact DataW.trod_lt m _ _ _ hm
  obtain ⟨l1, o1, pp1, hB1, hg1, hL1⟩ := look_arg (k := kU) (B := 4) Try.underlying22 (by kernel_rfl) (by kernel_rfl) (by decide) (opens_u32 Try.underlying28) 0 1 (hval 1 22 v1 rfl rfl) hsz rfl rfl h1
  obtain ⟨a2, rfl, rfl, rfl, w2⟩ := open_int Try.underlying3 (hval 2 3 v2 rfl rfl) h2
  clear hA0 hval0 hsz0 hsz
  refine (law_run (C := cfg0) (ν0 := fun id => if id = 0 then pp1 else none) (spaceRest_W (fun x hx => hg1 x hx)) (fun v s h => h) (by exact (.cons (.flat rfl) (.cons (hL1.1 _ rfl) (.cons (.flat rfl) .nil)))) (fun id h => by repeat rw [if_neg (by omega)]) (by decide) rfl (fun a o h => ?_) (fun a o g S h hg => ?_)).mono fun e W' ⟨he, bel⟩ => ?_
  · simp only [aget_cons, aget_nil] at h
    (repeat' split at h) <;> first | (obtain rfl := Option.some.inj h; rfl) | cases h
  · simp only [aget_cons, aget_nil] at h
    (repeat' split at h) <;> first | cases h; done | skip
    · rename_i ha; subst ha
      obtain rfl := Option.some.inj h
      exact hL1.2 _ _ _ hg
  subst he
  exact ⟨_, rfl, _, _, _, [], _, [], hW', trodAll_mk1 (shut_bool Try.underlying4 _), (trodAll_cons_mk (shut_int Try.underlying3 w0) (trodAll_cons_mk (Below.trod laidOut (by kernel_rfl) (of_decide_eq_true (by kernel_rfl)) k1 bel lt1) (trodAll_cons_mk (shut_int Try.underlying3 w2) trodAll_mk0))), rfl, bel.frame _, fun h => by cases h⟩
theorem over : Rows.spaceRestRow.holds Try.pinned (OpenSpec.ofChange Rows.spaceRestSpec) :=
  OpenClaim.holds_of_wide 3 Try.f3 rfl rfl rfl rfl rfl rfl rfl ⟨rfl, rfl, rfl, rfl, rfl⟩ rfl rfl rfl rfl rfl (by kernel_rfl) Try.func3 (by kernel_rfl)
    (of_decide_eq_true (by kernel_rfl)) (by unfold Func.isWrapper; first | (rw [if_pos (by decide +kernel)]; kernel_rfl) | (rw [if_neg (by decide +kernel)]; exact ⟨rfl, rfl⟩))
    (fun os started H enc _ => lifted os started H enc)
theorem proved : Rows.SpaceRestSaid := over
#print axioms proved
end Go.Proofs.Ytlkfcabklaaacaa.spaceRest
namespace Go.Proofs.Ytlkfcabklaaacaa
/-- The row, under a short name, for the claim. -/
theorem spaceRest_holds : Rows.SpaceRestSaid := spaceRest.proved
end Go.Proofs.Ytlkfcabklaaacaa
