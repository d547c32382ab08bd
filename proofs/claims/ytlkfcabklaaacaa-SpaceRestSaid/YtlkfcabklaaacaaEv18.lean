/- Words of my own: maps in the evaluator (keys that are whole numbers), proved right. -/
import Derived.Test.YtlkfcabklaaacaaEv10
import Derived.MapKept
set_option linter.unusedVariables false
set_option linter.unusedSimpArgs false
namespace Go.Ev
open Go.RowKit
open Go.MapKept (IsKey run_checkKey run_findKey heap_set)
section
variable {C : Cfg} {B : Nat} {W0 : World} {N : Nat} {T : Tm} {s : St}
noncomputable def keyOk (d : TypeDesc) (k : Value) : Bool := match d, k with
  | .int j, .int q _ => decide (j = q)
  | _, _ => false
theorem keyOk_is {d : TypeDesc} {k : Value} (h : keyOk d k = true) : ∃ (j q : IntKind) (n : Int), d = .int q ∧ k = .int q n := by
  unfold keyOk at h
  split at h
  · rename_i j q n
    have := of_decide_eq_true h
    subst this
    exact ⟨j, j, n, rfl, rfl⟩
  · cases h
noncomputable def keyEq (a b : Value) : Option Bool := match a, b with
  | .int k a, .int k' b => match decide (k = k') with
    | true => some (eqI a b)
    | false => none
  | _, _ => none
theorem keyEq_ok {j : IntKind} {a b : Value} {r : Bool} (h : keyEq a b = some r) : Instr.sameNow (.int j) a b = some r := by
  unfold keyEq at h
  split at h
  · rename_i k a k' b
    split at h
    · rename_i hk
      have hk := of_decide_eq_true hk
      subst hk
      rw [eqI_eq] at h
      simp only [Instr.sameNow, if_true]
      exact h
    · cases h
  · cases h
noncomputable def aFind (k : Value) (l : List MapEntry) : Nat → Option (Option (Nat × Value)) :=
  List.rec (motive := fun _ => Nat → Option (Option (Nat × Value))) (fun _ => some none) (fun e _ ih i => match keyEq k e.key with
    | some true => some (some (i, e.val))
    | some false => ih (Nat.succ i)
    | none => none) l
inductive FR (ν : Ren) : Option (Nat × Value) → Option (Nat × Value) → Prop
  | none : FR ν none none
  | some {i : Nat} {v v' : Value} (h : VR ν v v') : FR ν (some (i, v)) (some (i, v'))
theorem aFind_ok {ν : Ren} {j : IntKind} {k : Value} {l l' : List MapEntry} (h : ER ν l l') : ∀ {i : Nat} {r : Option (Nat × Value)}, aFind k l i = some r → ∃ r', Instr.findNow (.int j) k l' i = some r' ∧ FR ν r r' := by
  induction h with
  | nil =>
    intro i r hr
    obtain rfl := Option.some.inj hr
    exact ⟨none, rfl, .none⟩
  | cons hk hv t ih =>
    rename_i e e' l l'
    intro i r hr
    change (match keyEq k e.key with
    | some true => some (some (i, e.val))
    | some false => aFind k l (Nat.succ i)
    | none => none) = some r at hr
    rw [Instr.findNow, hk]
    split at hr
    · rename_i hq
      obtain rfl := Option.some.inj hr
      rw [keyEq_ok hq]
      exact ⟨_, rfl, .some hv⟩
    · rename_i hq
      rw [keyEq_ok hq]
      exact ih hr
    · cases hr
theorem rd_map {ν : Ren} {m : Nat → Option Obj} {s' : St} {w : World} (p : Pre B W0 ν m s s' w) {a : Nat} (ha : a ∈ s'.rd ∨ a ∈ s'.wr) {es : Array MapEntry} {n : Nat} (h : aget s.h a = some (.map es n)) {g S : Nat} (hν : ν a = some (g, S)) :
    ∃ es', w.heap[g]? = some (.map es' n) ∧ ER ν es.toList es'.toList ∧ B ≤ g := by
  have hm := (p.agree a ha).trans h
  obtain ⟨ob, h2, h3, h4⟩ := p.rel.objs a _ g S hm hν
  cases h3 with
  | map h => exact ⟨_, h2, h, h4 rfl⟩
theorem VR.map_inv {ν : Ren} {a : Nat} {u : Value} (h : VR ν (.map (some a)) u) : ∃ g S, u = .map (some g) ∧ ν a = some (g, S) := by
  cases h with
  | flat h => simp [Ev.flat] at h
  | map h => exact ⟨_, _, rfl, h⟩
noncomputable def aMakeMap (s : St) : Option (Value × List Bool × St) := some (.map (some s.nx), [], newB s (.map #[] 0))
theorem aMakeMap_ok (hB : B ≤ W0.heap.size) {o : Oper} {t : TypeId} (ho : o.op = .makeMap t none) {v : Value} {ns : List Bool} {s' : St} (h : aMakeMap s = some (v, ns, s')) : OpOk C B W0 N o T s v s' := by
  obtain ⟨dst, op, type, pos, after, guard⟩ := o
  obtain rfl : op = _ := ho
  obtain ⟨rfl, rfl, rfl⟩ := s3 h
  refine ⟨newB_ext _ _, fun ν m a w tr p => ?_⟩
  refine ⟨_, _, _, fun i => if i = s.nx then some (w.heap.size, 0) else ν i, ?_, .inl rfl, .map (S := 0) (if_pos rfl), newB_post hB p p.rel (.map .nil)⟩
  simp only [execOp, Instr.makeMap, Option.map, Sem.run_bind, run_newObj, Result.andThen_ok, Sem.run_pure]
  rfl
noncomputable def aLookup (C : Cfg) (T : Tm) (s : St) (t : TypeId) (x i : Operand) (ok : Bool) : Option (Value × List Bool × St) :=
  match C.ty t, ev1 T x, ev1 T i with
  | some (_, .map kt et), some (.map (some r)), some k => match C.ty kt, C.ty et, aget s.h r with
    | some (_, d), some (ei, _), some (.map es _) => match aFind k es.toList 0, ei.zero with
      | some (some (_, v)), _ => some (Bool.rec (motive := fun _ => Value) v (.tuple #[v, .bool true]) ok, [keyOk d k], rdS s r)
      | some none, some z => some (Bool.rec (motive := fun _ => Value) z (.tuple #[z, .bool false]) ok, [keyOk d k, plain z], rdS s r)
      | _, _ => none
    | _, _, _ => none
  | _, _, _ => none
theorem keyOk_key {d : TypeDesc} {k : Value} (h : keyOk d k = true) : IsKey d k := by
  obtain ⟨j, q, n, rfl, rfl⟩ := keyOk_is h
  simp [IsKey]
theorem aLookup_ok (hC : C.Ok) {o : Oper} {t : TypeId} {x i : Operand} {ok : Bool} (ho : o.op = .lookup t x i ok) {v : Value} {ns : List Bool} {s' : St} (h : aLookup C T s t x i ok = some (v, ns, s')) (hn : ∀ b ∈ ns, b = true) : OpOk C B W0 N o T s v s' := by
  obtain ⟨dst, op, type, pos, after, guard⟩ := o
  obtain rfl : op = _ := ho
  unfold aLookup at h
  split at h
  rotate_left
  · cases h
  rename_i t1 kt et r k ht hx hi
  split at h
  rotate_left
  · cases h
  rename_i k1 d ei e2 es clock hkt het hes
  have key : ∀ {ν : Ren} {m : Nat → Option Obj} {a : Act} {w : World} {fr : Option (Nat × Value)}, TR N ν T a → Pre B W0 ν m s (rdS s r) w → aFind k es.toList 0 = some fr → keyOk d k = true →
      ∃ g es' fr', a.eval x = .map (some g) ∧ a.eval i = k ∧ w.heap[g]? = some (.map es' clock) ∧ (∀ b, (Instr.checkKey b 10000 kt k).run C.P w = .ok () w) ∧ (Instr.findKey kt k es'.toList).run C.P w = .ok fr' w ∧ FR ν fr fr' := by
    intro ν m a w fr tr p hf hk
    obtain ⟨g, S, ex, hν⟩ := VR.map_inv (ev1_ok tr hx)
    obtain ⟨es', h1, h2, h3⟩ := rd_map p (.inl ((lg_iff _ _ _).2 (.inl rfl))) hes hν
    obtain ⟨j, q, n, rfl, rfl⟩ := keyOk_is hk
    obtain ⟨fr', h4, h5⟩ := aFind_ok (j := q) h2 hf
    have hu := (hC.ty kt _ hkt).2
    exact ⟨g, es', fr', ex, VR.int_inv (ev1_ok tr hi), h1, fun b => run_checkKey hu (keyOk_key hk) b 9999, run_findKey hu h4, h5⟩
  split at h
  · rename_i i0 v0 hf
    obtain ⟨rfl, rfl, rfl⟩ := s3 h
    refine ⟨rdS_ext _ _, fun ν m a w tr p => ?_⟩
    obtain ⟨g, es', fr', e1, e2, h1, h2, h3, h4⟩ := key tr p hf (hn _ (by simp))
    cases h4 with
    | some hv =>
      rename_i v'
      refine ⟨.value (Bool.rec (motive := fun _ => Value) v' (.tuple #[v', .bool true]) ok), w, _, ν, ?_, .inl rfl, ?_, .same p rfl rfl rfl p.rel⟩
      · simp only [execOp, Instr.lookup, Sem.run_bind, underlying_run hC ht, Result.andThen_ok, e1, e2, Go.MapKept.run_getObj_map h1, Sem.run_pure, h2, h3]
        cases ok <;> rfl
      · cases ok
        · exact hv
        · exact VR.tuple_iff.2 ⟨_, rfl, .cons hv (.cons (.flat rfl) .nil)⟩
  · rename_i z hf hz
    obtain ⟨rfl, rfl, rfl⟩ := s3 h
    refine ⟨rdS_ext _ _, fun ν m a w tr p => ?_⟩
    obtain ⟨g, es', fr', e1, e2, h1, h2, h3, h4⟩ := key tr p hf (hn _ (by simp))
    have hpz : plain z = true := hn _ (by simp)
    cases h4 with
    | none =>
      refine ⟨.value (Bool.rec (motive := fun _ => Value) z (.tuple #[z, .bool false]) ok), w, _, ν, ?_, .inl rfl, ?_, .same p rfl rfl rfl p.rel⟩
      · simp only [execOp, Instr.lookup, Sem.run_bind, underlying_run hC ht, Result.andThen_ok, e1, e2, Go.MapKept.run_getObj_map h1, Sem.run_pure, h2, h3, zeroValue, typeInfo_run hC het, hz]
        cases ok <;> rfl
      · cases ok
        · exact VR.of_plain hpz
        · exact VR.tuple_iff.2 ⟨_, rfl, .cons (VR.of_plain hpz) (.cons (.flat rfl) .nil)⟩
  · cases h
noncomputable def aMapUpd (C : Cfg) (T : Tm) (s : St) (t : TypeId) (x i y : Operand) : Option (Value × List Bool × St) :=
  match C.ty t, ev1 T x, ev1 T i, ev1 T y with
  | some (_, .map kt et), some (.map (some r)), some k, some v => match C.ty kt, aget s.h r with
    | some (_, d), some (.map es n) => match aFind k es.toList 0 with
      | some none => some (undef, [keyOk d k], wrS s r (.map ⟨app es.toList [{ key := k, val := v, born := n }]⟩ (Nat.succ n)))
      | _ => none
    | _, _ => none
  | _, _, _, _ => none
theorem ER.app {ν : Ren} {l l' : List MapEntry} (h : ER ν l l') {e e' : MapEntry} (hk : e'.key = e.key) (hv : VR ν e.val e'.val) : ER ν (l ++ [e]) (l' ++ [e']) := by
  induction h with
  | nil => exact .cons hk hv .nil
  | cons a b _ ih => exact .cons a b ih
theorem aMapUpd_ok (hC : C.Ok) {o : Oper} {t : TypeId} {x i y : Operand} (ho : o.op = .mapUpdate t x i y) {v : Value} {ns : List Bool} {s' : St} (h : aMapUpd C T s t x i y = some (v, ns, s')) (hn : ∀ b ∈ ns, b = true) : OpOk C B W0 N o T s v s' := by
  obtain ⟨dst, op, type, pos, after, guard⟩ := o
  obtain rfl : op = _ := ho
  unfold aMapUpd at h
  split at h
  rotate_left
  · cases h
  rename_i t1 kt et r k v0 ht hx hi hy
  split at h
  rotate_left
  · cases h
  rename_i k1 d es n hkt hes
  split at h
  rotate_left
  · cases h
  rename_i hf
  obtain ⟨rfl, rfl, rfl⟩ := s3 h
  refine ⟨wrS_ext _ _ _ hes, fun ν m a w tr p => ?_⟩
  have hk : keyOk d k = true := hn _ (by simp)
  obtain ⟨g, S, ex, hν⟩ := VR.map_inv (ev1_ok tr hx)
  obtain ⟨es', h1, h2, h3⟩ := rd_map p (.inr ((lg_iff _ _ _).2 (.inl rfl))) hes hν
  have hkey := keyOk_key hk
  obtain ⟨j, q, c, rfl, rfl⟩ := keyOk_is hk
  obtain ⟨fr', h4, h5⟩ := aFind_ok (j := q) h2 hf
  cases h5
  have hu := (hC.ty kt _ hkt).2
  have hlt : g < w.heap.size := (Array.getElem?_eq_some_iff.1 h1).1
  have hv := ev1_ok tr hy
  refine ⟨.skip, { w with heap := w.heap.setIfInBounds g (.map (es'.push { key := .int q c, val := a.eval y, born := n }) (n + 1)) }, undef, ν, ?_, .inr ⟨rfl, rfl⟩, VR.of_plain rfl, wrS_post p hes rfl hν (heap_set h1).1 (.map ?_) (fun k hk => (heap_set h1).2 k hk) ?_⟩
  · simp only [execOp, Instr.mapUpdate, Sem.run_bind, underlying_run hC ht, Result.andThen_ok, ex, VR.int_inv (ev1_ok tr hi), Go.MapKept.run_getObj_map h1, run_checkKey hu hkey false 9999, run_findKey hu h4, Go.MapKept.run_setObj_map _ h1]
    rfl
  · rw [Array.toList_push]
    show ER ν (app es.toList _) _
    rw [app_eq]
    exact h2.app rfl hv
  · exact p.rel.below.trans ⟨rfl, rfl, rfl, by simp, fun k hk => (heap_set h1).2 k (by omega)⟩
end
end Go.Ev
