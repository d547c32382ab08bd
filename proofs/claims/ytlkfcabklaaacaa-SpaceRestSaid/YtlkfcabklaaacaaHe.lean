/- Words of my own: comparing structs. -/
import Derived.Test.YtlkfcabklaaacaaHk
import Derived.Laws.StructEq
set_option linter.unusedVariables false
set_option linter.unusedSimpArgs false
set_option linter.unusedSectionVars false
namespace Go.Ev
open Go.RowKit
theorem Stp.of_OpOk {C : Cfg} {N : Nat} {ops : Array Oper} {o : Oper} {T : Tm} {s : St} {v : Value} {s' : St} (hg : o.guard = none) (h : ∀ B W0, B ≤ W0.heap.size → OpOk C B W0 N o T s v s') : Stp C N ops o T s v s' := by
  refine ⟨(h 0 default (Nat.zero_le _)).1, fun B W0 hB ν m a w K Q tr p k => ?_⟩
  obtain ⟨n, w', u, ν', hrun, hn, hv, hp⟩ := (h B W0 hB).2 ν m a w tr p
  refine .inr ⟨?_, ?_⟩
  · unfold Region.wanted; rw [hg]
  · unfold Oper.wp
    rw [hrun]
    rcases hn with rfl | ⟨rfl, rfl⟩
    · exact k ν' u w' hv hp
    · exact k ν' undef w' hv hp
def basicEq (d : TypeDesc) (v u : Value) : Option Bool := match d, v, u with
  | .bool, .bool a, .bool b => some (a == b)
  | .int _, .int k a, .int k' b => if k = k' then some (a == b) else none
  | .string, .string a, .string b => some (a.data.toList == b.data.toList)
  | _, _, _ => none
theorem basicEq_run {C : Cfg} (hC : C.Ok) {t : TypeId} {fi : TypeInfo × TypeDesc} (hf : C.ty t = some fi) {v u : Value} {b : Bool} (h : basicEq fi.2 v u = some b) (d : Nat) (w : World) : (Op.equalIn (d + 1) t v u).run C.P w = .ok b w := by
  have hu := (hC.ty _ _ hf).2
  unfold basicEq at h
  split at h
  · rename_i hd
    rw [hd] at hu
    obtain rfl := Option.some.inj h
    exact run_equalIn_bool' w d t _ _ hu
  · rename_i hd
    rw [hd] at hu
    split at h
    · rename_i hk; subst hk
      obtain rfl := Option.some.inj h
      exact run_equalIn_int w d t _ _ _ _ hu
    · cases h
  · rename_i hd
    rw [hd] at hu
    obtain rfl := Option.some.inj h
    rw [run_equalIn_string w d t _ _ hu, ByteArray.toList_eq, ByteArray.toList_eq]
  · cases h
/-- Fields that are equal or not. -/
inductive EqFs (C : Cfg) (d : Nat) (xs ys : Array Value) : List Field → Bool → Prop
  | nil : EqFs C d xs ys [] true
  | one {f : Field} {fs : List Field} {fi : TypeInfo × TypeDesc} {v u : Value} {b r : Bool} (hn : f.name ≠ "_") (hf : C.ty f.type = some fi) (ha : isAggD fi.2 = false) (hx : nth xs.toList f.offset = some v) (hy : nth ys.toList f.offset = some u) (hb : ∀ w, (Op.equalIn d f.type v u).run C.P w = .ok b w) (t : EqFs C d xs ys fs r) : EqFs C d xs ys (f :: fs) (b && r)
  | agg {f : Field} {fs : List Field} {fi : TypeInfo × TypeDesc} {b r : Bool} (hn : f.name ≠ "_") (hf : C.ty f.type = some fi) (ha : isAggD fi.2 = true) (hb : ∀ w, (Op.equalIn d f.type (.agg (xs.extract f.offset (f.offset + fi.1.size))) (.agg (ys.extract f.offset (f.offset + fi.1.size)))).run C.P w = .ok b w) (t : EqFs C d xs ys fs r) : EqFs C d xs ys (f :: fs) (b && r)
theorem EqFs.run {C : Cfg} (hC : C.Ok) {d : Nat} {xs ys : Array Value} {fs : List Field} {r : Bool} (h : EqFs C d xs ys fs r) : ∀ w, (Op.eqFields d xs ys fs).run C.P w = .ok r w := by
  induction h with
  | nil => intro w; rfl
  | @one f fs fi v u b r hn hf ha hx hy hb t ih =>
    intro w
    rw [nth_eq, Array.getElem?_toList] at hx hy
    have p1 : ∀ w, (part f.type xs f.offset).run C.P w = .ok v w := fun w => by
      unfold part
      simp only [Sem.run_bind, isAgg_run hC hf, Result.andThen_ok, ha, Bool.false_eq_true, if_false, hx, Sem.run_pure]
    have p2 : ∀ w, (part f.type ys f.offset).run C.P w = .ok u w := fun w => by
      unfold part
      simp only [Sem.run_bind, isAgg_run hC hf, Result.andThen_ok, ha, Bool.false_eq_true, if_false, hy, Sem.run_pure]
    simp only [Op.eqFields, if_pos hn, Sem.run_bind, p1, p2, Result.andThen_ok, hb]
    cases b
    · simp
    · simpa using ih w
  | @agg f fs fi b r hn hf ha hb t ih =>
    intro w
    have p1 : ∀ (zs : Array Value) w, (part f.type zs f.offset).run C.P w = .ok (.agg (zs.extract f.offset (f.offset + fi.1.size))) w := fun zs w => by
      unfold part
      simp only [Sem.run_bind, isAgg_run hC hf, Result.andThen_ok, ha, if_true, sizeOf_run hC hf, Sem.run_pure]
    simp only [Op.eqFields, if_pos hn, Sem.run_bind, p1, Result.andThen_ok, hb]
    cases b
    · simp
    · simpa using ih w
theorem eqStruct_run {C : Cfg} (hC : C.Ok) {t : TypeId} {ti : TypeInfo} {fs : Array Field} (ht : C.ty t = some (ti, .struct fs)) (hs : C.P.stoodInHeld t = false) {d : Nat} {xs ys : Array Value} {r : Bool} (h : EqFs C d xs ys fs.toList r) (w : World) : (Op.equalIn (d + 1) t (.agg xs) (.agg ys)).run C.P w = .ok r w := by
  have hu := (hC.ty _ _ ht).2
  have hf : C.P.fieldsOf t = fs := by unfold Program.fieldsOf; rw [hu]
  rw [run_equalIn_struct w d t xs ys (by rw [hf]; exact hu) hs, hf]
  exact h.run hC w
theorem st_eqA {C : Cfg} [Hv C] {N : Nat} {T : Tm} {s : St} {ops : Array Oper} {d : Option Nat} {ty : TypeId} {pos : String} {after : Array Edge} {t t' : TypeId} {x y : Operand} {xs ys : List Value} {b : Bool} (hx : ev1 T x = some (.agg ⟨xs⟩)) (hy : ev1 T y = some (.agg ⟨ys⟩)) (hp : flats xs = true) (hq : flats ys = true) (hg : C.P.eqGuardType C.P.depth t = false) (h : ∀ w, (Op.equalIn 10000 t (.agg ⟨xs⟩) (.agg ⟨ys⟩)).run C.P w = .ok b w) :
    Stp C N ops ⟨d, .binOp .eql t x y t', ty, pos, after, none⟩ T s (.bool b) s :=
  Stp.of_OpOk rfl fun B W0 hB => .pure fun ν a w tr => ⟨.bool b, by
    have e1 := VR.eq_of_plain (show plain (.agg ⟨xs⟩) = true from hp) (ev1_ok tr hx)
    have e2 := VR.eq_of_plain (show plain (.agg ⟨ys⟩) = true from hq) (ev1_ok tr hy)
    simp only [execOp, e1, e2, Sem.run_bind, run_eqGuard_agg w .eql t x y _ _ hg, run_eql_struct w t, h w, Result.andThen_ok, Sem.run_pure], .flat rfl⟩
theorem st_neA {C : Cfg} [Hv C] {N : Nat} {T : Tm} {s : St} {ops : Array Oper} {d : Option Nat} {ty : TypeId} {pos : String} {after : Array Edge} {t t' : TypeId} {x y : Operand} {xs ys : List Value} {b : Bool} (hx : ev1 T x = some (.agg ⟨xs⟩)) (hy : ev1 T y = some (.agg ⟨ys⟩)) (hp : flats xs = true) (hq : flats ys = true) (hg : C.P.eqGuardType C.P.depth t = false) (h : ∀ w, (Op.equalIn 10000 t (.agg ⟨xs⟩) (.agg ⟨ys⟩)).run C.P w = .ok b w) :
    Stp C N ops ⟨d, .binOp .neq t x y t', ty, pos, after, none⟩ T s (.bool (!b)) s :=
  Stp.of_OpOk rfl fun B W0 hB => .pure fun ν a w tr => ⟨.bool (!b), by
    have e1 := VR.eq_of_plain (show plain (.agg ⟨xs⟩) = true from hp) (ev1_ok tr hx)
    have e2 := VR.eq_of_plain (show plain (.agg ⟨ys⟩) = true from hq) (ev1_ok tr hy)
    simp only [execOp, e1, e2, Sem.run_bind, run_eqGuard_agg w .neq t x y _ _ hg, run_neq_struct w t, h w, Result.andThen_ok, Sem.run_pure], .flat rfl⟩
end Go.Ev
