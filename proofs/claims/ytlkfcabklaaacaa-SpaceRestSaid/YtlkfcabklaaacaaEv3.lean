/- Words of my own: single operations of the evaluator, each proved right: those that look at no memory. -/
import Derived.Test.YtlkfcabklaaacaaEv2
import Derived.Tactics2
import Derived.Lib.ReflectliteSlice
set_option linter.unusedVariables false
set_option linter.unusedSimpArgs false
namespace Go.Ev
open Go.RowKit
/-- A value without any block's name, parts and all. -/
noncomputable def plain : Value → Bool
  | .agg l | .tuple l => flats l.toList
  | .iface _ (.agg l) => flats l.toList
  | .iface _ v => flat v
  | .func (.func _) a c => a.isEmpty && c.isEmpty
  | v => flat v
theorem VR.of_plain {ν : Ren} {v : Value} (h : plain v = true) : VR ν v v := by
  cases v with
  | agg l => exact VR.agg_iff.2 ⟨l, rfl, VRs.flats h⟩
  | tuple l => exact VR.tuple_iff.2 ⟨l, rfl, VRs.flats h⟩
  | iface t v =>
    cases v with
    | agg l => exact .iface (VR.agg_iff.2 ⟨l, rfl, VRs.flats h⟩)
    | _ => exact .iface (.flat h)
  | func fn a c =>
    cases fn with
    | func f =>
      simp only [plain, Bool.and_eq_true, Array.isEmpty_iff] at h
      obtain ⟨rfl, rfl⟩ := h
      exact VR.fn_iff.2 ⟨#[], rfl, .nil⟩
    | _ => simp [plain, Ev.flat] at h
  | _ => exact .flat h
theorem VR.eq_of_plain {ν : Ren} {v u : Value} (hp : plain v = true) (h : VR ν v u) : u = v := by
  cases v with
  | agg l =>
    obtain ⟨l', rfl, h'⟩ := VR.agg_iff.1 h
    rw [← Array.toList_inj.1 (VRs.eq_of_flats hp h')]
  | tuple l =>
    obtain ⟨l', rfl, h'⟩ := VR.tuple_iff.1 h
    rw [← Array.toList_inj.1 (VRs.eq_of_flats hp h')]
  | iface t v =>
    cases h with
    | flat h => simp [Ev.flat] at h
    | iface h =>
      cases v with
      | agg l =>
        obtain ⟨l', rfl, h'⟩ := VR.agg_iff.1 h
        rw [← Array.toList_inj.1 (VRs.eq_of_flats hp h')]
      | _ => exact congrArg (Value.iface t) (VR.eq_of_flat (by exact hp) h)
  | func fn a c =>
    cases fn with
    | func f =>
      simp only [plain, Bool.and_eq_true, Array.isEmpty_iff] at hp
      obtain ⟨rfl, rfl⟩ := hp
      obtain ⟨l', rfl, h'⟩ := VR.fn_iff.1 h
      have : l' = #[] := by
        have := h'.length
        exact Array.eq_empty_of_size_eq_zero (by simpa using this.symm)
      rw [this]
    | _ => simp [plain, Ev.flat] at hp
  | _ => exact VR.eq_of_flat hp h
theorem VRs.eq_of_plains {ν : Ren} : ∀ {l k : List Value}, l.all plain = true → VRs ν l k → k = l
  | [], _, _, h => by cases h; rfl
  | v :: l, _, hf, h => by
    cases h with
    | cons h t =>
      simp only [List.all_cons, Bool.and_eq_true] at hf
      rw [VRs.eq_of_plains hf.2 t, VR.eq_of_plain hf.1 h]
/-- The types, as a table; the functions; what is known of some functions. -/
structure Cfg where
  P : Program
  ty : TypeId → Option (TypeInfo × TypeDesc)
  fn : FuncId → Option Func
  xt : FuncId → Option Nat
  pc : FuncId → List Value → Option Value
structure Cfg.Ok (C : Cfg) : Prop where
  ty : ∀ t p, C.ty t = some p → C.P.info? t = some p.1 ∧ C.P.underlying t = some p.2
  fn : ∀ f F, C.fn f = some F → C.P.funcs[f]? = some F ∧ F.name ≠ "runtime.NumGoroutine"
  x1 : ∀ g, C.xt g = some 1 → ∀ v w r w', (Extern.ReflectliteValue.unpack v).run C.P w = .ok r w' → (callFunc g #[v]).run C.P w = .ok (.value r) w'
  x2 : ∀ g, C.xt g = some 2 → ∀ v w r w', (Extern.ReflectliteValue.method (Extern.ReflectliteValue.valueError "reflectlite.Value.Len" 0) Extern.ReflectliteValue.len #[v]).run C.P w = .ok r w' → (callFunc g #[v]).run C.P w = .ok (.value r) w'
  pc : ∀ g vs v, C.pc g vs = some v → plain v = true ∧ vs.all plain = true ∧ (∃ fn, C.P.funcs[g]? = some fn ∧ fn.name ≠ "runtime.NumGoroutine" ∧ fn.body.isSome = true) ∧ ∀ w, Calls C.P g vs.toArray w fun e w' => e = .returned v ∧ Below w.heap.size w w'
/-- The slots. -/
structure TR (N : Nat) (ν : Ren) (T : Tm) (a : Act) : Prop where
  size : a.tmps.size = N
  get : ∀ i v, aget T i = some v → ∃ u, a.tmps[i]? = some u ∧ VR ν v u
theorem TR.mono {N : Nat} {ν ν' : Ren} (h : ν.le ν') {T : Tm} {a : Act} (t : TR N ν T a) : TR N ν' T a :=
  ⟨t.size, fun i v hi => let ⟨u, h1, h2⟩ := t.get i v hi; ⟨u, h1, h2.mono h⟩⟩
theorem TR.put {N : Nat} {ν : Ren} {T : Tm} {a : Act} (t : TR N ν T a) {d : Nat} (hd : d < N) {v u : Value} (h : VR ν v u) : TR N ν (aput T d v) (a.put (some d) u) := by
  refine ⟨by simp [Act.put, t.size], fun i v' hi => ?_⟩
  rw [aget_aput] at hi
  by_cases e : i = d
  · rw [if_pos e] at hi
    obtain rfl := Option.some.inj hi
    exact ⟨u, by simp [Act.put, e, t.size, hd], h⟩
  · rw [if_neg e] at hi
    obtain ⟨u', h1, h2⟩ := t.get i v' hi
    exact ⟨u', by simp only [Act.put]; rw [Array.getElem?_setIfInBounds_ne (Ne.symm e)]; exact h1, h2⟩
noncomputable def ev1 (T : Tm) : Operand → Option Value
  | .tmp t => aget T t
  | .const v => Bool.rec (motive := fun _ => Option Value) none (some v) (plain v)
  | .global _ => none
  | .func f => some (.func (.func f) #[] #[])
theorem ev1_ok {N : Nat} {ν : Ren} {T : Tm} {a : Act} (t : TR N ν T a) {x : Operand} {v : Value} (h : ev1 T x = some v) : VR ν v (a.eval x) := by
  cases x with
  | tmp i =>
    obtain ⟨u, h1, h2⟩ := t.get i v h
    show VR ν v (a.tmps.getD i undef)
    rw [show a.tmps.getD i undef = u by simp [Array.getD_eq_getD_getElem?, h1]]
    exact h2
  | const c =>
    simp only [ev1] at h
    cases hp : plain c <;> rw [hp] at h
    · cases h
    · obtain rfl := Option.some.inj h
      exact VR.of_plain hp
  | global g => cases h
  | func f =>
    obtain rfl := Option.some.inj h
    exact VR.fn_iff.2 ⟨#[], rfl, .nil⟩
noncomputable def evs (T : Tm) (l : List Operand) : Option (List Value) := List.rec (motive := fun _ => Option (List Value)) (some []) (fun x _ ih => (ev1 T x).bind fun v => ih.bind fun vs => some (v :: vs)) l
theorem evs_ok {N : Nat} {ν : Ren} {T : Tm} {a : Act} (t : TR N ν T a) : ∀ {l : List Operand} {vs : List Value}, evs T l = some vs → VRs ν vs (l.map a.eval)
  | [], vs, h => by cases h; exact .nil
  | x :: l, vs, h => by
    change ((ev1 T x).bind fun v => (evs T l).bind fun vs => some (v :: vs)) = some vs at h
    obtain ⟨v, h1, h⟩ := Option.bind_eq_some_iff.1 h
    obtain ⟨vs', h2, h⟩ := Option.bind_eq_some_iff.1 h
    obtain rfl := Option.some.inj h
    exact .cons (ev1_ok t h1) (evs_ok t h2)
/-- What an operation's step says. -/
def OpOk (C : Cfg) (B : Nat) (W0 : World) (N : Nat) (o : Oper) (T : Tm) (s : St) (v : Value) (s' : St) : Prop :=
  Ext s s' ∧ ∀ (ν : Ren) (m : Nat → Option Obj) (a : Act) (w : World), TR N ν T a → Pre B W0 ν m s s' w →
    ∃ n w' u ν', (execOp a.eval o).run C.P w = .ok n w' ∧ (n = .value u ∨ (n = .skip ∧ u = undef)) ∧ VR ν' v u ∧ Post B W0 ν m s s' ν' w'
theorem OpOk.pure {C : Cfg} {B : Nat} {W0 : World} {N : Nat} {o : Oper} {T : Tm} {s : St} {v : Value}
    (h : ∀ (ν : Ren) (a : Act) (w : World), TR N ν T a → ∃ u, (execOp a.eval o).run C.P w = .ok (.value u) w ∧ VR ν v u) : OpOk C B W0 N o T s v s :=
  ⟨.refl s, fun ν m a w t p => let ⟨u, h1, h2⟩ := h ν a w t; ⟨_, w, u, ν, h1, .inl rfl, h2, .refl p⟩⟩
/-- A program of the model that asks nothing but the program. -/
def still (P : Program) {α : Type} : Sem α → Option α
  | .pure a => some a
  | .program k => still P (k P)
  | _ => none
theorem still_run {P : Program} {α : Type} : ∀ {x : Sem α} {r : α}, still P x = some r → ∀ w, x.run P w = .ok r w
  | .pure a, r, h, w => by simp [still] at h; subst h; rfl
  | .program k, r, h, w => by
    simp only [still] at h
    exact still_run (x := k P) h w
  | .load _ _ _, _, h, _ => by simp [still] at h
  | .store _ _ _ _, _, h, _ => by simp [still] at h
  | .new _ _, _, h, _ => by simp [still] at h
  | .shape _ _, _, h, _ => by simp [still] at h
  | .freeze _ _ _, _, h, _ => by simp [still] at h
  | .frozen _ _, _, h, _ => by simp [still] at h
  | .getObj _ _, _, h, _ => by simp [still] at h
  | .setObj _ _ _, _, h, _ => by simp [still] at h
  | .choose _ _, _, h, _ => by simp [still] at h
  | .sys _ _, _, h, _ => by simp [still] at h
  | .mark _ _, _, h, _ => by simp [still] at h
  | .halt _, _, h, _ => by simp [still] at h
/-- An operation over plain values, as the model has it. -/
noncomputable def anyOp (C : Cfg) (T : Tm) (o : Oper) : Option Value :=
  match evs T o.op.operands.toList with
  | none => none
  | some vs => match flatsP vs with
    | false => none
    | true => match still C.P (execOp (fun x => (ev1 T x).getD undef) o) with
      | some (.value v) => match plain v with | true => some v | false => none
      | _ => none
where flatsP (vs : List Value) : Bool := vs.all plain
end Go.Ev
