/- Words of my own: rules for operations, regions, calls. -/
import Derived.Test.YtlkfcabklaaacaaHv2
set_option linter.unusedVariables false
set_option linter.unusedSimpArgs false
namespace Go.Ev
open Go.RowKit
theorem Mem.step {B : Nat} {W0 : World} {n0 : Nat} {ν0 : Ren} {m0 : Nat → Option Obj} {s s' : St} {ν ν' : Ren} {w w' : World} (hm : Mem B W0 n0 ν0 m0 s ν w) (e : Ext s s') (hl : ∀ id, id ∈ s'.rd ∨ id ∈ s'.wr → id < KB) (hn : s'.nx ≤ KB) (p : Post B W0 ν (mm s m0) s s' ν' w') : Mem B W0 n0 ν0 m0 s' ν' w' := by
  refine ⟨hm.le.trans p.le, fun id h => ?_, ?_, e.wf hm.wf, Nat.le_trans hm.n1 e.nx, hn⟩
  · by_cases h1 : ν' id = ν id
    · have := hm.new id (by rw [← h1]; exact h)
      exact ⟨this.1, Nat.lt_of_lt_of_le this.2 e.nx⟩
    · have := p.new id h1
      exact ⟨Nat.le_trans hm.n1 this.1, this.2⟩
  · have : Upd (mm s m0) s s' = mm s' m0 := by
      funext id
      unfold Upd mm
      by_cases h : id ∈ s'.wr ∨ (s.nx ≤ id ∧ id < s'.nx)
      · rw [if_pos h]
        have : id < KB := by
          rcases h with h | h
          · exact hl id (.inr h)
          · omega
        rw [if_pos this]
      · rw [if_neg h]
        by_cases hk : id < KB
        · rw [if_pos hk, if_pos hk, e.fr id (fun hh => h (.inl hh)) (fun hh => h (.inr hh))]
        · rw [if_neg hk, if_neg hk]
    rw [← this]
    exact p.rel
theorem Mem.pre {B : Nat} {W0 : World} {n0 : Nat} {ν0 : Ren} {m0 : Nat → Option Obj} {s s' : St} {ν : Ren} {w : World} (en : Ent B W0 n0 ν0 m0) (hm : Mem B W0 n0 ν0 m0 s ν w) (hl : ∀ id, id ∈ s'.rd ∨ id ∈ s'.wr → id < KB) (hn : s'.nx ≤ KB) : Pre B W0 ν (mm s m0) s s' w := by
  refine ⟨fun id h => ?_, fun id h1 h2 => ⟨?_, ?_⟩, hm.wf, hm.rel⟩
  · unfold mm
    rw [if_pos (hl id h)]
  · have := hm.n1
    by_cases e : ν id = ν0 id
    · rw [e]; exact en.fresh id (by omega) (by omega)
    · have := hm.new id e; omega
  · unfold mm
    rw [if_pos (by omega)]
    cases ho : aget s.h id with
    | none => rfl
    | some o => have := hm.wf id o ho; omega
/-- Another look at the same memory. -/
theorem Mem.of_same {B : Nat} {W0 : World} {n0 : Nat} {ν0 : Ren} {m0 : Nat → Option Obj} {s s' : St} {ν : Ren} {w : World} (hm : Mem B W0 n0 ν0 m0 s ν w) (h : s'.h = s.h) (hx : s'.nx = s.nx) : Mem B W0 n0 ν0 m0 s' ν w := by
  refine ⟨hm.le, fun id hid => by rw [hx]; exact hm.new id hid, ?_, fun id o ho => ?_, by rw [hx]; exact hm.n1, by rw [hx]; exact hm.n2⟩
  · have : mm s' m0 = mm s m0 := by funext id; unfold mm; rw [h]
    rw [this]; exact hm.rel
  · rw [hx]; exact hm.wf id o (by rw [← h]; exact ho)
noncomputable def logB (nx : Nat) (rd wr : List Nat) : Bool := Bool.rec (motive := fun _ => Bool) false (Bool.rec (motive := fun _ => Bool) false (Nat.ble nx KB) (outR nx KB wr)) (outR nx KB rd)
/-- All that was looked at is a name of the function's own. -/
noncomputable def lowB (l : List Nat) : Bool := List.rec (motive := fun _ => Bool) true (fun a _ ih => Bool.rec (motive := fun _ => Bool) false ih (Nat.ble (Nat.succ a) KB)) l
theorem lowB_ok : ∀ {l : List Nat}, lowB l = true → ∀ a ∈ l, a < KB
  | [], _, _, h => by cases h
  | b :: l, h, a, ha => by
    change Bool.rec (motive := fun _ => Bool) false (lowB l) (Nat.ble (Nat.succ b) KB) = true at h
    cases h1 : Nat.ble (Nat.succ b) KB <;> rw [h1] at h
    · cases h
    · rcases List.mem_cons.1 ha with rfl | ha
      · exact ble_iff.1 h1
      · exact lowB_ok h a ha
noncomputable def log3 (nx : Nat) (rd wr : List Nat) : Bool := and2 (Nat.ble nx KB) (and2 (lowB rd) (lowB wr))
theorem log3_ok {nx : Nat} {rd wr : List Nat} (h : log3 nx rd wr = true) : nx ≤ KB ∧ ∀ id, id ∈ rd ∨ id ∈ wr → id < KB := by
  obtain ⟨h1, h2⟩ := and2_ok h
  obtain ⟨h2, h3⟩ := and2_ok h2
  exact ⟨ble_iff.1 h1, fun id hid => hid.elim (lowB_ok h2 id) (lowB_ok h3 id)⟩
/-- Operations in their order, from a place on. -/
def OW (C : Cfg) (N n0 : Nat) (ops : Array Oper) (l : List Oper) (T : Tm) (s : St) (Q : Out → Tm → St → Prop) : Prop :=
  ∀ B W0 ν0 m0, Ent B W0 n0 ν0 m0 → ∀ ν a w, Mem B W0 n0 ν0 m0 s ν w → TR N ν T a → DefR ν s.df a.defers → ∀ i, ops.toList.drop i = l → wpOps C.P ops (Aft B W0 n0 ν0 m0 N Q) (List.range' i l.length) a w
section
variable {C : Cfg} {N n0 : Nat} {T : Tm} {s : St} {Q : Out → Tm → St → Prop} {ops : Array Oper} {l : List Oper}
theorem WP.region {id : Nat} (h : OW C N n0 ops ops.toList T s Q) : WP C N n0 (.region id ops false) T s Q := by
  intro B W0 ν0 m0 en ν a w hm tr df
  refine wp_region ?_
  have := h B W0 ν0 m0 en ν a w hm tr df 0 rfl
  rw [← List.range_eq_range'] at this
  exact this
theorem OW.nil (h : Q .normal T s) : OW C N n0 ops [] T s Q :=
  fun B W0 ν0 m0 en ν a w hm tr df i hi => ⟨.normal, T, s, ν, rfl, h, hm, tr, df⟩
theorem drop_cons {ops : Array Oper} {i : Nat} {o : Oper} {l : List Oper} (hl : ops.toList.drop i = o :: l) : ops[i]? = some o ∧ ops.toList.drop (i + 1) = l := by
  constructor
  · have : (ops.toList.drop i)[0]? = some o := by rw [hl]; rfl
    rw [List.getElem?_drop] at this
    simpa using this
  · rw [← List.drop_drop, hl]; rfl
theorem TR.cons {N : Nat} {ν : Ren} {T : Tm} {a : Act} (t : TR N ν T a) {d : Nat} (hd : d < N) {v u : Value} (h : VR ν v u) : TR N ν ((d, v) :: T) (a.put (some d) u) := by
  refine ⟨by simp [Act.put, t.size], fun i v' hi => ?_⟩
  have := (t.put hd h).get i v' (by
    rw [aget_aput]
    rw [aget_cons] at hi
    exact hi)
  exact this
theorem Act.put_df (a : Act) (d : Option Tmp) (u : Value) : (a.put d u).defers = a.defers := by cases d <;> rfl
/-- A step whose outcome is known. -/
theorem OW.st {d : Nat} {op : Op} {ty : TypeId} {pos : String} {after : Array Edge} {g : Option (Nat × Bool)} {v : Value} {h : List (Nat × Obj)} {nx : Nat} {df : List Value} {h' : List (Nat × Obj)} {nx' : Nat} {rd' wr' : List Nat} {df' : List Value}
    (st : Stp C N ops ⟨some d, op, ty, pos, after, g⟩ T ⟨h, nx, [], [], []⟩ v ⟨h', nx', rd', wr', df'⟩) (hl : log3 nx' rd' wr' = true) (hd : Nat.ble (Nat.succ d) N = true) (k : OW C N n0 ops l ((d, v) :: T) ⟨h', nx', [], [], df⟩ Q) :
    OW C N n0 ops (⟨some d, op, ty, pos, after, g⟩ :: l) T ⟨h, nx, [], [], df⟩ Q := by
  intro B W0 ν0 m0 en ν a w hm tr dr i hi
  obtain ⟨h1, h2⟩ := drop_cons hi
  rw [List.length_cons, List.range'_succ, wpOps_cons]
  obtain ⟨hn, hlg⟩ := log3_ok hl
  have hm0 : Mem B W0 n0 ν0 m0 ⟨h, nx, [], [], []⟩ ν w := hm.of_same rfl rfl
  refine wpOp1.op h1 (st.2 B W0 en.hB ν (mm ⟨h, nx, [], [], []⟩ m0) a w _ _ tr (hm0.pre en hlg hn) fun ν' u w' hv hp => ?_)
  have hm1 := hm0.step st.1 hlg hn hp
  refine k B W0 ν0 m0 en ν' _ w' (hm1.of_same rfl rfl) ((tr.mono hp.le).cons (ble_iff.1 hd) hv) ?_ (i + 1) h2
  rw [Act.put_df]
  exact dr.mono hp.le
theorem OW.st0 {op : Op} {ty : TypeId} {pos : String} {after : Array Edge} {g : Option (Nat × Bool)} {v : Value} {h : List (Nat × Obj)} {nx : Nat} {df : List Value} {h' : List (Nat × Obj)} {nx' : Nat} {rd' wr' : List Nat} {df' : List Value}
    (st : Stp C N ops ⟨none, op, ty, pos, after, g⟩ T ⟨h, nx, [], [], []⟩ v ⟨h', nx', rd', wr', df'⟩) (hl : log3 nx' rd' wr' = true) (k : OW C N n0 ops l T ⟨h', nx', [], [], df⟩ Q) :
    OW C N n0 ops (⟨none, op, ty, pos, after, g⟩ :: l) T ⟨h, nx, [], [], df⟩ Q := by
  intro B W0 ν0 m0 en ν a w hm tr dr i hi
  obtain ⟨h1, h2⟩ := drop_cons hi
  rw [List.length_cons, List.range'_succ, wpOps_cons]
  obtain ⟨hn, hlg⟩ := log3_ok hl
  have hm0 : Mem B W0 n0 ν0 m0 ⟨h, nx, [], [], []⟩ ν w := hm.of_same rfl rfl
  refine wpOp1.op h1 (st.2 B W0 en.hB ν (mm ⟨h, nx, [], [], []⟩ m0) a w _ _ tr (hm0.pre en hlg hn) fun ν' u w' hv hp => ?_)
  have hm1 := hm0.step st.1 hlg hn hp
  exact k B W0 ν0 m0 en ν' _ w' (hm1.of_same rfl rfl) (tr.mono hp.le) (dr.mono hp.le) (i + 1) h2
/-- Other slots that say no more. -/
theorem OW.weak {T1 : Tm} (h : ∀ i v, aget T1 i = some v → aget T i = some v) (k : OW C N n0 ops l T1 s Q) : OW C N n0 ops l T s Q :=
  fun B W0 ν0 m0 en ν a w hm tr df i hi => k B W0 ν0 m0 en ν a w hm ⟨tr.size, fun j v hj => tr.get j v (h j v hj)⟩ df i hi
/-- A value that says: it panics, with p. -/
def pkV (p : Value) : Value := .tuple ⟨[.bool true, .bool true, .bool true, .bool true, .bool true, .bool true, p]⟩
def isPk : Value → Option Value
  | .tuple ⟨[.bool true, .bool true, .bool true, .bool true, .bool true, .bool true, p]⟩ => some p
  | _ => none
/-- How a call ends: it returns, or it panics. -/
def EndV (ν : Ren) (v : Value) (e : Ending) : Prop := match isPk v with
  | some p => e = .panicked [{ v := p, recovered := false }]
  | none => ∃ u, e = .returned u ∧ VR ν v u
theorem EndV.ret {ν : Ren} {v : Value} {e : Ending} (hp : isPk v = none) : EndV ν v e ↔ ∃ u, e = .returned u ∧ VR ν v u := by
  unfold EndV; rw [hp]
theorem EndV.of {ν ν' : Ren} {v v' : Value} {e : Ending} (h : EndV ν v e) (hp : isPk v' = isPk v) (hr : ∀ u, VR ν v u → VR ν' v' u) : EndV ν' v' e := by
  unfold EndV at h ⊢
  rw [hp]
  cases hv : isPk v with
  | some p => rw [hv] at h; exact h
  | none => rw [hv] at h; obtain ⟨u, h1, h2⟩ := h; exact ⟨u, h1, hr u h2⟩
def outV (v : Value) : Out := match isPk v with
  | some p => .panic p
  | none => .normal
/-- A call's word: memory of its own alone, results known. -/
def CallR (C : Cfg) (g : FuncId) (vs : List Value) (s : St) (v : Value) (s' : St) : Prop :=
  Ext s s' ∧ (∃ fn, C.P.funcs[g]? = some fn ∧ fn.name ≠ "runtime.NumGoroutine" ∧ fn.body.isSome = true) ∧ ∀ B W0, B ≤ W0.heap.size → ∀ ν m w (us : Array Value), VRs ν vs us.toList → Pre B W0 ν m s s' w →
    Calls C.P g us w fun e w' => ∃ ν', Post B W0 ν m s s' ν' w' ∧ EndV ν' v e
open Classical in
theorem CallR.ok {g : FuncId} {vs : List Value} {v : Value} {s' : St} (h : CallR C g vs s v s') : ∀ B W0, B ≤ W0.heap.size → CallOk C B W0 fun g1 vs1 s1 => if g1 = g ∧ vs1 = vs ∧ s1 = s then some (outV v, v, s') else none := by
  intro B W0 hB g1 vs1 s1 e v1 s2 h1
  dsimp only at h1
  split at h1
  · rename_i hh
    obtain ⟨rfl, rfl, rfl⟩ := hh
    obtain ⟨rfl, rfl, rfl⟩ := s3 h1
    obtain ⟨e1, e2, e3⟩ := h
    refine ⟨e1, ?_, e2, fun ν m w us hv p => Calls.mono (e3 B W0 hB ν m w us hv p) fun e w' hh => ?_⟩
    · unfold outV; split
      · exact .inr ⟨_, rfl⟩
      · exact .inl rfl
    · obtain ⟨ν', hp, hh⟩ := hh
      unfold EndV at hh
      unfold outV
      cases hv : isPk v with
      | some q => rw [hv] at hh; exact ⟨ν', hp, .inr ⟨q, rfl, hh⟩⟩
      | none => rw [hv] at hh; obtain ⟨u, h1, h2⟩ := hh; exact ⟨ν', hp, .inl ⟨rfl, u, h1, h2⟩⟩
  · cases h1
theorem Stp.call (hC : C.Ok) {d : Option Nat} {f : Operand} {args : Array Operand} {tys : Array TypeId} {ty : TypeId} {pos : String} {after : Array Edge} {g : FuncId} {cap : Array Value} {vs vs' : List Value} {v : Value} {s' : St}
    (hf : ev1 T f = some (.func (.func g) #[] cap)) (ha : evs T args.toList = some vs) (hx : C.xt g = none) (hp : C.pc = fun _ _ => none) (hvs : app vs cap.toList = vs') (h : CallR C g vs' s v s') (hpk : isPk v = none) :
    Stp C N ops ⟨d, .call ⟨.value f, args, tys⟩, ty, pos, after, none⟩ T s v s' := by
  refine Stp.of_step hC h.ok ?_
  unfold stepOp
  simp only [aWanted, hf, ha, hx, hp, hvs]
  rw [if_pos ⟨trivial, trivial, trivial⟩]
  unfold outV; rw [hpk]
/-- A step that panics. -/
def StpP (C : Cfg) (N : Nat) (ops : Array Oper) (o : Oper) (T : Tm) (s : St) (p : Value) (s' : St) : Prop :=
  Ext s s' ∧ ∀ (B : Nat) (W0 : World), B ≤ W0.heap.size → ∀ (ν : Ren) (m : Nat → Option Obj) (a : Act) (w : World) (K : Act → World → Prop) (Q : Exit → Act → World → Prop), TR N ν T a → Pre B W0 ν m s s' w →
    (∀ ν' w', Post B W0 ν m s s' ν' w' → Q (.panic [{ v := p, recovered := false }]) a w') → wpOp1 C.P ops Q o K a w
theorem StpP.of_step {C : Cfg} (hC : C.Ok) {N : Nat} {T : Tm} {s : St} {call : CallF} (hcall : ∀ B W0, B ≤ W0.heap.size → CallOk C B W0 call) {ops : Array Oper} {o : Oper} {p v : Value} {s' : St} (h : stepOp call C N ops.toList o T s = some (.panic p, v, s')) : StpP C N ops o T s p s' :=
  ⟨(stepOp_ok (B := 0) (W0 := default) hC (Nat.zero_le _) (hcall _ _ (Nat.zero_le _)) h).1, fun B W0 hB ν m a w K Q tr pr k => (stepOp_ok (B := B) (W0 := W0) hC hB (hcall _ _ hB) h).2.2 ν m a w K Q tr pr (fun hp => by cases hp) (fun q hq => by cases hq; exact k)⟩
theorem StpP.call (hC : C.Ok) {d : Option Nat} {f : Operand} {args : Array Operand} {tys : Array TypeId} {ty : TypeId} {pos : String} {after : Array Edge} {g : FuncId} {cap : Array Value} {vs vs' : List Value} {v p : Value} {s' : St}
    (hf : ev1 T f = some (.func (.func g) #[] cap)) (ha : evs T args.toList = some vs) (hx : C.xt g = none) (hp : C.pc = fun _ _ => none) (hvs : app vs cap.toList = vs') (h : CallR C g vs' s v s') (hpk : isPk v = some p) :
    StpP C N ops ⟨d, .call ⟨.value f, args, tys⟩, ty, pos, after, none⟩ T s p s' := by
  refine StpP.of_step (v := v) hC h.ok ?_
  unfold stepOp
  simp only [aWanted, hf, ha, hx, hp, hvs]
  rw [if_pos ⟨trivial, trivial, trivial⟩]
  unfold outV; rw [hpk]
/-- A function of the library that has no body. -/
theorem Stp.ext (hC : C.Ok) {d : Option Nat} {f : Operand} {args : Array Operand} {tys : Array TypeId} {ty : TypeId} {pos : String} {after : Array Edge} {g : FuncId} {k : Nat} {cap : Array Value} {vs vs' : List Value} {v : Value} {ns : List Bool} {s' : St}
    (hf : ev1 T f = some (.func (.func g) #[] cap)) (ha : evs T args.toList = some vs) (hx : C.xt g = some k) (hvs : app vs cap.toList = vs') (h : aExt C s k vs' = some (v, ns, s')) (hn : allB ns = true) :
    Stp C N ops ⟨d, .call ⟨.value f, args, tys⟩, ty, pos, after, none⟩ T s v s' := by
  refine Stp.of_step (call := fun _ _ _ => none) hC (fun B W0 hB g vs s e v s' h => by cases h) ?_
  unfold stepOp
  simp only [aWanted, hf, ha, hx, hvs, h, hn]
/-- An operation that panics. -/
theorem StpP.panic (hC : C.Ok) {d : Option Nat} {x : Operand} {ty : TypeId} {pos : String} {after : Array Edge} {t : TypeId} {v : Value} (hx : ev1 T x = some (.iface t v)) (hv : plain (.iface t v) = true) : StpP C N ops ⟨d, .panic x, ty, pos, after, none⟩ T s (.iface t v) s := by
  refine StpP.of_step (v := undef) (call := fun _ _ _ => none) hC (fun B W0 hB g vs s e v s' h => by cases h) ?_
  unfold stepOp
  simp only [aWanted, hx, hv]
def putD (d : Option Nat) (v : Value) (T : Tm) : Tm := match d with | some e => (e, v) :: T | none => T
/-- A call's word where the caller's memory is at hand. -/
def CW (C : Cfg) (g : FuncId) (vs : List Value) (s : St) (R : Value → St → Prop) : Prop :=
  (∃ fn, C.P.funcs[g]? = some fn ∧ fn.name ≠ "runtime.NumGoroutine" ∧ fn.body.isSome = true) ∧ ∀ B W0 ν0 m0, Ent B W0 s.nx ν0 m0 → ∀ w (us : Array Value), Mem B W0 s.nx ν0 m0 s ν0 w → VRs ν0 vs us.toList →
    Calls C.P g us w fun e w' => ∃ v s' ν', R v s' ∧ Mem B W0 s.nx ν0 m0 s' ν' w' ∧ EndV ν' v e
theorem CW.mono {g : FuncId} {vs : List Value} {R R' : Value → St → Prop} (h : CW C g vs s R) (hr : ∀ v s', R v s' → R' v s') : CW C g vs s R' :=
  ⟨h.1, fun B W0 ν0 m0 en w us hm hv => Calls.mono (h.2 B W0 ν0 m0 en w us hm hv) fun e w' ⟨v, s', ν', a, b⟩ => ⟨v, s', ν', hr _ _ a, b⟩⟩
/-- A step that panics ends the region. -/
theorem OW.panic {o : Oper} {h : List (Nat × Obj)} {nx : Nat} {df : List Value} {h' : List (Nat × Obj)} {nx' : Nat} {rd' wr' : List Nat} {df' : List Value} {p : Value}
    (st : StpP C N ops o T ⟨h, nx, [], [], []⟩ p ⟨h', nx', rd', wr', df'⟩) (hl : log3 nx' rd' wr' = true) (k : Q (.panic p) T ⟨h', nx', [], [], df⟩) :
    OW C N n0 ops (o :: l) T ⟨h, nx, [], [], df⟩ Q := by
  intro B W0 ν0 m0 en ν a w hm tr dr i hi
  obtain ⟨h1, h2⟩ := drop_cons hi
  rw [List.length_cons, List.range'_succ, wpOps_cons]
  obtain ⟨hn, hlg⟩ := log3_ok hl
  have hm0 : Mem B W0 n0 ν0 m0 ⟨h, nx, [], [], []⟩ ν w := hm.of_same rfl rfl
  refine wpOp1.op h1 (st.2 B W0 en.hB ν (mm ⟨h, nx, [], [], []⟩ m0) a w _ _ tr (hm0.pre en hlg hn) fun ν' w' hp => ?_)
  have hm1 := hm0.step st.1 hlg hn hp
  exact ⟨.panic p, T, ⟨h', nx', [], [], df⟩, ν', rfl, k, hm1.of_same rfl rfl, tr.mono hp.le, dr.mono hp.le⟩
/-- A region whose order is drawn. -/
theorem WP.drawn (hmix : C.P.follows .mixedOrders = true) {id : Nat} (hr : regOk ops.toList = true)
    (h : DW C N ops (masks ops.toList []) ops.toList 0 T s [] fun T' s' rs => log3 s'.nx (allRd rs) (allWr rs) = true ∧ Q .normal T' ⟨s'.h, s'.nx, [], [], s.df⟩) (hs : s.rd = []) (hs' : s.wr = []) : WP C N n0 (.region id ops true) T s Q := by
  intro B W0 ν0 m0 en ν a w hm tr df
  obtain ⟨T', s', rs, sT, sS, sV, sR, ⟨hl, hq⟩, R⟩ := DW_runs ops.toList 0 T _ [] rfl h
  obtain ⟨e, k⟩ := runs_ok hmix (rid := id) hr R
  obtain ⟨hn, hlg⟩ := log3_ok hl
  have hlg' : ∀ i, i ∈ mrg s.rd (allRd rs) ∨ i ∈ mrg s.wr (allWr rs) → i < KB := fun i hi => by
    rw [mrg_iff, mrg_iff, hs, hs'] at hi
    refine hlg i ?_
    rcases hi with (hi | hi) | (hi | hi)
    · cases hi
    · exact .inl hi
    · cases hi
    · exact .inr hi
  have e' : Ext s { h := s'.h, nx := s'.nx, rd := mrg s.rd (allRd rs), wr := mrg s.wr (allWr rs), df := s.df } := ⟨e.rd, e.wr, e.nx, e.fr, e.wf⟩
  have pre := hm.pre en (s' := { h := s'.h, nx := s'.nx, rd := mrg s.rd (allRd rs), wr := mrg s.wr (allWr rs), df := s.df }) hlg' hn
  refine k B W0 en.hB ν (mm s m0) a w _ tr df pre fun ν' a' w' tr' df' hp => ?_
  have hm1 := hm.step e' hlg' hn hp
  exact ⟨.normal, T', ⟨s'.h, s'.nx, [], [], s.df⟩, ν', rfl, hq, hm1.of_same rfl rfl, tr', df'⟩
end
end Go.Ev
