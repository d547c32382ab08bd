/- Words of my own: memory in the evaluator: making, reading and writing cells, proved right. -/
import Derived.Test.YtlkfcabklaaacaaEv7
import Derived.Laws.Cells
set_option linter.unusedVariables false
set_option linter.unusedSimpArgs false
namespace Go.Ev
open Go.RowKit
section
variable {C : Cfg} {B : Nat} {W0 : World} {N : Nat} {T : Tm} {s : St}
/-- A new row of cells. -/
noncomputable def newB (s : St) (o : Obj) : St := { s with h := (s.nx, o) :: s.h, nx := Nat.succ s.nx }
theorem newB_ext (s : St) (o : Obj) : Ext s (newB s o) :=
  ⟨fun _ h => h, fun _ h => h, Nat.le_succ _, fun id _ h2 => by
    show aget ((s.nx, o) :: s.h) id = _
    rw [aget_cons, if_neg]
    intro e
    exact h2 ⟨Nat.le_of_eq e.symm, by rw [e]; exact Nat.lt_succ_self _⟩, fun h id ob hid => by
    have hid : aget ((s.nx, o) :: s.h) id = some ob := hid
    rw [aget_cons] at hid
    by_cases e : id = s.nx
    · rw [e]; exact Nat.lt_succ_self _
    · rw [if_neg e] at hid
      exact Nat.lt_succ_of_lt (h id ob hid)⟩
theorem newB_post {ν : Ren} {m : Nat → Option Obj} {w w1 : World} {o ob : Obj} {S : Nat} (hB : B ≤ W0.heap.size) (p : Pre B W0 ν m s (newB s o) w) (r : RelH B W0 ν m w1)
    (ho : OR (fun i => if i = s.nx then some (w1.heap.size, S) else ν i) o ob S) :
    Post B W0 ν m s (newB s o) (fun i => if i = s.nx then some (w1.heap.size, S) else ν i) (w1.alloc ob) := by
  have hf : ν s.nx = none := (p.fresh s.nx (Nat.le_refl _) (Nat.lt_succ_self _)).1
  refine ⟨fun i q hq => ?_, fun i hi => ?_, ?_⟩
  · try dsimp only
    rw [if_neg (fun e => by subst e; rw [hf] at hq; cases hq)]; exact hq
  · by_cases e : i = s.nx
    · rw [e]; exact ⟨Nat.le_refl _, Nat.lt_succ_self _⟩
    · exact absurd (if_neg e) hi
  · have h := r.push hB hf ho
    refine h.of_le fun id o' hid => ?_
    unfold Upd at hid
    try dsimp only
    split at hid
    · rename_i hh
      by_cases e : id = s.nx
      · subst e
        rw [if_pos rfl]
        have : aget (newB s o).h s.nx = some o := by
          show aget ((s.nx, o) :: s.h) s.nx = _
          rw [aget_cons, if_pos rfl]
        rw [← this]; exact hid
      · rw [if_neg e]
        have h2 : aget (newB s o).h id = aget s.h id := by
          show aget ((s.nx, o) :: s.h) id = _
          rw [aget_cons, if_neg e]
        rw [h2] at hid
        rw [← hid]
        refine p.agree id ?_
        rcases hh with hh | hh
        · exact .inr hh
        · have : id < Nat.succ s.nx := hh.2
          have := hh.1
          omega
    · rename_i hh
      by_cases e : id = s.nx
      · subst e
        exact absurd (.inr ⟨Nat.le_refl _, Nat.lt_succ_self _⟩) hh
      · rw [if_neg e]; exact hid
theorem Post.same {ν : Ren} {m : Nat → Option Obj} {s' : St} {w w1 : World} (p : Pre B W0 ν m s s' w) (hw : s'.wr = s.wr) (hh : s'.h = s.h) (hx : s'.nx = s.nx) (r : RelH B W0 ν m w1) : Post B W0 ν m s s' ν w1 := by
  refine ⟨.refl _, fun i hi => absurd rfl hi, r.of_le fun id o hid => ?_⟩
  unfold Upd at hid
  split at hid
  · rename_i h
    rw [p.agree id]
    · rw [← hh]; exact hid
    · rcases h with h | h
      · exact .inr h
      · rw [hx] at h; omega
  · exact hid
/-- Reading a row. -/
noncomputable def rdS (s : St) (a : Nat) : St := { s with rd := lg s.rd a }
theorem rdS_ext (s : St) (a : Nat) : Ext s (rdS s a) := ⟨fun i h => (lg_iff _ _ _).2 (.inr h), fun _ h => h, Nat.le_refl _, fun _ _ _ => rfl, fun h => h⟩
theorem rd_row {ν : Ren} {m : Nat → Option Obj} {s' : St} {w : World} (p : Pre B W0 ν m s s' w) {a : Nat} (ha : a ∈ s'.rd ∨ a ∈ s'.wr) {c : Array Value} {t : TypeId} {f : Nat × Nat} (h : aget s.h a = some (.cells c t f)) {g S : Nat} (hν : ν a = some (g, S)) :
    ∃ c' t' f' vs rest, w.heap[g]? = some (.cells c' t' f') ∧ c'.toList = vs ++ rest ∧ VRs ν c.toList vs ∧ S = c'.size ∧ (ro (.cells c t f) = false → FzOk c'.size f') ∧ (ro (.cells c t f) = false → B ≤ g) ∧ (ro (.cells c t f) = false → t' = t) := by
  have hm := (p.agree a ha).trans h
  obtain ⟨ob, h2, h3, h4⟩ := p.rel.objs a _ g S hm hν
  cases h3 with
  | cells vs rest hc hv hf => exact ⟨_, _, _, vs, rest, h2, hc, hv, rfl, fun h => (hf h).1, h4, fun h => (hf h).2⟩
theorem cell_of {w : World} {g : Nat} {c : Array Value} {t : TypeId} {f : Nat × Nat} (h : w.heap[g]? = some (.cells c t f)) (i : Nat) : w.cell? ⟨g, i, none⟩ = c[i]? := by
  simp [World.cell?, h]
theorem add_none (g o i : Nat) : Addr.add ⟨g, o, none⟩ i = ⟨g, o + i, none⟩ := by
  unfold Addr.add
  by_cases h : i = 0
  · rw [if_pos h, h]; rfl
  · rw [if_neg h]
/-- Cells of a row, read. -/
theorem loadCells_run {P : Program} {w : World} {g : Nat} {c : Array Value} {t : TypeId} {f : Nat × Nat} (h : w.heap[g]? = some (.cells c t f)) (o : Nat) {k : Nat} (hk : o + k ≤ c.size) :
    (loadCells ⟨g, o, none⟩ k).run P w = .ok ((c.toList.drop o).take k).toArray w := by
  have hl : ((c.toList.drop o).take k).length = k := by simp; omega
  have := run_loadCells_list (P := P) w ⟨g, o, none⟩ ((c.toList.drop o).take k) (fun j v hj => by
    rw [add_none, cell_of h]
    rw [List.getElem?_take] at hj
    split at hj
    · rw [List.getElem?_drop] at hj
      rw [← Array.getElem?_toList]; exact hj
    · cases hj)
  rw [hl] at this
  exact this
noncomputable def aLoadV (C : Cfg) (s : St) (t : TypeId) (v : Value) : Option (Value × List Bool × St) :=
  match v, C.ty t with
  | .pointer (some ⟨a, o, none⟩), some ti => match aget s.h a with
    | some (.cells c _ _) => Bool.rec (motive := fun _ => Option (Value × List Bool × St))
        ((nth c.toList o).bind fun v => some (v, [], rdS s a))
        (some (.agg ⟨tak (dro c.toList o) ti.1.size⟩, [Nat.beq (len (tak (dro c.toList o) ti.1.size)) ti.1.size], rdS s a)) (isAggD ti.2)
    | _ => none
  | _, _ => none
theorem aLoadV_ok (hC : C.Ok) {t : TypeId} {p0 : Value} {v : Value} {ns : List Bool} {s' : St} (h : aLoadV C s t p0 = some (v, ns, s')) (hn : ∀ b ∈ ns, b = true) :
    (∃ a, s' = rdS s a) ∧ ∀ {ν : Ren} {m : Nat → Option Obj} {w : World} {s2 : St}, Pre B W0 ν m s s2 w → (∀ i ∈ s'.rd, i ∈ s2.rd) → ∀ u, VR ν p0 u → ∃ g q r, u = .pointer (some ⟨g, q, none⟩) ∧ (loadVar t ⟨g, q, none⟩).run C.P w = .ok r w ∧ VR ν v r := by
  unfold aLoadV at h
  split at h
  · rename_i b q ti ht
    split at h
    · rename_i c ct cf hc
      cases hg : isAggD ti.2 <;> rw [hg] at h
      · obtain ⟨v', h1, h2⟩ := bd h
        obtain ⟨rfl, h3⟩ := Prod.mk.inj (Option.some.inj h2)
        obtain ⟨rfl, rfl⟩ := Prod.mk.inj h3
        refine ⟨⟨b, rfl⟩, fun {ν m w s2} p hs u hu => ?_⟩
        obtain ⟨g, S, rfl, hν⟩ := VR.ptr_inv hu
        obtain ⟨c', t', f', vs, rest, k1, k2, k3, k4, k5, k6, k7⟩ := rd_row p (.inl (hs b ((lg_iff _ _ _).2 (.inl rfl)))) hc hν
        rw [nth_eq] at h1
        obtain ⟨u, u1, u2⟩ := k3.get h1
        have hcell : w.cell? ⟨g, q, none⟩ = some u := by
          rw [cell_of k1, ← Array.getElem?_toList, k2, List.getElem?_append_left (List.getElem?_eq_some_iff.1 u1).1]; exact u1
        refine ⟨g, q, u, rfl, ?_, u2⟩
        simp only [loadVar, Sem.run_bind, isAgg_run hC ht, Result.andThen_ok, hg, Bool.false_eq_true, if_false, run_load, hcell]
      · obtain ⟨rfl, h2⟩ := Prod.mk.inj (Option.some.inj h)
        obtain ⟨rfl, rfl⟩ := Prod.mk.inj h2
        refine ⟨⟨b, rfl⟩, fun {ν m w s2} p hs u hu => ?_⟩
        obtain ⟨g, S, rfl, hν⟩ := VR.ptr_inv hu
        obtain ⟨c', t', f', vs, rest, k1, k2, k3, k4, k5, k6, k7⟩ := rd_row p (.inl (hs b ((lg_iff _ _ _).2 (.inl rfl)))) hc hν
        have hl := Nat.eq_of_beq_eq_true (hn _ (List.mem_singleton.2 rfl))
        rw [len_eq, tak_eq, dro_eq] at hl
        have hlen : vs.length = c.toList.length := k3.length.symm
        have hk : q + ti.1.size ≤ c'.size ∨ ti.1.size = 0 := by
          have h5 : c'.size = vs.length + rest.length := by rw [← Array.length_toList, k2, List.length_append]
          simp at hl hlen
          omega
        refine ⟨g, q, .agg ((vs.drop q).take ti.1.size).toArray, rfl, ?_, VR.agg_iff.2 ⟨_, rfl, ?_⟩⟩
        · have hload : (loadCells ⟨g, q, none⟩ ti.1.size).run C.P w = .ok ((vs.drop q).take ti.1.size).toArray w := by
            rcases hk with hk | hk
            · rw [loadCells_run k1 q hk, k2]
              congr 2
              simp at hl hlen
              rw [List.drop_append, List.take_append]
              have : ti.1.size - (vs.drop q).length = 0 ∨ ti.1.size = 0 := by simp; omega
              rcases this with h | h
              · rw [h]; simp
              · rw [h]; simp
            · rw [hk]; simp [loadCells, loadCellsFrom]
          simp only [loadVar, Sem.run_bind, Sem.run_pure, Result.andThen_ok, isAgg_run hC ht, hg, if_true, sizeOf_run hC ht, hload]
        · rw [tak_eq, dro_eq]
          exact (k3.drop q).take ti.1.size
    · cases h
  · cases h
noncomputable def aLoad (C : Cfg) (T : Tm) (s : St) (t : TypeId) (x : Operand) : Option (Value × List Bool × St) := (ev1 T x).bind fun v => aLoadV C s t v
theorem aLoad_ok (hC : C.Ok) {o : Oper} {t : TypeId} {x : Operand} (ho : o.op = .load t x) {v : Value} {ns : List Bool} {s' : St} (h : aLoad C T s t x = some (v, ns, s')) (hn : ∀ b ∈ ns, b = true) : OpOk C B W0 N o T s v s' := by
  obtain ⟨dst, op, type, pos, after, guard⟩ := o
  obtain rfl : op = _ := ho
  obtain ⟨p0, h1, h2⟩ := bd h
  obtain ⟨⟨b, rfl⟩, key⟩ := aLoadV_ok (B := B) (W0 := W0) hC h2 hn
  refine ⟨rdS_ext s b, fun ν m a w tr p => ?_⟩
  obtain ⟨g, q, r, e, hr, hv⟩ := key p (fun i hi => hi) _ (ev1_ok tr h1)
  refine ⟨.value r, w, r, ν, ?_, .inl rfl, hv, .same p rfl rfl rfl p.rel⟩
  simp only [execOp, Instr.loadAt, e, Instr.sureAddr, Sem.run_bind, Sem.run_pure, Result.andThen_ok, hr]
noncomputable def one1 : Value → Bool
  | .agg _ => false
  | .tuple _ => false
  | .chan _ => false
  | _ => true
theorem one1_ok {ν : Ren} {v u : Value} (h : one1 v = true) (hv : VR ν v u) : u.oneCell' = true := by
  have h1 := hv.oneCell (fun l e => by subst e; cases h) (fun l e => by subst e; cases h) (fun e => by subst e; cases h)
  cases u <;> first | rfl | exact absurd rfl (h1.1 _) | exact absurd rfl (h1.2 _)
noncomputable def ones (l : List Value) : Bool := List.rec (motive := fun _ => Bool) true (fun v _ ih => Bool.rec (motive := fun _ => Bool) false ih (one1 v)) l
theorem ones_ok {ν : Ren} : ∀ {l l' : List Value}, ones l = true → VRs ν l l' → ∀ u ∈ l', u.oneCell' = true
  | [], _, _, h => by cases h; intro u hu; cases hu
  | v :: l, _, ho, h => by
    cases h with
    | cons hv ht =>
      change Bool.rec (motive := fun _ => Bool) false (ones l) (one1 v) = true at ho
      cases h1 : one1 v <;> rw [h1] at ho
      · cases ho
      · intro u hu
        rcases List.mem_cons.1 hu with rfl | hu
        · exact one1_ok h1 hv
        · exact ones_ok ho ht u hu
/-- Writing cells into a row. -/
noncomputable def splice (c : List Value) (o : Nat) (vs : List Value) : List Value := app (tak c o) (app vs (dro c (Nat.add o (len vs))))
theorem splice_eq (c : List Value) (o : Nat) (vs : List Value) : splice c o vs = c.take o ++ (vs ++ c.drop (o + vs.length)) := by
  unfold splice
  rw [app_eq, app_eq, tak_eq, dro_eq, len_eq]
  rfl
theorem VRs.splice {ν : Ren} {c c' vs vs' : List Value} (h : VRs ν c c') (o : Nat) (hv : VRs ν vs vs') : VRs ν (Ev.splice c o vs) (Ev.splice c' o vs') := by
  rw [splice_eq, splice_eq, hv.length]
  exact (h.take o).app (hv.app (h.drop _))
theorem splice_cons (c : List Value) (o : Nat) (v : Value) (vs : List Value) (h : o < c.length) : Ev.splice c o (v :: vs) = Ev.splice (c.set o v) (o + 1) vs := by
  rw [splice_eq, splice_eq]
  have e1 : (c.set o v).take (o + 1) = c.take o ++ [v] := by
    rw [List.take_set, List.take_succ_eq_append_getElem h]
    rw [List.set_append_right _ _ (by simp; omega)]
    simp [Nat.min_eq_left (Nat.le_of_lt h)]
  have e2 : (c.set o v).drop (o + 1 + vs.length) = c.drop (o + 1 + vs.length) := by
    rw [List.drop_set, if_pos (by omega)]
  rw [e1, e2]
  simp [Nat.add_assoc, Nat.add_comm 1 vs.length]
theorem storeCells_run {P : Program} {g o : Nat} {t : TypeId} {f : Nat × Nat} : ∀ (vs : List Value) (i : Nat) (c : Array Value) (w : World), w.heap[g]? = some (.cells c t f) → o + i + vs.length ≤ c.size → (∀ j, j < c.size → ¬(f.1 ≤ j ∧ j < f.2)) → (∀ v ∈ vs, v.oneCell' = true) →
    ∃ w', (storeCells ⟨g, o, none⟩ vs i).run P w = .ok () w' ∧ w'.heap[g]? = some (.cells ⟨Ev.splice c.toList (o + i) vs⟩ t f) ∧ (∀ k, k ≠ g → w'.heap[k]? = w.heap[k]?) ∧ (∀ B W, Below B W w → B ≤ g → Below B W w')
  | [], i, c, w, hg, hl, hf, h1 => ⟨w, rfl, by rw [hg, splice_eq]; congr 2; apply Array.toList_inj.1; simp, fun _ _ => rfl, fun _ _ h _ => h⟩
  | v :: vs, i, c, w, hg, hl, hf, h1 => by
    have hi : o + i < c.size := by simp at hl; omega
    have hc : w.cell? ⟨g, o + i, none⟩ = some c[o + i] := by rw [cell_of hg]; simp [hi]
    have hz : w.frozen? ⟨g, o + i, none⟩ = false := by
      simp only [World.frozen?, hg]
      have := hf (o + i) hi
      by_cases h : f.1 ≤ o + i
      · simp only [h, decide_true, Bool.true_and, decide_eq_false_iff_not]
        exact fun h2 => this ⟨h, h2⟩
      · simp [h]
    have hg' : (w.setCell ⟨g, o + i, none⟩ v).heap[g]? = some (.cells (c.setIfInBounds (o + i) v) t f) := by
      simp [World.setCell, Array.getElem?_modify, hg]
    obtain ⟨w', k1, k2, k3, k4⟩ := storeCells_run (P := P) (g := g) (o := o) (t := t) (f := f) vs (i + 1) (c.setIfInBounds (o + i) v) (w.setCell ⟨g, o + i, none⟩ v) hg' (by simp at hl ⊢; omega) (by simpa using hf) (fun u hu => h1 u (List.mem_cons_of_mem _ hu))
    refine ⟨w', ?_, ?_, fun k hk => ?_, fun B W hb hB => ?_⟩
    · simp only [storeCells, Sem.run_bind, add_none]
      rw [run_store _ _ _ _ _ (h1 v List.mem_cons_self), hc]
      simp only [hz, Bool.false_eq_true, if_false, Result.andThen_ok]
      exact k1
    · rw [k2, splice_cons _ _ _ _ (by simpa using hi)]
      simp [Nat.add_assoc]
    · rw [k3 k hk]
      simp only [World.setCell, Array.getElem?_modify]
      rw [if_neg (Ne.symm hk)]
    · exact k4 B W (hb.setCell hB v) hB
noncomputable def wrS (s : St) (a : Nat) (o : Obj) : St := { s with h := aput s.h a o, wr := lg s.wr a }
theorem wrS_ext (s : St) (a : Nat) (o : Obj) {o0 : Obj} (h0 : aget s.h a = some o0) : Ext s (wrS s a o) := ⟨fun _ h => h, fun i h => (lg_iff _ _ _).2 (.inr h), Nat.le_refl _, fun id h1 _ => by
  show aget (aput s.h a o) id = _
  rw [aget_aput, if_neg]
  intro e
  exact h1 ((lg_iff _ _ _).2 (.inl e)), fun h id ob hid => by
  have hid : aget (aput s.h a o) id = some ob := hid
  rw [aget_aput] at hid
  by_cases e : id = a
  · rw [e]; exact h a o0 h0
  · rw [if_neg e] at hid
    exact h id ob hid⟩
theorem wrS_post {ν : Ren} {m : Nat → Option Obj} {w w' : World} {a g S : Nat} {o o' ob' : Obj} (p : Pre B W0 ν m s (wrS s a o') w) (ho : aget s.h a = some o) (hro : ro o = false) (hν : ν a = some (g, S))
    (hg : w'.heap[g]? = some ob') (hr : OR ν o' ob' S) (hk : ∀ k, k ≠ g → w'.heap[k]? = w.heap[k]?) (hb : Below B W0 w') : Post B W0 ν m s (wrS s a o') ν w' := by
  have hm : m a = some o := (p.agree a (.inr ((lg_iff _ _ _).2 (.inl rfl)))).trans ho
  refine ⟨.refl _, fun i hi => absurd rfl hi, (p.rel.write hm hro hν hg hr hk hb).of_le fun id o1 hid => ?_⟩
  unfold Upd at hid
  try dsimp only
  by_cases e : id = a
  · subst e
    rw [if_pos rfl]
    rw [if_pos (.inl ((lg_iff _ _ _).2 (.inl rfl)))] at hid
    rw [← hid]
    show some o' = aget (aput s.h id o') id
    rw [aget_aput, if_pos rfl]
  · rw [if_neg e]
    split at hid
    · rename_i h
      have e2 : aget (wrS s a o').h id = aget s.h id := by
        show aget (aput s.h a o') id = _
        rw [aget_aput, if_neg e]
      rw [e2] at hid
      rw [← hid]
      refine p.agree id ?_
      rcases h with h | h
      · exact .inr h
      · have : s.nx ≤ id ∧ id < s.nx := h
        omega
    · exact hid
noncomputable def aStore (C : Cfg) (T : Tm) (s : St) (t : TypeId) (x y : Operand) : Option (Value × List Bool × St) :=
  match ev1 T x, ev1 T y, C.ty t with
  | some (.pointer (some ⟨a, o, none⟩)), some v, some ti => match aget s.h a with
    | some (.cells c ct cf) => some (undef, [Nat.beq (len v.cells.toList) ti.1.size, ones v.cells.toList, Nat.ble (Nat.add o ti.1.size) (len c.toList), not (ro (.cells c ct cf))], wrS s a (.cells ⟨Ev.splice c.toList o v.cells.toList⟩ ct cf))
    | _ => none
  | _, _, _ => none
theorem aStore_ok (hC : C.Ok) {o : Oper} {t : TypeId} {x y : Operand} (ho : o.op = .store t x y) {v : Value} {ns : List Bool} {s' : St} (h : aStore C T s t x y = some (v, ns, s')) (hn : ∀ b ∈ ns, b = true) : OpOk C B W0 N o T s v s' := by
  obtain ⟨dst, op, type, pos, after, guard⟩ := o
  obtain rfl : op = _ := ho
  unfold aStore at h
  split at h
  · rename_i b q v0 ti hx hy ht
    split at h
    · rename_i c ct cf hc
      obtain ⟨rfl, h3⟩ := Prod.mk.inj (Option.some.inj h)
      obtain ⟨rfl, rfl⟩ := Prod.mk.inj h3
      refine ⟨wrS_ext _ _ _ hc, fun ν m a w tr p => ?_⟩
      have n1 := Nat.eq_of_beq_eq_true (hn (Nat.beq (len v0.cells.toList) ti.1.size) (by simp))
      have n2 := hn (ones v0.cells.toList) (by simp)
      have n3 := ble_iff.1 (hn (Nat.ble (Nat.add q ti.1.size) (len c.toList)) (by simp))
      rw [len_eq] at n1 n3
      have n3 : q + ti.1.size ≤ c.toList.length := n3
      obtain ⟨g, S, e, hν⟩ := VR.ptr_inv (ev1_ok tr hx)
      have n4 : ro (.cells c ct cf) = false := by
        have := hn (not (ro (.cells c ct cf))) (by simp)
        revert this; cases ro (.cells c ct cf) <;> intro h <;> first | rfl | cases h
      have hv := (ev1_ok tr hy).cells (fun e => by subst e; cases n2)
      obtain ⟨c', t', f', vs, rest, k1, k2, k3, k4, k5, k6, k7⟩ := rd_row p (.inr ((lg_iff _ _ _).2 (.inl rfl))) hc hν
      replace k5 := k5 n4
      replace k7 := k7 n4
      have l1 := hv.length
      have l2 := k3.length
      have l3 : c'.size = vs.length + rest.length := by rw [← Array.length_toList, k2, List.length_append]
      obtain ⟨w', r1, r2, r3, r4⟩ := storeCells_run (P := C.P) (g := g) (o := q) (t := t') (f := f') (a.eval y).cells.toList 0 c' w k1 (by omega) k5.free (ones_ok n2 hv)
      refine ⟨.skip, w', undef, ν, ?_, .inr ⟨rfl, rfl⟩, VR.of_plain rfl, wrS_post p hc n4 hν r2 ?_ r3 (r4 _ _ p.rel.below (k6 n4))⟩
      · have hs : ¬ ((a.eval y).cells.size ≠ ti.1.size) := by
          rw [← Array.length_toList, ← l1, n1]; simp
        simp only [execOp, Instr.storeAt, e, Instr.sureAddr, storeVar, Sem.run_bind, Sem.run_pure, Result.andThen_ok, sizeOf_run hC ht, if_neg hs]
        rw [r1]
        rfl
      · have hsz : S = (⟨Ev.splice c'.toList (q + 0) (a.eval y).cells.toList⟩ : Array Value).size := by
          show S = (Ev.splice c'.toList (q + 0) (a.eval y).cells.toList).length
          rw [splice_eq, k4]
          have l5 : (a.eval y).cells.size = ti.1.size := by rw [← Array.length_toList, ← l1, n1]
          simp
          omega
        have hcc : Ev.splice c'.toList (q + 0) (a.eval y).cells.toList = Ev.splice vs q (a.eval y).cells.toList ++ rest := by
          rw [Nat.add_zero, splice_eq, splice_eq, k2, List.take_append_of_le_length (by omega), List.drop_append_of_le_length (by omega)]
          simp
        rw [hsz]
        subst k7
        exact .cells _ rest hcc (k3.splice q hv) (fun _ => ⟨k5.le (Nat.le_of_eq (hsz.symm.trans k4)), rfl⟩)
    · cases h
  · cases h
/-- A new variable. -/
noncomputable def aNew (s : St) (t : TypeId) (cs : List Value) : Value × St := (.pointer (some ⟨s.nx, 0, none⟩), newB s (.cells ⟨cs⟩ t (0, 0)))
theorem OR.whole {ν : Ren} {c c' : Array Value} {t : TypeId} (h : VRs ν c.toList c'.toList) : OR ν (.cells c t (0, 0)) (.cells c' t (0, 0)) c'.size :=
  .cells c'.toList [] (by simp) h (fun _ => ⟨.inl rfl, rfl⟩)
noncomputable def aAlloc (C : Cfg) (s : St) (t : TypeId) : Option (Value × List Bool × St) :=
  match C.ty t with
  | some ti => match ti.1.zero with
    | some z => some (.pointer (some ⟨s.nx, 0, none⟩), [flats z.cells.toList], newB s (.cells z.cells t (0, 0)))
    | none => none
  | none => none
theorem new_post {ν : Ren} {m : Nat → Option Obj} {w : World} {c c' : Array Value} {t : TypeId} (hB : B ≤ W0.heap.size) (p : Pre B W0 ν m s (newB s (.cells c t (0, 0))) w) (h : VRs ν c.toList c'.toList) :
    ∃ ν', VR ν' (.pointer (some ⟨s.nx, 0, none⟩)) (.pointer (some ⟨w.heap.size, 0, none⟩)) ∧ ν' s.nx = some (w.heap.size, c'.size) ∧ Post B W0 ν m s (newB s (.cells c t (0, 0))) ν' (w.alloc (.cells c' t (0, 0))) := by
  have hf : ν s.nx = none := (p.fresh s.nx (Nat.le_refl _) (Nat.lt_succ_self _)).1
  have hle : ν.le (fun i => if i = s.nx then some (w.heap.size, c'.size) else ν i) := fun i q hq => by
    try dsimp only
    rw [if_neg (fun e => by subst e; rw [hf] at hq; cases hq)]; exact hq
  exact ⟨_, .ptr (S := c'.size) (if_pos rfl), if_pos rfl, newB_post hB p p.rel (.whole (h.mono hle))⟩
theorem aAlloc_ok (hC : C.Ok) (hB : B ≤ W0.heap.size) {o : Oper} {t : TypeId} (ho : o.op = .alloc t) {v : Value} {ns : List Bool} {s' : St} (h : aAlloc C s t = some (v, ns, s')) (hn : ∀ b ∈ ns, b = true) : OpOk C B W0 N o T s v s' := by
  obtain ⟨dst, op, type, pos, after, guard⟩ := o
  obtain rfl : op = _ := ho
  unfold aAlloc at h
  split at h
  · rename_i ti ht
    split at h
    · rename_i z hz
      obtain ⟨rfl, h3⟩ := Prod.mk.inj (Option.some.inj h)
      obtain ⟨rfl, rfl⟩ := Prod.mk.inj h3
      refine ⟨newB_ext _ _, fun ν m a w tr p => ?_⟩
      obtain ⟨ν', h1, h2, h3⟩ := new_post (c' := z.cells) hB p (VRs.flats (hn _ (List.mem_singleton.2 rfl)))
      refine ⟨_, _, _, ν', ?_, .inl rfl, h1, h3⟩
      simp only [execOp, Instr.alloc, zeroValue, Sem.run_bind, typeInfo_run hC ht, Result.andThen_ok, hz, newVar, newRow, run_newObj, Sem.run_pure]
      rfl
    · cases h
  · cases h
noncomputable def nj : Value → Bool
  | .chan _ => false
  | _ => true
noncomputable def aBox (T : Tm) (s : St) (t : TypeId) (x : Operand) : Option (Value × List Bool × St) :=
  match ev1 T x with
  | some v => some (.pointer (some ⟨s.nx, 0, none⟩), [nj v], newB s (.cells v.cells t (0, 0)))
  | none => none
theorem aBox_ok (hC : C.Ok) (hB : B ≤ W0.heap.size) {o : Oper} {t : TypeId} {x : Operand} (ho : o.op = .box t x) {v : Value} {ns : List Bool} {s' : St} (h : aBox T s t x = some (v, ns, s')) (hn : ∀ b ∈ ns, b = true) : OpOk C B W0 N o T s v s' := by
  obtain ⟨dst, op, type, pos, after, guard⟩ := o
  obtain rfl : op = _ := ho
  unfold aBox at h
  split at h
  · rename_i z hz
    obtain ⟨rfl, h3⟩ := Prod.mk.inj (Option.some.inj h)
    obtain ⟨rfl, rfl⟩ := Prod.mk.inj h3
    refine ⟨newB_ext _ _, fun ν m a w tr p => ?_⟩
    obtain ⟨ν', h1, h2, h3⟩ := new_post (c' := (a.eval x).cells) hB p ((ev1_ok tr hz).cells fun e => by subst e; exact absurd (hn _ (List.mem_singleton.2 rfl)) (by decide))
    refine ⟨_, _, _, ν', ?_, .inl rfl, h1, h3⟩
    simp only [execOp, Instr.box, Sem.run_bind, Result.andThen_ok, newVar, newRow, run_newObj, Sem.run_pure]
    rfl
  · cases h
end
end Go.Ev
