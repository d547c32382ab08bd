/- Words of my own: the evaluator's state, and what a step of it says about the world. -/
import Derived.Test.YtlkfcabklaaacaaEv1
set_option linter.unusedVariables false
set_option linter.unusedSimpArgs false
namespace Go.Ev
open Go.RowKit
section lists
universe u
variable {α : Type u}
noncomputable def nth (l : List α) : Nat → Option α := List.rec (motive := fun _ => Nat → Option α) (fun _ => none) (fun a _ ih i => Nat.rec (motive := fun _ => Option α) (some a) (fun j _ => ih j) i) l
noncomputable def aget (l : List (Nat × α)) (i : Nat) : Option α := List.rec (motive := fun _ => Option α) none (fun p _ ih => Bool.rec (motive := fun _ => Option α) ih (some p.2) (Nat.beq i p.1)) l
noncomputable def aput (l : List (Nat × α)) (i : Nat) (v : α) : List (Nat × α) := List.rec (motive := fun _ => List (Nat × α)) [(i, v)] (fun p r ih => Bool.rec (motive := fun _ => List (Nat × α)) (p :: ih) ((i, v) :: r) (Nat.beq i p.1)) l
noncomputable def mem (l : List Nat) (i : Nat) : Bool := List.rec (motive := fun _ => Bool) false (fun a _ ih => Bool.rec (motive := fun _ => Bool) ih true (Nat.beq i a)) l
noncomputable def lg (l : List Nat) (a : Nat) : List Nat := Bool.rec (motive := fun _ => List Nat) (a :: l) l (mem l a)
noncomputable def len (l : List α) : Nat := List.rec (motive := fun _ => Nat → Nat) (fun n => n) (fun _ _ ih n => ih (Nat.succ n)) l 0
noncomputable def app (l k : List α) : List α := List.rec (motive := fun _ => List α) k (fun a _ ih => a :: ih) l
noncomputable def tak (l : List α) : Nat → List α := List.rec (motive := fun _ => Nat → List α) (fun _ => []) (fun a _ ih i => Nat.rec (motive := fun _ => List α) [] (fun j _ => a :: ih j) i) l
noncomputable def dro (l : List α) : Nat → List α := List.rec (motive := fun _ => Nat → List α) (fun _ => []) (fun a r ih i => Nat.rec (motive := fun _ => List α) (a :: r) (fun j _ => ih j) i) l
theorem nth_eq (l : List α) (i : Nat) : nth l i = l[i]? := by
  induction l generalizing i with
  | nil => simp [nth]
  | cons a l ih => cases i with
    | zero => rfl
    | succ i => exact ih i
theorem aget_cons (p : Nat × α) (l : List (Nat × α)) (i : Nat) : aget (p :: l) i = if i = p.1 then some p.2 else aget l i := by
  show Bool.rec (motive := fun _ => Option α) (aget l i) (some p.2) (Nat.beq i p.1) = _
  by_cases h : i = p.1
  · rw [if_pos h, h, Nat.beq_refl]
  · rw [if_neg h]
    have : Nat.beq i p.1 = false := by
      cases hb : Nat.beq i p.1
      · rfl
      · exact absurd (Nat.eq_of_beq_eq_true hb) h
    rw [this]
theorem aget_nil (i : Nat) : aget ([] : List (Nat × α)) i = none := rfl
theorem aput_cons (p : Nat × α) (l : List (Nat × α)) (i : Nat) (v : α) : aput (p :: l) i v = if i = p.1 then (i, v) :: l else p :: aput l i v := by
  show Bool.rec (motive := fun _ => List (Nat × α)) (p :: aput l i v) ((i, v) :: l) (Nat.beq i p.1) = _
  by_cases h : i = p.1
  · rw [if_pos h, h, Nat.beq_refl]
  · rw [if_neg h]
    have : Nat.beq i p.1 = false := by
      cases hb : Nat.beq i p.1
      · rfl
      · exact absurd (Nat.eq_of_beq_eq_true hb) h
    rw [this]
theorem aget_aput (l : List (Nat × α)) (i j : Nat) (v : α) : aget (aput l i v) j = if j = i then some v else aget l j := by
  induction l with
  | nil => rw [show aput ([] : List (Nat × α)) i v = [(i, v)] from rfl, aget_cons, aget_nil]
  | cons p l ih =>
    rw [aput_cons]
    by_cases h : i = p.1
    · rw [if_pos h, aget_cons, aget_cons]
      by_cases hj : j = i
      · simp [hj]
      · rw [if_neg hj, if_neg hj, if_neg (by rw [← h]; exact hj)]
    · rw [if_neg h, aget_cons, ih, aget_cons]
      by_cases hj : j = p.1
      · rw [if_pos hj, if_pos hj, if_neg (by rw [hj]; exact Ne.symm h)]
      · rw [if_neg hj, if_neg hj]
theorem mem_cons (a : Nat) (l : List Nat) (i : Nat) : mem (a :: l) i = (decide (i = a) || mem l i) := by
  show Bool.rec (motive := fun _ => Bool) (mem l i) true (Nat.beq i a) = _
  by_cases h : i = a
  · rw [h, Nat.beq_refl]; simp
  · have : Nat.beq i a = false := by
      cases hb : Nat.beq i a
      · rfl
      · exact absurd (Nat.eq_of_beq_eq_true hb) h
    rw [this]; simp [h]
theorem mem_iff (l : List Nat) (i : Nat) : mem l i = true ↔ i ∈ l := by
  induction l with
  | nil => simp [mem]
  | cons a l ih => rw [mem_cons]; simp [ih]
theorem lg_iff (l : List Nat) (a i : Nat) : i ∈ lg l a ↔ i = a ∨ i ∈ l := by
  unfold lg
  cases h : mem l a with
  | false => simp
  | true =>
    have := (mem_iff l a).1 h
    simp
    rintro rfl
    exact this
theorem app_eq (l k : List α) : app l k = l ++ k := by
  induction l with
  | nil => rfl
  | cons a l ih => exact congrArg (a :: ·) ih
theorem tak_eq (l : List α) (i : Nat) : tak l i = l.take i := by
  induction l generalizing i with
  | nil => simp [tak]
  | cons a l ih => cases i with
    | zero => rfl
    | succ i => exact congrArg (a :: ·) (ih i)
theorem dro_eq (l : List α) (i : Nat) : dro l i = l.drop i := by
  induction l generalizing i with
  | nil => simp [dro]
  | cons a l ih => cases i with
    | zero => rfl
    | succ i => exact ih i
theorem len_eq (l : List α) : len l = l.length := by
  have : ∀ (l : List α) (n : Nat), List.rec (motive := fun _ => Nat → Nat) (fun n => n) (fun _ _ ih n => ih (Nat.succ n)) l n = n + l.length := by
    intro l
    induction l with
    | nil => intro n; rfl
    | cons a l ih => intro n; rw [show (n + (a :: l).length) = (Nat.succ n) + l.length by simp; omega]; exact ih _
  exact (this l 0).trans (Nat.zero_add _)
end lists
abbrev Tm := List (Nat × Value)
structure St where
  h : List (Nat × Obj)
  nx : Nat
  rd : List Nat
  wr : List Nat
  df : List Value
/-- The memory behind a step: what was written, or is new, as the evaluator has it; the rest as it was. -/
noncomputable def Upd (m : Nat → Option Obj) (s s' : St) : Nat → Option Obj := fun id =>
  open Classical in if id ∈ s'.wr ∨ (s.nx ≤ id ∧ id < s'.nx) then aget s'.h id else m id
/-- All names that are in use are below the next one. -/
def Wf (s : St) : Prop := ∀ id o, aget s.h id = some o → id < s.nx
structure Ext (s s' : St) : Prop where
  rd : ∀ id ∈ s.rd, id ∈ s'.rd
  wr : ∀ id ∈ s.wr, id ∈ s'.wr
  nx : s.nx ≤ s'.nx
  fr : ∀ id, id ∉ s'.wr → ¬(s.nx ≤ id ∧ id < s'.nx) → aget s'.h id = aget s.h id
  wf : Wf s → Wf s'
theorem Ext.refl (s : St) : Ext s s := ⟨fun _ h => h, fun _ h => h, Nat.le_refl _, fun _ _ _ => rfl, fun h => h⟩
theorem Ext.trans {a b c : St} (h : Ext a b) (k : Ext b c) : Ext a c :=
  ⟨fun i hi => k.rd i (h.rd i hi), fun i hi => k.wr i (h.wr i hi), Nat.le_trans h.nx k.nx, fun i h1 h2 => by
    rw [k.fr i h1 (fun hh => h2 ⟨Nat.le_trans h.nx hh.1, hh.2⟩), h.fr i (fun hh => h1 (k.wr i hh)) (fun hh => h2 ⟨hh.1, Nat.lt_of_lt_of_le hh.2 k.nx⟩)], fun hh => k.wf (h.wf hh)⟩
section
variable (B : Nat) (W0 : World)
structure Pre (ν : Ren) (m : Nat → Option Obj) (s s' : St) (w : World) : Prop where
  agree : ∀ id, id ∈ s'.rd ∨ id ∈ s'.wr → m id = aget s.h id
  fresh : ∀ id, s.nx ≤ id → id < s'.nx → ν id = none ∧ m id = none
  wf : Wf s
  rel : RelH B W0 ν m w
structure Post (ν : Ren) (m : Nat → Option Obj) (s s' : St) (ν' : Ren) (w' : World) : Prop where
  le : ν.le ν'
  new : ∀ id, ν' id ≠ ν id → s.nx ≤ id ∧ id < s'.nx
  rel : RelH B W0 ν' (Upd m s s') w'
end
section
variable {B : Nat} {W0 : World}
theorem RelH.of_le {ν : Ren} {m m' : Nat → Option Obj} {w : World} (h : RelH B W0 ν m w) (hm : ∀ id o, m' id = some o → m id = some o) : RelH B W0 ν m' w :=
  ⟨fun a o g S ho hg => h.objs a o g S (hm a o ho) hg, fun a b o p g S S' ha hb h1 h2 => h.inj a b o p g S S' (hm a o ha) (hm b p hb) h1 h2, h.below⟩
theorem Upd_self {m : Nat → Option Obj} {s : St} (h : ∀ id ∈ s.wr, m id = aget s.h id) : Upd m s s = m := by
  funext id
  unfold Upd
  split
  · rename_i hh
    rcases hh with hh | hh
    · exact (h id hh).symm
    · omega
  · rfl
theorem Post.refl {ν : Ren} {m : Nat → Option Obj} {s : St} {w : World} (h : Pre B W0 ν m s s w) : Post B W0 ν m s s ν w :=
  ⟨.refl ν, fun id hid => absurd rfl hid, by rw [Upd_self fun id hid => h.agree id (.inr hid)]; exact h.rel⟩
theorem Pre.first {ν : Ren} {m : Nat → Option Obj} {a b c : St} {w : World} (h : Pre B W0 ν m a c w) (k : Ext b c) : Pre B W0 ν m a b w :=
  ⟨fun id hid => h.agree id (hid.imp (k.rd id) (k.wr id)), fun id h1 h2 => h.fresh id h1 (Nat.lt_of_lt_of_le h2 k.nx), h.wf, h.rel⟩
theorem Pre.second {ν ν' : Ren} {m : Nat → Option Obj} {a b c : St} {w w' : World} (h : Pre B W0 ν m a c w) (e : Ext a b) (k : Ext b c) (p : Post B W0 ν m a b ν' w') : Pre B W0 ν' (Upd m a b) b c w' := by
  refine ⟨fun id hid => ?_, fun id h1 h2 => ?_, e.wf h.wf, p.rel⟩
  · unfold Upd
    split
    · rfl
    · rename_i hn
      rw [h.agree id hid, e.fr id (fun hh => hn (.inl hh)) (fun hh => hn (.inr hh))]
  · have h3 := h.fresh id (Nat.le_trans e.nx h1) h2
    constructor
    · by_cases hne : ν' id = ν id
      · rw [hne]; exact h3.1
      · have := (p.new id hne).2; omega
    · unfold Upd
      split
      · cases hb : aget b.h id with
        | none => rfl
        | some o => have := e.wf h.wf id o hb; omega
      · exact h3.2
theorem Upd_trans {m : Nat → Option Obj} {a b c : St} (e : Ext a b) (k : Ext b c) : Upd (Upd m a b) b c = Upd m a c := by
  funext id
  unfold Upd
  by_cases h1 : id ∈ c.wr
  · simp [h1]
  by_cases h2 : b.nx ≤ id ∧ id < c.nx
  · have : a.nx ≤ id ∧ id < c.nx := ⟨Nat.le_trans e.nx h2.1, h2.2⟩
    simp [h2, this]
  by_cases h3 : a.nx ≤ id ∧ id < b.nx
  · have : a.nx ≤ id ∧ id < c.nx := ⟨h3.1, Nat.lt_of_lt_of_le h3.2 k.nx⟩
    simp [h1, h2, h3, this, k.fr id h1 h2]
  · have h4 : ¬(a.nx ≤ id ∧ id < c.nx) := by omega
    have h5 : id ∉ b.wr := fun hh => h1 (k.wr id hh)
    simp [h1, h2, h3, h4, h5]
theorem Post.trans {ν ν' ν'' : Ren} {m : Nat → Option Obj} {a b c : St} {w' w'' : World} (e : Ext a b) (k : Ext b c) (p : Post B W0 ν m a b ν' w') (q : Post B W0 ν' (Upd m a b) b c ν'' w'') : Post B W0 ν m a c ν'' w'' :=
  ⟨p.le.trans q.le, fun id hid => by
    by_cases h : ν'' id = ν' id
    · have := p.new id (by rw [← h]; exact hid)
      exact ⟨this.1, Nat.lt_of_lt_of_le this.2 k.nx⟩
    · have := q.new id h
      exact ⟨Nat.le_trans e.nx this.1, this.2⟩, by rw [← Upd_trans e k]; exact q.rel⟩
/-- A draw. -/
theorem RelH.drew {ν : Ren} {m : Nat → Option Obj} {w : World} (h : RelH B W0 ν m w) : RelH B W0 ν m w.drew := ⟨h.objs, h.inj, h.below.drew⟩
/-- What leaves all that was there as it was. -/
theorem RelH.below_of {ν : Ren} {m : Nat → Option Obj} {w w' : World} (h : RelH B W0 ν m w) (hb : Below w.heap.size w w') (hB : B ≤ w.heap.size) : RelH B W0 ν m w' := by
  refine ⟨fun a o g S ho hg => ?_, h.inj, h.below.trans (hb.mono hB)⟩
  obtain ⟨ob, h2, h3, h4⟩ := h.objs a o g S ho hg
  exact ⟨ob, by rw [hb.block g (Array.getElem?_eq_some_iff.1 h2).1]; exact h2, h3, h4⟩
theorem RelH.size {ν : Ren} {m : Nat → Option Obj} {w : World} (h : RelH B W0 ν m w) (hB : B ≤ W0.heap.size) : B ≤ w.heap.size := Nat.le_trans hB h.below.size
/-- A new block. -/
theorem RelH.push {ν : Ren} {m : Nat → Option Obj} {w : World} (h : RelH B W0 ν m w) (hB : B ≤ W0.heap.size) {a : Nat} (ha : ν a = none) {o ob : Obj} {S : Nat}
    (ho : OR (fun i => if i = a then some (w.heap.size, S) else ν i) o ob S) :
    RelH B W0 (fun i => if i = a then some (w.heap.size, S) else ν i) (fun i => if i = a then some o else m i) (w.alloc ob) := by
  have hle : ν.le (fun i => if i = a then some (w.heap.size, S) else ν i) := fun i p hp => by
    dsimp only
    rw [if_neg (fun e => by subst e; rw [ha] at hp; cases hp)]; exact hp
  refine ⟨fun i o' g S' hi hgi => ?_, fun i j o1 o2 g S1 S2 hi hj h1 h2 => ?_, h.below.alloc (h.size hB) _⟩
  · try dsimp only at hi hgi ⊢
    by_cases hia : i = a
    · rw [if_pos hia] at hi hgi
      obtain rfl := Option.some.inj hi
      obtain ⟨rfl, rfl⟩ := Prod.mk.inj (Option.some.inj hgi)
      exact ⟨ob, by show (w.heap.push ob)[w.heap.size]? = _; simp, ho, fun _ => h.size hB⟩
    · rw [if_neg hia] at hi hgi
      obtain ⟨ob', h2, h3, h4⟩ := h.objs i o' g S' hi hgi
      exact ⟨ob', by
        have := (Array.getElem?_eq_some_iff.1 h2).1
        show (w.heap.push ob)[g]? = _
        rw [Array.getElem?_push, if_neg (by omega)]; exact h2, h3.mono hle, h4⟩
  · try dsimp only at hi hj h1 h2
    have old : ∀ (i : Nat) (o : Obj) (g S1 : Nat), i ≠ a → m i = some o → ν i = some (g, S1) → g < w.heap.size := fun i o g S1 hia hi h1 => by
      obtain ⟨ob', k2, k3, k4⟩ := h.objs i o g S1 hi h1
      exact (Array.getElem?_eq_some_iff.1 k2).1
    by_cases hia : i = a
    · by_cases hja : j = a
      · exact .inl (by rw [hia, hja])
      · rw [if_pos hia] at h1
        rw [if_neg hja] at hj h2
        obtain ⟨rfl, rfl⟩ := Prod.mk.inj (Option.some.inj h1)
        have := old j _ _ _ hja hj h2
        omega
    · rw [if_neg hia] at hi h1
      by_cases hja : j = a
      · rw [if_pos hja] at h2
        obtain ⟨rfl, rfl⟩ := Prod.mk.inj (Option.some.inj h2)
        have := old i _ _ _ hia hi h1
        omega
      · rw [if_neg hja] at hj h2
        exact h.inj i j o1 o2 g S1 S2 hi hj h1 h2
/-- A block written anew. -/
theorem RelH.write {ν : Ren} {m : Nat → Option Obj} {w w' : World} (h : RelH B W0 ν m w) {a g S : Nat} {o o' ob' : Obj} (hm : m a = some o) (hro : ro o = false) (hν : ν a = some (g, S))
    (hg : w'.heap[g]? = some ob') (ho : OR ν o' ob' S) (hk : ∀ k, k ≠ g → w'.heap[k]? = w.heap[k]?) (hb : Below B W0 w') : RelH B W0 ν (fun i => if i = a then some o' else m i) w' := by
  refine ⟨fun i o1 g' S' hi hgi => ?_, fun i j p1 q1 g1 S1 S2 hi hj h1 h2 => ?_, hb⟩
  · try dsimp only at hi
    by_cases hia : i = a
    · rw [if_pos hia] at hi
      obtain rfl := Option.some.inj hi
      rw [hia, hν] at hgi
      obtain ⟨rfl, rfl⟩ := Prod.mk.inj (Option.some.inj hgi)
      obtain ⟨ob1, k2, k3, k4⟩ := h.objs a o _ _ hm hν
      exact ⟨ob', hg, ho, fun _ => k4 hro⟩
    · rw [if_neg hia] at hi
      obtain ⟨ob1, k2, k3, k4⟩ := h.objs i o1 g' S' hi hgi
      have hne : g' ≠ g := fun e => (h.inj i a o1 o g S' S hi hm (e ▸ hgi) hν).elim hia fun hh => by rw [hro] at hh; cases hh.2
      exact ⟨ob1, by rw [hk g' hne]; exact k2, k3, k4⟩
  · try dsimp only at hi hj
    by_cases hia : i = a
    · by_cases hja : j = a
      · exact .inl (by rw [hia, hja])
      · rw [if_neg hja] at hj
        subst hia
        exact (h.inj i j o q1 g1 S1 S2 hm hj h1 h2).elim .inl fun hh => by rw [hro] at hh; cases hh.1
    · rw [if_neg hia] at hi
      by_cases hja : j = a
      · subst hja
        exact (h.inj i j p1 o g1 S1 S2 hi hm h1 h2).elim .inl fun hh => by rw [hro] at hh; cases hh.2
      · rw [if_neg hja] at hj
        exact h.inj i j p1 q1 g1 S1 S2 hi hj h1 h2
end
end Go.Ev
