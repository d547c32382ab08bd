/- Words of my own: an evaluator of the program's code, proved right: values and memory under other names of the blocks. -/
import Derived.Below
import Derived.Orders
import Derived.KernelRfl
set_option linter.unusedVariables false
set_option linter.unusedSimpArgs false
namespace Go.Ev
open Go.RowKit
/-- Which block of the world a name stands for, and how many cells it has. -/
abbrev Ren := Nat → Option (Nat × Nat)
/-- A value that names no block. -/
def flat : Value → Bool
  | .bool _ | .int _ _ | .string _ | .pointer none | .slice none _ _ | .map none | .nilFunc | .nilIface => true
  | _ => false
def flats (vs : List Value) : Bool := vs.all flat
inductive VR (ν : Ren) : Value → Value → Prop
  | flat {v : Value} (h : flat v = true) : VR ν v v
  | ptr {a o g S : Nat} (h : ν a = some (g, S)) : VR ν (.pointer (some ⟨a, o, none⟩)) (.pointer (some ⟨g, o, none⟩))
  | stat {g o : Nat} : VR ν (.pointer (some ⟨g, o, some 1⟩)) (.pointer (some ⟨g, o, none⟩))
  | slice {a o o' g S n c z c' : Nat} (h : ν a = some (g, S)) (hn : n ≤ c') (hz : o + c' * z ≤ S) (ho : o' = o ∨ c' = 0) : VR ν (.slice (some ⟨a, o, some z⟩) n c) (.slice (some ⟨g, o', none⟩) n c')
  | nilS {a o z c : Nat} : VR ν (.slice (some ⟨a, o, some z⟩) 0 c) (.slice none 0 0)
  | any {u : Value} : VR ν (.chan none) u
  | map {a g S : Nat} (h : ν a = some (g, S)) : VR ν (.map (some a)) (.map (some g))
  | fn {f : FuncId} {l l' : Array Value} (hs : l.size = l'.size) (h : ∀ (i : Nat) (h1 : i < l.size) (h2 : i < l'.size), VR ν l[i] l'[i]) : VR ν (.func (.func f) #[] l) (.func (.func f) #[] l')
  | yield {a g S : Nat} (h : ν a = some (g, S)) : VR ν (.func (.yield a) #[] #[]) (.func (.yield g) #[] #[])
  | iface {t : TypeId} {v v' : Value} (h : VR ν v v') : VR ν (.iface t v) (.iface t v')
  | agg {l l' : Array Value} (hs : l.size = l'.size) (h : ∀ (i : Nat) (h1 : i < l.size) (h2 : i < l'.size), VR ν l[i] l'[i]) : VR ν (.agg l) (.agg l')
  | tuple {l l' : Array Value} (hs : l.size = l'.size) (h : ∀ (i : Nat) (h1 : i < l.size) (h2 : i < l'.size), VR ν l[i] l'[i]) : VR ν (.tuple l) (.tuple l')
def Ren.le (ν ν' : Ren) : Prop := ∀ a p, ν a = some p → ν' a = some p
theorem Ren.le.refl (ν : Ren) : ν.le ν := fun _ _ h => h
theorem Ren.le.trans {a b c : Ren} (h : a.le b) (h' : b.le c) : a.le c := fun x p hp => h' x p (h x p hp)
theorem VR.mono {ν ν' : Ren} (hν : ν.le ν') {v u : Value} (h : VR ν v u) : VR ν' v u := by
  induction h with
  | flat h => exact .flat h
  | ptr h => exact .ptr (hν _ _ h)
  | stat => exact .stat
  | slice h hn hz ho => exact .slice (hν _ _ h) hn hz ho
  | nilS => exact .nilS
  | any => exact .any
  | map h => exact .map (hν _ _ h)
  | fn hs _ ih => exact .fn hs ih
  | yield h => exact .yield (hν _ _ h)
  | iface _ ih => exact .iface ih
  | agg hs _ ih => exact .agg hs ih
  | tuple hs _ ih => exact .tuple hs ih
/-- Lists of values, one by one. -/
inductive VRs (ν : Ren) : List Value → List Value → Prop
  | nil : VRs ν [] []
  | cons {v u : Value} {l l' : List Value} (h : VR ν v u) (t : VRs ν l l') : VRs ν (v :: l) (u :: l')
theorem VRs.mono {ν ν' : Ren} (hν : ν.le ν') {l l' : List Value} (h : VRs ν l l') : VRs ν' l l' := by
  induction h with
  | nil => exact .nil
  | cons h _ ih => exact .cons (h.mono hν) ih
theorem VRs.length {ν : Ren} {l l' : List Value} (h : VRs ν l l') : l.length = l'.length := by
  induction h with
  | nil => rfl
  | cons _ _ ih => simp [ih]
theorem VRs.get {ν : Ren} {l l' : List Value} (h : VRs ν l l') {i : Nat} {v : Value} (hi : l[i]? = some v) : ∃ u, l'[i]? = some u ∧ VR ν v u := by
  induction h generalizing i with
  | nil => simp at hi
  | cons h _ ih =>
    cases i with
    | zero => simp at hi; subst hi; exact ⟨_, rfl, h⟩
    | succ i => simpa using ih (by simpa using hi)
theorem VRs.app {ν : Ren} {l l' k k' : List Value} (h : VRs ν l l') (h2 : VRs ν k k') : VRs ν (l ++ k) (l' ++ k') := by
  induction h with
  | nil => exact h2
  | cons h _ ih => exact .cons h ih
theorem VRs.take {ν : Ren} {l l' : List Value} (h : VRs ν l l') (n : Nat) : VRs ν (l.take n) (l'.take n) := by
  induction h generalizing n with
  | nil => simp; exact .nil
  | cons h _ ih => cases n with
    | zero => exact .nil
    | succ n => exact .cons h (ih n)
theorem VRs.drop {ν : Ren} {l l' : List Value} (h : VRs ν l l') (n : Nat) : VRs ν (l.drop n) (l'.drop n) := by
  induction h generalizing n with
  | nil => simp; exact .nil
  | cons h t ih => cases n with
    | zero => exact .cons h t
    | succ n => exact ih n
theorem VRs.set {ν : Ren} {l l' : List Value} (h : VRs ν l l') (i : Nat) {v u : Value} (hv : VR ν v u) : VRs ν (l.set i v) (l'.set i u) := by
  induction h generalizing i with
  | nil => exact .nil
  | cons h t ih => cases i with
    | zero => exact .cons hv t
    | succ i => exact .cons h (ih i)
theorem VRs.at {ν : Ren} {l l' : List Value} (h : VRs ν l l') : ∀ (i : Nat) (h1 : i < l.length) (h2 : i < l'.length), VR ν l[i] l'[i] := by
  induction h with
  | nil => intro i h1; simp at h1
  | cons h _ ih =>
    intro i h1 h2
    cases i with
    | zero => exact h
    | succ i => exact ih i (by simpa using h1) (by simpa using h2)
theorem VRs.of_at {ν : Ren} : ∀ {l l' : List Value} (hs : l.length = l'.length) (h : ∀ (i : Nat) (h1 : i < l.length) (h2 : i < l'.length), VR ν l[i] l'[i]), VRs ν l l'
  | [], [], _, _ => .nil
  | v :: l, u :: l', hs, h => .cons (h 0 (by simp) (by simp)) (VRs.of_at (by simpa using hs) fun i h1 h2 => h (i + 1) (by simpa using h1) (by simpa using h2))
  | [], _ :: _, hs, _ => by simp at hs
  | _ :: _, [], hs, _ => by simp at hs
theorem VRs.flats {ν : Ren} : ∀ {l : List Value}, Ev.flats l = true → VRs ν l l
  | [], _ => .nil
  | v :: l, h => by
    simp only [Ev.flats, List.all_cons, Bool.and_eq_true] at h
    exact .cons (.flat h.1) (VRs.flats h.2)
theorem VRs.eq_of_flats {ν : Ren} : ∀ {l k : List Value}, Ev.flats l = true → VRs ν l k → k = l
  | [], _, _, h => by cases h; rfl
  | v :: l, _, hf, h => by
    cases h with
    | cons h t =>
      simp only [Ev.flats, List.all_cons, Bool.and_eq_true] at hf
      rw [VRs.eq_of_flats hf.2 t]
      have := hf.1
      cases h <;> simp_all [flat]
theorem VR.eq_of_flat {ν : Ren} {v u : Value} (hf : Ev.flat v = true) (h : VR ν v u) : u = v := by
  cases h <;> simp_all [Ev.flat]
theorem VR.agg_iff {ν : Ren} {l : Array Value} {u : Value} : VR ν (.agg l) u ↔ ∃ l', u = .agg l' ∧ VRs ν l.toList l'.toList := by
  constructor
  · intro h
    cases h with
    | flat h => simp [Ev.flat] at h
    | agg hs h => exact ⟨_, rfl, VRs.of_at (by simpa using hs) fun i h1 h2 => h i h1 h2⟩
  · rintro ⟨l', rfl, h⟩
    exact .agg (by simpa using h.length) fun i h1 h2 => h.at i h1 h2
theorem VR.tuple_iff {ν : Ren} {l : Array Value} {u : Value} : VR ν (.tuple l) u ↔ ∃ l', u = .tuple l' ∧ VRs ν l.toList l'.toList := by
  constructor
  · intro h
    cases h with
    | flat h => simp [Ev.flat] at h
    | tuple hs h => exact ⟨_, rfl, VRs.of_at (by simpa using hs) fun i h1 h2 => h i h1 h2⟩
  · rintro ⟨l', rfl, h⟩
    exact .tuple (by simpa using h.length) fun i h1 h2 => h.at i h1 h2
theorem VR.fn_iff {ν : Ren} {f : FuncId} {l : Array Value} {u : Value} : VR ν (.func (.func f) #[] l) u ↔ ∃ l', u = .func (.func f) #[] l' ∧ VRs ν l.toList l'.toList := by
  constructor
  · intro h
    cases h with
    | flat h => simp [Ev.flat] at h
    | fn hs h => exact ⟨_, rfl, VRs.of_at (by simpa using hs) fun i h1 h2 => h i h1 h2⟩
  · rintro ⟨l', rfl, h⟩
    exact .fn (by simpa using h.length) fun i h1 h2 => h.at i h1 h2
/-- What a value's cells are: one, or those of a struct. -/
theorem VR.cells {ν : Ren} {v u : Value} (h : VR ν v u) (hj : v ≠ .chan none) : VRs ν v.cells.toList u.cells.toList := by
  cases h with
  | agg hs h => exact VRs.of_at (by simpa [Value.cells] using hs) fun i h1 h2 => h i h1 h2
  | flat h =>
    rw [show v.cells = #[v] by cases v <;> simp_all [Value.cells, Ev.flat]]
    exact .cons (.flat h) .nil
  | ptr h => exact .cons (.ptr h) .nil
  | stat => exact .cons .stat .nil
  | slice h hn hz ho => exact .cons (.slice h hn hz ho) .nil
  | nilS => exact .cons .nilS .nil
  | any => exact absurd rfl hj
  | map h => exact .cons (.map h) .nil
  | fn hs h => exact .cons (.fn hs h) .nil
  | yield h => exact .cons (.yield h) .nil
  | iface h => exact .cons (.iface h) .nil
  | tuple hs h => exact .cons (.tuple hs h) .nil
/-- A value of one cell stays one. -/
theorem VR.oneCell {ν : Ren} {v u : Value} (h : VR ν v u) (h1 : ∀ l, v ≠ .agg l) (h2 : ∀ l, v ≠ .tuple l) (hj : v ≠ .chan none) : (∀ l, u ≠ .agg l) ∧ (∀ l, u ≠ .tuple l) := by
  cases h <;> simp_all
/-- No cell of the row is frozen. -/
def FzOk (n : Nat) (f : Nat × Nat) : Prop := f.1 = f.2 ∨ n ≤ f.1
theorem FzOk.free {n : Nat} {f : Nat × Nat} (h : FzOk n f) : ∀ i, i < n → ¬(f.1 ≤ i ∧ i < f.2) := fun i hi hh => by
  rcases h with h | h <;> omega
theorem FzOk.le {n m : Nat} {f : Nat × Nat} (h : FzOk n f) (hm : m ≤ n) : FzOk m f := h.imp id fun h => Nat.le_trans hm h
/-- The entries of a map: the keys are the same. -/
inductive ER (ν : Ren) : List MapEntry → List MapEntry → Prop
  | nil : ER ν [] []
  | cons {e e' : MapEntry} {l l' : List MapEntry} (hk : e'.key = e.key) (hv : VR ν e.val e'.val) (t : ER ν l l') : ER ν (e :: l) (e' :: l')
theorem ER.mono {ν ν' : Ren} (hν : ν.le ν') {l l' : List MapEntry} (h : ER ν l l') : ER ν' l l' := by
  induction h with
  | nil => exact .nil
  | cons hk hv _ ih => exact .cons hk (hv.mono hν) ih
/-- Memory: what a block holds. Rows of cells alone may go on behind what is known. -/
inductive OR (ν : Ren) : Obj → Obj → Nat → Prop
  | cells {c c' : Array Value} {t t' : TypeId} {f f' : Nat × Nat} (vs rest : List Value) (hc : c'.toList = vs ++ rest) (h : VRs ν c.toList vs) (hf : Nat.beq f.1 1 = false → FzOk c'.size f' ∧ t' = t) : OR ν (.cells c t f) (.cells c' t' f') c'.size
  | map {es es' : Array MapEntry} {n S : Nat} (h : ER ν es.toList es'.toList) : OR ν (.map es n) (.map es' n) S
theorem OR.mono {ν ν' : Ren} (hν : ν.le ν') {o o' : Obj} {S : Nat} (h : OR ν o o' S) : OR ν' o o' S := by
  cases h with
  | cells vs rest hc h hf => exact .cells vs rest hc (h.mono hν) hf
  | map h => exact .map (h.mono hν)
/-- A row that is only looked at: such a one may have several names. -/
def ro : Obj → Bool
  | .cells _ _ f => Nat.beq f.1 1
  | _ => false
structure RelH (B : Nat) (W0 : World) (ν : Ren) (m : Nat → Option Obj) (w : World) : Prop where
  objs : ∀ a o g S, m a = some o → ν a = some (g, S) → ∃ ob, w.heap[g]? = some ob ∧ OR ν o ob S ∧ (ro o = false → B ≤ g)
  inj : ∀ a b o p g S S', m a = some o → m b = some p → ν a = some (g, S) → ν b = some (g, S') → a = b ∨ (ro o = true ∧ ro p = true)
  below : Below B W0 w
end Go.Ev
