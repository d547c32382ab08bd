/- Words of my own: values and memory under other names: renaming, there and back. -/
import Derived.Test.YtlkfcabklaaacaaEv15
set_option linter.unusedVariables false
set_option linter.unusedSimpArgs false
namespace Go.Ev
open Go.RowKit
/-- A value under new names (left), and under the old ones (right); ρ tells a new name's old one. With f: nil may go over into an empty slice. -/
inductive RN (f : Bool) (ρ : Nat → Option Nat) : Value → Value → Prop
  | flat {v : Value} (h : flat v = true) : RN f ρ v v
  | ptr {b a o : Nat} (h : ρ b = some a) : RN f ρ (.pointer (some ⟨b, o, none⟩)) (.pointer (some ⟨a, o, none⟩))
  | stat {g o : Nat} : RN f ρ (.pointer (some ⟨g, o, some 1⟩)) (.pointer (some ⟨g, o, some 1⟩))
  | slice {b a o n c c' z : Nat} (h : ρ b = some a) : RN f ρ (.slice (some ⟨b, o, some z⟩) n c) (.slice (some ⟨a, o, some z⟩) n c')
  | nilS {b o z c : Nat} (h : f = true) : RN f ρ (.slice (some ⟨b, o, some z⟩) 0 c) (.slice none 0 0)
  | any : RN f ρ (.chan none) (.chan none)
  | map {b a : Nat} (h : ρ b = some a) : RN f ρ (.map (some b)) (.map (some a))
  | fn {g : FuncId} {l l' : Array Value} (hs : l.size = l'.size) (h : ∀ (i : Nat) (h1 : i < l.size) (h2 : i < l'.size), RN f ρ l[i] l'[i]) : RN f ρ (.func (.func g) #[] l) (.func (.func g) #[] l')
  | yield {b a : Nat} (h : ρ b = some a) : RN f ρ (.func (.yield b) #[] #[]) (.func (.yield a) #[] #[])
  | iface {t : TypeId} {v v' : Value} (h : RN f ρ v v') : RN f ρ (.iface t v) (.iface t v')
  | agg {l l' : Array Value} (hs : l.size = l'.size) (h : ∀ (i : Nat) (h1 : i < l.size) (h2 : i < l'.size), RN f ρ l[i] l'[i]) : RN f ρ (.agg l) (.agg l')
  | tuple {l l' : Array Value} (hs : l.size = l'.size) (h : ∀ (i : Nat) (h1 : i < l.size) (h2 : i < l'.size), RN f ρ l[i] l'[i]) : RN f ρ (.tuple l) (.tuple l')
theorem RN.mono {f : Bool} {ρ ρ' : Nat → Option Nat} (hρ : ∀ b a, ρ b = some a → ρ' b = some a) {v1 v : Value} (h : RN f ρ v1 v) : RN f ρ' v1 v := by
  induction h with
  | flat h => exact .flat h
  | ptr h => exact .ptr (hρ _ _ h)
  | stat => exact .stat
  | slice h => exact .slice (hρ _ _ h)
  | nilS h => exact .nilS h
  | any => exact .any
  | map h => exact .map (hρ _ _ h)
  | fn hs _ ih => exact .fn hs ih
  | yield h => exact .yield (hρ _ _ h)
  | iface _ ih => exact .iface ih
  | agg hs _ ih => exact .agg hs ih
  | tuple hs _ ih => exact .tuple hs ih
theorem RN.weak {ρ : Nat → Option Nat} {v1 v : Value} (h : RN false ρ v1 v) : RN true ρ v1 v := by
  induction h with
  | flat h => exact .flat h
  | ptr h => exact .ptr h
  | stat => exact .stat
  | slice h => exact .slice h
  | nilS h => exact .nilS rfl
  | any => exact .any
  | map h => exact .map h
  | fn hs _ ih => exact .fn hs ih
  | yield h => exact .yield h
  | iface _ ih => exact .iface ih
  | agg hs _ ih => exact .agg hs ih
  | tuple hs _ ih => exact .tuple hs ih
/-- Lists alike: what stands at each place. -/
theorem VRs.size_eq {ν : Ren} {l l' : Array Value} (h : VRs ν l.toList l'.toList) : l.size = l'.size := by
  have := h.length; simpa using this
theorem VRs.arr {ν : Ren} {l l' : Array Value} (h : VRs ν l.toList l'.toList) (i : Nat) (h1 : i < l.size) (h2 : i < l'.size) : VR ν l[i] l'[i] := by
  have := h.at i (by simpa using h1) (by simpa using h2)
  simpa using this
theorem VRs.of_arr {ν : Ren} {l l' : Array Value} (hs : l.size = l'.size) (h : ∀ (i : Nat) (h1 : i < l.size) (h2 : i < l'.size), VR ν l[i] l'[i]) : VRs ν l.toList l'.toList :=
  VRs.of_at (by simpa using hs) fun i h1 h2 => by simpa using h i (by simpa using h1) (by simpa using h2)
/-- From the old names to the new ones. -/
theorem VR.ren {f : Bool} {ρ : Nat → Option Nat} {ν ν1 : Ren} (hν : ∀ b a p, ρ b = some a → ν a = some p → ν1 b = some p) {v1 v : Value} (h : RN f ρ v1 v) : ∀ {u : Value}, VR ν v u → VR ν1 v1 u := by
  induction h with
  | flat h => intro u hu; rw [VR.eq_of_flat h hu]; exact .flat h
  | ptr h =>
    intro u hu
    cases hu with
    | flat h => simp [Ev.flat] at h
    | ptr h' => exact .ptr (hν _ _ _ h h')
  | stat =>
    intro u hu
    cases hu with
    | flat h => simp [Ev.flat] at h
    | stat => exact .stat
  | slice h =>
    intro u hu
    cases hu with
    | flat h => simp [Ev.flat] at h
    | slice h' hn hz ho => exact .slice (hν _ _ _ h h') hn hz ho
    | nilS => exact .nilS
  | nilS _ =>
    intro u hu
    obtain rfl := VR.eq_of_flat rfl hu
    exact .nilS
  | any => intro u hu; exact .any
  | map h =>
    intro u hu
    cases hu with
    | flat h => simp [Ev.flat] at h
    | map h' => exact .map (hν _ _ _ h h')
  | fn hs _ ih =>
    intro u hu
    obtain ⟨l', rfl, h'⟩ := VR.fn_iff.1 hu
    exact .fn (hs.trans h'.size_eq) fun i h1 h2 => ih i h1 (by omega) (h'.arr i (by omega) h2)
  | yield h =>
    intro u hu
    cases hu with
    | flat h => simp [Ev.flat] at h
    | yield h' => exact .yield (hν _ _ _ h h')
  | iface _ ih =>
    intro u hu
    cases hu with
    | flat h => simp [Ev.flat] at h
    | iface h' => exact .iface (ih h')
  | agg hs _ ih =>
    intro u hu
    obtain ⟨l', rfl, h'⟩ := VR.agg_iff.1 hu
    exact .agg (hs.trans h'.size_eq) fun i h1 h2 => ih i h1 (by omega) (h'.arr i (by omega) h2)
  | tuple hs _ ih =>
    intro u hu
    obtain ⟨l', rfl, h'⟩ := VR.tuple_iff.1 hu
    exact .tuple (hs.trans h'.size_eq) fun i h1 h2 => ih i h1 (by omega) (h'.arr i (by omega) h2)
/-- From the new names back to the old ones. -/
theorem VR.unren {ρ : Nat → Option Nat} {ν ν1 : Ren} (hν : ∀ b a p, ρ b = some a → ν1 b = some p → ν a = some p) {v1 v : Value} (h : RN false ρ v1 v) : ∀ {u : Value}, VR ν1 v1 u → VR ν v u := by
  induction h with
  | flat h => intro u hu; rw [VR.eq_of_flat h hu]; exact .flat h
  | ptr h =>
    intro u hu
    cases hu with
    | flat h => simp [Ev.flat] at h
    | ptr h' => exact .ptr (hν _ _ _ h h')
  | stat =>
    intro u hu
    cases hu with
    | flat h => simp [Ev.flat] at h
    | stat => exact .stat
  | slice h =>
    intro u hu
    cases hu with
    | flat h => simp [Ev.flat] at h
    | slice h' hn hz ho => exact .slice (hν _ _ _ h h') hn hz ho
    | nilS => exact .nilS
  | nilS h => cases h
  | any => intro u hu; exact .any
  | map h =>
    intro u hu
    cases hu with
    | flat h => simp [Ev.flat] at h
    | map h' => exact .map (hν _ _ _ h h')
  | fn hs _ ih =>
    intro u hu
    obtain ⟨l', rfl, h'⟩ := VR.fn_iff.1 hu
    have := h'.size_eq
    exact .fn (by omega) fun i h1 h2 => ih i (by omega) h1 (h'.arr i (by omega) h2)
  | yield h =>
    intro u hu
    cases hu with
    | flat h => simp [Ev.flat] at h
    | yield h' => exact .yield (hν _ _ _ h h')
  | iface _ ih =>
    intro u hu
    cases hu with
    | flat h => simp [Ev.flat] at h
    | iface h' => exact .iface (ih h')
  | agg hs _ ih =>
    intro u hu
    obtain ⟨l', rfl, h'⟩ := VR.agg_iff.1 hu
    have := h'.size_eq
    exact .agg (by omega) fun i h1 h2 => ih i (by omega) h1 (h'.arr i (by omega) h2)
  | tuple hs _ ih =>
    intro u hu
    obtain ⟨l', rfl, h'⟩ := VR.tuple_iff.1 hu
    have := h'.size_eq
    exact .tuple (by omega) fun i h1 h2 => ih i (by omega) h1 (h'.arr i (by omega) h2)
/-- An array of what there is at each place. -/
theorem arr_ex {P : Value → Value → Prop} {l : Array Value} (h : ∀ (i : Nat) (h1 : i < l.size), ∃ v, P v l[i]) : ∃ l1 : Array Value, l1.size = l.size ∧ ∀ (i : Nat) (h1 : i < l1.size) (h2 : i < l.size), P l1[i] l[i] := by
  refine ⟨Array.ofFn fun i : Fin l.size => Classical.choose (h i.1 i.2), by simp, fun i h1 h2 => ?_⟩
  simp only [Array.getElem_ofFn]
  exact Classical.choose_spec (h i h2)
/-- Whatever has a meaning can be named anew. -/
theorem VR.can {ρ : Nat → Option Nat} {ν : Ren} (hρ : ∀ a, ∃ b, ρ b = some a) {v u : Value} (h : VR ν v u) : ∃ v1, RN false ρ v1 v := by
  induction h with
  | flat h => exact ⟨_, .flat h⟩
  | @ptr a o g S h => obtain ⟨b, hb⟩ := hρ a; exact ⟨_, .ptr hb⟩
  | stat => exact ⟨_, .stat⟩
  | @slice a o o' g S n c z c' h hn hz ho => obtain ⟨b, hb⟩ := hρ a; exact ⟨_, .slice (c := 0) hb⟩
  | @nilS a o z c => obtain ⟨b, hb⟩ := hρ a; exact ⟨_, .slice (c := 0) hb⟩
  | any => exact ⟨_, .any⟩
  | @map a g S h => obtain ⟨b, hb⟩ := hρ a; exact ⟨_, .map hb⟩
  | fn hs _ ih =>
    obtain ⟨l1, h1, h2⟩ := arr_ex (P := RN false ρ) fun i h1 => ih i h1 (by omega)
    exact ⟨_, .fn h1 h2⟩
  | @yield a g S h => obtain ⟨b, hb⟩ := hρ a; exact ⟨_, .yield hb⟩
  | iface _ ih => obtain ⟨v1, h1⟩ := ih; exact ⟨_, .iface h1⟩
  | agg hs _ ih =>
    obtain ⟨l1, h1, h2⟩ := arr_ex (P := RN false ρ) fun i h1 => ih i h1 (by omega)
    exact ⟨_, .agg h1 h2⟩
  | tuple hs _ ih =>
    obtain ⟨l1, h1, h2⟩ := arr_ex (P := RN false ρ) fun i h1 => ih i h1 (by omega)
    exact ⟨_, .tuple h1 h2⟩
/-- The same names, elsewhere: a value whose names are all ρ's. -/
theorem VR.cong {ρ : Nat → Option Nat} {ν ν1 : Ren} (hν : ∀ b a, ρ b = some a → ν1 b = ν b) {v v' : Value} (h : RN false ρ v v') : ∀ {u : Value}, VR ν v u → VR ν1 v u := by
  induction h with
  | flat h => intro u hu; rw [VR.eq_of_flat h hu]; exact .flat h
  | ptr h =>
    intro u hu
    cases hu with
    | flat h => simp [Ev.flat] at h
    | ptr h' => exact .ptr ((hν _ _ h).trans h')
  | stat =>
    intro u hu
    cases hu with
    | flat h => simp [Ev.flat] at h
    | stat => exact .stat
  | slice h =>
    intro u hu
    cases hu with
    | flat h => simp [Ev.flat] at h
    | slice h' hn hz ho => exact .slice ((hν _ _ h).trans h') hn hz ho
    | nilS => exact .nilS
  | nilS h => cases h
  | any => intro u hu; exact .any
  | map h =>
    intro u hu
    cases hu with
    | flat h => simp [Ev.flat] at h
    | map h' => exact .map ((hν _ _ h).trans h')
  | fn hs _ ih =>
    intro u hu
    obtain ⟨l', rfl, h'⟩ := VR.fn_iff.1 hu
    have := h'.size_eq
    exact .fn this fun i h1 h2 => ih i h1 (by omega) (h'.arr i h1 h2)
  | yield h =>
    intro u hu
    cases hu with
    | flat h => simp [Ev.flat] at h
    | yield h' => exact .yield ((hν _ _ h).trans h')
  | iface _ ih =>
    intro u hu
    cases hu with
    | flat h => simp [Ev.flat] at h
    | iface h' => exact .iface (ih h')
  | agg hs _ ih =>
    intro u hu
    obtain ⟨l', rfl, h'⟩ := VR.agg_iff.1 hu
    have := h'.size_eq
    exact .agg this fun i h1 h2 => ih i h1 (by omega) (h'.arr i h1 h2)
  | tuple hs _ ih =>
    intro u hu
    obtain ⟨l', rfl, h'⟩ := VR.tuple_iff.1 hu
    have := h'.size_eq
    exact .tuple this fun i h1 h2 => ih i h1 (by omega) (h'.arr i h1 h2)
/-- Lists under other names. -/
inductive RNs (f : Bool) (ρ : Nat → Option Nat) : List Value → List Value → Prop
  | nil : RNs f ρ [] []
  | cons {v1 v : Value} {l1 l : List Value} (h : RN f ρ v1 v) (t : RNs f ρ l1 l) : RNs f ρ (v1 :: l1) (v :: l)
theorem RNs.mono {f : Bool} {ρ ρ' : Nat → Option Nat} (hρ : ∀ b a, ρ b = some a → ρ' b = some a) {l1 l : List Value} (h : RNs f ρ l1 l) : RNs f ρ' l1 l := by
  induction h with
  | nil => exact .nil
  | cons h _ ih => exact .cons (h.mono hρ) ih
theorem RNs.flats {f : Bool} {ρ : Nat → Option Nat} : ∀ {l : List Value}, Ev.flats l = true → RNs f ρ l l
  | [], _ => .nil
  | v :: l, h => by
    simp only [Ev.flats, List.all_cons, Bool.and_eq_true] at h
    exact .cons (.flat h.1) (RNs.flats h.2)
theorem VRs.ren {f : Bool} {ρ : Nat → Option Nat} {ν ν1 : Ren} (hν : ∀ b a p, ρ b = some a → ν a = some p → ν1 b = some p) {l1 l : List Value} (h : RNs f ρ l1 l) : ∀ {k : List Value}, VRs ν l k → VRs ν1 l1 k := by
  induction h with
  | nil => intro k hk; cases hk; exact .nil
  | cons h _ ih => intro k hk; cases hk with | cons a b => exact .cons (VR.ren hν h a) (ih b)
theorem VRs.unren {ρ : Nat → Option Nat} {ν ν1 : Ren} (hν : ∀ b a p, ρ b = some a → ν1 b = some p → ν a = some p) {l1 l : List Value} (h : RNs false ρ l1 l) : ∀ {k : List Value}, VRs ν1 l1 k → VRs ν l k := by
  induction h with
  | nil => intro k hk; cases hk; exact .nil
  | cons h _ ih => intro k hk; cases hk with | cons a b => exact .cons (VR.unren hν h a) (ih b)
theorem VRs.can {ρ : Nat → Option Nat} {ν : Ren} (hρ : ∀ a, ∃ b, ρ b = some a) {l k : List Value} (h : VRs ν l k) : ∃ l1, RNs false ρ l1 l := by
  induction h with
  | nil => exact ⟨_, .nil⟩
  | cons h _ ih => obtain ⟨v1, h1⟩ := VR.can hρ h; obtain ⟨l1, h2⟩ := ih; exact ⟨_, .cons h1 h2⟩
theorem VRs.cong {ρ : Nat → Option Nat} {ν ν1 : Ren} (hν : ∀ b a, ρ b = some a → ν1 b = ν b) {l l' : List Value} (h : RNs false ρ l l') : ∀ {k : List Value}, VRs ν l k → VRs ν1 l k := by
  induction h with
  | nil => intro k hk; cases hk; exact .nil
  | cons h _ ih => intro k hk; cases hk with | cons a b => exact .cons (VR.cong hν h a) (ih b)
/-- A map's entries under other names. -/
inductive ERN (f : Bool) (ρ : Nat → Option Nat) : List MapEntry → List MapEntry → Prop
  | nil : ERN f ρ [] []
  | cons {e1 e : MapEntry} {l1 l : List MapEntry} (hk : e1.key = e.key) (hv : RN f ρ e1.val e.val) (t : ERN f ρ l1 l) : ERN f ρ (e1 :: l1) (e :: l)
theorem ERN.mono {f : Bool} {ρ ρ' : Nat → Option Nat} (hρ : ∀ b a, ρ b = some a → ρ' b = some a) {l1 l : List MapEntry} (h : ERN f ρ l1 l) : ERN f ρ' l1 l := by
  induction h with
  | nil => exact .nil
  | cons hk hv _ ih => exact .cons hk (hv.mono hρ) ih
theorem ER.ren {f : Bool} {ρ : Nat → Option Nat} {ν ν1 : Ren} (hν : ∀ b a p, ρ b = some a → ν a = some p → ν1 b = some p) {l1 l : List MapEntry} (h : ERN f ρ l1 l) : ∀ {k : List MapEntry}, ER ν l k → ER ν1 l1 k := by
  induction h with
  | nil => intro k hk; cases hk; exact .nil
  | cons hk hv _ ih => intro k hk'; cases hk' with | cons a b c => exact .cons (a.trans hk.symm) (VR.ren hν hv b) (ih c)
theorem ER.unren {ρ : Nat → Option Nat} {ν ν1 : Ren} (hν : ∀ b a p, ρ b = some a → ν1 b = some p → ν a = some p) {l1 l : List MapEntry} (h : ERN false ρ l1 l) : ∀ {k : List MapEntry}, ER ν1 l1 k → ER ν l k := by
  induction h with
  | nil => intro k hk; cases hk; exact .nil
  | cons hk hv _ ih => intro k hk'; cases hk' with | cons a b c => exact .cons (a.trans hk) (VR.unren hν hv b) (ih c)
theorem ER.can {ρ : Nat → Option Nat} {ν : Ren} (hρ : ∀ a, ∃ b, ρ b = some a) {l k : List MapEntry} (h : ER ν l k) : ∃ l1, ERN false ρ l1 l := by
  induction h with
  | nil => exact ⟨_, .nil⟩
  | @cons e e' l l' hk hv _ ih => obtain ⟨v1, h1⟩ := VR.can hρ hv; obtain ⟨l1, h2⟩ := ih; exact ⟨_, .cons (e1 := { e with val := v1 }) rfl h1 h2⟩
theorem ER.cong {ρ : Nat → Option Nat} {ν ν1 : Ren} (hν : ∀ b a, ρ b = some a → ν1 b = ν b) {l l' : List MapEntry} (h : ERN false ρ l l') : ∀ {k : List MapEntry}, ER ν l k → ER ν1 l k := by
  induction h with
  | nil => intro k hk; cases hk; exact .nil
  | cons hk hv _ ih => intro k hk'; cases hk' with | cons a b c => exact .cons a (VR.cong hν hv b) (ih c)
/-- The mark of a row that is only looked at; with f: it may be set. -/
inductive RoOk (f : Bool) : Nat × Nat → Nat × Nat → Prop
  | same {p : Nat × Nat} : RoOk f p p
  | share {p : Nat × Nat} (h : f = true) : RoOk f (1, 0) p
/-- Objects under other names. -/
inductive ORN (f : Bool) (ρ : Nat → Option Nat) : Obj → Obj → Prop
  | cells {c1 c : Array Value} {t : TypeId} {f1 f2 : Nat × Nat} (h : RNs f ρ c1.toList c.toList) (hf : RoOk f f1 f2 := by first | exact .same | exact .share rfl) : ORN f ρ (.cells c1 t f1) (.cells c t f2)
  | map {es1 es : Array MapEntry} {n : Nat} (h : ERN f ρ es1.toList es.toList) : ORN f ρ (.map es1 n) (.map es n)
theorem ORN.mono {f : Bool} {ρ ρ' : Nat → Option Nat} (hρ : ∀ b a, ρ b = some a → ρ' b = some a) {o1 o : Obj} (h : ORN f ρ o1 o) : ORN f ρ' o1 o := by
  cases h with
  | cells h hf => exact .cells (h.mono hρ) hf
  | map h => exact .map (h.mono hρ)
theorem RNs.weak {ρ : Nat → Option Nat} {l1 l : List Value} (h : RNs false ρ l1 l) : RNs true ρ l1 l := by
  induction h with
  | nil => exact .nil
  | cons h _ ih => exact .cons h.weak ih
theorem ERN.weak {ρ : Nat → Option Nat} {l1 l : List MapEntry} (h : ERN false ρ l1 l) : ERN true ρ l1 l := by
  induction h with
  | nil => exact .nil
  | cons hk hv _ ih => exact .cons hk hv.weak ih
theorem ORN.weak {ρ : Nat → Option Nat} {o1 o : Obj} (h : ORN false ρ o1 o) : ORN true ρ o1 o := by
  cases h with
  | cells h hf => exact .cells h.weak (by cases hf with | same => exact .same | share h => cases h)
  | map h => exact .map h.weak
theorem ORN.ro {ρ : Nat → Option Nat} {o1 o : Obj} (h : ORN false ρ o1 o) : ro o1 = ro o := by
  cases h with
  | cells h hf => cases hf with
    | same => rfl
    | share h => cases h
  | map h => rfl
theorem ORN.ro' {f : Bool} {ρ : Nat → Option Nat} {o1 o : Obj} (h : ORN f ρ o1 o) (hr : Ev.ro o = true) : Ev.ro o1 = true := by
  cases h with
  | cells h hf => cases hf with
    | same => exact hr
    | share h => rfl
  | map h => exact hr
theorem RoOk.back {f : Bool} {p q : Nat × Nat} (h : RoOk f p q) (hp : Nat.beq p.1 1 = false) : Nat.beq q.1 1 = false := by
  cases h with
  | same => exact hp
  | share h => cases hp
theorem RoOk.forth {p q : Nat × Nat} (h : RoOk false p q) (hp : Nat.beq q.1 1 = false) : Nat.beq p.1 1 = false := by
  cases h with
  | same => exact hp
  | share h => cases h
theorem OR.ren {f : Bool} {ρ : Nat → Option Nat} {ν ν1 : Ren} (hν : ∀ b a p, ρ b = some a → ν a = some p → ν1 b = some p) {o1 o ob : Obj} {S : Nat} (h : ORN f ρ o1 o) (h' : OR ν o ob S) : OR ν1 o1 ob S := by
  cases h with
  | cells h hr => cases h' with | cells vs rest hc hv hf => exact .cells vs rest hc (VRs.ren hν h hv) (fun k => hf (hr.back k))
  | map h => cases h' with | map hv => exact .map (ER.ren hν h hv)
theorem OR.unren {ρ : Nat → Option Nat} {ν ν1 : Ren} (hν : ∀ b a p, ρ b = some a → ν1 b = some p → ν a = some p) {o1 o ob : Obj} {S : Nat} (h : ORN false ρ o1 o) (h' : OR ν1 o1 ob S) : OR ν o ob S := by
  cases h with
  | cells h hr => cases h' with | cells vs rest hc hv hf => exact .cells vs rest hc (VRs.unren hν h hv) (fun k => hf (hr.forth k))
  | map h => cases h' with | map hv => exact .map (ER.unren hν h hv)
theorem OR.can {ρ : Nat → Option Nat} {ν : Ren} (hρ : ∀ a, ∃ b, ρ b = some a) {o ob : Obj} {S : Nat} (h : OR ν o ob S) : ∃ o1, ORN false ρ o1 o := by
  cases h with
  | @cells c c' t t' f f' vs rest hc hv hf => obtain ⟨l1, h1⟩ := VRs.can hρ hv; exact ⟨.cells ⟨l1⟩ t f, .cells h1⟩
  | map hv => obtain ⟨l1, h1⟩ := ER.can hρ hv; exact ⟨.map ⟨l1⟩ _, .map h1⟩
theorem OR.cong {ρ : Nat → Option Nat} {ν ν1 : Ren} (hν : ∀ b a, ρ b = some a → ν1 b = ν b) {o o' ob : Obj} {S : Nat} (h : ORN false ρ o o') (h' : OR ν o ob S) : OR ν1 o ob S := by
  cases h with
  | cells h => cases h' with | cells vs rest hc hv hf => exact .cells vs rest hc (VRs.cong hν h hv) hf
  | map h => cases h' with | map hv => exact .map (ER.cong hν h hv)
end Go.Ev
