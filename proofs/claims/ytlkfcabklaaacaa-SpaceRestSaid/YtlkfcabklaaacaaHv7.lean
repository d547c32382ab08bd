/- Words of my own: contracts of functions that look at rows and return new ones. -/
import Derived.Test.YtlkfcabklaaacaaHv6
set_option linter.unusedVariables false
set_option linter.unusedSimpArgs false
set_option linter.unusedSectionVars false
namespace Go.Ev
open Go.RowKit
theorem RNs.of_eq {f : Bool} {ρ : Nat → Option Nat} {l1 l : List Value} (h : l1 = l) (hf : Ev.flats l = true) : RNs f ρ l1 l := by subst h; exact RNs.flats hf
theorem RN.of_eq {f : Bool} {ρ : Nat → Option Nat} {v1 v : Value} (h : v1 = v) (hf : Ev.flat v = true) : RN f ρ v1 v := by subst h; exact .flat hf
/-- The rows that a function looks at: its own names (left), the caller's. -/
inductive ARs (k0 : Nat) (h0 h : List (Nat × Obj)) (ρ : Nat → Option Nat) : List (Nat × Nat) → Prop
  | nil : ARs k0 h0 h ρ []
  | cons {b a : Nat} {o o1 : Obj} {R : List (Nat × Nat)} (hb : Nat.ble (Nat.succ b) k0 = true) (ho : aget h0 b = some o) (ho1 : aget h a = some o1) (r : ORN false ρ o o1) (hn : ∀ c, aget R c = some a → False) (t : ARs k0 h0 h ρ R) : ARs k0 h0 h ρ ((b, a) :: R)
theorem ARs.get {k0 : Nat} {h0 h : List (Nat × Obj)} {ρ : Nat → Option Nat} {R : List (Nat × Nat)} (hR : ARs k0 h0 h ρ R) :
    (∀ b a, aget R b = some a → b < k0 ∧ a ∈ R.map (·.2) ∧ ∃ o o1, aget h0 b = some o ∧ aget h a = some o1 ∧ ORN false ρ o o1) ∧ ∀ b b' a, aget R b = some a → aget R b' = some a → b = b' := by
  induction hR with
  | nil => exact ⟨fun b a h => (by cases h), fun b b' a h => (by cases h)⟩
  | @cons b0 a0 o o1 R hb ho ho1 r hn t ih =>
    refine ⟨fun b a h => ?_, fun b b' a h h' => ?_⟩
    · rw [aget_cons] at h
      by_cases e : b = b0
      · rw [if_pos e] at h
        obtain rfl := Option.some.inj h
        exact ⟨by rw [e]; exact ble_iff.1 hb, List.mem_cons_self, o, o1, by rw [e]; exact ho, ho1, r⟩
      · rw [if_neg e] at h
        obtain ⟨k1, k2, k3⟩ := ih.1 b a h
        exact ⟨k1, List.mem_cons_of_mem _ k2, k3⟩
    · rw [aget_cons] at h h'
      by_cases e : b = b0 <;> by_cases e' : b' = b0
      · rw [e, e']
      · rw [if_pos e] at h; rw [if_neg e'] at h'
        obtain rfl := Option.some.inj h
        exact (hn _ h').elim
      · rw [if_neg e] at h; rw [if_pos e'] at h'
        obtain rfl := Option.some.inj h'
        exact (hn _ h).elim
      · rw [if_neg e] at h; rw [if_neg e'] at h'
        exact ih.2 b b' a h h'
/-- What is new: m objects, under the function's names and the caller's. -/
inductive NRs (k0 nx : Nat) (ρ : Nat → Option Nat) : Nat → List (Nat × Obj) → List (Nat × Obj) → Prop
  | nil : NRs k0 nx ρ 0 [] []
  | cons {m : Nat} {o o1 : Obj} {l l1 : List (Nat × Obj)} (r : ORN false ρ o o1) (t : NRs k0 nx ρ m l l1) : NRs k0 nx ρ (m + 1) ((k0 + m, o) :: l) ((nx + m, o1) :: l1)
theorem NRs.get {k0 nx m : Nat} {ρ : Nat → Option Nat} {l l1 : List (Nat × Obj)} (h : NRs k0 nx ρ m l l1) :
    (∀ i, (nx ≤ i ∧ i < nx + m) → ∃ o o1, aget l1 i = some o1 ∧ aget l (k0 + (i - nx)) = some o ∧ ORN false ρ o o1) ∧ (∀ i, ¬(nx ≤ i ∧ i < nx + m) → aget l1 i = none) ∧ ∀ i, ¬(k0 ≤ i ∧ i < k0 + m) → aget l i = none := by
  induction h with
  | nil => exact ⟨fun i h => by omega, fun i _ => rfl, fun i _ => rfl⟩
  | @cons m o o1 l l1 r t ih =>
    obtain ⟨i1, i2, i3⟩ := ih
    refine ⟨fun i hi => ?_, fun i hi => ?_, fun i hi => ?_⟩
    · by_cases e : i = nx + m
      · exact ⟨o, o1, by rw [aget_cons, if_pos e], by rw [aget_cons, if_pos (by omega)], r⟩
      · obtain ⟨o', o1', k1, k2, k3⟩ := i1 i (by omega)
        exact ⟨o', o1', by rw [aget_cons, if_neg e]; exact k1, by rw [aget_cons, if_neg (by omega)]; exact k2, k3⟩
    · rw [aget_cons, if_neg (by omega)]
      exact i2 i (by omega)
    · rw [aget_cons, if_neg (by omega)]
      exact i3 i (by omega)
theorem aget_app {α : Type} (l k : List (Nat × α)) (i : Nat) : aget (l ++ k) i = match aget l i with | some o => some o | none => aget k i := by
  induction l with
  | nil => rfl
  | cons p l ih =>
    show aget (p :: (l ++ k)) i = _
    rw [aget_cons, aget_cons]
    by_cases e : i = p.1
    · rw [if_pos e, if_pos e]
    · rw [if_neg e, if_neg e, ih]
end Go.Ev
