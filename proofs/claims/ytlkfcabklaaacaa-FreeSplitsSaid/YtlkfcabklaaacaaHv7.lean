/- Words of my own: contracts of functions that look at rows and return new ones. -/
import Derived.Test.YtlkfcabklaaacaaHv6
set_option linter.unusedVariables false
set_option linter.unusedSimpArgs false
set_option linter.unusedSectionVars false
namespace Go.Ev
open Go.RowKit
theorem RNs.of_eq {f : Bool} {ρ : Nat → Option Nat} {l1 l : List Value} (h : l1 = l) (hf : Ev.flats l = true) : RNs f ρ l1 l := by subst h; exact RNs.flats hf
theorem RN.of_eq {f : Bool} {ρ : Nat → Option Nat} {v1 v : Value} (h : v1 = v) (hf : Ev.flat v = true) : RN f ρ v1 v := by subst h; exact .flat hf
/-- The rows that a function looks at: its own names (left), the caller's. -/
inductive ARs (k0 : Nat) (h0 h : List (Nat × Obj)) (ρ : Nat → Option Nat) : List (Nat × Nat) → Prop
  | nil : ARs k0 h0 h ρ []
  | cons {b a : Nat} {o o1 : Obj} {R : List (Nat × Nat)} (hb : Nat.ble (Nat.succ b) k0 = true) (ho : aget h0 b = some o) (ho1 : aget h a = some o1) (r : ORN false ρ o o1) (hn : ∀ c, aget R c = some a → False) (t : ARs k0 h0 h ρ R) : ARs k0 h0 h ρ ((b, a) :: R)
theorem ARs.get {k0 : Nat} {h0 h : List (Nat × Obj)} {ρ : Nat → Option Nat} {R : List (Nat × Nat)} (hR : ARs k0 h0 h ρ R) :
    (∀ b a, aget R b = some a → b < k0 ∧ a ∈ R.map (·.2) ∧ ∃ o o1, aget h0 b = some o ∧ aget h a = some o1 ∧ ORN false ρ o o1) ∧ ∀ b b' a, aget R b = some a → aget R b' = some a → b = b' := by
  induction hR with
  | nil => exact ⟨fun b a h => (by cases h), fun b b' a h => (by cases h)⟩
  | @cons b0 a0 o o1 R hb ho ho1 r hn t ih =>
    refine ⟨fun b a h => ?_, fun b b' a h h' => ?_⟩
    · rw [aget_cons] at h
      by_cases e : b = b0
      · rw [if_pos e] at h
        obtain rfl := Option.some.inj h
        exact ⟨by rw [e]; exact ble_iff.1 hb, List.mem_cons_self, o, o1, by rw [e]; exact ho, ho1, r⟩
      · rw [if_neg e] at h
        obtain ⟨k1, k2, k3⟩ := ih.1 b a h
        exact ⟨k1, List.mem_cons_of_mem _ k2, k3⟩
    · rw [aget_cons] at h h'
      by_cases e : b = b0 <;> by_cases e' : b' = b0
      · rw [e, e']
      · rw [if_pos e] at h; rw [if_neg e'] at h'
        obtain rfl := Option.some.inj h
        exact (hn _ h').elim
      · rw [if_neg e] at h; rw [if_pos e'] at h'
        obtain rfl := Option.some.inj h'
        exact (hn _ h).elim
      · rw [if_neg e] at h; rw [if_neg e'] at h'
        exact ih.2 b b' a h h'
/-- What is new: m objects, under the function's names and the caller's. -/
inductive NRs (k0 nx : Nat) (ρ : Nat → Option Nat) : Nat → List (Nat × Obj) → List (Nat × Obj) → Prop
  | nil : NRs k0 nx ρ 0 [] []
  | cons {m : Nat} {o o1 : Obj} {l l1 : List (Nat × Obj)} (r : ORN false ρ o o1) (t : NRs k0 nx ρ m l l1) : NRs k0 nx ρ (m + 1) ((k0 + m, o) :: l) ((nx + m, o1) :: l1)
theorem NRs.get {k0 nx m : Nat} {ρ : Nat → Option Nat} {l l1 : List (Nat × Obj)} (h : NRs k0 nx ρ m l l1) :
    (∀ i, (nx ≤ i ∧ i < nx + m) → ∃ o o1, aget l1 i = some o1 ∧ aget l (k0 + (i - nx)) = some o ∧ ORN false ρ o o1) ∧ (∀ i, ¬(nx ≤ i ∧ i < nx + m) → aget l1 i = none) ∧ ∀ i, ¬(k0 ≤ i ∧ i < k0 + m) → aget l i = none := by
  induction h with
  | nil => exact ⟨fun i h => by omega, fun i _ => rfl, fun i _ => rfl⟩
  | @cons m o o1 l l1 r t ih =>
    obtain ⟨i1, i2, i3⟩ := ih
    refine ⟨fun i hi => ?_, fun i hi => ?_, fun i hi => ?_⟩
    · by_cases e : i = nx + m
      · exact ⟨o, o1, by rw [aget_cons, if_pos e], by rw [aget_cons, if_pos (by omega)], r⟩
      · obtain ⟨o', o1', k1, k2, k3⟩ := i1 i (by omega)
        exact ⟨o', o1', by rw [aget_cons, if_neg e]; exact k1, by rw [aget_cons, if_neg (by omega)]; exact k2, k3⟩
    · rw [aget_cons, if_neg (by omega)]
      exact i2 i (by omega)
    · rw [aget_cons, if_neg (by omega)]
      exact i3 i (by omega)
theorem aget_app {α : Type} (l k : List (Nat × α)) (i : Nat) : aget (l ++ k) i = match aget l i with | some o => some o | none => aget k i := by
  induction l with
  | nil => rfl
  | cons p l ih =>
    show aget (p :: (l ++ k)) i = _
    rw [aget_cons, aget_cons]
    by_cases e : i = p.1
    · rw [if_pos e, if_pos e]
    · rw [if_neg e, if_neg e, ih]
theorem CallR.lay {C : Cfg} {g : FuncId} {vs0 vs : List Value} {h0 h news0 news : List (Nat × Obj)} {k0 nx m : Nat} {v0 v : Value} (R : List (Nat × Nat))
    (hc : CW C g vs0 ⟨h0, k0, [], [], []⟩ fun v' s1 => v' = v0 ∧ s1 = ⟨news0 ++ h0, k0 + m, [], [], []⟩) (hk : Nat.ble k0 KB = true) (hwf : wfB k0 h0 = true)
    (h1 : RNs true (aget R) vs0 vs) (hR : ARs k0 h0 h (aget R) R)
    (hv : RN false (fun b => if b < k0 then aget R b else if b < k0 + m then some (nx + (b - k0)) else none) v0 v)
    (hn : NRs k0 nx (fun b => if b < k0 then aget R b else if b < k0 + m then some (nx + (b - k0)) else none) m news0 news) :
    CallR C g vs ⟨h, nx, [], [], []⟩ v ⟨news ++ h, nx + m, R.map (·.2), [], []⟩ := by
  obtain ⟨r1, r2⟩ := hR.get
  obtain ⟨n1, n2, n3⟩ := hn.get
  refine CallR.of_CW (R := R) (fun b => if b < k0 then aget R b else if b < k0 + m then some (nx + (b - k0)) else none) hc (ble_iff.1 hk) hwf h1 (fun b a hb => ?_) r2 ?_ ?_ (fun b => rfl) hv (fun a o1 ha ho => ?_) (fun b a hb _ => ?_) (fun b a hb _ o o1 ho ho1 => ?_)
  · obtain ⟨k1, k2, o, o1, k3, k4, k5⟩ := r1 b a hb
    exact ⟨k1, o, o1, k3, k4, k5.weak, k2⟩
  · refine ⟨fun id h => (by cases h), fun id h => h, Nat.le_add_right _ _, fun id _ hid => ?_, fun hw id o ho => ?_⟩
    · show aget (news ++ h) id = aget h id
      rw [aget_app, n2 id hid]
    · have ho : aget (news ++ h) id = some o := ho
      rw [aget_app] at ho
      by_cases hid : nx ≤ id ∧ id < nx + m
      · exact hid.2
      · rw [n2 id hid] at ho
        have := hw id o ho
        exact Nat.lt_of_lt_of_le this (Nat.le_add_right _ _)
  · show nx + m = nx + (k0 + m - k0)
    omega
  · rcases ha with ha | ha
    · cases ha
    · have ha : nx ≤ a ∧ a < nx + m := ha
      obtain ⟨o, o2, k1, k2, k3⟩ := n1 a ha
      have ho : aget (news ++ h) a = some o1 := ho
      rw [aget_app, k1] at ho
      obtain rfl := Option.some.inj ho
      refine ⟨k0 + (a - nx), o, ?_, ?_, k3⟩
      · rw [if_neg (by omega), if_pos (by omega)]
        congr 1
        omega
      · show aget (news0 ++ h0) (k0 + (a - nx)) = some o
        rw [aget_app, k2]
  · show aget (news0 ++ h0) b = aget h0 b
    rw [aget_app, n3 b (by have := (r1 b a hb).1; omega)]
  · obtain ⟨k1, k2, o', o1', k3, k4, k5⟩ := r1 b a hb
    have ho : aget h0 b = some o := ho
    have ho1 : aget h a = some o1 := ho1
    rw [k3] at ho; rw [k4] at ho1
    obtain rfl := Option.some.inj ho
    obtain rfl := Option.some.inj ho1
    exact k5
theorem NRs.lt {k0 nx m : Nat} {ρ : Nat → Option Nat} {l l1 : List (Nat × Obj)} (h : NRs k0 nx ρ m l l1) : ∀ i o, aget l1 i = some o → nx ≤ i ∧ i < nx + m := fun i o ho => by
  by_cases hi : nx ≤ i ∧ i < nx + m
  · exact hi
  · rw [h.get.2.1 i hi] at ho; cases ho
/-- The same, where one of the objects that the function is given is written. -/
theorem CallR.lay2 {C : Cfg} {g : FuncId} {vs0 vs : List Value} {h0 h0' h h' news0 news : List (Nat × Obj)} {k0 nx m : Nat} {v0 v : Value} {ob ob1 : Obj} {b0 a0 : Nat} (R : List (Nat × Nat))
    (hc : CW C g vs0 ⟨h0, k0, [], [], []⟩ fun v' s1 => v' = v0 ∧ s1 = ⟨news0 ++ h0', k0 + m, [], [], []⟩) (hk : Nat.ble k0 KB = true) (hwf : wfB k0 h0 = true)
    (h1 : RNs true (aget R) vs0 vs) (hR : ARs k0 h0 h (aget R) R)
    (hv : RN false (fun b => if b < k0 then aget R b else if b < k0 + m then some (nx + (b - k0)) else none) v0 v)
    (hn : NRs k0 nx (fun b => if b < k0 then aget R b else if b < k0 + m then some (nx + (b - k0)) else none) m news0 news)
    (hb : aget R b0 = some a0) (ho : aget h0' b0 = some ob) (hoo : ∀ b, b ≠ b0 → aget h0' b = aget h0 b) (r : ORN false (aget R) ob ob1) (hh : aput h a0 ob1 = h') :
    CallR C g vs ⟨h, nx, [], [], []⟩ v ⟨news ++ h', nx + m, R.map (·.2), [a0], []⟩ := by
  subst hh
  obtain ⟨r1, r2⟩ := hR.get
  obtain ⟨n1, n2, n3⟩ := hn.get
  obtain ⟨hbk, ha0R, o00, o01, q1, q2, q3⟩ := r1 b0 a0 hb
  refine CallR.of_CW (R := R) (fun b => if b < k0 then aget R b else if b < k0 + m then some (nx + (b - k0)) else none) hc (ble_iff.1 hk) hwf h1 (fun b a hb => ?_) r2 ?_ ?_ (fun b => rfl) hv (fun a o1 ha ho1 => ?_) (fun b a hb' hw => ?_) (fun b a hb' _ o o1 ho ho1 => ?_)
  · obtain ⟨k1, k2, o, o1, k3, k4, k5⟩ := r1 b a hb
    exact ⟨k1, o, o1, k3, k4, k5.weak, k2⟩
  · refine ⟨fun id h => (by cases h), fun id h => (by cases h), Nat.le_add_right _ _, fun id hw hid => ?_, fun hw id o ho => ?_⟩
    · show aget (news ++ aput h a0 ob1) id = aget h id
      rw [aget_app, n2 id hid, aget_aput, if_neg (fun e => hw (by rw [e]; exact List.mem_singleton.2 rfl))]
    · have ho : aget (news ++ aput h a0 ob1) id = some o := ho
      rw [aget_app] at ho
      by_cases hid : nx ≤ id ∧ id < nx + m
      · exact hid.2
      · rw [n2 id hid, aget_aput] at ho
        refine Nat.lt_of_lt_of_le ?_ (Nat.le_add_right nx m)
        by_cases e : id = a0
        · rw [e]; exact hw a0 o01 q2
        · rw [if_neg e] at ho
          exact hw id o ho
  · show nx + m = nx + (k0 + m - k0)
    omega
  · by_cases hnew : nx ≤ a ∧ a < nx + m
    · obtain ⟨o, o2, k1, k2, k3⟩ := n1 a hnew
      have ho1 : aget (news ++ aput h a0 ob1) a = some o1 := ho1
      rw [aget_app, k1] at ho1
      obtain rfl := Option.some.inj ho1
      refine ⟨k0 + (a - nx), o, ?_, ?_, k3⟩
      · rw [if_neg (by omega), if_pos (by omega)]
        congr 1
        omega
      · show aget (news0 ++ h0') (k0 + (a - nx)) = some o
        rw [aget_app, k2]
    · have ea : a = a0 := by
        rcases ha with ha | ha
        · exact List.mem_singleton.1 ha
        · exact absurd ha hnew
      subst ea
      have ho1 : aget (news ++ aput h a ob1) a = some o1 := ho1
      rw [aget_app, n2 a hnew, aget_aput, if_pos rfl] at ho1
      obtain rfl := Option.some.inj ho1
      refine ⟨b0, ob, by rw [if_pos hbk]; exact hb, ?_, r.mono fun c d hcd => ?_⟩
      · show aget (news0 ++ h0') b0 = some ob
        rw [aget_app, n3 b0 (by omega)]
        exact ho
      · rw [if_pos (r1 c d hcd).1]; exact hcd
  · show aget (news0 ++ h0') b = aget h0 b
    rw [aget_app, n3 b (by have := (r1 b a hb').1; omega)]
    refine hoo b fun e => hw ?_
    rw [e, hb] at hb'
    rw [Option.some.inj hb']
    exact List.mem_singleton.2 rfl
  · obtain ⟨k1, k2, o', o1', k3, k4, k5⟩ := r1 b a hb'
    have ho : aget h0 b = some o := ho
    have ho1 : aget h a = some o1 := ho1
    rw [k3] at ho; rw [k4] at ho1
    obtain rfl := Option.some.inj ho
    obtain rfl := Option.some.inj ho1
    exact k5
end Go.Ev
