/- Words of my own: regions whose order is drawn: whatever the order, what comes of them is what comes of the order in which they stand. -/
import Derived.Test.YtlkfcabklaaacaaEv12
set_option linter.unusedVariables false
set_option linter.unusedSimpArgs false
namespace Go.Ev
open Go.RowKit
/-- What an operation waits for, all told, as bits. -/
noncomputable def bitsOf (acc : List Nat) (l : List Edge) : Nat := List.rec (motive := fun _ => Nat) 0 (fun e _ ih => Bool.rec (motive := fun _ => Nat) ih (Nat.lor ih (Nat.lor (Nat.pow 2 e.on) ((nth acc e.on).getD 0))) (Region.binds .any e)) l
noncomputable def masks (l : List Oper) : List Nat → List Nat := List.rec (motive := fun _ => List Nat → List Nat) (fun acc => acc) (fun o _ ih acc => ih (app acc [bitsOf acc o.after.toList])) l
/-- An edge, and what comes of edges. -/
def Edg (ops : Array Oper) (j i : Nat) : Prop := ∃ o e, ops[i]? = some o ∧ e ∈ o.after ∧ Region.binds .any e = true ∧ e.on = j
inductive Anc (ops : Array Oper) : Nat → Nat → Prop
  | one {j i : Nat} (h : Edg ops j i) : Anc ops j i
  | more {j k i : Nat} (h : Anc ops j k) (e : Edg ops k i) : Anc ops j i
theorem bitsOf_ok (acc : List Nat) (j : Nat) : ∀ (l : List Edge), Nat.testBit (bitsOf acc l) j = true → ∃ e ∈ l, Region.binds .any e = true ∧ (e.on = j ∨ ∃ M, acc[e.on]? = some M ∧ Nat.testBit M j = true)
  | [], h => by simp [bitsOf] at h
  | e :: l, h => by
    change Nat.testBit (Bool.rec (motive := fun _ => Nat) (bitsOf acc l) (Nat.lor (bitsOf acc l) (Nat.lor (Nat.pow 2 e.on) ((nth acc e.on).getD 0))) (Region.binds .any e)) j = true at h
    cases hb : Region.binds .any e <;> rw [hb] at h
    · obtain ⟨e', h1, h2⟩ := bitsOf_ok acc j l h
      exact ⟨e', List.mem_cons_of_mem _ h1, h2⟩
    · change Nat.testBit (bitsOf acc l ||| (2 ^ e.on ||| (nth acc e.on).getD 0)) j = true at h
      rw [Nat.testBit_or, Nat.testBit_or, Bool.or_eq_true, Bool.or_eq_true] at h
      rcases h with h | h | h
      · obtain ⟨e', h1, h2⟩ := bitsOf_ok acc j l h
        exact ⟨e', List.mem_cons_of_mem _ h1, h2⟩
      · rw [Nat.testBit_two_pow] at h
        exact ⟨e, List.mem_cons_self, hb, .inl (of_decide_eq_true h)⟩
      · refine ⟨e, List.mem_cons_self, hb, .inr ?_⟩
        rw [nth_eq] at h
        cases hm : acc[e.on]? with
        | none => rw [hm] at h; simp at h
        | some M => rw [hm] at h; exact ⟨M, rfl, h⟩
theorem masks_ok {ops : Array Oper} : ∀ (l : List Oper) (acc : List Nat), ops.toList.drop acc.length = l → (∀ (k M : Nat), acc[k]? = some M → ∀ j, Nat.testBit M j = true → Anc ops j k) →
    ∀ (k M : Nat), (masks l acc)[k]? = some M → ∀ j, Nat.testBit M j = true → Anc ops j k
  | [], acc, _, h => h
  | o :: l, acc, hl, h => by
    show ∀ (k M : Nat), (masks l (app acc [bitsOf acc o.after.toList]))[k]? = some M → ∀ j, Nat.testBit M j = true → Anc ops j k
    rw [app_eq]
    have hi : ops[acc.length]? = some o := by
      have : (ops.toList.drop acc.length)[0]? = some o := by rw [hl]; rfl
      rw [List.getElem?_drop] at this
      simpa using this
    refine masks_ok l _ (by rw [List.length_append, ← List.drop_drop, hl]; rfl) fun k M hk j hj => ?_
    by_cases hlt : k < acc.length
    · rw [List.getElem?_append_left hlt] at hk
      exact h k M hk j hj
    · have : k = acc.length := by
        have := (List.getElem?_eq_some_iff.1 hk).1
        simp at this
        omega
      subst this
      simp at hk
      subst hk
      obtain ⟨e, he, hb, h1⟩ := bitsOf_ok acc j _ hj
      have hedge : Edg ops e.on acc.length := ⟨o, e, hi, by simpa using he, hb, rfl⟩
      rcases h1 with h1 | ⟨M, hM, hMj⟩
      · exact .one (h1 ▸ hedge)
      · exact .more (h _ M hM j hMj) hedge
/-- What an operation looks at. -/
noncomputable def opTmps (l : List Operand) : List Nat := List.rec (motive := fun _ => List Nat) [] (fun x _ ih => match x with | .tmp t => t :: ih | _ => ih) l
noncomputable def looks (ops : List Oper) (o : Oper) : List Nat :=
  match o.guard with
  | none => opTmps o.op.operands.toList
  | some (g, _) => match nth ops g with
    | some og => match og.dst with
      | some d => d :: opTmps o.op.operands.toList
      | none => opTmps o.op.operands.toList
    | none => opTmps o.op.operands.toList
noncomputable def restr (T : Tm) (l : List Nat) : Tm := List.rec (motive := fun _ => Tm) [] (fun t _ ih => match aget T t with | some v => (t, v) :: ih | none => ih) l
theorem aget_restr (T : Tm) : ∀ (l : List Nat) (t : Nat) (v : Value), aget (restr T l) t = some v → t ∈ l ∧ aget T t = some v
  | [], t, v, h => by cases h
  | a :: l, t, v, h => by
    change aget (match aget T a with | some v => (a, v) :: restr T l | none => restr T l) t = some v at h
    split at h
    · rename_i u hu
      rw [aget_cons] at h
      by_cases e : t = a
      · rw [if_pos e] at h
        obtain rfl := Option.some.inj h
        exact ⟨by rw [e]; exact List.mem_cons_self, by rw [e]; exact hu⟩
      · rw [if_neg e] at h
        obtain ⟨h1, h2⟩ := aget_restr T l t v h
        exact ⟨List.mem_cons_of_mem _ h1, h2⟩
    · obtain ⟨h1, h2⟩ := aget_restr T l t v h
      exact ⟨List.mem_cons_of_mem _ h1, h2⟩
/-- May two operations that are not ordered stand in either order? (The slots.) -/
noncomputable def notIn (d : Option Nat) (l : List Nat) : Bool := match d with | none => true | some d => Bool.rec (motive := fun _ => Bool) true false (mem l d)
noncomputable def apartB (ops : List Oper) (x y : Oper) : Bool :=
  Bool.rec (motive := fun _ => Bool) false (Bool.rec (motive := fun _ => Bool) false (match x.dst, y.dst with | some a, some b => Bool.rec (motive := fun _ => Bool) true false (Nat.beq a b) | _, _ => true) (notIn y.dst (looks ops x))) (notIn x.dst (looks ops y))
/-- All that stand ahead of the operation with the number k: ordered, or apart. -/
noncomputable def aheadB (ops : List Oper) (M : Nat) (y : Oper) (l : List Oper) : Nat → Nat → Bool := List.rec (motive := fun _ => Nat → Nat → Bool) (fun _ _ => true) (fun x _ ih i n => Nat.rec (motive := fun _ => Bool) true (fun n' _ => Bool.rec (motive := fun _ => Bool) false (ih (Nat.succ i) n') (Bool.rec (motive := fun _ => Bool) (apartB ops x y) true (Nat.testBit M i))) n) l
noncomputable def edgesB (k : Nat) (l : List Edge) : Bool := List.rec (motive := fun _ => Bool) true (fun e _ ih => Bool.rec (motive := fun _ => Bool) false ih (Bool.rec (motive := fun _ => Bool) true (Nat.ble (Nat.succ e.on) k) (Region.binds .any e))) l
noncomputable def regB (ops : List Oper) (ms : List Nat) (l : List Oper) : Nat → Bool := List.rec (motive := fun _ => Nat → Bool) (fun _ => true) (fun y _ ih k => Bool.rec (motive := fun _ => Bool) false (Bool.rec (motive := fun _ => Bool) false (ih (Nat.succ k)) (match nth ms k with | some M => aheadB ops M y ops 0 k | none => false)) (edgesB k y.after.toList)) l
noncomputable def regOk (ops : List Oper) : Bool := regB ops (masks ops []) ops 0
theorem edgesB_ok (k : Nat) : ∀ {l : List Edge}, edgesB k l = true → ∀ e ∈ l, Region.binds .any e = true → e.on < k
  | [], _, _, h, _ => by cases h
  | e :: l, h, e', he, hb => by
    change Bool.rec (motive := fun _ => Bool) false (edgesB k l) (Bool.rec (motive := fun _ => Bool) true (Nat.ble (Nat.succ e.on) k) (Region.binds .any e)) = true at h
    cases h1 : (Bool.rec (motive := fun _ => Bool) true (Nat.ble (Nat.succ e.on) k) (Region.binds .any e)) <;> rw [h1] at h
    · cases h
    rcases List.mem_cons.1 he with rfl | he
    · rw [hb] at h1
      exact ble_iff.1 h1
    · exact edgesB_ok k h e' he hb
theorem aheadB_ok (ops : List Oper) (M : Nat) (y : Oper) : ∀ (l : List Oper) (i n : Nat), aheadB ops M y l i n = true → ∀ j x, j < n → l[j]? = some x → Nat.testBit M (i + j) = true ∨ apartB ops x y = true
  | [], i, n, _, j, x, _, hx => by simp at hx
  | x0 :: l, i, n, h, j, x, hj, hx => by
    cases n with
    | zero => omega
    | succ n' =>
      change Bool.rec (motive := fun _ => Bool) false (aheadB ops M y l (Nat.succ i) n') (Bool.rec (motive := fun _ => Bool) (apartB ops x0 y) true (Nat.testBit M i)) = true at h
      cases h1 : (Bool.rec (motive := fun _ => Bool) (apartB ops x0 y) true (Nat.testBit M i)) <;> rw [h1] at h
      · cases h
      cases j with
      | zero =>
        simp at hx
        subst hx
        cases h2 : Nat.testBit M i <;> rw [h2] at h1
        · first | exact .inr h1 | exact .inr (by exact h1)
        · first | exact .inl h2 | exact .inl rfl
      | succ j =>
        have := aheadB_ok ops M y l (Nat.succ i) n' h j x (by omega) (by simpa using hx)
        rw [show Nat.succ i + j = i + (j + 1) by omega] at this
        exact this
theorem regB_ok (ops : List Oper) (ms : List Nat) : ∀ (l : List Oper) (k : Nat), regB ops ms l k = true → ∀ j y, l[j]? = some y → (∀ e ∈ y.after.toList, Region.binds .any e = true → e.on < k + j) ∧ ∃ M, ms[k + j]? = some M ∧ ∀ i x, i < k + j → ops[i]? = some x → Nat.testBit M i = true ∨ apartB ops x y = true
  | [], k, _, j, y, hy => by simp at hy
  | y0 :: l, k, h, j, y, hy => by
    change Bool.rec (motive := fun _ => Bool) false (Bool.rec (motive := fun _ => Bool) false (regB ops ms l (Nat.succ k)) (match nth ms k with | some M => aheadB ops M y0 ops 0 k | none => false)) (edgesB k y0.after.toList) = true at h
    cases h1 : edgesB k y0.after.toList <;> rw [h1] at h
    · cases h
    cases h2 : (match nth ms k with | some M => aheadB ops M y0 ops 0 k | none => false) <;> rw [h2] at h
    · cases h
    cases j with
    | zero =>
      simp at hy
      subst hy
      refine ⟨edgesB_ok k h1, ?_⟩
      split at h2
      · rename_i M hM
        rw [nth_eq] at hM
        refine ⟨M, hM, fun i x hi hx => ?_⟩
        have := aheadB_ok ops M y0 ops 0 k h2 i x hi hx
        simpa using this
      · cases h2
    | succ j =>
      have := regB_ok ops ms l (Nat.succ k) h j y (by simpa using hy)
      rw [show Nat.succ k + j = k + (j + 1) by omega] at this
      exact this
theorem apartB_ok {ops : List Oper} {x y : Oper} (h : apartB ops x y = true) : (∀ d, x.dst = some d → d ∉ looks ops y) ∧ (∀ d, y.dst = some d → d ∉ looks ops x) ∧ (∀ d, x.dst = some d → y.dst ≠ some d) := by
  unfold apartB at h
  cases h1 : notIn x.dst (looks ops y) <;> rw [h1] at h
  · cases h
  cases h2 : notIn y.dst (looks ops x) <;> rw [h2] at h
  · cases h
  have key : ∀ {d : Option Nat} {l : List Nat}, notIn d l = true → ∀ t, d = some t → t ∉ l := by
    intro d l h t ht hm
    subst ht
    unfold notIn at h
    dsimp only at h
    rw [(mem_iff l t).2 hm] at h
    cases h
  refine ⟨key h1, key h2, fun d hd hy => ?_⟩
  dsimp only at h
  rw [hd, hy] at h
  dsimp only at h
  rw [Nat.beq_refl] at h
  cases h
end Go.Ev
