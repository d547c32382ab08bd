/- Words of my own: regions whose order is drawn, the evaluator and its proof. -/
import Derived.Test.YtlkfcabklaaacaaEv13
set_option linter.unusedVariables false
set_option linter.unusedSimpArgs false
namespace Go.Ev
open Go.RowKit
/-- What an operation looked at in memory: its number, what it read, what it wrote, from where on it made what is new, up to where. -/
structure Rec where
  i : Nat
  rd : List Nat
  wr : List Nat
  lo : Nat
  hi : Nat
noncomputable def clr (s : St) : St := { h := s.h, nx := s.nx, rd := [], wr := [], df := [] }
noncomputable def disj (l : List Nat) (k : List Nat) : Bool := List.rec (motive := fun _ => Bool) true (fun a _ ih => Bool.rec (motive := fun _ => Bool) ih false (mem k a)) l
noncomputable def outR (lo hi : Nat) (l : List Nat) : Bool := List.rec (motive := fun _ => Bool) true (fun a _ ih => Bool.rec (motive := fun _ => Bool) ih (Bool.rec (motive := fun _ => Bool) ih false (Nat.ble (Nat.succ a) hi)) (Nat.ble lo a)) l
noncomputable def and2 (a b : Bool) : Bool := Bool.rec (motive := fun _ => Bool) false b a
/-- Do two that are not ordered keep out of each other's way? -/
noncomputable def freeB (x y : Rec) : Bool := and2 (disj x.wr y.rd) (and2 (disj x.wr y.wr) (and2 (disj y.wr x.rd) (and2 (outR x.lo x.hi y.rd) (and2 (outR x.lo x.hi y.wr) (and2 (outR y.lo y.hi x.rd) (outR y.lo y.hi x.wr))))))
noncomputable def pairB (ms : List Nat) (y : Rec) (l : List Rec) : Bool := List.rec (motive := fun _ => Bool) true (fun x _ ih => Bool.rec (motive := fun _ => Bool) false ih (Bool.rec (motive := fun _ => Bool) (freeB x y) true (Nat.testBit ((nth ms y.i).getD 0) x.i))) l
noncomputable def allRd (l : List Rec) : List Nat := List.rec (motive := fun _ => List Nat) [] (fun r _ ih => app r.rd ih) l
noncomputable def allWr (l : List Rec) : List Nat := List.rec (motive := fun _ => List Nat) [] (fun r _ ih => app r.wr ih) l
theorem disj_ok : ∀ {l k : List Nat}, disj l k = true → ∀ a ∈ l, a ∉ k
  | [], _, _, a, h => by cases h
  | b :: l, k, h, a, ha => by
    change Bool.rec (motive := fun _ => Bool) (disj l k) false (mem k b) = true at h
    cases h1 : mem k b <;> rw [h1] at h
    · rcases List.mem_cons.1 ha with rfl | ha
      · exact fun hm => by rw [(mem_iff _ _).2 hm] at h1; cases h1
      · exact disj_ok h a ha
    · cases h
theorem outR_ok {lo hi : Nat} : ∀ {l : List Nat}, outR lo hi l = true → ∀ a ∈ l, ¬(lo ≤ a ∧ a < hi)
  | [], _, a, h => by cases h
  | b :: l, h, a, ha => by
    change Bool.rec (motive := fun _ => Bool) (outR lo hi l) (Bool.rec (motive := fun _ => Bool) (outR lo hi l) false (Nat.ble (Nat.succ b) hi)) (Nat.ble lo b) = true at h
    cases h1 : Nat.ble lo b <;> rw [h1] at h
    · rcases List.mem_cons.1 ha with rfl | ha
      · exact fun hh => by rw [ble_iff.2 hh.1] at h1; cases h1
      · exact outR_ok h a ha
    · dsimp only at h
      cases h2 : Nat.ble (Nat.succ b) hi <;> rw [h2] at h
      · rcases List.mem_cons.1 ha with rfl | ha
        · exact fun hh => by rw [ble_iff.2 hh.2] at h2; cases h2
        · exact outR_ok h a ha
      · cases h
theorem and2_ok {a b : Bool} (h : and2 a b = true) : a = true ∧ b = true := by
  cases a
  · cases h
  · exact ⟨rfl, h⟩
/-- What two records say that keep out of each other's way. -/
structure Free (x y : Rec) : Prop where
  a : ∀ i ∈ x.wr, i ∉ y.rd
  b : ∀ i ∈ x.wr, i ∉ y.wr
  c : ∀ i ∈ y.wr, i ∉ x.rd
  d : ∀ i ∈ y.rd, ¬(x.lo ≤ i ∧ i < x.hi)
  e : ∀ i ∈ y.wr, ¬(x.lo ≤ i ∧ i < x.hi)
  f : ∀ i ∈ x.rd, ¬(y.lo ≤ i ∧ i < y.hi)
  g : ∀ i ∈ x.wr, ¬(y.lo ≤ i ∧ i < y.hi)
theorem freeB_ok {x y : Rec} (h : freeB x y = true) : Free x y := by
  unfold freeB at h
  obtain ⟨h1, h⟩ := and2_ok h
  obtain ⟨h2, h⟩ := and2_ok h
  obtain ⟨h3, h⟩ := and2_ok h
  obtain ⟨h4, h⟩ := and2_ok h
  obtain ⟨h5, h⟩ := and2_ok h
  obtain ⟨h6, h7⟩ := and2_ok h
  exact ⟨disj_ok h1, disj_ok h2, disj_ok h3, outR_ok h4, outR_ok h5, outR_ok h6, outR_ok h7⟩
theorem pairB_ok {ms : List Nat} {y : Rec} : ∀ {l : List Rec}, pairB ms y l = true → ∀ x ∈ l, Nat.testBit ((nth ms y.i).getD 0) x.i = true ∨ Free x y
  | [], _, x, h => by cases h
  | z :: l, h, x, hx => by
    change Bool.rec (motive := fun _ => Bool) false (pairB ms y l) (Bool.rec (motive := fun _ => Bool) (freeB z y) true (Nat.testBit ((nth ms y.i).getD 0) z.i)) = true at h
    cases h1 : (Bool.rec (motive := fun _ => Bool) (freeB z y) true (Nat.testBit ((nth ms y.i).getD 0) z.i)) <;> rw [h1] at h
    · cases h
    rcases List.mem_cons.1 hx with rfl | hx
    · cases h2 : Nat.testBit ((nth ms y.i).getD 0) x.i <;> rw [h2] at h1
      · exact .inr (freeB_ok h1)
      · exact .inl rfl
    · exact pairB_ok h x hx
noncomputable def recOf (sS sR : Nat → St) (i : Nat) : Rec := ⟨i, (sR i).rd, (sR i).wr, (sS i).nx, (sR i).nx⟩
def Triv (sS sR : Nat → St) (j : Nat) : Prop := (sR j).rd = [] ∧ (sR j).wr = [] ∧ (sS j).nx = (sR j).nx
def Fits (ms : List Nat) (x y : Rec) : Prop := Nat.testBit ((nth ms y.i).getD 0) x.i = true ∨ Free x y
/-- One operation's step, whatever tells of it. -/
def Stp (C : Cfg) (N : Nat) (ops : Array Oper) (o : Oper) (T : Tm) (s : St) (v : Value) (s' : St) : Prop :=
  Ext s s' ∧ ∀ (B : Nat) (W0 : World), B ≤ W0.heap.size → ∀ (ν : Ren) (m : Nat → Option Obj) (a : Act) (w : World) (K : Act → World → Prop) (Q : Exit → Act → World → Prop), TR N ν T a → Pre B W0 ν m s s' w →
    (∀ ν' u w', VR ν' v u → Post B W0 ν m s s' ν' w' → K (a.put o.dst u) w') → wpOp1 C.P ops Q o K a w
theorem Stp.of_step {C : Cfg} (hC : C.Ok) {N : Nat} {T : Tm} {s : St} {call : CallF} (hcall : ∀ B W0, B ≤ W0.heap.size → CallOk C B W0 call) {ops : Array Oper} {o : Oper} {v : Value} {s' : St} (h : stepOp call C N ops.toList o T s = some (.normal, v, s')) : Stp C N ops o T s v s' :=
  ⟨(stepOp_ok (B := 0) (W0 := default) hC (Nat.zero_le _) (hcall _ _ (Nat.zero_le _)) h).1, fun B W0 hB ν m a w K Q tr p k => (stepOp_ok (B := B) (W0 := W0) hC hB (hcall _ _ hB) h).2.2 ν m a w K Q tr p (fun _ => k) (fun p hp => by cases hp)⟩
/-- A run of the operations, laid out. -/
structure Runs (C : Cfg) (N : Nat) (ops : Array Oper) (ms : List Nat) (i n : Nat) (T : Tm) (s : St) (rs : List Rec) (T' : Tm) (s' : St) (rs' : List Rec) (sT : Nat → Tm) (sS : Nat → St) (sV : Nat → Value) (sR : Nat → St) : Prop where
  t0 : sT i = T
  s0 : sS i = s
  t1 : sT (i + n) = T'
  s1 : sS (i + n) = s'
  step : ∀ j o, i ≤ j → j < i + n → ops[j]? = some o → Stp C N ops o (restr (sT j) (looks ops.toList o)) (clr (sS j)) (sV j) (sR j) ∧ (∀ d, o.dst = some d → d < N) ∧ (∀ t, aget (sT (j + 1)) t = if o.dst = some t then some (sV j) else aget (sT j) t) ∧ sS (j + 1) = sR j
  keep : ∀ r ∈ rs, r ∈ rs'
  has : ∀ j, i ≤ j → j < i + n → recOf sS sR j ∈ rs' ∨ Triv sS sR j
  old : ∀ x ∈ rs, ∀ k, i ≤ k → k < i + n → Triv sS sR k ∨ Fits ms x (recOf sS sR k)
  two : ∀ j k, i ≤ j → j < k → k < i + n → Triv sS sR j ∨ Triv sS sR k ∨ Fits ms (recOf sS sR j) (recOf sS sR k)
/-- One more operation ahead of a run. -/
theorem Runs.cons {C : Cfg} {N : Nat} {ops : Array Oper} {ms : List Nat} {i n : Nat} {T T1 : Tm} {s s1 : St} {rs rs1 : List Rec} {T' : Tm} {s' : St} {rs' : List Rec} {o : Oper} {v : Value} {sT : Nat → Tm} {sS : Nat → St} {sV : Nat → Value} {sR : Nat → St}
    (hi : ops[i]? = some o) (hst : Stp C N ops o (restr T (looks ops.toList o)) (clr s) v s1) (hd : ∀ d, o.dst = some d → d < N) (hT1 : ∀ t, aget T1 t = if o.dst = some t then some v else aget T t)
    (hrs1 : (rs1 = ⟨i, s1.rd, s1.wr, s.nx, s1.nx⟩ :: rs ∧ ∀ x ∈ rs, Fits ms x ⟨i, s1.rd, s1.wr, s.nx, s1.nx⟩) ∨ (rs1 = rs ∧ s1.rd = [] ∧ s1.wr = [] ∧ s.nx = s1.nx))
    (R : Runs C N ops ms (i + 1) n T1 s1 rs1 T' s' rs' sT sS sV sR) : ∃ (sT : Nat → Tm) (sS : Nat → St) (sV : Nat → Value) (sR : Nat → St), Runs C N ops ms i (n + 1) T s rs T' s' rs' sT sS sV sR := by
  have sub : ∀ r ∈ rs, r ∈ rs1 := fun r hr => by
    rcases hrs1 with ⟨h, _⟩ | ⟨h, _⟩
    · rw [h]; exact List.mem_cons_of_mem _ hr
    · rw [h]; exact hr
  have tr : ∀ j, j ≠ i → (Triv (fun j => if j = i then s else sS j) (fun j => if j = i then s1 else sR j) j ↔ Triv sS sR j) := fun j hj => by
    unfold Triv
    simp only [if_neg hj]
  have ro : ∀ j, j ≠ i → recOf (fun j => if j = i then s else sS j) (fun j => if j = i then s1 else sR j) j = recOf sS sR j := fun j hj => by
    unfold recOf
    simp only [if_neg hj]
  have ri : recOf (fun j => if j = i then s else sS j) (fun j => if j = i then s1 else sR j) i = ⟨i, s1.rd, s1.wr, s.nx, s1.nx⟩ := by
    unfold recOf
    simp only [if_true]
  refine ⟨fun j => if j = i then T else sT j, fun j => if j = i then s else sS j, fun j => if j = i then v else sV j, fun j => if j = i then s1 else sR j, if_pos rfl, if_pos rfl, ?_, ?_, ?_, fun r hr => R.keep r (sub r hr), ?_, ?_, ?_⟩
  · show (if i + (n + 1) = i then T else sT (i + (n + 1))) = T'
    rw [if_neg (by omega), ← R.t1]
    congr 1
    omega
  · show (if i + (n + 1) = i then s else sS (i + (n + 1))) = s'
    rw [if_neg (by omega), ← R.s1]
    congr 1
    omega
  · intro j o' h1 h2 ho
    by_cases e : j = i
    · subst e
      rw [hi] at ho
      obtain rfl := Option.some.inj ho
      simp only [if_true]
      rw [if_neg (by omega), if_neg (by omega)]
      exact ⟨hst, hd, fun t => by rw [R.t0]; exact hT1 t, R.s0⟩
    · simp only [if_neg e]
      rw [if_neg (by omega), if_neg (by omega)]
      exact R.step j o' (by omega) (by omega) ho
  · intro j h1 h2
    by_cases e : j = i
    · subst e
      rcases hrs1 with ⟨h, _⟩ | ⟨h, h3⟩
      · left
        rw [ri]
        exact R.keep _ (by rw [h]; exact List.mem_cons_self)
      · right
        unfold Triv
        simp only [if_true]
        exact h3
    · rw [ro j e, tr j e]
      exact R.has j (by omega) (by omega)
  · intro x hx k h1 h2
    by_cases e : k = i
    · subst e
      rcases hrs1 with ⟨_, h⟩ | ⟨_, h3⟩
      · right
        rw [ri]
        exact h x hx
      · left
        unfold Triv
        simp only [if_true]
        exact h3
    · rw [ro k e, tr k e]
      exact R.old x (sub x hx) k (by omega) (by omega)
  · intro j k h1 h2 h3
    rw [ro k (by omega), tr k (by omega)]
    by_cases e : j = i
    · subst e
      rcases hrs1 with ⟨h, _⟩ | ⟨_, h4⟩
      · rw [ri]
        exact .inr (R.old _ (by rw [h]; exact List.mem_cons_self) k (by omega) (by omega))
      · left
        unfold Triv
        simp only [if_true]
        exact h4
    · rw [ro j e, tr j e]
      exact R.two j k (by omega) h2 (by omega)
/-- The operations one by one, each by its step; what each looked at is written down (the last one first). -/
def DW (C : Cfg) (N : Nat) (ops : Array Oper) (ms : List Nat) : List Oper → Nat → Tm → St → List Rec → (Tm → St → List Rec → Prop) → Prop
  | [], _, T, s, rs, Q => Q T s rs
  | o :: l, i, T, s, rs, Q => ∃ v s' T', Stp C N ops o (restr T (looks ops.toList o)) (clr s) v s' ∧ (∀ d, o.dst = some d → d < N) ∧ (∀ t, aget T' t = if o.dst = some t then some v else aget T t) ∧
      ((s'.rd = [] ∧ s'.wr = [] ∧ s.nx = s'.nx ∧ DW C N ops ms l (i + 1) T' s' rs Q) ∨ (pairB ms ⟨i, s'.rd, s'.wr, s.nx, s'.nx⟩ rs = true ∧ DW C N ops ms l (i + 1) T' s' (⟨i, s'.rd, s'.wr, s.nx, s'.nx⟩ :: rs) Q))
theorem DW_runs {C : Cfg} {N : Nat} {ops : Array Oper} {ms : List Nat} {Q : Tm → St → List Rec → Prop} : ∀ (l : List Oper) (i : Nat) (T : Tm) (s : St) (rs : List Rec), ops.toList.drop i = l → DW C N ops ms l i T s rs Q →
    ∃ (T' : Tm) (s' : St) (rs' : List Rec) (sT : Nat → Tm) (sS : Nat → St) (sV : Nat → Value) (sR : Nat → St), Q T' s' rs' ∧ Runs C N ops ms i l.length T s rs T' s' rs' sT sS sV sR
  | [], i, T, s, rs, _, h => ⟨T, s, rs, fun _ => T, fun _ => s, fun _ => undef, fun _ => s, h, rfl, rfl, rfl, rfl, fun j o h1 h2 => by simp at h2; omega, fun r hr => hr, fun j h1 h2 => by simp at h2; omega, fun x _ j h1 h2 => by simp at h2; omega, fun j k h1 h2 h3 => by simp at h3; omega⟩
  | o :: l, i, T, s, rs, hl, h => by
    have hi : ops[i]? = some o := by
      have : (ops.toList.drop i)[0]? = some o := by rw [hl]; rfl
      rw [List.getElem?_drop] at this
      simpa using this
    have hl' : ops.toList.drop (i + 1) = l := by rw [← List.drop_drop, hl]; rfl
    obtain ⟨v, s1, T1, h1, h2, h3, ⟨k1, k2, k3, h4⟩ | ⟨k1, h4⟩⟩ := h
    · obtain ⟨T', s', rs', sT, sS, sV, sR, hq, R⟩ := DW_runs l (i + 1) T1 s1 _ hl' h4
      obtain ⟨a, b, c, d, R'⟩ := R.cons hi h1 h2 h3 (.inr ⟨rfl, k1, k2, k3⟩)
      exact ⟨T', s', rs', a, b, c, d, hq, R'⟩
    · obtain ⟨T', s', rs', sT, sS, sV, sR, hq, R⟩ := DW_runs l (i + 1) T1 s1 _ hl' h4
      obtain ⟨a, b, c, d, R'⟩ := R.cons hi h1 h2 h3 (.inl ⟨rfl, fun x hx => pairB_ok k1 x hx⟩)
      exact ⟨T', s', rs', a, b, c, d, hq, R'⟩
end Go.Ev
