/- Words of my own: regions whose order is drawn, the evaluator and its proof. -/
import Derived.Test.YtfelkamfmdcapaaEv13
set_option linter.unusedVariables false
set_option linter.unusedSimpArgs false
namespace Go.Ev
open Go.RowKit
/-- What an operation looked at in memory: its number, what it read, what it wrote, from where on it made what is new, up to where. -/
structure Rec where
  i : Nat
  rd : List Nat
  wr : List Nat
  lo : Nat
  hi : Nat
noncomputable def clr (s : St) : St := { h := s.h, nx := s.nx, rd := [], wr := [], df := [] }
noncomputable def disj (l : List Nat) (k : List Nat) : Bool := List.rec (motive := fun _ => Bool) true (fun a _ ih => Bool.rec (motive := fun _ => Bool) ih false (mem k a)) l
noncomputable def outR (lo hi : Nat) (l : List Nat) : Bool := List.rec (motive := fun _ => Bool) true (fun a _ ih => Bool.rec (motive := fun _ => Bool) ih (Bool.rec (motive := fun _ => Bool) ih false (Nat.ble (Nat.succ a) hi)) (Nat.ble lo a)) l
noncomputable def and2 (a b : Bool) : Bool := Bool.rec (motive := fun _ => Bool) false b a
/-- Do two that are not ordered keep out of each other's way? -/
noncomputable def freeB (x y : Rec) : Bool := and2 (disj x.wr y.rd) (and2 (disj x.wr y.wr) (and2 (disj y.wr x.rd) (and2 (outR x.lo x.hi y.rd) (and2 (outR x.lo x.hi y.wr) (and2 (outR y.lo y.hi x.rd) (outR y.lo y.hi x.wr))))))
noncomputable def pairB (ms : List Nat) (y : Rec) (l : List Rec) : Bool := List.rec (motive := fun _ => Bool) true (fun x _ ih => Bool.rec (motive := fun _ => Bool) false ih (Bool.rec (motive := fun _ => Bool) (freeB x y) true (Nat.testBit ((nth ms y.i).getD 0) x.i))) l
/-- The operations in the order in which they stand; each sees the slots that it looks at alone. (The records: the last one first.) -/
noncomputable def evDrOps (call : CallF) (C : Cfg) (N : Nat) (ops : List Oper) (ms : List Nat) (l : List Oper) : Nat → Tm → St → List Rec → Option (Tm × St × List Rec) :=
  List.rec (motive := fun _ => Nat → Tm → St → List Rec → Option (Tm × St × List Rec)) (fun _ T s rs => some (T, s, rs)) (fun o _ ih i T s rs => match stepOp call C N ops o (restr T (looks ops o)) (clr s) with
    | some (.normal, v, s') => forceV v fun v => match putT N o T v with
      | some T' => match s'.rd, s'.wr, Nat.beq s.nx s'.nx with
        | [], [], true => ih (Nat.succ i) T' s' rs
        | _, _, _ => Bool.rec (motive := fun _ => Option (Tm × St × List Rec)) none (ih (Nat.succ i) T' s' (⟨i, s'.rd, s'.wr, s.nx, s'.nx⟩ :: rs)) (pairB ms ⟨i, s'.rd, s'.wr, s.nx, s'.nx⟩ rs)
      | none => none
    | _ => none) l
noncomputable def allRd (l : List Rec) : List Nat := List.rec (motive := fun _ => List Nat) [] (fun r _ ih => app r.rd ih) l
noncomputable def allWr (l : List Rec) : List Nat := List.rec (motive := fun _ => List Nat) [] (fun r _ ih => app r.wr ih) l
noncomputable def evDr (C : Cfg) (call : CallF) (N : Nat) (ops : Array Oper) (T : Tm) (s : St) : Option (Out × Tm × St) :=
  match evDrOps call C N ops.toList (masks ops.toList []) ops.toList 0 T s [] with
  | some (T', s', rs) => Bool.rec (motive := fun _ => Option (Out × Tm × St)) none
      (some (.normal, T', { h := s'.h, nx := s'.nx, rd := mrg s.rd (allRd rs), wr := mrg s.wr (allWr rs), df := s.df })) (regOk ops.toList)
  | none => none
theorem disj_ok : ∀ {l k : List Nat}, disj l k = true → ∀ a ∈ l, a ∉ k
  | [], _, _, a, h => by cases h
  | b :: l, k, h, a, ha => by
    change Bool.rec (motive := fun _ => Bool) (disj l k) false (mem k b) = true at h
    cases h1 : mem k b <;> rw [h1] at h
    · rcases List.mem_cons.1 ha with rfl | ha
      · exact fun hm => by rw [(mem_iff _ _).2 hm] at h1; cases h1
      · exact disj_ok h a ha
    · cases h
theorem outR_ok {lo hi : Nat} : ∀ {l : List Nat}, outR lo hi l = true → ∀ a ∈ l, ¬(lo ≤ a ∧ a < hi)
  | [], _, a, h => by cases h
  | b :: l, h, a, ha => by
    change Bool.rec (motive := fun _ => Bool) (outR lo hi l) (Bool.rec (motive := fun _ => Bool) (outR lo hi l) false (Nat.ble (Nat.succ b) hi)) (Nat.ble lo b) = true at h
    cases h1 : Nat.ble lo b <;> rw [h1] at h
    · rcases List.mem_cons.1 ha with rfl | ha
      · exact fun hh => by rw [ble_iff.2 hh.1] at h1; cases h1
      · exact outR_ok h a ha
    · dsimp only at h
      cases h2 : Nat.ble (Nat.succ b) hi <;> rw [h2] at h
      · rcases List.mem_cons.1 ha with rfl | ha
        · exact fun hh => by rw [ble_iff.2 hh.2] at h2; cases h2
        · exact outR_ok h a ha
      · cases h
theorem and2_ok {a b : Bool} (h : and2 a b = true) : a = true ∧ b = true := by
  cases a
  · cases h
  · exact ⟨rfl, h⟩
/-- What two records say that keep out of each other's way. -/
structure Free (x y : Rec) : Prop where
  a : ∀ i ∈ x.wr, i ∉ y.rd
  b : ∀ i ∈ x.wr, i ∉ y.wr
  c : ∀ i ∈ y.wr, i ∉ x.rd
  d : ∀ i ∈ y.rd, ¬(x.lo ≤ i ∧ i < x.hi)
  e : ∀ i ∈ y.wr, ¬(x.lo ≤ i ∧ i < x.hi)
  f : ∀ i ∈ x.rd, ¬(y.lo ≤ i ∧ i < y.hi)
  g : ∀ i ∈ x.wr, ¬(y.lo ≤ i ∧ i < y.hi)
theorem freeB_ok {x y : Rec} (h : freeB x y = true) : Free x y := by
  unfold freeB at h
  obtain ⟨h1, h⟩ := and2_ok h
  obtain ⟨h2, h⟩ := and2_ok h
  obtain ⟨h3, h⟩ := and2_ok h
  obtain ⟨h4, h⟩ := and2_ok h
  obtain ⟨h5, h⟩ := and2_ok h
  obtain ⟨h6, h7⟩ := and2_ok h
  exact ⟨disj_ok h1, disj_ok h2, disj_ok h3, outR_ok h4, outR_ok h5, outR_ok h6, outR_ok h7⟩
theorem pairB_ok {ms : List Nat} {y : Rec} : ∀ {l : List Rec}, pairB ms y l = true → ∀ x ∈ l, Nat.testBit ((nth ms y.i).getD 0) x.i = true ∨ Free x y
  | [], _, x, h => by cases h
  | z :: l, h, x, hx => by
    change Bool.rec (motive := fun _ => Bool) false (pairB ms y l) (Bool.rec (motive := fun _ => Bool) (freeB z y) true (Nat.testBit ((nth ms y.i).getD 0) z.i)) = true at h
    cases h1 : (Bool.rec (motive := fun _ => Bool) (freeB z y) true (Nat.testBit ((nth ms y.i).getD 0) z.i)) <;> rw [h1] at h
    · cases h
    rcases List.mem_cons.1 hx with rfl | hx
    · cases h2 : Nat.testBit ((nth ms y.i).getD 0) x.i <;> rw [h2] at h1
      · exact .inr (freeB_ok h1)
      · exact .inl rfl
    · exact pairB_ok h x hx
noncomputable def recOf (sS sR : Nat → St) (i : Nat) : Rec := ⟨i, (sR i).rd, (sR i).wr, (sS i).nx, (sR i).nx⟩
def Triv (sS sR : Nat → St) (j : Nat) : Prop := (sR j).rd = [] ∧ (sR j).wr = [] ∧ (sS j).nx = (sR j).nx
def Fits (ms : List Nat) (x y : Rec) : Prop := Nat.testBit ((nth ms y.i).getD 0) x.i = true ∨ Free x y
/-- A run of the operations, laid out. -/
structure Runs (call : CallF) (C : Cfg) (N : Nat) (ops : Array Oper) (ms : List Nat) (i n : Nat) (T : Tm) (s : St) (rs : List Rec) (T' : Tm) (s' : St) (rs' : List Rec) (sT : Nat → Tm) (sS : Nat → St) (sV : Nat → Value) (sR : Nat → St) : Prop where
  t0 : sT i = T
  s0 : sS i = s
  t1 : sT (i + n) = T'
  s1 : sS (i + n) = s'
  step : ∀ j o, i ≤ j → j < i + n → ops[j]? = some o → stepOp call C N ops.toList o (restr (sT j) (looks ops.toList o)) (clr (sS j)) = some (.normal, sV j, sR j) ∧ putT N o (sT j) (sV j) = some (sT (j + 1)) ∧ sS (j + 1) = sR j
  keep : ∀ r ∈ rs, r ∈ rs'
  has : ∀ j, i ≤ j → j < i + n → recOf sS sR j ∈ rs' ∨ Triv sS sR j
  old : ∀ x ∈ rs, ∀ k, i ≤ k → k < i + n → Triv sS sR k ∨ Fits ms x (recOf sS sR k)
  two : ∀ j k, i ≤ j → j < k → k < i + n → Triv sS sR j ∨ Triv sS sR k ∨ Fits ms (recOf sS sR j) (recOf sS sR k)
theorem evDrOps_runs {call : CallF} {C : Cfg} {N : Nat} {ops : Array Oper} {ms : List Nat} : ∀ (l : List Oper) (i : Nat) (T : Tm) (s : St) (rs : List Rec) (T' : Tm) (s' : St) (rs' : List Rec), ops.toList.drop i = l → evDrOps call C N ops.toList ms l i T s rs = some (T', s', rs') →
    ∃ (sT : Nat → Tm) (sS : Nat → St) (sV : Nat → Value) (sR : Nat → St), Runs call C N ops ms i l.length T s rs T' s' rs' sT sS sV sR
  | [], i, T, s, rs, T', s', rs', _, h => by
    obtain ⟨rfl, rfl, rfl⟩ := s3 h
    exact ⟨fun _ => T, fun _ => s, fun _ => undef, fun _ => s, rfl, rfl, rfl, rfl, fun j o h1 h2 => by simp at h2; omega, fun r hr => hr, fun j h1 h2 => by simp at h2; omega, fun x _ j h1 h2 => by simp at h2; omega, fun j k h1 h2 h3 => by simp at h3; omega⟩
  | o :: l, i, T, s, rs, T', s', rs', hl, h => by
    have hi : ops[i]? = some o := by
      have : (ops.toList.drop i)[0]? = some o := by rw [hl]; rfl
      rw [List.getElem?_drop] at this
      simpa using this
    have hl' : ops.toList.drop (i + 1) = l := by rw [← List.drop_drop, hl]; rfl
    change (match stepOp call C N ops.toList o (restr T (looks ops.toList o)) (clr s) with
      | some (.normal, v, s') => forceV v fun v => match putT N o T v with
        | some T' => match s'.rd, s'.wr, Nat.beq s.nx s'.nx with
          | [], [], true => evDrOps call C N ops.toList ms l (Nat.succ i) T' s' rs
          | _, _, _ => Bool.rec (motive := fun _ => Option (Tm × St × List Rec)) none (evDrOps call C N ops.toList ms l (Nat.succ i) T' s' (⟨i, s'.rd, s'.wr, s.nx, s'.nx⟩ :: rs)) (pairB ms ⟨i, s'.rd, s'.wr, s.nx, s'.nx⟩ rs)
        | none => none
      | _ => none) = some (T', s', rs') at h
    split at h
    rotate_left
    · cases h
    rename_i v s1 hst
    rw [forceV_eq] at h
    split at h
    rotate_left
    · cases h
    rename_i T1 hT1
    -- either way
    have fin : ∀ rs1, ((rs1 = ⟨i, s1.rd, s1.wr, s.nx, s1.nx⟩ :: rs ∧ ∀ x ∈ rs, Fits ms x ⟨i, s1.rd, s1.wr, s.nx, s1.nx⟩) ∨ (rs1 = rs ∧ s1.rd = [] ∧ s1.wr = [] ∧ s.nx = s1.nx)) → evDrOps call C N ops.toList ms l (i + 1) T1 s1 rs1 = some (T', s', rs') →
        ∃ (sT : Nat → Tm) (sS : Nat → St) (sV : Nat → Value) (sR : Nat → St), Runs call C N ops ms i (l.length + 1) T s rs T' s' rs' sT sS sV sR := by
      intro rs1 hrs1 hev
      obtain ⟨sT, sS, sV, sR, R⟩ := evDrOps_runs l (i + 1) T1 s1 rs1 T' s' rs' hl' hev
      have sub : ∀ r ∈ rs, r ∈ rs1 := fun r hr => by
        rcases hrs1 with ⟨h, _⟩ | ⟨h, _⟩
        · rw [h]; exact List.mem_cons_of_mem _ hr
        · rw [h]; exact hr
      have tr : ∀ j, j ≠ i → (Triv (fun j => if j = i then s else sS j) (fun j => if j = i then s1 else sR j) j ↔ Triv sS sR j) := fun j hj => by
        unfold Triv
        simp only [if_neg hj]
      have ro : ∀ j, j ≠ i → recOf (fun j => if j = i then s else sS j) (fun j => if j = i then s1 else sR j) j = recOf sS sR j := fun j hj => by
        unfold recOf
        simp only [if_neg hj]
      have ri : recOf (fun j => if j = i then s else sS j) (fun j => if j = i then s1 else sR j) i = ⟨i, s1.rd, s1.wr, s.nx, s1.nx⟩ := by
        unfold recOf
        simp only [if_true]
      refine ⟨fun j => if j = i then T else sT j, fun j => if j = i then s else sS j, fun j => if j = i then v else sV j, fun j => if j = i then s1 else sR j, if_pos rfl, if_pos rfl, ?_, ?_, ?_, fun r hr => R.keep r (sub r hr), ?_, ?_, ?_⟩
      · show (if i + (l.length + 1) = i then T else sT (i + (l.length + 1))) = T'
        rw [if_neg (by omega), ← R.t1]
        congr 1
        omega
      · show (if i + (l.length + 1) = i then s else sS (i + (l.length + 1))) = s'
        rw [if_neg (by omega), ← R.s1]
        congr 1
        omega
      · intro j o' h1 h2 ho
        by_cases e : j = i
        · subst e
          rw [hi] at ho
          obtain rfl := Option.some.inj ho
          simp only [if_true]
          rw [if_neg (by omega), if_neg (by omega)]
          exact ⟨hst, by rw [R.t0]; exact hT1, R.s0⟩
        · simp only [if_neg e]
          rw [if_neg (by omega), if_neg (by omega)]
          exact R.step j o' (by omega) (by omega) ho
      · intro j h1 h2
        by_cases e : j = i
        · subst e
          rcases hrs1 with ⟨h, _⟩ | ⟨h, h3⟩
          · left
            rw [ri]
            exact R.keep _ (by rw [h]; exact List.mem_cons_self)
          · right
            unfold Triv
            simp only [if_true]
            exact h3
        · rw [ro j e, tr j e]
          exact R.has j (by omega) (by omega)
      · intro x hx k h1 h2
        by_cases e : k = i
        · subst e
          rcases hrs1 with ⟨_, h⟩ | ⟨_, h3⟩
          · right
            rw [ri]
            exact h x hx
          · left
            unfold Triv
            simp only [if_true]
            exact h3
        · rw [ro k e, tr k e]
          exact R.old x (sub x hx) k (by omega) (by omega)
      · intro j k h1 h2 h3
        rw [ro k (by omega), tr k (by omega)]
        by_cases e : j = i
        · subst e
          rcases hrs1 with ⟨h, _⟩ | ⟨_, h4⟩
          · rw [ri]
            exact .inr (R.old _ (by rw [h]; exact List.mem_cons_self) k (by omega) (by omega))
          · left
            unfold Triv
            simp only [if_true]
            exact h4
        · rw [ro j e, tr j e]
          exact R.two j k (by omega) h2 (by omega)
    split at h
    · rename_i h1 h2 h3
      exact fin _ (.inr ⟨rfl, h1, h2, Nat.eq_of_beq_eq_true h3⟩) h
    · cases hb : pairB ms ⟨i, s1.rd, s1.wr, s.nx, s1.nx⟩ rs <;> rw [hb] at h
      · cases h
      · exact fin _ (.inl ⟨rfl, fun x hx => pairB_ok hb x hx⟩) h
end Go.Ev
