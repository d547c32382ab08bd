/- Words of my own: regions whose order is drawn: the proof. -/
import Derived.Test.YtlkfcabklaaacaaEv14
set_option linter.unusedVariables false
set_option linter.unusedSimpArgs false
namespace Go.Ev
open Go.RowKit
section
variable {C : Cfg} {B : Nat} {W0 : World} {N : Nat} {ops : Array Oper}
def Touch (sS sR : Nat → St) (i id : Nat) : Prop := id ∈ (sR i).wr ∨ ((sS i).nx ≤ id ∧ id < (sR i).nx)
open Classical in
/-- Memory, where the operations of D have been done. -/
noncomputable def valM (sS sR : Nat → St) (m : Nat → Option Obj) (D : Nat → Bool) : Nat → Nat → Option Obj
  | 0, id => m id
  | k + 1, id => if D k = true ∧ Touch sS sR k id then aget (sR k).h id else valM sS sR m D k id
noncomputable def valT (ops : Array Oper) (sV : Nat → Value) (T : Tm) (D : Nat → Bool) : Nat → Nat → Option Value
  | 0, t => aget T t
  | k + 1, t => if D k = true ∧ (ops[k]?).bind (·.dst) = some t then some (sV k) else valT ops sV T D k t
theorem valM_congr {sS sR : Nat → St} {m : Nat → Option Obj} {D D' : Nat → Bool} {id : Nat} : ∀ (k : Nat), (∀ j, j < k → Touch sS sR j id → D j = D' j) → valM sS sR m D k id = valM sS sR m D' k id
  | 0, _ => rfl
  | k + 1, h => by
    have ih := valM_congr (m := m) k (fun j hj => h j (by omega))
    unfold valM
    by_cases ht : Touch sS sR k id
    · rw [h k (by omega) ht, ih]
    · rw [if_neg (fun hh => ht hh.2), if_neg (fun hh => ht hh.2), ih]
theorem valT_congr {sV : Nat → Value} {T : Tm} {D D' : Nat → Bool} {t : Nat} : ∀ (k : Nat), (∀ j, j < k → (ops[j]?).bind (·.dst) = some t → D j = D' j) → valT ops sV T D k t = valT ops sV T D' k t
  | 0, _ => rfl
  | k + 1, h => by
    have ih := valT_congr (sV := sV) (T := T) k (fun j hj => h j (by omega))
    unfold valT
    by_cases ht : (ops[k]?).bind (·.dst) = some t
    · rw [h k (by omega) ht, ih]
    · rw [if_neg (fun hh => ht hh.2), if_neg (fun hh => ht hh.2), ih]
/-- One operation more. -/
theorem valM_insert {sS sR : Nat → St} {m : Nat → Option Obj} {D D' : Nat → Bool} {id i : Nat} (hi : D i = false) (hi' : D' i = true) (hD : ∀ j, j ≠ i → D' j = D j) (hd : ∀ j, i < j → D j = true → Touch sS sR i id → ¬ Touch sS sR j id) :
    ∀ (k : Nat), valM sS sR m D' (i + 1 + k) id = (open Classical in if Touch sS sR i id then aget (sR i).h id else valM sS sR m D (i + 1 + k) id)
  | 0 => by
    show (open Classical in if D' i = true ∧ Touch sS sR i id then aget (sR i).h id else valM sS sR m D' i id) = _
    by_cases ht : Touch sS sR i id
    · rw [if_pos ⟨hi', ht⟩, if_pos ht]
    · rw [if_neg (fun hh => ht hh.2), if_neg ht]
      show _ = (open Classical in if D i = true ∧ Touch sS sR i id then aget (sR i).h id else valM sS sR m D i id)
      rw [if_neg (fun hh => ht hh.2)]
      exact valM_congr i fun j hj _ => hD j (by omega)
  | k + 1 => by
    have ih := valM_insert (m := m) hi hi' hD hd k
    show (open Classical in if D' (i + 1 + k) = true ∧ Touch sS sR (i + 1 + k) id then aget (sR (i + 1 + k)).h id else valM sS sR m D' (i + 1 + k) id) = (open Classical in if Touch sS sR i id then aget (sR i).h id else if D (i + 1 + k) = true ∧ Touch sS sR (i + 1 + k) id then aget (sR (i + 1 + k)).h id else valM sS sR m D (i + 1 + k) id)
    rw [hD (i + 1 + k) (by omega)]
    by_cases ht : D (i + 1 + k) = true ∧ Touch sS sR (i + 1 + k) id
    · rw [if_pos ht]
      have : ¬ Touch sS sR i id := fun h => hd (i + 1 + k) (by omega) ht.1 h ht.2
      rw [if_neg this, if_pos ht]
    · rw [if_neg ht, if_neg ht, ih]
theorem valT_insert {sV : Nat → Value} {T : Tm} {D D' : Nat → Bool} {t i : Nat} (hi : D i = false) (hi' : D' i = true) (hD : ∀ j, j ≠ i → D' j = D j) (hd : ∀ j, i < j → D j = true → (ops[i]?).bind (·.dst) = some t → ¬ (ops[j]?).bind (·.dst) = some t) :
    ∀ (k : Nat), valT ops sV T D' (i + 1 + k) t = if (ops[i]?).bind (·.dst) = some t then some (sV i) else valT ops sV T D (i + 1 + k) t
  | 0 => by
    show (if D' i = true ∧ (ops[i]?).bind (·.dst) = some t then some (sV i) else valT ops sV T D' i t) = _
    by_cases ht : (ops[i]?).bind (·.dst) = some t
    · rw [if_pos ⟨hi', ht⟩, if_pos ht]
    · rw [if_neg (fun hh => ht hh.2), if_neg ht]
      show _ = (if D i = true ∧ (ops[i]?).bind (·.dst) = some t then some (sV i) else valT ops sV T D i t)
      rw [if_neg (fun hh => ht hh.2)]
      exact valT_congr i fun j hj _ => hD j (by omega)
  | k + 1 => by
    have ih := valT_insert (sV := sV) (T := T) hi hi' hD hd k
    show (if D' (i + 1 + k) = true ∧ (ops[i + 1 + k]?).bind (·.dst) = some t then some (sV (i + 1 + k)) else valT ops sV T D' (i + 1 + k) t) = (if (ops[i]?).bind (·.dst) = some t then some (sV i) else if D (i + 1 + k) = true ∧ (ops[i + 1 + k]?).bind (·.dst) = some t then some (sV (i + 1 + k)) else valT ops sV T D (i + 1 + k) t)
    rw [hD (i + 1 + k) (by omega)]
    by_cases ht : D (i + 1 + k) = true ∧ (ops[i + 1 + k]?).bind (·.dst) = some t
    · rw [if_pos ht]
      have : ¬ (ops[i]?).bind (·.dst) = some t := fun h => hd (i + 1 + k) (by omega) ht.1 h ht.2
      rw [if_neg this, if_pos ht]
    · rw [if_neg ht, if_neg ht, ih]
/-- How many are still to be done. -/
def cnt (D : Nat → Bool) : Nat → Nat
  | 0 => 0
  | k + 1 => cnt D k + if D k then 0 else 1
theorem cnt_congr {D D' : Nat → Bool} : ∀ (n : Nat), (∀ j, j < n → D j = D' j) → cnt D n = cnt D' n
  | 0, _ => rfl
  | n + 1, h => by unfold cnt; rw [cnt_congr n fun j hj => h j (by omega), h n (by omega)]
theorem cnt_insert {D D' : Nat → Bool} {i : Nat} (hi : D i = false) (hi' : D' i = true) (hD : ∀ j, j ≠ i → D' j = D j) : ∀ (n : Nat), i < n → cnt D' n + 1 = cnt D n
  | 0, h => by omega
  | n + 1, h => by
    unfold cnt
    by_cases e : i = n
    · subst e
      rw [hi, hi', cnt_congr i fun j hj => hD j (by omega)]
      simp
    · have := cnt_insert hi hi' hD n (by omega)
      rw [hD n (Ne.symm e)]
      omega
theorem cnt_zero {D : Nat → Bool} : ∀ (n : Nat), cnt D n = 0 → ∀ j, j < n → D j = true
  | 0, _, j, h => by omega
  | n + 1, h, j, hj => by
    unfold cnt at h
    by_cases e : j = n
    · subst e
      cases hd : D j
      · rw [hd] at h; simp at h
      · rfl
    · exact cnt_zero n (by omega) j (by omega)
theorem cnt_le (D : Nat → Bool) : ∀ (n : Nat), cnt D n ≤ n
  | 0 => Nat.le_refl _
  | n + 1 => by
    unfold cnt
    have := cnt_le D n
    split <;> omega
theorem mem_allRd : ∀ {l : List Rec} {r : Rec} {i : Nat}, r ∈ l → i ∈ r.rd → i ∈ allRd l
  | [], _, _, h, _ => by cases h
  | x :: l, r, i, h, hi => by
    show i ∈ app x.rd (allRd l)
    rw [app_eq]
    rcases List.mem_cons.1 h with rfl | h
    · exact List.mem_append_left _ hi
    · exact List.mem_append_right _ (mem_allRd h hi)
theorem mem_allWr : ∀ {l : List Rec} {r : Rec} {i : Nat}, r ∈ l → i ∈ r.wr → i ∈ allWr l
  | [], _, _, h, _ => by cases h
  | x :: l, r, i, h, hi => by
    show i ∈ app x.wr (allWr l)
    rw [app_eq]
    rcases List.mem_cons.1 h with rfl | h
    · exact List.mem_append_left _ hi
    · exact List.mem_append_right _ (mem_allWr h hi)
theorem runs_ok (hmix : C.P.follows .mixedOrders = true) {rid : Nat} {T : Tm} {s : St} {T1 : Tm} {s1 : St} {rs : List Rec} {sT : Nat → Tm} {sS : Nat → St} {sV : Nat → Value} {sR : Nat → St} (hreg : regOk ops.toList = true)
    (R : Runs C N ops (masks ops.toList []) 0 ops.toList.length T s [] T1 s1 rs sT sS sV sR) :
    Ext s { h := s1.h, nx := s1.nx, rd := mrg s.rd (allRd rs), wr := mrg s.wr (allWr rs), df := s.df } ∧ ∀ (B : Nat) (W0 : World), B ≤ W0.heap.size → ∀ (ν : Ren) (m : Nat → Option Obj) (a : Act) (w : World) (Q : Exit → Act → World → Prop), TR N ν T a → DefR ν s.df a.defers →
      Pre B W0 ν m s { h := s1.h, nx := s1.nx, rd := mrg s.rd (allRd rs), wr := mrg s.wr (allWr rs), df := s.df } w → QOk B W0 N ν m s .normal T1 { h := s1.h, nx := s1.nx, rd := mrg s.rd (allRd rs), wr := mrg s.wr (allWr rs), df := s.df } Q → (Code.region rid ops true).wp C.P Q a w := by
  have hn : ops.toList.length = ops.size := by simp
  rw [hn] at R
  generalize hnn : ops.size = n at *
  have R1 : sT n = T1 := by have := R.t1; rwa [Nat.zero_add] at this
  have R2 : sS n = s1 := by have := R.s1; rwa [Nat.zero_add] at this
  have geto : ∀ i, i < n → ∃ o, ops[i]? = some o := fun i hi => ⟨ops[i]'(by omega), by simp [hnn, hi]⟩
  have stp : ∀ i o, i < n → ops[i]? = some o → _ := fun i o hi ho => R.step i o (Nat.zero_le _) (by omega) ho
  have nex : ∀ i, i < n → sS (i + 1) = sR i := fun i hi => by
    obtain ⟨o, ho⟩ := geto i hi
    exact (stp i o hi ho).2.2.2
  have exts : ∀ i, i < n → Ext (clr (sS i)) (sR i) := fun i hi => by
    obtain ⟨o, ho⟩ := geto i hi
    exact (stp i o hi ho).1.1
  have nx1 : ∀ i, i < n → (sS i).nx ≤ (sS (i + 1)).nx := fun i hi => by rw [nex i hi]; exact (exts i hi).nx
  have nxm : ∀ j, j ≤ n → ∀ i, i ≤ j → (sS i).nx ≤ (sS j).nx := by
    intro j
    induction j with
    | zero => intro _ i hi; rw [Nat.le_zero.1 hi]; exact Nat.le_refl _
    | succ j ih =>
      intro hj i hi
      by_cases e : i = j + 1
      · rw [e]; exact Nat.le_refl _
      · exact Nat.le_trans (ih (by omega) i (by omega)) (nx1 j (by omega))
  have frS : ∀ i, i < n → ∀ id, ¬ Touch sS sR i id → aget (sS (i + 1)).h id = aget (sS i).h id := fun i hi id ht => by
    rw [nex i hi]
    exact (exts i hi).fr id (fun h => ht (.inl h)) (fun h => ht (.inr h))
  have wfS : Wf s → ∀ i, i ≤ n → Wf (sS i) := by
    intro hw i
    induction i with
    | zero => intro _; rw [R.s0]; exact hw
    | succ i ih => intro hi; rw [nex i (by omega)]; exact (exts i (by omega)).wf (ih (by omega))
  -- what is touched is told
  have tord : ∀ i, i < n → ∀ id ∈ (sR i).rd, id ∈ mrg s.rd (allRd rs) := fun i hi id hid => by
    rcases R.has i (Nat.zero_le _) (by omega) with h | h
    · exact (mrg_iff _ _ _).2 (.inr (mem_allRd h hid))
    · rw [h.1] at hid; cases hid
  have towr : ∀ i, i < n → ∀ id ∈ (sR i).wr, id ∈ mrg s.wr (allWr rs) := fun i hi id hid => by
    rcases R.has i (Nat.zero_le _) (by omega) with h | h
    · exact (mrg_iff _ _ _).2 (.inr (mem_allWr h hid))
    · rw [h.2.1] at hid; cases hid
  have tonew : ∀ i, i < n → ∀ id, (sS i).nx ≤ id → id < (sR i).nx → s.nx ≤ id ∧ id < s1.nx := fun i hi id h1 h2 => by
    have a1 := nxm i (by omega) 0 (Nat.zero_le _)
    have a2 := nxm n (Nat.le_refl _) (i + 1) (by omega)
    rw [nex i hi] at a2
    rw [R.s0] at a1
    rw [R2] at a2
    omega
  refine ⟨⟨fun i hi => (mrg_iff _ _ _).2 (.inl hi), fun i hi => (mrg_iff _ _ _).2 (.inl hi), ?_, fun id h1 h2 => ?_, fun hw => ?_⟩, ?_⟩
  · have := nxm n (Nat.le_refl _) 0 (Nat.zero_le _)
    rw [R.s0, R2] at this
    exact this
  · have : ∀ i, i ≤ n → aget (sS i).h id = aget s.h id := by
      intro i
      induction i with
      | zero => intro _; rw [R.s0]
      | succ i ih =>
        intro hi
        rw [frS i (by omega) id, ih (by omega)]
        rintro (h | h)
        · exact h1 (towr i (by omega) id h)
        · exact h2 (tonew i (by omega) id h.1 h.2)
    have := this n (Nat.le_refl _)
    rw [R2] at this
    exact this
  · have := wfS hw n (Nat.le_refl _)
    rw [R2] at this
    exact this
  intro B W0 hB ν0 m a0 w0 Q tr dr0 p hq
  -- the static facts
  have stat : ∀ k y, ops[k]? = some y → (∀ e ∈ y.after, Region.binds .any e = true → e.on < k) ∧ ∀ i x, i < k → ops[i]? = some x → Anc ops i k ∨ apartB ops.toList x y = true := by
    intro k y hy
    obtain ⟨h1, M, hM, h2⟩ := regB_ok ops.toList _ ops.toList 0 hreg k y (by rw [Array.getElem?_toList]; exact hy)
    rw [Nat.zero_add] at h1 hM h2
    refine ⟨fun e he hb => h1 e (by simpa using he) hb, fun i x hi hx => ?_⟩
    rcases h2 i x hi (by rw [Array.getElem?_toList]; exact hx) with h | h
    · exact .inl (masks_ok ops.toList [] rfl (fun k M hk => by simp at hk) k M hM i h)
    · exact .inr h
  have fits : ∀ j k, j < k → k < n → Triv sS sR j ∨ Triv sS sR k ∨ Anc ops j k ∨ Free (recOf sS sR j) (recOf sS sR k) := by
    intro j k h1 h2
    rcases R.two j k (Nat.zero_le _) h1 (by omega) with h | h | h | h
    · exact .inl h
    · exact .inr (.inl h)
    · refine .inr (.inr (.inl ?_))
      change Nat.testBit ((nth (masks ops.toList []) k).getD 0) j = true at h
      rw [nth_eq] at h
      cases hM : (masks ops.toList [])[k]? with
      | none => rw [hM] at h; simp at h
      | some M => rw [hM] at h; exact masks_ok ops.toList [] rfl (fun k M hk => by simp at hk) k M hM j h
    · exact .inr (.inr (.inr h))
  have trivT : ∀ j id, Triv sS sR j → ¬ Touch sS sR j id := fun j id h ht => by
    rcases ht with h1 | h1
    · rw [h.2.1] at h1; cases h1
    · have := h.2.2; omega
  have sep : ∀ j i, j < n → i < n → j ≠ i → ¬ Anc ops j i → ¬ Anc ops i j → ∀ id, (id ∈ (sR i).rd ∨ id ∈ (sR i).wr) → ¬ Touch sS sR j id := by
    intro j i hj hi hne h1 h2 id hid ht
    rcases Nat.lt_or_gt_of_ne hne with hlt | hgt
    · rcases fits j i hlt hi with h | h | h | h
      · exact trivT j id h ht
      · rcases hid with hid | hid
        · rw [h.1] at hid; cases hid
        · rw [h.2.1] at hid; cases hid
      · exact h1 h
      · rcases ht with ht | ht
        · rcases hid with hid | hid
          · exact h.a id ht hid
          · exact h.b id ht hid
        · rcases hid with hid | hid
          · exact h.d id hid ht
          · exact h.e id hid ht
    · rcases fits i j hgt hj with h | h | h | h
      · rcases hid with hid | hid
        · rw [h.1] at hid; cases hid
        · rw [h.2.1] at hid; cases hid
      · exact trivT j id h ht
      · exact h2 h
      · rcases ht with ht | ht
        · rcases hid with hid | hid
          · exact h.c id ht hid
          · exact h.b id hid ht
        · rcases hid with hid | hid
          · exact h.f id hid ht
          · exact h.g id hid ht
  have newd : ∀ j i, j < n → i < n → j ≠ i → ∀ id, (sS i).nx ≤ id → id < (sR i).nx → (sS j).nx ≤ id → id < (sR j).nx → False := by
    intro j i hj hi hne id h1 h2 h3 h4
    rcases Nat.lt_or_gt_of_ne hne with hlt | hgt
    · have := nxm i (by omega) (j + 1) (by omega)
      rw [nex j hj] at this
      omega
    · have := nxm j (by omega) (i + 1) (by omega)
      rw [nex i hi] at this
      omega
  have sep2 : ∀ i j, i < n → j < n → i ≠ j → ¬ Anc ops j i → ¬ Anc ops i j → ∀ id, Touch sS sR i id → ¬ Touch sS sR j id := by
    intro i j hi hj hne h1 h2 id ht ht2
    rcases ht with h | h
    · exact sep j i hj hi (Ne.symm hne) h1 h2 id (.inr h) ht2
    · rcases ht2 with h' | h'
      · exact sep i j hi hj hne h2 h1 id (.inr h') (.inr h)
      · exact newd j i hj hi (Ne.symm hne) id h.1 h.2 h'.1 h'.2
  have full : ∀ (D : Nat → Bool) k, k ≤ n → (∀ j, j < k → D j = true) → ∀ id, m id = aget s.h id → valM sS sR m D k id = aget (sS k).h id := by
    intro D k
    induction k with
    | zero => intro _ _ id h; rw [R.s0]; exact h
    | succ k ih =>
      intro hk hD id h
      unfold valM
      by_cases ht : Touch sS sR k id
      · rw [if_pos ⟨hD k (by omega), ht⟩, nex k (by omega)]
      · rw [if_neg (fun hh => ht hh.2), ih (by omega) (fun j hj => hD j (by omega)) id h, frS k (by omega) id ht]
  have fullT : ∀ (D : Nat → Bool) k, k ≤ n → (∀ j, j < k → D j = true) → ∀ t, valT ops sV T D k t = aget (sT k) t := by
    intro D k
    induction k with
    | zero => intro _ _ t; rw [R.t0]; rfl
    | succ k ih =>
      intro hk hD t
      obtain ⟨o, ho⟩ := geto k (by omega)
      have hp := (stp k o (by omega) ho).2.2.1
      have ih := ih (by omega) (fun j hj => hD j (by omega)) t
      unfold valT
      rw [ho, hp t, ih]
      by_cases e : o.dst = some t
      · rw [if_pos ⟨hD k (by omega), by simpa using e⟩, if_pos e]
      · rw [if_neg (fun hh => e (by simpa using hh.2)), if_neg e]
  have stayM : ∀ (i : Nat) k, valM sS sR m (fun j => decide (j < i)) (i + k) = valM sS sR m (fun j => decide (j < i)) i := by
    intro i k
    induction k with
    | zero => rfl
    | succ k ih =>
      funext id
      rw [← ih]
      show (open Classical in if (decide (i + k < i)) = true ∧ Touch sS sR (i + k) id then aget (sR (i + k)).h id else valM sS sR m (fun j => decide (j < i)) (i + k) id) = _
      rw [if_neg (fun hh => by have := of_decide_eq_true hh.1; omega)]
  have stayT : ∀ (i : Nat) k, valT ops sV T (fun j => decide (j < i)) (i + k) = valT ops sV T (fun j => decide (j < i)) i := by
    intro i k
    induction k with
    | zero => rfl
    | succ k ih =>
      funext t
      rw [← ih]
      show (if (decide (i + k < i)) = true ∧ (ops[i + k]?).bind (·.dst) = some t then some (sV (i + k)) else valT ops sV T (fun j => decide (j < i)) (i + k) t) = _
      rw [if_neg (fun hh => by have := of_decide_eq_true hh.1; omega)]
  have magree : ∀ id, id ∈ mrg s.rd (allRd rs) ∨ id ∈ mrg s.wr (allWr rs) → m id = aget s.h id := p.agree
  have mnew : ∀ id, s.nx ≤ id → id < s1.nx → m id = aget s.h id := fun id h1 h2 => by
    have hm : m id = none := by
      cases hm : m id with
      | none => rfl
      | some o => rw [(p.fresh id h1 h2).2] at hm; cases hm
    have hs : aget s.h id = none := by
      cases hm : aget s.h id with
      | none => rfl
      | some o => have := p.wf id o hm; omega
    rw [hm, hs]
  have main : ∀ (fuel : Nat) (listed : Array Bool) (a : Act) (w : World) (ν : Ren), listed.size = n → cnt (fun j => listed.getD j false) n ≤ fuel → (∀ j i, Edg ops j i → listed.getD i false = true → listed.getD j false = true) → ν0.le ν →
      (∀ id, ν id ≠ ν0 id → ∃ j, j < n ∧ listed.getD j false = true ∧ (sS j).nx ≤ id ∧ id < (sR j).nx) → RelH B W0 ν (fun id => valM sS sR m (fun j => listed.getD j false) n id) w → a.tmps.size = N →
      (∀ t v, valT ops sV T (fun j => listed.getD j false) n t = some v → ∃ u, a.tmps[t]? = some u ∧ VR ν v u) → a.defers = a0.defers → wpAny C.P .any ops Q fuel listed a w := by
    intro fuel
    -- the end
    have fin : ∀ (listed : Array Bool) (a : Act) (w : World) (ν : Ren), (∀ j, j < n → listed.getD j false = true) → ν0.le ν →
        (∀ id, ν id ≠ ν0 id → ∃ j, j < n ∧ listed.getD j false = true ∧ (sS j).nx ≤ id ∧ id < (sR j).nx) → RelH B W0 ν (fun id => valM sS sR m (fun j => listed.getD j false) n id) w → a.tmps.size = N →
        (∀ t v, valT ops sV T (fun j => listed.getD j false) n t = some v → ∃ u, a.tmps[t]? = some u ∧ VR ν v u) → a.defers = a0.defers → Q .normal a w := by
      intro listed a w ν hall hle hnew hrel hsz htm hdf
      refine hq ν a w ⟨hsz, fun t v ht => htm t v ?_⟩ (by rw [hdf]; exact dr0.mono hle) ⟨hle, fun id hid => ?_, hrel.of_le fun id o ho => ?_⟩
      · rw [fullT _ n (Nat.le_refl _) hall t, R1]; exact ht
      · obtain ⟨j, hj, _, h1, h2⟩ := hnew id hid
        exact tonew j hj id h1 h2
      · unfold Upd at ho
        try dsimp only
        split at ho
        · rename_i hh
          have hm : m id = aget s.h id := by
            rcases hh with hh | hh
            · exact magree id (.inr hh)
            · exact mnew id hh.1 hh.2
          rw [full _ n (Nat.le_refl _) hall id hm, R2]
          exact ho
        · rename_i hh
          have hnt : ∀ j, j < n → ¬ Touch sS sR j id := fun j hj ht => hh (by
            rcases ht with ht | ht
            · exact .inl (towr j hj id ht)
            · exact .inr (tonew j hj id ht.1 ht.2))
          have : ∀ k, k ≤ n → valM sS sR m (fun j => listed.getD j false) k id = m id := by
            intro k
            induction k with
            | zero => intro _; rfl
            | succ k ih =>
              intro hk
              unfold valM
              rw [if_neg (fun h => hnt k (by omega) h.2), ih (by omega)]
          rw [this n (Nat.le_refl _)]
          exact ho
    have ready0 : ∀ (listed : Array Bool), listed.size = n → Region.ready .any ops listed = [] → ∀ j, j < n → listed.getD j false = true := by
      intro listed hsz hr j
      induction j using Nat.strongRecOn with
      | _ j ih =>
        intro hj
        cases hd : listed.getD j false
        · exfalso
          obtain ⟨o, ho⟩ := geto j hj
          have : j ∈ Region.ready .any ops listed := mem_ready.2 ⟨by simp [hsz, hj] at hd ⊢; exact hd, o, ho, fun e he hb => by
            have := (stat j o ho).1 e he hb
            exact ih e.on this (by omega)⟩
          rw [hr] at this
          cases this
        · rfl
    induction fuel with
    | zero =>
      intro listed a w ν hsz hcnt hcl hle hnew hrel htz htm hdf
      have hall := cnt_zero n (Nat.le_zero.1 hcnt)
      refine ⟨?_, fin listed a w ν hall hle hnew hrel htz htm hdf⟩
      cases hr : Region.ready .any ops listed with
      | nil => rfl
      | cons x r =>
        exfalso
        have hx : x ∈ Region.ready .any ops listed := by rw [hr]; exact List.mem_cons_self
        obtain ⟨h1, o, ho, _⟩ := mem_ready.1 hx
        have hxn : x < n := by have := (Array.getElem?_eq_some_iff.1 ho).1; omega
        have := hall x hxn
        simp [hsz, hxn] at h1 this
        rw [h1] at this
        cases this
    | succ fuel ih =>
      intro listed a w ν hsz hcnt hcl hle hnew hrel htz htm hdf
      refine ⟨fun hr => fin listed a w ν (ready0 listed hsz hr) hle hnew hrel htz htm hdf, fun i hi => ?_⟩
      obtain ⟨hun, o, ho, hall⟩ := mem_ready.1 hi
      have hin : i < n := by have := (Array.getElem?_eq_some_iff.1 ho).1; omega
      have hDi : listed.getD i false = false := by
        simp [hsz, hin] at hun ⊢
        exact hun
      obtain ⟨hst, hdN, hput, hnx⟩ := stp i o hin ho
      obtain ⟨ext, key⟩ := hst
      have key := key B W0 hB
      -- order and what is done
      have anc1 : ∀ j, Anc ops j i → listed.getD j false = true := by
        have gen : ∀ j k, Anc ops j k → listed.getD k false = true → listed.getD j false = true := by
          intro j k h
          induction h with
          | one h => exact hcl _ _ h
          | more _ e ih2 => exact fun hk => ih2 (hcl _ _ e hk)
        intro j h
        cases h with
        | one h =>
          obtain ⟨o', e, ho', he, hb, rfl⟩ := h
          rw [ho] at ho'
          obtain rfl := Option.some.inj ho'
          exact hall e he hb
        | more h1 h2 =>
          obtain ⟨o', e, ho', he, hb, rfl⟩ := h2
          rw [ho] at ho'
          obtain rfl := Option.some.inj ho'
          exact gen _ _ h1 (hall e he hb)
      have anc2 : ∀ j, listed.getD j false = true → ¬ Anc ops i j := by
        intro j hj h
        have gen : ∀ j k, Anc ops j k → listed.getD k false = true → listed.getD j false = true := by
          intro j k h
          induction h with
          | one h => exact hcl _ _ h
          | more _ e ih2 => exact fun hk => ih2 (hcl _ _ e hk)
        have := gen i j h hj
        rw [hDi] at this
        cases this
      -- what the operation finds
      have hM : ∀ id, (id ∈ (sR i).rd ∨ id ∈ (sR i).wr) → valM sS sR m (fun j => listed.getD j false) n id = aget (sS i).h id := by
        intro id hid
        have h1 : valM sS sR m (fun j => listed.getD j false) n id = valM sS sR m (fun j => decide (j < i)) n id := valM_congr n fun j hj ht => by
          by_cases e : j = i
          · subst e; simp [hDi]; try exact hDi
          · have hnt := sep j i hj hin e
            cases hd : listed.getD j false
            · by_cases hlt : j < i
              · exfalso
                refine hnt (fun h => by rw [anc1 j h] at hd; cases hd) (fun h => ?_) id hid ht
                have hgen : ∀ a b, Anc ops a b → a < b := by
                  intro a b hab
                  induction hab with
                  | one h =>
                    obtain ⟨o', e, ho', he, hb, rfl⟩ := h
                    exact (stat _ o' ho').1 e he hb
                  | more _ e ih2 =>
                    obtain ⟨o', e, ho', he, hb, rfl⟩ := e
                    have := (stat _ o' ho').1 e he hb
                    omega
                have := hgen _ _ h
                omega
              · simp [hlt]
            · by_cases hlt : j < i
              · simp [hlt]
              · exfalso
                have hgen : ∀ a b, Anc ops a b → a < b := by
                  intro a b hab
                  induction hab with
                  | one h =>
                    obtain ⟨o', e, ho', he, hb, rfl⟩ := h
                    exact (stat _ o' ho').1 e he hb
                  | more _ e ih2 =>
                    obtain ⟨o', e, ho', he, hb, rfl⟩ := e
                    have := (stat _ o' ho').1 e he hb
                    omega
                exact hnt (fun h => by have := hgen _ _ h; omega) (anc2 j hd) id hid ht
        rw [h1, show n = i + (n - i) by omega, stayM]
        exact full _ i (by omega) (fun j hj => by simp [hj]) id (magree id (hid.imp (tord i hin id) (towr i hin id)))
      have hT : ∀ t v, aget (restr (sT i) (looks ops.toList o)) t = some v → valT ops sV T (fun j => listed.getD j false) n t = some v := by
        intro t v ht
        obtain ⟨hlk, ht⟩ := aget_restr _ _ _ _ ht
        have h1 : valT ops sV T (fun j => listed.getD j false) n t = valT ops sV T (fun j => decide (j < i)) n t := valT_congr n fun j hj hdst => by
          obtain ⟨oj, hoj⟩ := geto j hj
          rw [hoj] at hdst
          have hdst : oj.dst = some t := hdst
          by_cases e : j = i
          · subst e; simp [hDi]; try exact hDi
          · cases hd : listed.getD j false
            · by_cases hlt : j < i
              · exfalso
                rcases (stat i o ho).2 j oj hlt hoj with h | h
                · rw [anc1 j h] at hd; cases hd
                · exact (apartB_ok h).1 t hdst hlk
              · simp [hlt]
            · by_cases hlt : j < i
              · simp [hlt]
              · exfalso
                rcases (stat j oj hoj).2 i o (by omega) ho with h | h
                · exact anc2 j hd h
                · exact (apartB_ok h).2.1 t hdst hlk
        rw [h1, show n = i + (n - i) by omega, stayT, fullT _ i (by omega) (fun j hj => by simp [hj])]
        exact ht
      have tr' : TR N ν (restr (sT i) (looks ops.toList o)) a := ⟨htz, fun t v ht => htm t v (hT t v ht)⟩
      have pre' : Pre B W0 ν (fun id => valM sS sR m (fun j => listed.getD j false) n id) (clr (sS i)) (sR i) w := by
        refine ⟨fun id hid => hM id hid, fun id h1 h2 => ⟨?_, ?_⟩, wfS p.wf i (by omega), hrel⟩
        rotate_left
        · obtain ⟨k1, k2⟩ := tonew i hin id h1 h2
          have : ∀ k, k ≤ n → valM sS sR m (fun j => listed.getD j false) k id = none := by
            intro k
            induction k with
            | zero => intro _; exact (p.fresh id k1 k2).2
            | succ k ih =>
              intro hk
              unfold valM
              by_cases hh : listed.getD k false = true ∧ Touch sS sR k id
              · rw [if_pos hh]
                by_cases e : k = i
                · subst e; rw [hDi] at hh; cases hh.1
                rcases Nat.lt_or_gt_of_ne e with hlt | hgt
                · cases ho : aget (sR k).h id with
                  | none => rfl
                  | some o =>
                    have h4 := (exts k (by omega)).wf (wfS p.wf k (by omega)) id o ho
                    have h3 := nxm i (by omega) (k + 1) (by omega)
                    rw [nex k (by omega)] at h3
                    have h5 : (sS i).nx ≤ id := h1
                    omega
                · exfalso
                  refine sep2 k i (by omega) hin e (anc2 k hh.1) (fun h => ?_) id hh.2 (.inr ⟨h1, h2⟩)
                  have hgen : ∀ a b, Anc ops a b → a < b := by
                    intro a b hab
                    induction hab with
                    | one h =>
                      obtain ⟨o', e, ho', he, hb, rfl⟩ := h
                      exact (stat _ o' ho').1 e he hb
                    | more _ e ih2 =>
                      obtain ⟨o', e, ho', he, hb, rfl⟩ := e
                      have := (stat _ o' ho').1 e he hb
                      omega
                  have := hgen _ _ h
                  omega
              · rw [if_neg hh]; exact ih (by omega)
          exact this n (Nat.le_refl _)
        by_cases hne : ν id = ν0 id
        · rw [hne]
          obtain ⟨k1, k2⟩ := tonew i hin id h1 h2
          exact (p.fresh id k1 k2).1
        · exfalso
          obtain ⟨j, hj, hd, k1, k2⟩ := hnew id hne
          refine newd j i hj hin (fun e => ?_) id h1 h2 k1 k2
          subst e
          rw [hDi] at hd
          cases hd
      refine wpOp1.op ho (key ν _ a w _ Q tr' pre' fun ν' u w' hu hpost => ?_)
      -- behind it
      have hgetD : ∀ j, (listed.setIfInBounds i true).getD j false = if j = i then true else listed.getD j false := by
        intro j
        by_cases e : j = i
        · subst e; simp [hsz, hin]
        · rw [getD_set_ne false (Ne.symm e), if_neg e]
      have hD' : ∀ j, j ≠ i → (fun j => (listed.setIfInBounds i true).getD j false) j = (fun j => listed.getD j false) j := fun j hj => by
        show (listed.setIfInBounds i true).getD j false = listed.getD j false
        rw [hgetD, if_neg hj]
      have hDi' : (fun j => (listed.setIfInBounds i true).getD j false) i = true := by
        show (listed.setIfInBounds i true).getD i false = true
        rw [hgetD, if_pos rfl]
      refine ih _ _ w' ν' (by simp [hsz]) ?_ ?_ (hle.trans hpost.le) ?_ ?_ (by cases hd : o.dst <;> simp [Act.put, htz]) ?_ (by rw [← hdf]; cases o.dst <;> rfl)
      · have := cnt_insert (D := fun j => listed.getD j false) (D' := fun j => (listed.setIfInBounds i true).getD j false) hDi hDi' hD' n hin
        omega
      · intro j k hjk hk
        rw [hgetD] at hk ⊢
        by_cases e : j = i
        · rw [if_pos e]
        · rw [if_neg e]
          by_cases e2 : k = i
          · subst e2
            exact anc1 j (.one hjk)
          · rw [if_neg e2] at hk
            exact hcl j k hjk hk
      · intro id hid
        by_cases e : ν' id = ν id
        · rw [e] at hid
          obtain ⟨j, hj, hd, k1, k2⟩ := hnew id hid
          exact ⟨j, hj, by rw [hgetD]; split <;> first | rfl | exact hd, k1, k2⟩
        · obtain ⟨k1, k2⟩ := hpost.new id e
          exact ⟨i, hin, by rw [hgetD, if_pos rfl], k1, k2⟩
      · refine hpost.rel.of_le fun id ob hid => ?_
        try dsimp only at hid ⊢
        rw [show n = i + 1 + (n - (i + 1)) by omega] at hid
        rw [valM_insert hDi hDi' hD' (fun j hlt hd ht => ?_) (n - (i + 1))] at hid
        · unfold Upd
          by_cases ht : Touch sS sR i id
          · rw [if_pos ht] at hid
            rw [if_pos (show id ∈ (sR i).wr ∨ ((clr (sS i)).nx ≤ id ∧ id < (sR i).nx) from ht)]
            exact hid
          · rw [if_neg ht] at hid
            rw [if_neg (show ¬(id ∈ (sR i).wr ∨ ((clr (sS i)).nx ≤ id ∧ id < (sR i).nx)) from ht)]
            rw [← show n = i + 1 + (n - (i + 1)) by omega] at hid
            exact hid
        · by_cases hjn : j < n
          · refine sep2 i j hin hjn (by omega) (fun h => ?_) (anc2 j hd) id ht
            have hgen : ∀ a b, Anc ops a b → a < b := by
              intro a b hab
              induction hab with
              | one h =>
                obtain ⟨o', e, ho', he, hb, rfl⟩ := h
                exact (stat _ o' ho').1 e he hb
              | more _ e ih2 =>
                obtain ⟨o', e, ho', he, hb, rfl⟩ := e
                have := (stat _ o' ho').1 e he hb
                omega
            have := hgen _ _ h
            omega
          · have : listed.getD j false = false := by simp [hsz, hjn]
            have hd : listed.getD j false = true := hd
            rw [this] at hd
            cases hd
      · intro t v ht
        rw [show n = i + 1 + (n - (i + 1)) by omega] at ht
        rw [valT_insert hDi hDi' hD' (fun j hlt hd hti htj => ?_) (n - (i + 1))] at ht
        · rw [← show n = i + 1 + (n - (i + 1)) by omega] at ht
          by_cases hdst : (ops[i]?).bind (·.dst) = some t
          · rw [if_pos hdst] at ht
            obtain rfl := Option.some.inj ht
            rw [ho] at hdst
            have hdst : o.dst = some t := hdst
            have htN : t < N := hdN t hdst
            exact ⟨u, by rw [hdst]; simp [Act.put, htz, htN], hu⟩
          · rw [if_neg hdst] at ht
            obtain ⟨u', h1, h2⟩ := htm t v ht
            refine ⟨u', ?_, h2.mono hpost.le⟩
            rw [ho] at hdst
            cases hd : o.dst with
            | none => exact h1
            | some d =>
              simp only [Act.put]
              rw [Array.getElem?_setIfInBounds_ne (fun e => hdst (by subst e; exact hd))]
              exact h1
        · by_cases hjn : j < n
          · obtain ⟨oj, hoj⟩ := geto j hjn
            rw [hoj] at htj
            rw [ho] at hti
            rcases (stat j oj hoj).2 i o hlt ho with h | h
            · exact anc2 j hd h
            · exact (apartB_ok h).2.2 t hti htj
          · have : listed.getD j false = false := by simp [hsz, hjn]
            have hd : listed.getD j false = true := hd
            rw [this] at hd
            cases hd
  refine wp_region_any hmix ?_
  rw [hnn]
  have hrep : ∀ j, (Array.replicate n false).getD j false = false := fun j => by
    by_cases h : j < n <;> simp [h]
  have hval : ∀ k id, valM sS sR m (fun j => (Array.replicate n false).getD j false) k id = m id := by
    intro k id
    induction k with
    | zero => rfl
    | succ k ih => unfold valM; rw [if_neg (by rw [hrep]; simp), ih]
  have hvalT : ∀ k t, valT ops sV T (fun j => (Array.replicate n false).getD j false) k t = aget T t := by
    intro k t
    induction k with
    | zero => rfl
    | succ k ih => unfold valT; rw [if_neg (by rw [hrep]; simp), ih]
  refine main n _ a0 _ ν0 (by simp) (cnt_le _ _) (fun j i _ h => by rw [hrep] at h; cases h) (.refl _) (fun id h => absurd rfl h) ?_ tr.size (fun t v ht => tr.get t v (by rw [hvalT] at ht; exact ht)) rfl
  rw [show (fun id => valM sS sR m (fun j => (Array.replicate n false).getD j false) n id) = m from funext (hval n)]
  exact p.rel.drew
end
end Go.Ev
