/- Words of my own: what holds behind a piece of code, whatever the names of the blocks: rules for code. -/
import Derived.Test.YtlkfcabklaaacaaHv1
set_option linter.unusedVariables false
set_option linter.unusedSimpArgs false
namespace Go.Ev
open Go.RowKit
/-- Names from here on are the caller's own. -/
def KB : Nat := 1000000
/-- What is known at a function's entry: n0 names of its own, ν0 all names, m0 the caller's memory. -/
structure Ent (B : Nat) (W0 : World) (n0 : Nat) (ν0 : Ren) (m0 : Nat → Option Obj) : Prop where
  hB : B ≤ W0.heap.size
  fresh : ∀ id, n0 ≤ id → id < KB → ν0 id = none
  fr : ∀ id o, KB ≤ id → m0 id = some o → ∃ ρ o', ORN false ρ o o' ∧ ∀ b a, ρ b = some a → b < n0 ∨ KB ≤ b
/-- Memory: the function's own part, and the caller's. -/
noncomputable def mm (s : St) (m0 : Nat → Option Obj) : Nat → Option Obj := fun id => if id < KB then aget s.h id else m0 id
structure Mem (B : Nat) (W0 : World) (n0 : Nat) (ν0 : Ren) (m0 : Nat → Option Obj) (s : St) (ν : Ren) (w : World) : Prop where
  le : ν0.le ν
  new : ∀ id, ν id ≠ ν0 id → n0 ≤ id ∧ id < s.nx
  rel : RelH B W0 ν (mm s m0) w
  wf : Wf s
  n1 : n0 ≤ s.nx
  n2 : s.nx ≤ KB
/-- What holds at an end. -/
def Aft (B : Nat) (W0 : World) (n0 : Nat) (ν0 : Ren) (m0 : Nat → Option Obj) (N : Nat) (Q : Out → Tm → St → Prop) : Exit → Act → World → Prop := fun e a w =>
  ∃ o T s ν, e = exitOf o ∧ Q o T s ∧ Mem B W0 n0 ν0 m0 s ν w ∧ TR N ν T a ∧ DefR ν s.df a.defers
def WP (C : Cfg) (N n0 : Nat) (c : Code) (T : Tm) (s : St) (Q : Out → Tm → St → Prop) : Prop :=
  ∀ B W0 ν0 m0, Ent B W0 n0 ν0 m0 → ∀ ν a w, Mem B W0 n0 ν0 m0 s ν w → TR N ν T a → DefR ν s.df a.defers → c.wp C.P (Aft B W0 n0 ν0 m0 N Q) a w
section
variable {C : Cfg} {N n0 : Nat} {T : Tm} {s : St} {Q : Out → Tm → St → Prop}
theorem Aft.mono {B : Nat} {W0 : World} {ν0 : Ren} {m0 : Nat → Option Obj} {Q' : Out → Tm → St → Prop} (h : ∀ o T s, Q o T s → Q' o T s) {e : Exit} {a : Act} {w : World} (hh : Aft B W0 n0 ν0 m0 N Q e a w) : Aft B W0 n0 ν0 m0 N Q' e a w := by
  obtain ⟨o, T, s, ν, h1, h2, h3⟩ := hh
  exact ⟨o, T, s, ν, h1, h _ _ _ h2, h3⟩
theorem WP.mono {c : Code} {Q' : Out → Tm → St → Prop} (h : WP C N n0 c T s Q) (hq : ∀ o T s, Q o T s → Q' o T s) : WP C N n0 c T s Q' :=
  fun B W0 ν0 m0 en ν a w hm tr df => wp_mono (h B W0 ν0 m0 en ν a w hm tr df) fun _ _ _ hh => hh.mono hq
theorem WP.skip (h : Q .normal T s) : WP C N n0 .skip T s Q :=
  fun B W0 ν0 m0 en ν a w hm tr df => wp_skip ⟨.normal, T, s, ν, rfl, h, hm, tr, df⟩
theorem WP.label {l : Nat} (h : Q .normal T s) : WP C N n0 (.label l) T s Q :=
  fun B W0 ν0 m0 en ν a w hm tr df => wp_label ⟨.normal, T, s, ν, rfl, h, hm, tr, df⟩
theorem WP.exit {id : Nat} (h : Q (.exit id) T s) : WP C N n0 (.exit id) T s Q :=
  fun B W0 ν0 m0 en ν a w hm tr df => wp_exit ⟨.exit id, T, s, ν, rfl, h, hm, tr, df⟩
theorem WP.ret (h : Q .ret T s) : WP C N n0 .ret T s Q :=
  fun B W0 ν0 m0 en ν a w hm tr df => wp_ret ⟨.ret, T, s, ν, rfl, h, hm, tr, df⟩
theorem WP.seq {x y : Code} (h : WP C N n0 x T s fun o T' s' => match o with | .normal => WP C N n0 y T' s' Q | o => Q o T' s') : WP C N n0 (.seq x y) T s Q := by
  intro B W0 ν0 m0 en ν a w hm tr df
  refine wp_seq (wp_mono (h B W0 ν0 m0 en ν a w hm tr df) fun e a' w' hh => ?_)
  obtain ⟨o, T', s', ν', he, hq, hm', tr', df'⟩ := hh
  subst he
  cases o with
  | normal => exact hq B W0 ν0 m0 en ν' a' w' hm' tr' df'
  | exit id => exact ⟨_, T', s', ν', rfl, hq, hm', tr', df'⟩
  | ret => exact ⟨_, T', s', ν', rfl, hq, hm', tr', df'⟩
  | panic v => exact ⟨_, T', s', ν', rfl, hq, hm', tr', df'⟩
theorem WP.cond {x : Operand} {y z : Code} {b : Bool} (hx : ev1 T x = some (.bool b)) (h1 : b = true → WP C N n0 y T s Q) (h2 : b = false → WP C N n0 z T s Q) : WP C N n0 (.cond x y z) T s Q := by
  intro B W0 ν0 m0 en ν a w hm tr df
  have := VR.bool_inv (ev1_ok tr hx)
  cases b with
  | true => exact wp_cond_true this (h1 rfl B W0 ν0 m0 en ν a w hm tr df)
  | false => exact wp_cond_false this (h2 rfl B W0 ν0 m0 en ν a w hm tr df)
theorem WP.condT {x : Operand} {y z : Code} (hx : ev1 T x = some (.bool true)) (h1 : WP C N n0 y T s Q) : WP C N n0 (.cond x y z) T s Q := WP.cond hx (fun _ => h1) (fun h => by cases h)
theorem WP.condF {x : Operand} {y z : Code} (hx : ev1 T x = some (.bool false)) (h1 : WP C N n0 z T s Q) : WP C N n0 (.cond x y z) T s Q := WP.cond hx (fun h => by cases h) (fun _ => h1)
theorem WP.condD {x : Operand} {y z : Code} {p : Prop} [Decidable p] (hx : ev1 T x = some (.bool (decide p))) (h1 : p → WP C N n0 y T s Q) (h2 : ¬p → WP C N n0 z T s Q) : WP C N n0 (.cond x y z) T s Q :=
  WP.cond hx (fun h => h1 (of_decide_eq_true h)) (fun h => h2 (of_decide_eq_false h))
theorem WP.block {id : Nat} {x : Code} (h : WP C N n0 x T s fun o T' s' => match o with | .exit id' => Bool.rec (Q (.exit id') T' s') (Q .normal T' s') (Nat.beq id' id) | o => Q o T' s') : WP C N n0 (.block id x) T s Q := by
  intro B W0 ν0 m0 en ν a w hm tr df
  refine wp_block (wp_mono (h B W0 ν0 m0 en ν a w hm tr df) fun e a' w' hh => ?_)
  obtain ⟨o, T', s', ν', he, hq, hm', tr', df'⟩ := hh
  subst he
  cases o with
  | normal => exact ⟨_, T', s', ν', rfl, hq, hm', tr', df'⟩
  | exit id' =>
    show (if id' = id then _ else _)
    change Bool.rec (Q (.exit id') T' s') (Q .normal T' s') (Nat.beq id' id) at hq
    cases hb : Nat.beq id' id <;> rw [hb] at hq
    · rw [if_neg (fun e => by rw [e, Nat.beq_refl] at hb; cases hb)]
      exact ⟨_, T', s', ν', rfl, hq, hm', tr', df'⟩
    · rw [if_pos (Nat.eq_of_beq_eq_true hb)]
      exact ⟨.normal, T', s', ν', rfl, hq, hm', tr', df'⟩
  | ret => exact ⟨_, T', s', ν', rfl, hq, hm', tr', df'⟩
  | panic v => exact ⟨_, T', s', ν', rfl, hq, hm', tr', df'⟩
/-- Slots and memory under new names (left); R tells a new name's old one. -/
inductive RTs (ρ : Nat → Option Nat) (T : Tm) : Tm → Prop
  | nil : RTs ρ T []
  | cons {i : Nat} {v1 v : Value} {T1 : Tm} (h : aget T i = some v) (r : RN true ρ v1 v) (t : RTs ρ T T1) : RTs ρ T ((i, v1) :: T1)
theorem RTs.get {ρ : Nat → Option Nat} {T T1 : Tm} (h : RTs ρ T T1) : ∀ {i : Nat} {v1 : Value}, aget T1 i = some v1 → ∃ v, aget T i = some v ∧ RN true ρ v1 v := by
  induction h with
  | nil => intro i v1 h; cases h
  | @cons j v1' v T1 h r t ih =>
    intro i v1 hi
    rw [aget_cons] at hi
    by_cases e : i = j
    · rw [if_pos e] at hi
      obtain rfl := Option.some.inj hi
      exact ⟨v, by rw [e]; exact h, r⟩
    · rw [if_neg e] at hi
      exact ih hi
inductive RHs (n0 : Nat) (ρ : Nat → Option Nat) (h : List (Nat × Obj)) : List (Nat × Obj) → Prop
  | nil : RHs n0 ρ h []
  | ghost {b : Nat} {o1 : Obj} {h1 : List (Nat × Obj)} (hb : ρ b = none) (hn : Nat.ble n0 b = true) (t : RHs n0 ρ h h1) : RHs n0 ρ h ((b, o1) :: h1)
  | cons {b a : Nat} {o1 o : Obj} {h1 : List (Nat × Obj)} (hb : ρ b = some a) (ho : aget h a = some o) (r : ORN true ρ o1 o) (t : RHs n0 ρ h h1) : RHs n0 ρ h ((b, o1) :: h1)
theorem RHs.get {n0 : Nat} {ρ : Nat → Option Nat} {h h1 : List (Nat × Obj)} (hh : RHs n0 ρ h h1) : ∀ {b : Nat} {o1 : Obj}, aget h1 b = some o1 → (ρ b = none ∧ n0 ≤ b) ∨ ∃ a o, ρ b = some a ∧ aget h a = some o ∧ ORN true ρ o1 o := by
  induction hh with
  | nil => intro b o1 hb; cases hb
  | @ghost b' o1' h1 hb hn t ih =>
    intro b o1 hbo
    rw [aget_cons] at hbo
    by_cases e : b = b'
    · exact .inl (by rw [e]; exact ⟨hb, ble_iff.1 hn⟩)
    · rw [if_neg e] at hbo
      exact ih hbo
  | @cons b' a o1' o h1 hb ho r t ih =>
    intro b o1 hbo
    rw [aget_cons] at hbo
    by_cases e : b = b'
    · rw [if_pos e] at hbo
      obtain rfl := Option.some.inj hbo
      exact .inr ⟨a, o, by rw [e]; exact hb, ho, r⟩
    · rw [if_neg e] at hbo
      exact ih hbo
/-- Are the names in order: the first n0 keep theirs, all are below nx, none stands for two. -/
noncomputable def okR (n0 nx : Nat) (R : List (Nat × Nat)) : Bool :=
  List.rec (motive := fun _ => Bool) true (fun p r ih => Bool.rec (motive := fun _ => Bool) false
    (Bool.rec (motive := fun _ => Bool) false
      (Bool.rec (motive := fun _ => Bool) false ih (notIn (some p.2) (List.rec (motive := fun _ => List Nat) [] (fun q _ ih => q.2 :: ih) r)))
      (Bool.rec (motive := fun _ => Bool) (Nat.ble n0 p.2) (Nat.beq p.1 p.2) (Nat.ble (Nat.succ p.1) n0)))
    (Nat.ble (Nat.succ p.1) nx)) R
theorem okR_ok {n0 nx : Nat} : ∀ {R : List (Nat × Nat)}, okR n0 nx R = true →
    (∀ b a, aget R b = some a → b < nx ∧ (b < n0 → a = b) ∧ (n0 ≤ b → n0 ≤ a)) ∧ (∀ b a, aget R b = some a → a ∈ R.map (·.2)) ∧ (∀ b b' a, aget R b = some a → aget R b' = some a → b = b')
  | [], _ => ⟨fun b a h => (by cases h), fun b a h => (by cases h), fun b b' a h => (by cases h)⟩
  | p :: R, h => by
    change Bool.rec (motive := fun _ => Bool) false
      (Bool.rec (motive := fun _ => Bool) false
        (Bool.rec (motive := fun _ => Bool) false (okR n0 nx R) (notIn (some p.2) (List.rec (motive := fun _ => List Nat) [] (fun q _ ih => q.2 :: ih) R)))
        (Bool.rec (motive := fun _ => Bool) (Nat.ble n0 p.2) (Nat.beq p.1 p.2) (Nat.ble (Nat.succ p.1) n0)))
      (Nat.ble (Nat.succ p.1) nx) = true at h
    cases h1 : Nat.ble (Nat.succ p.1) nx <;> rw [h1] at h
    · cases h
    cases h2 : (Bool.rec (motive := fun _ => Bool) (Nat.ble n0 p.2) (Nat.beq p.1 p.2) (Nat.ble (Nat.succ p.1) n0)) <;> rw [h2] at h
    · cases h
    cases h3 : notIn (some p.2) (List.rec (motive := fun _ => List Nat) [] (fun q _ ih => q.2 :: ih) R) <;> rw [h3] at h
    · cases h
    obtain ⟨k1, k2, k3⟩ := okR_ok h
    have hm : ∀ R : List (Nat × Nat), (List.rec (motive := fun _ => List Nat) [] (fun q _ ih => q.2 :: ih) R : List Nat) = R.map (·.2) := by
      intro R; induction R with
      | nil => rfl
      | cons q r ih => exact congrArg (q.2 :: ·) ih
    have h3' : p.2 ∉ R.map (·.2) := by
      rw [hm] at h3
      intro hin
      change (Bool.rec (motive := fun _ => Bool) true false (mem (R.map (·.2)) p.2)) = true at h3
      rw [(mem_iff _ _).2 hin] at h3
      cases h3
    refine ⟨fun b a hb => ?_, fun b a hb => ?_, fun b b' a hb hb' => ?_⟩
    · rw [aget_cons] at hb
      by_cases e : b = p.1
      · rw [if_pos e] at hb
        obtain rfl := Option.some.inj hb
        subst e
        refine ⟨ble_iff.1 h1, fun hlt => ?_, fun hge => ?_⟩
        · rw [show Nat.ble (Nat.succ p.1) n0 = true from ble_iff.2 hlt] at h2
          exact (Nat.eq_of_beq_eq_true h2).symm
        · rw [show Nat.ble (Nat.succ p.1) n0 = false by cases hh : Nat.ble (Nat.succ p.1) n0; rfl; exact absurd (ble_iff.1 hh) (by omega)] at h2
          exact ble_iff.1 h2
      · rw [if_neg e] at hb
        exact k1 b a hb
    · rw [aget_cons] at hb
      by_cases e : b = p.1
      · rw [if_pos e] at hb
        obtain rfl := Option.some.inj hb
        exact List.mem_cons_self
      · rw [if_neg e] at hb
        exact List.mem_cons_of_mem _ (k2 b a hb)
    · rw [aget_cons] at hb hb'
      by_cases e : b = p.1 <;> by_cases e' : b' = p.1
      · rw [e, e']
      · rw [if_pos e] at hb; rw [if_neg e'] at hb'
        obtain rfl := Option.some.inj hb
        exact absurd (k2 _ _ hb') h3'
      · rw [if_neg e] at hb; rw [if_pos e'] at hb'
        obtain rfl := Option.some.inj hb'
        exact absurd (k2 _ _ hb) h3'
      · rw [if_neg e] at hb; rw [if_neg e'] at hb'
        exact k3 b b' a hb hb'
/-- All names of memory are below the next one. -/
noncomputable def wfB (nx : Nat) (h : List (Nat × Obj)) : Bool := List.rec (motive := fun _ => Bool) true (fun p _ ih => Bool.rec (motive := fun _ => Bool) false ih (Nat.ble (Nat.succ p.1) nx)) h
theorem wfB_ok {nx : Nat} : ∀ {h : List (Nat × Obj)}, wfB nx h = true → ∀ id o, aget h id = some o → id < nx
  | [], _, _, _, h => by cases h
  | p :: l, h, id, o, hi => by
    change Bool.rec (motive := fun _ => Bool) false (wfB nx l) (Nat.ble (Nat.succ p.1) nx) = true at h
    cases h1 : Nat.ble (Nat.succ p.1) nx <;> rw [h1] at h
    · cases h
    rw [aget_cons] at hi
    by_cases e : id = p.1
    · rw [e]; exact ble_iff.1 h1
    · rw [if_neg e] at hi
      exact wfB_ok h id o hi
theorem DefR.ren {ρ : Nat → Option Nat} {ν ν1 : Ren} (hν : ∀ b a p, ρ b = some a → ν a = some p → ν1 b = some p) {l1 l : List Value} (h : RNs true ρ l1 l) : ∀ {k : List Deferred}, DefR ν l k → DefR ν1 l1 k := by
  induction h with
  | nil => intro k hk; cases hk; exact .nil
  | cons h _ ih =>
    intro k hk
    cases hk with
    | cons hc t =>
      have := VR.ren hν h (VR.fn_iff.2 ⟨_, rfl, hc⟩)
      cases h with
      | flat h => simp [Ev.flat] at h
      | fn hs hl =>
        obtain ⟨l', e, h'⟩ := VR.fn_iff.1 this
        cases e
        exact .cons h' (ih t)
theorem ro_back {a b : Bool} (h : a = true → b = true) (hb : b = false) : a = false := by
  cases a with
  | false => rfl
  | true => rw [h rfl] at hb; cases hb
structure Rnm (n0 : Nat) (T : Tm) (s : St) (T1 : Tm) (s1 : St) : Prop where
  ex : ∃ R : List (Nat × Nat), okR n0 s1.nx R = true ∧ RTs (aget R) T T1 ∧ RHs n0 (aget R) s.h s1.h ∧ RNs true (aget R) s1.df s.df
  n1 : Nat.ble n0 s1.nx = true
  n2 : Nat.ble s1.nx KB = true
  wf : wfB s1.nx s1.h = true
theorem Rnm.mk' {n0 : Nat} {T : Tm} {s : St} {T1 : Tm} {s1 : St} (R : List (Nat × Nat)) (h0 : okR n0 s1.nx R = true) (n1 : Nat.ble n0 s1.nx = true) (n2 : Nat.ble s1.nx KB = true) (wf : wfB s1.nx s1.h = true) (h1 : RTs (aget R) T T1) (h2 : RHs n0 (aget R) s.h s1.h) (h3 : RNs true (aget R) s1.df s.df) : Rnm n0 T s T1 s1 := ⟨⟨R, h0, h1, h2, h3⟩, n1, n2, wf⟩
theorem Mem.rnm {B : Nat} {W0 : World} {ν0 : Ren} {m0 : Nat → Option Obj} (en : Ent B W0 n0 ν0 m0) {T1 : Tm} {s1 : St} (r : Rnm n0 T s T1 s1) {ν : Ren} {w : World} (hm : Mem B W0 n0 ν0 m0 s ν w) :
    ∃ ν1, Mem B W0 n0 ν0 m0 s1 ν1 w ∧ (∀ i v1, aget T1 i = some v1 → ∃ v, aget T i = some v ∧ ∀ u, VR ν v u → VR ν1 v1 u) ∧ ∀ l, DefR ν s.df l → DefR ν1 s1.df l := by
  obtain ⟨⟨R, hR, hT, hH, hD⟩, n1, n2, hwf⟩ := r
  obtain ⟨k1, _, k3⟩ := okR_ok hR
  have n1 := ble_iff.1 n1
  have n2 := ble_iff.1 n2
  have key : ∀ b a p, aget R b = some a → ν a = some p → (fun b => if b < n0 ∨ KB ≤ b then ν0 b else (aget R b).bind ν) b = some p := by
    intro b a p hb ha
    show (if b < n0 ∨ KB ≤ b then ν0 b else (aget R b).bind ν) = some p
    obtain ⟨h1, h2, h3⟩ := k1 b a hb
    by_cases hlt : b < n0
    · rw [if_pos (.inl hlt)]
      have := h2 hlt
      subst this
      by_cases e : ν a = ν0 a
      · rw [← e]; exact ha
      · have := (hm.new a e).1; omega
    · rw [if_neg (by omega), hb]
      exact ha
  have le0 : ν0.le (fun b => if b < n0 ∨ KB ≤ b then ν0 b else (aget R b).bind ν) := by
    intro b p hb
    show (if b < n0 ∨ KB ≤ b then ν0 b else (aget R b).bind ν) = some p
    by_cases hh : b < n0 ∨ KB ≤ b
    · rw [if_pos hh]; exact hb
    · rw [en.fresh b (by omega) (by omega)] at hb; cases hb
  have hfr : ∀ b, KB ≤ b → ν b = ν0 b := fun b hb => by
    by_cases e : ν b = ν0 b
    · exact e
    · have := (hm.new b e).2; have := hm.n2; omega
  refine ⟨fun b => if b < n0 ∨ KB ≤ b then ν0 b else (aget R b).bind ν, ⟨le0, ?_, ?_, ?_, n1, n2⟩, ?_, fun l hl => DefR.ren key hD hl⟩
  · intro b hb
    by_cases hh : b < n0 ∨ KB ≤ b
    · simp only [if_pos hh, ne_eq, not_true_eq_false] at hb
    · refine ⟨by omega, ?_⟩
      simp only [if_neg hh] at hb
      rw [en.fresh b (by omega) (by omega)] at hb
      cases hc : aget R b with
      | none => rw [hc] at hb; exact absurd rfl hb
      | some a => exact (k1 b a hc).1
  · have obj : ∀ b o1 g S, mm s1 m0 b = some o1 → (if b < n0 ∨ KB ≤ b then ν0 b else (aget R b).bind ν) = some (g, S) → ∃ a ob, ν a = some (g, S) ∧ (∃ o, mm s m0 a = some o ∧ (ro o = true → ro o1 = true)) ∧ ((b < KB ∧ aget R b = some a) ∨ (KB ≤ b ∧ a = b)) ∧ w.heap[g]? = some ob ∧ OR (fun b => if b < n0 ∨ KB ≤ b then ν0 b else (aget R b).bind ν) o1 ob S ∧ (ro o1 = false → B ≤ g) := by
      intro b o1 g S hb hg
      unfold mm at hb
      by_cases hlt : b < KB
      · rw [if_pos hlt] at hb
        rcases hH.get hb with ⟨hnone, hn0⟩ | ⟨a, o, ha, ho, hr⟩
        · by_cases hb0 : b < n0
          · omega
          · rw [if_neg (by omega), hnone] at hg; cases hg
        have halt := hm.wf a o ho
        have hmm : mm s m0 a = some o := by unfold mm; rw [if_pos (by have := hm.n2; omega)]; exact ho
        have hga : ν a = some (g, S) := by
          by_cases hb0 : b < n0
          · rw [if_pos (.inl hb0)] at hg
            have := (k1 b a ha).2.1 hb0
            subst this
            exact hm.le _ _ hg
          · rw [if_neg (by omega), ha] at hg; exact hg
        obtain ⟨ob, h2, h3, h4⟩ := hm.rel.objs a o g S hmm hga
        exact ⟨a, ob, hga, ⟨o, hmm, hr.ro'⟩, .inl ⟨hlt, ha⟩, h2, OR.ren key hr h3, fun hf => h4 (ro_back hr.ro' hf)⟩
      · rw [if_neg hlt] at hb
        have hmm : mm s m0 b = some o1 := by unfold mm; rw [if_neg hlt]; exact hb
        rw [if_pos (.inr (by omega)), ← hfr b (by omega)] at hg
        obtain ⟨ob, h2, h3, h4⟩ := hm.rel.objs b o1 g S hmm hg
        obtain ⟨ρ, o', h0, hρ⟩ := en.fr b o1 (by omega) hb
        refine ⟨b, ob, hg, ⟨_, hmm, id⟩, .inr ⟨by omega, rfl⟩, h2, OR.cong (fun c d hc => ?_) h0 h3, h4⟩
        show (if c < n0 ∨ KB ≤ c then ν0 c else (aget R c).bind ν) = ν c
        rw [if_pos (hρ c d hc)]
        by_cases e : ν c = ν0 c
        · exact e.symm
        · have h1 := (hm.new c e); have := hm.n2; have := hρ c d hc; omega
    refine ⟨fun b o1 g S hb hg => ?_, fun b b' o1 o1' g S S' hb hb' h1 h1' => ?_, hm.rel.below⟩
    · obtain ⟨a, ob, _, _, _, h2, h3, h4⟩ := obj b o1 g S hb hg
      exact ⟨ob, h2, h3, h4⟩
    · obtain ⟨a, ob, j2, ⟨o, j3, jr⟩, j4, _⟩ := obj b o1 g S hb h1
      obtain ⟨a', ob', i2, ⟨o', i3, ir⟩, i4, _⟩ := obj b' o1' g S' hb' h1'
      rcases hm.rel.inj a a' o o' g S S' j3 i3 j2 i2 with this | this
      rotate_left
      · exact .inr ⟨jr this.1, ir this.2⟩
      subst this
      refine .inl ?_
      have alt : ∀ b, aget R b = some a → (∃ o1, aget s1.h b = some o1) → a < KB := fun b hb ⟨o1, ho1⟩ => by
        rcases hH.get ho1 with ⟨hn, _⟩ | ⟨a2, o2, ha2, ho2, _⟩
        · rw [hb] at hn; cases hn
        rw [hb] at ha2
        obtain rfl := Option.some.inj ha2
        have := hm.wf a o2 ho2
        have := hm.n2
        omega
      rcases j4 with ⟨k, j4⟩ | ⟨k, j4⟩ <;> rcases i4 with ⟨k', i4⟩ | ⟨k', i4⟩
      · exact k3 b b' a j4 i4
      · have := alt b j4 ⟨o1, by unfold mm at hb; rwa [if_pos k] at hb⟩
        omega
      · have := alt b' i4 ⟨o1', by unfold mm at hb'; rwa [if_pos k'] at hb'⟩
        omega
      · omega
  · intro b o1 hb
    exact wfB_ok hwf b o1 hb
  · intro i v1 hi
    obtain ⟨v, hv, hr⟩ := hT.get hi
    exact ⟨v, hv, fun u hu => VR.ren key hr hu⟩
theorem WP.rnm {c : Code} {T1 : Tm} {s1 : St} (r : Rnm n0 T s T1 s1) (h : WP C N n0 c T1 s1 Q) : WP C N n0 c T s Q := by
  intro B W0 ν0 m0 en ν a w hm tr df
  obtain ⟨ν1, hm1, hv, hd⟩ := hm.rnm en r
  refine h B W0 ν0 m0 en ν1 a w hm1 ⟨tr.size, fun i v1 hi => ?_⟩ (hd _ df)
  obtain ⟨v, hv1, hv2⟩ := hv i v1 hi
  obtain ⟨u, hu1, hu2⟩ := tr.get i v hv1
  exact ⟨u, hu1, hv2 u hu2⟩
/-- A loop. -/
theorem WP.loop {x : Code} {α : Type} (P : α → Prop) (μ : α → Nat) (Ti : α → Tm) (si : α → St) (x0 : α) (p0 : P x0) (h0 : Rnm n0 T s (Ti x0) (si x0))
    (step : ∀ z, P z → WP C N n0 x (Ti z) (si z) fun o T' s' => match o with | .normal => ∃ y, P y ∧ μ y < μ z ∧ Rnm n0 T' s' (Ti y) (si y) | o => Q o T' s') : WP C N n0 (.loop x) T s Q := by
  refine WP.rnm h0 ?_
  intro B W0 ν0 m0 en ν a w hm tr df
  refine wp_of_loop ?_
  have key : ∀ n z, P z → μ z = n → ∀ ν a w, Mem B W0 n0 ν0 m0 (si z) ν w → TR N ν (Ti z) a → DefR ν (si z).df a.defers → loopWp C.P x (Aft B W0 n0 ν0 m0 N Q) a w := by
    intro n
    induction n using Nat.strongRecOn with
    | _ n ih =>
      intro z pz hz ν a w hm tr df
      refine loopWp_of (wp_mono (step z pz B W0 ν0 m0 en ν a w hm tr df) fun e a' w' hh => ?_)
      obtain ⟨o, T', s', ν', he, hq, hm', tr', df'⟩ := hh
      subst he
      cases o with
      | normal =>
        obtain ⟨y, py, hy, r⟩ := hq
        obtain ⟨ν1, hm1, hv, hd⟩ := hm'.rnm en r
        refine ih (μ y) (by omega) y py rfl ν1 a' w' hm1 ⟨tr'.size, fun i v1 hi => ?_⟩ (hd _ df')
        obtain ⟨v, hv1, hv2⟩ := hv i v1 hi
        obtain ⟨u, hu1, hu2⟩ := tr'.get i v hv1
        exact ⟨u, hu1, hv2 u hu2⟩
      | exit id => exact ⟨_, T', s', ν', rfl, hq, hm', tr', df'⟩
      | ret => exact ⟨_, T', s', ν', rfl, hq, hm', tr', df'⟩
      | panic v => exact ⟨_, T', s', ν', rfl, hq, hm', tr', df'⟩
  exact key _ _ p0 rfl ν a w hm tr df
end
end Go.Ev
