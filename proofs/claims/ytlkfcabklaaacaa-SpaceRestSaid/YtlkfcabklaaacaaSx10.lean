/- Words of my own: code over abstract states. -/
import Derived.Test.YtlkfcabklaaacaaSx9
set_option linter.unusedVariables false
set_option linter.unusedSimpArgs false
set_option linter.unusedSectionVars false
namespace Go.Ev
open Go.RowKit
noncomputable section
/-- What is told of a function's run: memory that is only looked at, how many slots, the first name of its own, calls, rounds, slots that live on (at loops, at places where ways meet). -/
structure SE (ρ : Type) where
  H0 : AH
  N : Nat
  n0 : Nat
  call : CallA ρ
  fuel : Nat
  lv : List (Nat × (List Nat × Nat))
  jn : List (Nat × List Nat)
  kn : KN
  df : List AV
  jf : List Nat → Nat → AT → AS → Option ρ
  lf : List Nat → Nat → AT → AS → Option ρ
/-- The number (and one) of the first region in a piece of code. -/
def firstReg : Code → Nat
  | .region id _ _ => id + 1
  | .seq a b => match firstReg a with
    | 0 => firstReg b
    | n => n
  | .cond _ a b => match firstReg a with
    | 0 => firstReg b
    | n => n
  | .block _ a => firstReg a
  | .loop a => firstReg a
  | .scope a => firstReg a
  | _ => 0
abbrev KC (ρ : Type) := Out → AT → AS → Option ρ
/-- Rounds, one after the other. -/
def lpA {ρ : Type} (body : AT → AS → KC ρ → Option ρ) (cn : AT → AS → (AT → AS → Option ρ) → Option ρ) (k : KC ρ) : Nat → AT → AS → Option ρ
  | 0, _, _ => none
  | m + 1, T, s => body T s fun o T s => match o with
    | .normal => cn T s fun T s => lpA body cn k m T s
    | o => k o T s
def fuelOf : Nat → Nat → Nat
  | 0, n => n
  | m, _ => m
/-- The run of code. Where ways meet, and at loops, the run is handed on: jf, lf. -/
def sxC {ρ : Type} (C : Cfg) (kd : TypeId → Option RK) (E : SE ρ) (ms : List Nat) : Code → AT → AS → KC ρ → Option ρ
  | .skip, T, s, k => k .normal T s
  | .label _, T, s, k => k .normal T s
  | .exit id, T, s, k => k (.exit id) T s
  | .ret, T, s, k => k .ret T s
  | .seq a b, T, s, k => match aget E.jn (firstReg b) with
    | some live => sxC C kd E ms a T s fun o T s => match o with
      | .normal => canon C kd E.kn E.df E.n0 E.H0 live T s (E.jf ms (firstReg b))
      | o => k o T s
    | none => sxC C kd E ms a T s fun o T s => match o with
      | .normal => sxC C kd E ms b T s k
      | o => k o T s
  | .cond c a b, T, s, k => match ev1A T c with
    | some (.b x) => Bool.rec (motive := fun _ => Option ρ) (sxC C kd E ms b T s k) (sxC C kd E ms a T s k) x
    | _ => none
  | .block id a, T, s, k => sxC C kd E ms a T s fun o T s => match o with
    | .exit id' => Bool.rec (motive := fun _ => Option ρ) (k (.exit id') T s) (k .normal T s) (Nat.beq id' id)
    | o => k o T s
  | .region _ ops draw, T, s, k => sxRg C kd E.H0 E.call E.N ops.toList draw T s k
  | .loop a, T, s, k => match aget E.lv (firstReg a) with
    | some (live, 0) => canon C kd E.kn E.df E.n0 E.H0 live T s (E.lf (E.fuel :: ms) (firstReg a))
    | some (live, m + 1) => canon C kd E.kn E.df E.n0 E.H0 live T s fun T s => lpA (fun T s k => sxC C kd E ms a T s k) (fun T s k => canon C kd E.kn E.df E.n0 E.H0 live T s k) k (m + 1) T s
    | none => none
  | _, _, _, _ => none
/-- No place in it where the run is handed on. -/
def noJ {ρ : Type} (E : SE ρ) : Code → Bool
  | .seq a b => (match aget E.jn (firstReg b) with
    | some _ => false
    | none => true) && (noJ E a && noJ E b)
  | .cond _ a b => noJ E a && noJ E b
  | .block _ a => noJ E a
  | .loop a => match aget E.lv (firstReg a) with
    | some (_, 0) => false
    | _ => noJ E a
  | .scope a => noJ E a
  | _ => true
/-- What is handed on is right. -/
def PV {ρ : Type} (C : Cfg) (kd : TypeId → Option RK) (E : SE ρ) (r : ρ) : List Nat → Code → KC ρ → Prop
  | ms, .seq a b, k => match aget E.jn (firstReg b) with
    | some live => (∀ T s, E.jf ms (firstReg b) T s = some r → sxC C kd E ms b T s k = some r) ∧ PV C kd E r ms b k ∧ PV C kd E r ms a fun o T s => match o with
      | .normal => canon C kd E.kn E.df E.n0 E.H0 live T s (E.jf ms (firstReg b))
      | o => k o T s
    | none => PV C kd E r ms b k ∧ PV C kd E r ms a fun o T s => match o with
      | .normal => sxC C kd E ms b T s k
      | o => k o T s
  | ms, .cond _ a b, k => PV C kd E r ms a k ∧ PV C kd E r ms b k
  | ms, .block id a, k => PV C kd E r ms a fun o T s => match o with
    | .exit id' => Bool.rec (motive := fun _ => Option ρ) (k (.exit id') T s) (k .normal T s) (Nat.beq id' id)
    | o => k o T s
  | ms, .loop a, k => match aget E.lv (firstReg a) with
    | some (live, 0) => (∀ T s, E.lf (0 :: ms) (firstReg a) T s = some r → False) ∧ ∀ m, (∀ T s, E.lf ((m + 1) :: ms) (firstReg a) T s = some r → sxC C kd E (m :: ms) a T s (fun o T s => match o with
        | .normal => canon C kd E.kn E.df E.n0 E.H0 live T s (E.lf (m :: ms) (firstReg a))
        | o => k o T s) = some r) ∧ PV C kd E r (m :: ms) a (fun o T s => match o with
        | .normal => canon C kd E.kn E.df E.n0 E.H0 live T s (E.lf (m :: ms) (firstReg a))
        | o => k o T s)
    | some (_, _ + 1) => noJ E a = true
    | none => True
  | _, _, _ => True
section
variable {ρ : Type} {r : ρ} {C : Cfg} [Hv C] [Hx C] {kd : TypeId → Option RK} {E : SE ρ}
theorem WP.cases {n0 N : Nat} {T : Tm} {s : St} {Q : Out → Tm → St → Prop} {c : Code} {x : Operand} {y z : Code} {b : Bool} (hx : ev1 T x = some (.bool b)) (h1 : b = true → WP C N n0 y T s Q) (h2 : b = false → WP C N n0 z T s Q) : WP C N n0 (.cond x y z) T s Q := WP.cond hx h1 h2
theorem sxC_ok (hcall : CallsOk C E.H0 E.call) : ∀ {c : Code} {ms : List Nat} {T : AT} {s : AS} {k : KC ρ} {r : ρ} {Q : Out → Tm → St → Prop}, (PV C kd E r ms c k ∨ noJ E c = true) → sxC C kd E ms c T s k = some r → (∀ o T' s', k o T' s' = some r → Q o (denT (Dof E.H0 s') T') (stD (dfV E.df) E.H0 s')) → WP C E.N E.n0 c (denT (Dof E.H0 s) T) (stD (dfV E.df) E.H0 s) Q := by
  intro c
  induction c with
  | skip => intro ms T s k r Q hp h hq; exact WP.skip (hq _ _ _ h)
  | label l => intro ms T s k r Q hp h hq; exact WP.label (hq _ _ _ h)
  | exit id => intro ms T s k r Q hp h hq; exact WP.exit (hq _ _ _ h)
  | ret => intro ms T s k r Q hp h hq; exact WP.ret (hq _ _ _ h)
  | seq a b iha ihb =>
    intro ms T s k r Q hp h hq
    rw [sxC] at h
    rw [PV, noJ] at hp
    split at h
    · rename_i live hl
      rw [hl] at hp
      obtain ⟨hj, hb, ha⟩ := hp.resolve_right (fun e => by cases e)
      refine WP.seq (iha (.inl ha) h fun o T' s' hk => ?_)
      cases o with
      | normal =>
        dsimp only at hk ⊢
        obtain ⟨T1, s1, hk1, hr⟩ := canon_ok hk
        exact WP.rnm hr (ihb (.inl hb) (hj _ _ hk1) hq)
      | exit id => exact hq _ _ _ hk
      | ret => exact hq _ _ _ hk
      | panic v => exact hq _ _ _ hk
    · rename_i hl
      rw [hl] at hp
      have ha : PV C kd E r ms a (fun o T s => match o with
        | .normal => sxC C kd E ms b T s k
        | o => k o T s) ∨ noJ E a = true := by
        rcases hp with hp | hp
        · exact .inl hp.2
        · rw [Bool.true_and, Bool.and_eq_true] at hp; exact .inr hp.1
      have hb : PV C kd E r ms b k ∨ noJ E b = true := by
        rcases hp with hp | hp
        · exact .inl hp.1
        · rw [Bool.true_and, Bool.and_eq_true] at hp; exact .inr hp.2
      refine WP.seq (iha ha h fun o T' s' hk => ?_)
      cases o with
      | normal => exact ihb hb hk hq
      | exit id => exact hq _ _ _ hk
      | ret => exact hq _ _ _ hk
      | panic v => exact hq _ _ _ hk
  | cond c a b iha ihb =>
    intro ms T s k r Q hp h hq
    rw [sxC] at h
    rw [PV, noJ, Bool.and_eq_true] at hp
    split at h
    · rename_i x hx
      refine WP.cond (b := x) (ev1A_ok hx) (fun e => ?_) (fun e => ?_)
      · subst e; exact iha (hp.imp (·.1) (·.1)) h hq
      · subst e; exact ihb (hp.imp (·.2) (·.2)) h hq
    · cases h
  | block id a iha =>
    intro ms T s k r Q hp h hq
    rw [sxC] at h
    rw [PV, noJ] at hp
    refine WP.block (iha hp h fun o T' s' hk => ?_)
    cases o with
    | normal => exact hq _ _ _ hk
    | exit id' =>
      dsimp only at hk ⊢
      cases hb : Nat.beq id' id <;> rw [hb] at hk
      · exact hq _ _ _ hk
      · exact hq _ _ _ hk
    | ret => exact hq _ _ _ hk
    | panic v => exact hq _ _ _ hk
  | region id ops draw =>
    intro ms T s k r Q hp h hq
    rw [sxC] at h
    exact sxRg_ok (dfV E.df) hcall h fun o T' s' hk => hq _ _ _ hk
  | loop a iha =>
    intro ms T s k r Q hp h hq
    rw [sxC] at h
    rw [PV, noJ] at hp
    split at h
    · rename_i live hl
      rw [hl] at hp
      obtain ⟨h0, hm⟩ := hp.resolve_right (fun e => by cases e)
      obtain ⟨T1, s1, hk1, hr⟩ := canon_ok h
      refine WP.loop (α := Nat × AT × AS) (fun z => E.lf (z.1 :: ms) (firstReg a) z.2.1 z.2.2 = some r) (fun z => z.1) (fun z => denT (Dof E.H0 z.2.2) z.2.1) (fun z => stD (dfV E.df) E.H0 z.2.2) (E.fuel, T1, s1) hk1 hr ?_
      rintro ⟨m, T2, s2⟩ hz
      cases m with
      | zero => exact (h0 _ _ hz).elim
      | succ m =>
        refine iha (.inl (hm m).2) ((hm m).1 _ _ hz) fun o T' s' hk => ?_
        cases o with
        | normal =>
          obtain ⟨T3, s3, hk3, hr3⟩ := canon_ok hk
          exact ⟨(m, T3, s3), hk3, Nat.lt_succ_self m, hr3⟩
        | exit id => exact hq _ _ _ hk
        | ret => exact hq _ _ _ hk
        | panic v => exact hq _ _ _ hk
    · rename_i live mm hl
      rw [hl] at hp
      have hn : noJ E a = true := hp.elim id id
      obtain ⟨T1, s1, hk1, hr⟩ := canon_ok h
      refine WP.loop (α := Nat × AT × AS) (fun z => lpA (fun T s k => sxC C kd E ms a T s k) (fun T s k => canon C kd E.kn E.df E.n0 E.H0 live T s k) k z.1 z.2.1 z.2.2 = some r) (fun z => z.1) (fun z => denT (Dof E.H0 z.2.2) z.2.1) (fun z => stD (dfV E.df) E.H0 z.2.2) (mm + 1, T1, s1) hk1 hr ?_
      rintro ⟨m, T2, s2⟩ hz
      cases m with
      | zero => cases hz
      | succ m =>
        refine iha (k := _) (.inr hn) hz fun o T' s' hk => ?_
        cases o with
        | normal =>
          obtain ⟨T3, s3, hk3, hr3⟩ := canon_ok hk
          exact ⟨(m, T3, s3), hk3, Nat.lt_succ_self m, hr3⟩
        | exit id => exact hq _ _ _ hk
        | ret => exact hq _ _ _ hk
        | panic v => exact hq _ _ _ hk
    · cases h
  | _ => intro ms T s k r Q hp h hq; cases h
end
/-! Steps of a proof that what is handed on is right. -/
section
variable {ρ : Type} {r : ρ} {C : Cfg} {kd : TypeId → Option RK} {E : SE ρ}
theorem PV.triv : ∀ {c : Code} {ms : List Nat} {k : KC ρ}, noJ E c = true → PV C kd E r ms c k := by
  intro c
  induction c with
  | seq a b iha ihb =>
    intro ms k h
    rw [noJ, Bool.and_eq_true, Bool.and_eq_true] at h
    rw [PV]
    cases hl : aget E.jn (firstReg b) with
    | none => exact ⟨ihb h.2.2, iha h.2.1⟩
    | some live => rw [hl] at h; exact absurd h.1 Bool.false_ne_true
  | cond _ a b iha ihb =>
    intro ms k h
    rw [noJ, Bool.and_eq_true] at h
    exact ⟨iha h.1, ihb h.2⟩
  | block id a iha => intro ms k h; exact iha h
  | loop a iha =>
    intro ms k h
    rw [noJ] at h
    rw [PV]
    cases hl : aget E.lv (firstReg a) with
    | none => trivial
    | some p =>
      obtain ⟨live, m⟩ := p
      rw [hl] at h
      cases m with
      | zero => exact absurd h Bool.false_ne_true
      | succ m => exact h
  | _ => intros; trivial
variable {ms : List Nat} {a b : Code} {k : KC ρ}
theorem PV.sj {live : List Nat} (hl : aget E.jn (firstReg b) = some live) (hj : ∀ T s, E.jf ms (firstReg b) T s = some r → sxC C kd E ms b T s k = some r) (hb : PV C kd E r ms b k) (ha : PV C kd E r ms a fun o T s => match o with
      | .normal => canon C kd E.kn E.df E.n0 E.H0 live T s (E.jf ms (firstReg b))
      | o => k o T s) : PV C kd E r ms (.seq a b) k := by
  rw [PV, hl]; exact ⟨hj, hb, ha⟩
theorem PV.sn (hl : aget E.jn (firstReg b) = none) (hb : PV C kd E r ms b k) (ha : PV C kd E r ms a fun o T s => match o with
      | .normal => sxC C kd E ms b T s k
      | o => k o T s) : PV C kd E r ms (.seq a b) k := by
  rw [PV, hl]; exact ⟨hb, ha⟩
theorem PV.cn {x : Operand} (ha : PV C kd E r ms a k) (hb : PV C kd E r ms b k) : PV C kd E r ms (.cond x a b) k := ⟨ha, hb⟩
theorem PV.bl {id : Nat} (ha : PV C kd E r ms a fun o T s => match o with
    | .exit id' => Bool.rec (motive := fun _ => Option ρ) (k (.exit id') T s) (k .normal T s) (Nat.beq id' id)
    | o => k o T s) : PV C kd E r ms (.block id a) k := ha
theorem PV.lp {live : List Nat} (hl : aget E.lv (firstReg a) = some (live, 0)) (h0 : ∀ T s, E.lf (0 :: ms) (firstReg a) T s = some r → False) (hm : ∀ m T s, E.lf ((m + 1) :: ms) (firstReg a) T s = some r → sxC C kd E (m :: ms) a T s (fun o T s => match o with
        | .normal => canon C kd E.kn E.df E.n0 E.H0 live T s (E.lf (m :: ms) (firstReg a))
        | o => k o T s) = some r) (hb : ∀ m, PV C kd E r (m :: ms) a (fun o T s => match o with
        | .normal => canon C kd E.kn E.df E.n0 E.H0 live T s (E.lf (m :: ms) (firstReg a))
        | o => k o T s)) : PV C kd E r ms (.loop a) k := by
  rw [PV, hl]; exact ⟨h0, fun m => ⟨hm m, hb m⟩⟩
end
end
end Go.Ev
