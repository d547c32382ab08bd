/- Words of my own: calls over abstract states. -/
import Derived.Test.YtlkfcabklaaacaaSx12
set_option linter.unusedVariables false
set_option linter.unusedSimpArgs false
set_option linter.unusedSectionVars false
namespace Go.Ev
open Go.RowKit
noncomputable section
def R2of (Rc : List (Nat × Nat)) (k0 nn nx : Nat) : Nat → Option Nat := fun b => if b < k0 then aget Rc b else if b < k0 + nn then some (nx + (b - k0)) else none
def f2of (μ : Nat → Option Nat) (b : Nat) : Nat := match μ b with
  | some a => a
  | none => b
def outN (k0 nx : Nat) (f2 : Nat → Nat) : AH → AH
  | [] => []
  | (b, o) :: h => cond (Nat.ble k0 b) ((nx + (b - k0), renO f2 o) :: outN k0 nx f2 h) (outN k0 nx f2 h)
def outW (k0 : Nat) (μ : Nat → Option Nat) (f2 : Nat → Nat) : AH → AH → AH
  | [], h => h
  | (b, o) :: l, h => cond (Nat.ble k0 b) (outW k0 μ f2 l h) (match μ b with
    | some a => aput (outW k0 μ f2 l h) a (renO f2 o)
    | none => outW k0 μ f2 l h)
def wrsL (k0 : Nat) (μ : Nat → Option Nat) : AH → List Nat
  | [] => []
  | (b, _) :: l => cond (Nat.ble k0 b) (wrsL k0 μ l) (match μ b with
    | some a => a :: wrsL k0 μ l
    | none => wrsL k0 μ l)
def injB : List (Nat × Nat) → Bool
  | [] => true
  | p :: l => !(mem (l.map (·.2)) p.2) && injB l
theorem injB_ok : ∀ {R : List (Nat × Nat)}, injB R = true → ∀ b b' a, aget R b = some a → aget R b' = some a → b = b'
  | [], _, b, b', a, h, _ => by cases h
  | p :: R, h, b, b', a, hb, hb' => by
    obtain ⟨h1, h2⟩ := and_ok h
    have hm : ∀ c, aget R c = some p.2 → False := fun c hc => by
      have : p.2 ∈ R.map (·.2) := List.mem_map.2 ⟨_, aget_mem hc, rfl⟩
      rw [(mem_iff _ _).2 this] at h1; cases h1
    rw [aget_cons] at hb hb'
    by_cases e : b = p.1 <;> by_cases e' : b' = p.1
    · rw [e, e']
    · rw [if_pos e] at hb; rw [if_neg e'] at hb'
      obtain rfl := Option.some.inj hb
      exact (hm _ hb').elim
    · rw [if_neg e] at hb; rw [if_pos e'] at hb'
      obtain rfl := Option.some.inj hb'
      exact (hm _ hb).elim
    · rw [if_neg e] at hb; rw [if_neg e'] at hb'
      exact injB_ok h2 b b' a hb hb'
def someIds (μ : Nat → Option Nat) : List Nat → Bool
  | [] => true
  | id :: l => (μ id).isSome && someIds μ l
theorem someIds_ok {μ : Nat → Option Nat} : ∀ {l : List Nat}, someIds μ l = true → ∀ id ∈ l, μ id = some (f2of μ id)
  | [], _, _, h => by cases h
  | a :: l, h, id, hid => by
    obtain ⟨h1, h2⟩ := and_ok h
    rcases List.mem_cons.1 hid with rfl | hid
    · obtain ⟨b, hb⟩ := Option.isSome_iff_exists.1 h1
      unfold f2of
      rw [hb]
    · exact someIds_ok h2 id hid
/-- An object that is written keeps its shape. -/
def sameO : Option AO → AO → Bool
  | some (.cells cs t f), .cells cs' t' f' => Nat.beq cs'.length cs.length
  | _, _ => false
theorem sameO_ok {o' : Option AO} {o : AO} (h : sameO o' o = true) : ∃ q, o' = some q ∧ od o = od q := by
  unfold sameO at h
  split at h
  · rename_i cs t f cs' t' f'
    have := Nat.eq_of_beq_eq_true h
    refine ⟨_, rfl, ?_⟩
    show ((0, fun z => cs'.length / z) : Nat × (Nat → Nat)) = (0, fun z => cs.length / z)
    rw [this]
  · cases h
/-- What comes back is in order. -/
def outOk (wr : List Nat) (hc sh : AH) (k0 nn : Nat) (μ : Nat → Option Nat) : AH → Bool
  | [] => true
  | (b, o) :: l => ((match Nat.ble k0 b with
    | true => Nat.ble (Nat.succ b) (k0 + nn)
    | false => mem wr b && ((match μ b with
      | some a => (aget sh a).isSome
      | none => false) && sameO (aget hc b) o)) && (someIds μ (idsO o) && (aget l b).isNone)) && outOk wr hc sh k0 nn μ l
theorem outOk_ok {wr : List Nat} {hc sh : AH} {k0 nn : Nat} {μ : Nat → Option Nat} : ∀ {l : AH}, outOk wr hc sh k0 nn μ l = true → ∀ b o, aget l b = some o →
    (∀ id ∈ idsO o, μ id = some (f2of μ id)) ∧ (k0 ≤ b → b < k0 + nn) ∧ (b < k0 → b ∈ wr ∧ (∃ a, μ b = some a ∧ ∃ q, aget sh a = some q) ∧ ∃ q, aget hc b = some q ∧ od o = od q)
  | [], _, b, o, h => by cases h
  | (b0, o0) :: l, h, b, o, hb => by
    obtain ⟨g1, h2⟩ := and_ok h
    obtain ⟨h1, g3⟩ := and_ok g1
    obtain ⟨h3, _⟩ := and_ok g3
    clear g1 g3 h
    rw [aget_cons] at hb
    by_cases e : b = b0
    · rw [if_pos e] at hb
      obtain rfl := Option.some.inj hb
      subst e
      refine ⟨someIds_ok h3, fun hk => ?_, fun hk => ?_⟩
      · rw [show Nat.ble k0 b = true from ble_iff.2 hk] at h1
        exact ble_iff.1 h1
      · have : Nat.ble k0 b = false := by cases hh : Nat.ble k0 b; rfl; exact absurd (ble_iff.1 hh) (by omega)
        rw [this] at h1
        obtain ⟨j1, j2⟩ := and_ok h1
        obtain ⟨j2, j3⟩ := and_ok j2
        refine ⟨(mem_iff _ _).1 j1, ?_, sameO_ok j3⟩
        split at j2
        · rename_i a ha
          exact ⟨a, ha, Option.isSome_iff_exists.1 j2⟩
        · cases j2
    · rw [if_neg e] at hb
      exact outOk_ok h2 b o hb
theorem aget_outN {k0 nx : Nat} {f2 : Nat → Nat} : ∀ (l : AH) (id : Nat), aget (outN k0 nx f2 l) id = if nx ≤ id then (aget l (k0 + (id - nx))).map (renO f2) else none
  | [], id => by simp [outN, aget_nil]
  | (b, o) :: l, id => by
    rw [outN]
    have ih := aget_outN (k0 := k0) (nx := nx) (f2 := f2) l id
    rw [aget_cons]
    cases hb : Nat.ble k0 b
    · show aget (outN k0 nx f2 l) id = _
      have hb' : ¬ k0 ≤ b := fun h => by rw [ble_iff.2 h] at hb; cases hb
      rw [ih]
      by_cases hn : nx ≤ id
      · rw [if_pos hn, if_pos hn, if_neg (by dsimp only; omega)]
      · rw [if_neg hn, if_neg hn]
    · show aget ((nx + (b - k0), renO f2 o) :: outN k0 nx f2 l) id = _
      have hb' := ble_iff.1 hb
      rw [aget_cons, ih]
      by_cases hn : nx ≤ id
      · rw [if_pos hn, if_pos hn]
        by_cases e : id = nx + (b - k0)
        · rw [if_pos e, if_pos (by dsimp only; omega)]; rfl
        · rw [if_neg e, if_neg (by dsimp only; omega)]
      · rw [if_neg hn, if_neg hn, if_neg (by omega)]
theorem aget_outW1 {k0 : Nat} {μ : Nat → Option Nat} {f2 : Nat → Nat} {h : AH} (hinj : ∀ b b' a, b < k0 → b' < k0 → μ b = some a → μ b' = some a → b = b') : ∀ {l : AH} {b : Nat} {o : AO} {a : Nat}, aget l b = some o → b < k0 → μ b = some a → aget (outW k0 μ f2 l h) a = some (renO f2 o)
  | [], b, o, a, hl, _, _ => by cases hl
  | (b0, o0) :: l, b, o, a, hl, hb, ha => by
    rw [aget_cons] at hl
    rw [outW]
    by_cases e : b = b0
    · rw [if_pos e] at hl
      obtain rfl := Option.some.inj hl
      subst e
      rw [show Nat.ble k0 b = false by cases hh : Nat.ble k0 b; rfl; exact absurd (ble_iff.1 hh) (by omega), ha]
      show aget (aput (outW k0 μ f2 l h) a (renO f2 o0)) a = _
      rw [aget_aput, if_pos rfl]
    · rw [if_neg e] at hl
      have ih := aget_outW1 (f2 := f2) (h := h) hinj hl hb ha
      cases hk : Nat.ble k0 b0
      · cases hm : μ b0 with
        | none => exact ih
        | some a0 =>
          show aget (aput (outW k0 μ f2 l h) a0 (renO f2 o0)) a = _
          rw [aget_aput, if_neg]
          · exact ih
          · intro ea
            subst ea
            exact e (hinj b b0 a hb (Nat.lt_of_not_le fun hle => by rw [ble_iff.2 hle] at hk; cases hk) ha hm)
      · exact ih
theorem aget_outW2 {k0 : Nat} {μ : Nat → Option Nat} {f2 : Nat → Nat} {h : AH} : ∀ {l : AH} {id : Nat}, id ∉ wrsL k0 μ l → aget (outW k0 μ f2 l h) id = aget h id
  | [], id, _ => rfl
  | (b0, o0) :: l, id, hid => by
    rw [wrsL] at hid
    rw [outW]
    cases hk : Nat.ble k0 b0
    · rw [hk] at hid
      cases hm : μ b0 with
      | none => rw [hm] at hid; exact aget_outW2 hid
      | some a0 =>
        rw [hm] at hid
        show aget (aput (outW k0 μ f2 l h) a0 (renO f2 o0)) id = _
        rw [aget_aput, if_neg (fun e => hid (by rw [e]; exact List.mem_cons_self))]
        exact aget_outW2 fun hh => hid (List.mem_cons_of_mem _ hh)
    · rw [hk] at hid; exact aget_outW2 hid
theorem wrsL_mem {k0 : Nat} {μ : Nat → Option Nat} : ∀ {l : AH} {a : Nat}, a ∈ wrsL k0 μ l → ∃ b o, (b, o) ∈ l ∧ b < k0 ∧ μ b = some a
  | [], a, h => by cases h
  | (b0, o0) :: l, a, h => by
    rw [wrsL] at h
    cases hk : Nat.ble k0 b0
    · rw [hk] at h
      have hlt : b0 < k0 := Nat.lt_of_not_le fun hle => by rw [ble_iff.2 hle] at hk; cases hk
      cases hm : μ b0 with
      | none =>
        rw [hm] at h
        obtain ⟨b, o, h1, h2⟩ := wrsL_mem h
        exact ⟨b, o, List.mem_cons_of_mem _ h1, h2⟩
      | some a0 =>
        rw [hm] at h
        rcases List.mem_cons.1 h with rfl | h
        · exact ⟨b0, o0, List.mem_cons_self, hlt, hm⟩
        · obtain ⟨b, o, h1, h2⟩ := wrsL_mem h
          exact ⟨b, o, List.mem_cons_of_mem _ h1, h2⟩
    · rw [hk] at h
      obtain ⟨b, o, h1, h2⟩ := wrsL_mem h
      exact ⟨b, o, List.mem_cons_of_mem _ h1, h2⟩
theorem mem_wrsL {k0 : Nat} {μ : Nat → Option Nat} : ∀ {l : AH} {b a : Nat} {o : AO}, (b, o) ∈ l → b < k0 → μ b = some a → a ∈ wrsL k0 μ l
  | [], b, a, o, h, _, _ => by cases h
  | (b0, o0) :: l, b, a, o, h, hb, ha => by
    rw [wrsL]
    rcases List.mem_cons.1 h with e | h
    · obtain ⟨rfl, rfl⟩ := Prod.mk.inj e
      rw [show Nat.ble k0 b = false by cases hh : Nat.ble k0 b; rfl; exact absurd (ble_iff.1 hh) (by omega), ha]
      exact List.mem_cons_self
    · have ih := mem_wrsL h hb ha
      cases Nat.ble k0 b0
      · cases μ b0 with
        | none => exact ih
        | some a0 => exact List.mem_cons_of_mem _ ih
      · exact ih
theorem outOk_nodup {wr : List Nat} {hc sh : AH} {k0 nn : Nat} {μ : Nat → Option Nat} : ∀ {l : AH}, outOk wr hc sh k0 nn μ l = true → ∀ b o, (b, o) ∈ l → aget l b = some o
  | [], _, b, o, h => by cases h
  | (b0, o0) :: l, h, b, o, hb => by
    obtain ⟨h1, h2⟩ := and_ok h
    obtain ⟨h1, h3⟩ := and_ok h1
    obtain ⟨_, h4⟩ := and_ok h3
    rw [aget_cons]
    rcases List.mem_cons.1 hb with e | hb
    · cases e; rw [if_pos rfl]
    · have ih := outOk_nodup h2 b o hb
      rw [if_neg]
      · exact ih
      · intro e
        subst e
        rw [ih] at h4; cases h4
def allIn (h : AH) : Nat → Nat → Bool
  | _, 0 => true
  | b, n + 1 => (aget h b).isSome && allIn h (b + 1) n
theorem allIn_ok {h : AH} : ∀ {n b : Nat}, allIn h b n = true → ∀ j, j < n → ∃ o, aget h (b + j) = some o
  | 0, b, _, j, hj => by omega
  | n + 1, b, hh, j, hj => by
    obtain ⟨h1, h2⟩ := and_ok hh
    cases j with
    | zero => exact Option.isSome_iff_exists.1 h1
    | succ j =>
      have := allIn_ok h2 j (by omega)
      rwa [show b + 1 + j = b + (j + 1) by omega] at this
def keysIn (h : AH) : AH → Bool
  | [] => true
  | p :: l => (aget h p.1).isSome && keysIn h l
theorem keysIn_ok {h : AH} : ∀ {l : AH}, keysIn h l = true → ∀ b o, aget l b = some o → ∃ q, aget h b = some q
  | [], _, b, o, hb => by cases hb
  | p :: l, hh, b, o, hb => by
    obtain ⟨h1, h2⟩ := and_ok hh
    rw [aget_cons] at hb
    by_cases e : b = p.1
    · rw [e]; exact Option.isSome_iff_exists.1 h1
    · rw [if_neg e] at hb
      exact keysIn_ok h2 b o hb

section
variable {ρ : Type} {r : ρ} {C : Cfg} [Hv C] [Hx C] {kd : TypeId → Option RK}
/-- A value that is returned, or a panic with an empty struct. -/
def pkOk : AV → Bool
  | .pk (.ifc _ (.ag [])) => true
  | .pk _ => false
  | v => npk v
theorem npk_ren {f : Nat → Nat} {v : AV} (h : npk v = true) : npk (renV f v) = true := by
  cases v with
  | tu l => show Nat.ble (renL f l).length 6 = true; rw [renL_length]; exact h
  | pk v => cases h
  | _ => rfl
theorem pkOk_ren {D D' : Dt} {f : Nat → Nat} {v : AV} (h : pkOk v = true) : isPk (den D (renV f v)) = isPk (den D' v) := by
  unfold pkOk at h
  split at h
  · rfl
  · cases h
  · rw [npk_ok h, npk_ok (npk_ren h)]
/-- A contract is used. -/
def callK (H0 : AH) (s : AS) (TF : AT) (hc : AH) (Rc : List (Nat × Nat)) (wr : List Nat) (nn : Nat) (μ : Nat → Option Nat) (v0 : AV) (h' : AH) (k : KO ρ) : Option ρ :=
  cond ((bdT s.nx TF && (bdH s.nx s.h && bdH s.nx H0)) && ((outOk wr hc s.h hc.length nn μ h' && (allIn h' hc.length nn && keysIn h' (selH wr hc))) && (someIds μ (idsV v0) && (bdH hc.length hc && pkOk v0))))
    (k (renV (f2of μ) v0) ⟨outN hc.length s.nx (f2of μ) h' ++ outW hc.length μ (f2of μ) h' s.h, s.nx + nn, s.dd⟩ (Rc.map (·.2)) (wrsL hc.length μ h')) none
theorem callK_ok {H0 : AH} {s : AS} {TF : AT} {S : List Src} {Rc : List (Nat × Nat)} {f : Nat → Nat} {hc : AH} {wr : List Nat} {nn : Nat} {v0 : AV} {h' : AH} {k : KO ρ} {g : Nat} {vs vs1 : List AV} {ps : List (Option (Nat × Nat))} (hRc : rcS 0 S = Rc) (hh : hcS (lk H0 s) Rc f 0 S = some hc) (hinj : injB Rc = true) (hvs : argR f ps vs = vs1) (hao : argOk Rc f hc ps vs = true)
    (hk0 : Nat.ble hc.length KB = true) (hwf : wfB hc.length (hp (remH wr hc) ⟨selH wr hc, hc.length, []⟩) = true)
    (hcw : CW C g (denL (Dof (remH wr hc) ⟨selH wr hc, hc.length, []⟩) vs1) (stA (remH wr hc) ⟨selH wr hc, hc.length, []⟩) fun v s1 => v = den (Dof (remH wr hc) ⟨h', hc.length + nn, []⟩) v0 ∧ s1 = stA (remH wr hc) ⟨h', hc.length + nn, []⟩)
    (h : callK H0 s TF hc Rc wr nn (R2of Rc hc.length nn s.nx) v0 h' k = some r) :
    ∃ v s' rd wr', k v s' rd wr' = some r ∧ CallR C g (denL (Dof H0 s) vs) ⟨hp H0 s, s.nx, [], [], []⟩ (den (Dof H0 s') v) ⟨hp H0 s', s'.nx, rd, wr', []⟩ ∧ denT (Dof H0 s') TF = denT (Dof H0 s) TF := by
  unfold callK at h
  obtain ⟨hc1, hk⟩ := cond_some h
  clear h
  obtain ⟨hb, hc2⟩ := and_ok hc1
  obtain ⟨hbT, hb⟩ := and_ok hb
  obtain ⟨hbH, hb0⟩ := and_ok hb
  obtain ⟨ho, hc3⟩ := and_ok hc2
  obtain ⟨ho, ha⟩ := and_ok ho
  obtain ⟨hal, hke⟩ := and_ok ha
  obtain ⟨hv0, hbc⟩ := and_ok hc3
  obtain ⟨hbc, hpko⟩ := and_ok hbc
  clear hc1 hc2 hc3 hb ha
  obtain ⟨q0, q1, q2, q3⟩ := hcS_get hh
  rw [hRc] at q1 q3
  have q2 : ∀ b o, aget hc b = some o → b < hc.length := fun b o hb => by have := q2 b o hb; rw [q0]; omega
  generalize hμ : R2of Rc hc.length nn s.nx = μ at *
  generalize hk0' : hc.length = k0 at *
  have μlo : ∀ b, b < k0 → μ b = aget Rc b := fun b hb => by rw [← hμ]; exact if_pos hb
  have μhi : ∀ b, k0 ≤ b → b < k0 + nn → μ b = some (s.nx + (b - k0)) := fun b h1 h2 => by rw [← hμ]; show (if b < k0 then _ else _) = _; rw [if_neg (by omega), if_pos h2]
  have μno : ∀ b, k0 + nn ≤ b → μ b = none := fun b h1 => by rw [← hμ]; show (if b < k0 then _ else _) = _; rw [if_neg (by omega), if_neg (by omega)]
  have inj := injB_ok hinj
  have Rlt : ∀ b a, aget Rc b = some a → b < k0 ∧ a < s.nx ∧ ∃ o, lk H0 s a = some o ∧ aget hc b = some (renO f o) ∧ okIds Rc f (idsO o) = true := fun b a hb => by
    obtain ⟨o, h1, h2, h3⟩ := q3 b a hb
    refine ⟨q2 b _ h2, ?_, o, h1, h2, h3⟩
    unfold lk at h1
    cases h4 : aget s.h a with
    | some o' => exact (bdH_get hbH h4).1
    | none => rw [h4] at h1; exact (bdH_get hb0 h1).1
  -- the memory behind the call
  obtain ⟨W', hW'⟩ : ∃ W', W' = outW k0 μ (f2of μ) h' s.h := ⟨_, rfl⟩
  obtain ⟨sN, hsN⟩ : ∃ sN : AS, sN = ⟨outN k0 s.nx (f2of μ) h' ++ W', s.nx + nn, s.dd⟩ := ⟨_, rfl⟩
  have wlt : ∀ a, a ∈ wrsL k0 μ h' → a < s.nx ∧ ∃ b o, aget h' b = some o ∧ b < k0 ∧ μ b = some a ∧ (∃ q, aget s.h a = some q) := fun a ha => by
    obtain ⟨b, o, h1, h2, h3⟩ := wrsL_mem ha
    have h4 := outOk_nodup ho b o h1
    obtain ⟨_, _, j3⟩ := outOk_ok ho b o h4
    obtain ⟨_, ⟨a', j4, q, j5⟩, _⟩ := j3 h2
    rw [h3] at j4
    obtain rfl := Option.some.inj j4
    exact ⟨(bdH_get hbH j5).1, b, o, h4, h2, h3, q, j5⟩
  have injk : ∀ b b' a, b < k0 → b' < k0 → μ b = some a → μ b' = some a → b = b' := fun b b' a h1 h2 h3 h4 => inj b b' a (by rw [← μlo b h1]; exact h3) (by rw [← μlo b' h2]; exact h4)
  have lkN : ∀ id, lk H0 sN id = if s.nx ≤ id then (aget h' (k0 + (id - s.nx))).map (renO (f2of μ)) else (match aget W' id with | some o => some o | none => aget H0 id) := fun id => by
    rw [hsN]
    unfold lk
    dsimp only
    rw [aget_app, aget_outN]
    by_cases hn : s.nx ≤ id
    · rw [if_pos hn, if_pos hn]
      cases hx : aget h' (k0 + (id - s.nx)) with
      | some o => rfl
      | none =>
        have h1 : aget W' id = none := by
          rw [hW']
          have : id ∉ wrsL k0 μ h' := fun hm => by have := (wlt id hm).1; omega
          rw [aget_outW2 this]
          cases h2 : aget s.h id with
          | none => rfl
          | some o => have := (bdH_get hbH h2).1; omega
        have h2 : aget H0 id = none := by
          cases h3 : aget H0 id with
          | none => rfl
          | some o => have := (bdH_get hb0 h3).1; omega
        dsimp only [Option.map_none]
        rw [h1, h2]
    · rw [if_neg hn, if_neg hn]; rfl
  have lkOld : ∀ id, id < s.nx → id ∉ wrsL k0 μ h' → lk H0 sN id = lk H0 s id := fun id h1 h2 => by
    rw [lkN, if_neg (by omega), hW', aget_outW2 h2]; rfl
  have lkWr : ∀ b o a, aget h' b = some o → b < k0 → μ b = some a → lk H0 sN a = some (renO (f2of μ) o) := fun b o a h1 h2 h3 => by
    have : a < s.nx := by rw [μlo b h2] at h3; exact (Rlt b a h3).2.1
    rw [lkN, if_neg (by omega), hW', aget_outW1 injk h1 h2 h3]
  have lkNew : ∀ j, j < nn → ∃ o, aget h' (k0 + j) = some o ∧ lk H0 sN (s.nx + j) = some (renO (f2of μ) o) := fun j hj => by
    obtain ⟨o, h1⟩ := allIn_ok hal j hj
    refine ⟨o, h1, ?_⟩
    rw [lkN, if_pos (by omega), show k0 + (s.nx + j - s.nx) = k0 + j by omega, h1]; rfl
  have DN : ∀ id, id < s.nx → Dof H0 sN id = Dof H0 s id := fun id hid => by
    have hdd : sN.dd = s.dd := by rw [hsN]
    have e : ∀ (x : AS), Dof H0 x id = (match lk H0 x id with | some o => some (od o) | none => (aget x.dd id).map fun p => (p.1, fun _ => p.2)) := fun x => by
      unfold Dof lk
      cases aget x.h id with
      | some o => rfl
      | none => cases aget H0 id <;> rfl
    rw [e, e]
    by_cases hm : id ∈ wrsL k0 μ h'
    · obtain ⟨_, b, o, h1, h2, h3, q, h4⟩ := wlt id hm
      rw [lkWr b o id h1 h2 h3]
      obtain ⟨_, _, j3⟩ := outOk_ok ho b o h1
      obtain ⟨_, _, q', j5, j6⟩ := j3 h2
      rw [μlo b h2] at h3
      obtain ⟨_, _, o', k1, k2, _⟩ := Rlt b id h3
      rw [k2] at j5
      obtain rfl := Option.some.inj j5
      rw [k1]
      show some (od (renO _ o)) = some (od o')
      rw [od_renO, j6, od_renO]
    · rw [lkOld id hid hm, hdd]
  -- the callee's memory
  have D0 : ∀ b, Dof (remH wr hc) ⟨selH wr hc, k0, []⟩ b = (aget hc b).map od := fun b => by rw [Dof_lk' rfl, lk_split]
  have D0R : ∀ b a, aget Rc b = some a → Dof (remH wr hc) ⟨selH wr hc, k0, []⟩ b = Dof H0 s a := fun b a hb => by
    obtain ⟨_, _, o, k1, k2, _⟩ := Rlt b a hb
    rw [D0, k2, Dof_lk k1]
    show some (od (renO f o)) = _
    rw [od_renO]
  have lk1 : ∀ b, lk (remH wr hc) ⟨h', k0 + nn, []⟩ b = (match aget h' b with | some o => some o | none => match mem wr b with | true => none | false => aget hc b) := fun b => by
    unfold lk
    dsimp only
    rw [aget_rem]
    cases aget h' b with
    | some o => rfl
    | none => cases mem wr b <;> rfl
  have hin : ∀ b o, aget h' b = some o → b < k0 → ∃ a, μ b = some a ∧ a ∈ wrsL k0 μ h' := fun b o h1 h2 => by
    obtain ⟨_, _, j3⟩ := outOk_ok ho b o h1
    obtain ⟨_, ⟨a, j4, _⟩, _⟩ := j3 h2
    exact ⟨a, j4, mem_wrsL (aget_mem h1) h2 j4⟩
  have hnot : ∀ b, b < k0 → aget h' b = none → lk (remH wr hc) ⟨h', k0 + nn, []⟩ b = aget hc b := fun b h1 h2 => by
    rw [lk1, h2]
    dsimp only
    cases hm : mem wr b with
    | false => rfl
    | true =>
      cases hx : aget hc b with
      | none => rfl
      | some o =>
        have : aget (selH wr hc) b = some o := by rw [aget_sel, hm]; exact hx
        obtain ⟨q, hq⟩ := keysIn_ok hke b o this
        rw [h2] at hq; cases hq
  have D1 : ∀ b, b < k0 → Dof (remH wr hc) ⟨h', k0 + nn, []⟩ b = (aget hc b).map od := fun b hb => by
    rw [Dof_lk' rfl]
    cases hx : aget h' b with
    | none => rw [hnot b hb hx]
    | some o =>
      rw [lk1, hx]
      obtain ⟨_, _, j3⟩ := outOk_ok ho b o hx
      obtain ⟨_, _, q', j5, j6⟩ := j3 hb
      rw [j5]
      show some (od o) = some (od q')
      rw [j6]
  have D1N : ∀ b a, μ b = some a → Dof H0 sN a = Dof (remH wr hc) ⟨h', k0 + nn, []⟩ b := fun b a hb => by
    by_cases h1 : b < k0
    · rw [μlo b h1] at hb
      obtain ⟨_, h2, _⟩ := Rlt b a hb
      rw [DN a h2, D1 b h1, ← D0, D0R b a hb]
    · by_cases h2 : b < k0 + nn
      · rw [μhi b (by omega) h2] at hb
        obtain rfl := Option.some.inj hb
        obtain ⟨o, k1, k2⟩ := lkNew (b - k0) (by omega)
        rw [show k0 + (b - k0) = b by omega] at k1
        rw [Dof_lk k2, Dof_lk' rfl, lk1, k1, od_renO]; rfl
      · rw [μno b (by omega)] at hb; cases hb
  have f2μ : ∀ {o : AO}, (∀ id ∈ idsO o, μ id = some (f2of μ id)) → ORN false μ (denO (Dof (remH wr hc) ⟨h', k0 + nn, []⟩) o) (denO (Dof H0 sN) (renO (f2of μ) o)) := fun hid =>
    ren_ORN2 fun id hi => ⟨hid id hi, D1N _ _ (hid id hi)⟩
  have old : ∀ id o, id < s.nx → lk H0 s id = some o → bdO s.nx o = true := fun id o hid ho' => by
    unfold lk at ho'
    cases h4 : aget s.h id with
    | some o' => rw [h4] at ho'; obtain rfl := Option.some.inj ho'; exact (bdH_get hbH h4).2
    | none => rw [h4] at ho'; exact (bdH_get hb0 ho').2
  have hpE : ∀ (x : AS) id, aget (hp H0 x) id = (lk H0 x id).map (denO (Dof H0 x)) := fun x id => aget_hp
  have oldE : ∀ id, id < s.nx → id ∉ wrsL k0 μ h' → aget (hp H0 sN) id = aget (hp H0 s) id := fun id h1 h2 => by
    rw [hpE, hpE, lkOld id h1 h2]
    cases hx : lk H0 s id with
    | none => rfl
    | some o => exact congrArg some (denO_bd (fun i hi => DN i hi) (old id o h1 hx))
  rw [← hW', ← hsN] at hk
  refine ⟨_, _, _, _, hk, ?_, denT_bd DN hbT⟩
  refine CallR.of_CW (R := Rc) (s0 := stA (remH wr hc) ⟨selH wr hc, k0, []⟩) (s0' := stA (remH wr hc) ⟨h', k0 + nn, []⟩) μ hcw (ble_iff.1 hk0) hwf ?_ (fun b a hb => ?_) inj ?_ ?_ (fun b => ?_) ?_ (pkOk_ren hpko) (fun a o1 haa ho1 => ?_) (fun b a hb hw => ?_) (fun b a hb hw o o1 h1 h2 => ?_)
  · -- arguments
    rw [← hvs]
    clear hvs hcw hk
    revert hao
    induction vs generalizing ps with
    | nil =>
      intro hao
      cases ps with
      | nil => exact .nil
      | cons p ps => cases p <;> cases hao
    | cons v vs ih =>
      intro hao
      cases ps with
      | nil => cases hao
      | cons p ps =>
        have gen : okIds Rc f (idsV v) = true → argOk Rc f hc ps vs = true → RNs true (aget Rc) (denL (Dof (remH wr hc) ⟨selH wr hc, k0, []⟩) (renV f v :: argR f ps vs)) (denL (Dof H0 s) (v :: vs)) := fun h1 h2 =>
          .cons (ren_RN fun id hid => ⟨okIds_ok h1 id hid, D0R _ _ (okIds_ok h1 id hid)⟩) (ih h2)
        cases p with
        | none =>
          obtain ⟨h1, h2⟩ := and_ok (show (okIds Rc f (idsV v) && argOk Rc f hc ps vs) = true from by cases v <;> exact hao)
          have e : argR f (none :: ps) (v :: vs) = renV f v :: argR f ps vs := by cases v <;> rfl
          rw [e]; exact gen h1 h2
        | some q =>
          obtain ⟨b, z⟩ := q
          by_cases hv : v = .nsl
          · subst hv
            obtain ⟨h1, h2⟩ := and_ok hao
            refine .cons ?_ (ih h2)
            split at h1
            · rename_i K t g' hg
              have e : den (Dof (remH wr hc) ⟨selH wr hc, k0, []⟩) (.sl b z) = .slice (some ⟨b, 0, some z⟩) 0 0 := by
                rw [den, D0, hg]; rfl
              rw [e]; exact .nilS rfl
            · cases h1
          · obtain ⟨h1, h2⟩ := and_ok (show (okIds Rc f (idsV v) && argOk Rc f hc ps vs) = true from by cases v <;> first | exact hao | exact absurd rfl hv)
            have e : argR f (some (b, z) :: ps) (v :: vs) = renV f v :: argR f ps vs := by cases v <;> first | rfl | exact absurd rfl hv
            rw [e]; exact gen h1 h2
  · obtain ⟨h1, h2, o, h3, h4, h5⟩ := Rlt b a hb
    refine ⟨h1, _, _, aget_lk (o := renO f o) (by rw [lk_split]; exact h4), aget_lk h3, ren_ORN fun id hid => ⟨okIds_ok h5 id hid, D0R _ _ (okIds_ok h5 id hid)⟩, List.mem_map.2 ⟨_, aget_mem hb, rfl⟩⟩
  · refine ⟨fun id h => (by cases h), fun id h => (by cases h), ?_, fun id h1 h2 => ?_, fun hw id o hx => ?_⟩
    · rw [hsN]; exact Nat.le_add_right _ _
    · have h1 : id ∉ wrsL k0 μ h' := h1
      have h2 : ¬(s.nx ≤ id ∧ id < sN.nx) := h2
      rw [hsN] at h2
      show aget (hp H0 sN) id = aget (hp H0 s) id
      by_cases hlt : id < s.nx
      · exact oldE id hlt h1
      · have h2 : ¬(s.nx ≤ id ∧ id < s.nx + nn) := h2
        rw [hpE, hpE]
        have e1 : lk H0 sN id = none := by
          rw [lkN, if_pos (by omega)]
          cases hx : aget h' (k0 + (id - s.nx)) with
          | none => rfl
          | some o => have := (outOk_ok ho _ o hx).2.1 (by omega); omega
        have e2 : lk H0 s id = none := by
          unfold lk
          cases h4 : aget s.h id with
          | some o' => have := (bdH_get hbH h4).1; omega
          | none =>
            cases h5 : aget H0 id with
            | none => rfl
            | some o => have := (bdH_get hb0 h5).1; omega
        rw [e1, e2]; rfl
    · have hx : aget (hp H0 sN) id = some o := hx
      show id < sN.nx
      have e3 : sN.nx = s.nx + nn := by rw [hsN]
      rw [e3]
      rw [hpE, lkN] at hx
      by_cases hn : s.nx ≤ id
      · rw [if_pos hn] at hx
        cases hy : aget h' (k0 + (id - s.nx)) with
        | none => rw [hy] at hx; cases hx
        | some o => have := (outOk_ok ho _ o hy).2.1 (by omega); omega
      · omega
  · show sN.nx = s.nx + (k0 + nn - k0)
    rw [hsN]
    show s.nx + nn = _
    omega
  · rw [← hμ]; rfl
  · exact ren_RN2 fun id hid => ⟨someIds_ok hv0 id hid, D1N _ _ (someIds_ok hv0 id hid)⟩
  · have ho1 : aget (hp H0 sN) a = some o1 := ho1
    rw [hpE] at ho1
    rcases haa with haa | haa
    · obtain ⟨h1, b, o, h2, h3, h4, _⟩ := wlt a haa
      rw [lkWr b o a h2 h3 h4] at ho1
      obtain rfl := Option.some.inj ho1
      exact ⟨b, _, h4, aget_lk (o := o) (by rw [lk1, h2]), f2μ (outOk_ok ho b o h2).1⟩
    · have haa : s.nx ≤ a ∧ a < sN.nx := haa
      rw [hsN] at haa
      have haa : s.nx ≤ a ∧ a < s.nx + nn := haa
      obtain ⟨o, h1, h2⟩ := lkNew (a - s.nx) (by omega)
      rw [show s.nx + (a - s.nx) = a by omega] at h2
      rw [h2] at ho1
      obtain rfl := Option.some.inj ho1
      refine ⟨k0 + (a - s.nx), _, ?_, aget_lk (o := o) (by rw [lk1, h1]), f2μ (outOk_ok ho _ o h1).1⟩
      rw [μhi _ (by omega) (by omega)]
      congr 1
      omega
  · obtain ⟨h1, h2, o, h3, h4, h5⟩ := Rlt b a hb
    have hb' : aget h' b = none := by
      cases hx : aget h' b with
      | none => rfl
      | some o' =>
        obtain ⟨a', j1, j2⟩ := hin b o' hx h1
        rw [μlo b h1, hb] at j1
        obtain rfl := Option.some.inj j1
        exact absurd j2 hw
    show aget (hp (remH wr hc) ⟨h', k0 + nn, []⟩) b = aget (hp (remH wr hc) ⟨selH wr hc, k0, []⟩) b
    rw [aget_lk (o := renO f o) (by rw [hnot b h1 hb']; exact h4), aget_lk (o := renO f o) (by rw [lk_split]; exact h4)]
    exact congrArg some (denO_bd (n := k0) (fun i hi => by rw [D1 i hi, D0]) (bdH_get hbc h4).2)
  · obtain ⟨j1, j2, q, j3, j4, j5⟩ := Rlt b a hb
    have h1 : aget (hp (remH wr hc) ⟨selH wr hc, k0, []⟩) b = some o := h1
    have h2 : aget (hp H0 s) a = some o1 := h2
    rw [aget_lk (o := renO f q) (by rw [lk_split]; exact j4)] at h1
    rw [aget_lk j3] at h2
    obtain rfl := Option.some.inj h1
    obtain rfl := Option.some.inj h2
    exact ren_ORN fun id hid => ⟨okIds_ok j5 id hid, D0R _ _ (okIds_ok j5 id hid)⟩
/-- What comes behind a call. -/
def kEnd (k kp : KO ρ) : KO ρ := fun v s rd wr => match v with
  | .pk p => kp p s rd wr
  | v => cond (npk v) (k v s rd wr) none
/-- A call. -/
def callS (H0 : AH) (s : AS) (TF : AT) (ct : CT) (g : Nat) (vs : List AV) (ps : List (Option (Nat × Nat))) (S : List Src) (Rc : List (Nat × Nat)) (f : Nat → Nat) (k kp : KO ρ) : Option ρ :=
  (hcS (lk H0 s) Rc f 0 S).bind fun hc => cond (injB Rc && (argOk Rc f hc ps vs && Nat.ble hc.length KB)) ((ct g (argR f ps vs) hc).bind fun c => match c with
    | .one R m wr nn out => cond (wfB hc.length (hp (remH wr hc) ⟨selH wr hc, hc.length, []⟩)) (m.bind fun r => callK H0 s TF hc Rc wr nn (R2of Rc hc.length nn s.nx) (out r).1 (out r).2 (kEnd k kp)) none
    | .two R P m wr nn np out outp => cond (wfB hc.length (hp (remH wr hc) ⟨selH wr hc, hc.length, []⟩)) (m.bind fun r => sumE (fun x => callK H0 s TF hc Rc wr nn (R2of Rc hc.length nn s.nx) (out x).1 (out x).2 (kEnd k kp)) (fun y => callK H0 s TF hc Rc wr np (R2of Rc hc.length np s.nx) (outp y).1 (outp y).2 (kEnd k kp)) r) none) none
def callA (C : Cfg) (kd : TypeId → Option RK) (H0 : AH) (ct : CT) : CallA ρ := fun TF s g vs k kp => (C.fn g).bind fun F =>
  callS H0 s TF ct g vs (argS C kd vs F.params.toList []).1 (growS (lk H0 s) 1000 0 (argS C kd vs F.params.toList []).2) (rcS 0 (growS (lk H0 s) 1000 0 (argS C kd vs F.params.toList []).2)) (invR (rcS 0 (growS (lk H0 s) 1000 0 (argS C kd vs F.params.toList []).2))) k kp
theorem callA_ok {H0 : AH} {ct : CT} (hct : COk C ct) : CallsOk C H0 (callA (ρ := ρ) C kd H0 ct) := by
  intro TF s g vs k kp r h
  obtain ⟨F, hF, h⟩ := bd h
  unfold callS at h
  obtain ⟨hc, hh, h⟩ := bd h
  obtain ⟨h1, h⟩ := cond_some h
  obtain ⟨h1, h2⟩ := and_ok h1
  obtain ⟨h2, h3⟩ := and_ok h2
  obtain ⟨c, hc1, h⟩ := Option.bind_eq_some_iff.1 h
  have fin : ∀ (wr : List Nat) (nn : Nat) (out : AV × AH), CtrR C g (argR (invR (rcS 0 (growS (lk H0 s) 1000 0 (argS C kd vs F.params.toList []).2))) (argS C kd vs F.params.toList []).1 vs) hc wr nn out → wfB hc.length (hp (remH wr hc) ⟨selH wr hc, hc.length, []⟩) = true → callK H0 s TF hc (rcS 0 (growS (lk H0 s) 1000 0 (argS C kd vs F.params.toList []).2)) wr nn (R2of (rcS 0 (growS (lk H0 s) 1000 0 (argS C kd vs F.params.toList []).2)) hc.length nn s.nx) out.1 out.2 (kEnd k kp) = some r →
      ((∃ v s' rd wr, k v s' rd wr = some r ∧ CallR C g (denL (Dof H0 s) vs) ⟨hp H0 s, s.nx, [], [], []⟩ (den (Dof H0 s') v) ⟨hp H0 s', s'.nx, rd, wr, []⟩ ∧ isPk (den (Dof H0 s') v) = none ∧ denT (Dof H0 s') TF = denT (Dof H0 s) TF) ∨
      ∃ p s' rd wr, kp p s' rd wr = some r ∧ CallR C g (denL (Dof H0 s) vs) ⟨hp H0 s, s.nx, [], [], []⟩ (pkV (den (Dof H0 s') p)) ⟨hp H0 s', s'.nx, rd, wr, []⟩ ∧ denT (Dof H0 s') TF = denT (Dof H0 s) TF) := fun wr nn out hct2 h4 h => by
    obtain ⟨v, s', rd, wr', hk, hr, ht⟩ := callK_ok rfl hh h1 rfl h2 h3 h4 hct2 h
    unfold kEnd at hk
    split at hk
    · rename_i p
      exact Or.inr ⟨p, s', rd, wr', hk, hr, ht⟩
    · obtain ⟨hn, hk2⟩ := cond_some hk
      exact Or.inl ⟨v, s', rd, wr', hk2, hr, npk_ok hn, ht⟩
  have hok := hct g _ hc c hc1
  cases c with
  | one R m wr nn out =>
    obtain ⟨h4, h⟩ := cond_some h
    obtain ⟨x, hm, h⟩ := bd h
    exact fin wr nn (out x) (hok x hm) h4 h
  | two R P m wr nn np out outp =>
    obtain ⟨h4, h⟩ := cond_some h
    obtain ⟨x, hm, h⟩ := bd h
    cases x with
    | inl x => exact fin wr nn (out x) (hok.1 x hm) h4 h
    | inr y => exact fin wr np (outp y) (hok.2 y hm) h4 h
end
end
end Go.Ev
