/- Words of my own: regions over abstract values. -/
import Derived.Test.YtlkfcabklaaacaaSx7
set_option linter.unusedVariables false
set_option linter.unusedSimpArgs false
set_option linter.unusedSectionVars false
namespace Go.Ev
open Go.RowKit
noncomputable section
section
variable {ρ : Type} {r : ρ} {C : Cfg} [Hv C] [Hx C] {N n0 : Nat} {ops : Array Oper} {H0 : AH} {TF T : AT} {s : AS} {kd : TypeId → Option RK} {call : CallA ρ}
/-- The slot that a guard looks at. -/
def gsA (ops : List Oper) (T : AT) (j : Nat) : Option AV := match nth ops j with
  | some oj => match oj.dst with
    | some d => aget T d
    | none => none
  | none => none
theorem gsA_ok {D : Dt} {ops : List Oper} {j : Nat} {v : AV} (h : gsA ops T j = some v) : gslot ops (denT D T) j = some (den D v) := by
  unfold gsA at h; unfold gslot
  cases h1 : nth ops j with
  | none => rw [h1] at h; cases h
  | some oj =>
    rw [h1] at h
    dsimp only at h ⊢
    cases h2 : oj.dst with
    | none => rw [h2] at h; cases h
    | some d =>
      rw [h2] at h
      dsimp only at h ⊢
      rw [aget_denT, h]; rfl
/-- One operation, if it is to be done. -/
def sxG (C : Cfg) (kd : TypeId → Option RK) (H0 : AH) (call : CallA ρ) (ops : List Oper) (TF T : AT) (s : AS) (o : Oper) (k kp : KO ρ) : Option ρ := match o.guard with
  | none => sxOp C kd H0 call TF T s o.type o.op k kp
  | some (j, w) => match gsA ops T j with
    | some (.b b) => match b, w with
      | true, true => sxOp C kd H0 call TF T s o.type o.op k kp
      | false, false => sxOp C kd H0 call TF T s o.type o.op k kp
      | _, _ => k .un s [] []
    | some .un => k .un s [] []
    | _ => none
theorem sxG_ok (hcall : CallsOk C H0 call) {o : Oper} {k kp : KO ρ} (h : sxG C kd H0 call ops.toList TF T s o k kp = some r) : OGs2 C N ops H0 TF T s o k kp r := by
  obtain ⟨d, op, ty, pos, after, g⟩ := o
  unfold sxG at h
  dsimp only at h
  split at h
  · exact sxOp_ok hcall h
  · rename_i j w
    split at h
    · rename_i b hg
      have go : b = w → sxOp C kd H0 call TF T s ty op k kp = some r → OGs2 C N ops H0 TF T s ⟨d, op, ty, pos, after, some (j, w)⟩ k kp r := fun e h => by
        rcases sxOp_ok (N := N) (ops := ops) (d := d) (pos := pos) (after := after) hcall h with ⟨v, s', rd, wr, hk, hs, ht⟩ | ⟨p, s', rd, wr, hk, hs, ht⟩
        · exact .inl ⟨v, s', rd, wr, hk, .yes (gsA_ok hg) e hs, ht⟩
        · exact .inr ⟨p, s', rd, wr, hk, .yes (gsA_ok hg) e hs, ht⟩
      split at h
      · exact go rfl h
      · exact go rfl h
      · rename_i h1 h2
        refine .inl ⟨_, _, _, _, h, .no (gsA_ok hg) ?_, rfl⟩
        cases b <;> cases w <;> simp_all
    · rename_i hg
      exact .inl ⟨_, _, _, _, h, .nou (gsA_ok hg), rfl⟩
    · cases h
/-- Slots that steer a region. -/
def steer (ops : List Oper) : List Nat := ops.flatMap fun o => (match o.guard with
    | some (j, _) => match nth ops j with
      | some oj => oj.dst.toList
      | none => []
    | none => []) ++ (match o.op with
    | .pick (.tmp t) _ _ => [t]
    | _ => [])
/-- A slot gets its value; if it steers, both ways are gone. -/
def putA (st : List Nat) (d : Option Nat) (v : AV) (T : AT) (k : AT → Option ρ) : Option ρ := match d with
  | none => k T
  | some d => Bool.rec (motive := fun _ => Option ρ) (k ((d, v) :: T)) (match v with
    | .b b => Bool.rec (motive := fun _ => Option ρ) (k ((d, .b false) :: T)) (k ((d, .b true) :: T)) b
    | v => k ((d, v) :: T)) (mem st d)
theorem putA_ok {st : List Nat} {d : Option Nat} {v : AV} {k : AT → Option ρ} (h : putA st d v T k = some r) : ∃ T', k T' = some r ∧ ∀ D, denT D T' = putD d (den D v) (denT D T) := by
  unfold putA at h
  split at h
  · exact ⟨_, h, fun D => rfl⟩
  · rename_i d
    cases hm : mem st d <;> rw [hm] at h
    · exact ⟨_, h, fun D => rfl⟩
    · dsimp only at h
      split at h
      · rename_i b
        cases b
        · exact ⟨_, h, fun D => rfl⟩
        · exact ⟨_, h, fun D => rfl⟩
      · exact ⟨_, h, fun D => rfl⟩
def dOk (N : Nat) : Option Nat → Bool
  | none => true
  | some d => Nat.ble (Nat.succ d) N
/-- Operations in their order. -/
def sxOW (C : Cfg) (kd : TypeId → Option RK) (H0 : AH) (call : CallA ρ) (N : Nat) (ops : List Oper) (st : List Nat) : List Oper → AT → AS → (Out → AT → AS → Option ρ) → Option ρ
  | [], T, s, k => k .normal T s
  | o :: l, T, s, k => sxG C kd H0 call ops T T s o (fun v s' rd wr => cond (log3 s'.nx rd wr && dOk N o.dst) (putA st o.dst v T fun T' => sxOW C kd H0 call N ops st l T' s' k) none)
    (fun p s' rd wr => cond (log3 s'.nx rd wr) (k (.panic (den (Dof H0 s') p)) T s') none)
abbrev stA (H0 : AH) (s : AS) : St := ⟨hp H0 s, s.nx, [], [], []⟩
/-- The same, with deferred calls. -/
abbrev stD (df : List Value) (H0 : AH) (s : AS) : St := ⟨hp H0 s, s.nx, [], [], df⟩
theorem sxOW_ok (df : List Value) (hcall : CallsOk C H0 call) {st : List Nat} {k : Out → AT → AS → Option ρ} {Q : Out → Tm → St → Prop} : ∀ {l : List Oper} {T : AT} {s : AS}, sxOW C kd H0 call N ops.toList st l T s k = some r → (∀ o T' s', k o T' s' = some r → Q o (denT (Dof H0 s') T') (stD df H0 s')) → OW C N n0 ops l (denT (Dof H0 s) T) (stD df H0 s) Q
  | [], T, s, h, hq => OW.nil (hq _ _ _ h)
  | o :: l, T, s, h, hq => by
    rw [sxOW] at h
    rcases sxG_ok (N := N) hcall h with ⟨v, s', rd, wr, h, hs, ht⟩ | ⟨p, s', rd, wr, h, hs, ht⟩
    · obtain ⟨hc, h⟩ := cond_some h
      obtain ⟨hl, hd⟩ := and_ok hc
      obtain ⟨T', h, hT⟩ := putA_ok h
      have ih := sxOW_ok df hcall h hq
      rw [hT, ht] at ih
      obtain ⟨d, op, ty, pos, after, g⟩ := o
      cases d with
      | none => exact OW.st0 hs hl ih
      | some d => exact OW.st hs hl hd ih
    · obtain ⟨hl, h⟩ := cond_some h
      have := hq _ _ _ h
      rw [ht] at this
      exact OW.panic hs hl this
-- drawn
def restrA (T : AT) : List Nat → AT
  | [] => []
  | t :: l => match aget T t with
    | some v => (t, v) :: restrA T l
    | none => restrA T l
theorem restrA_den (D : Dt) (T : AT) : ∀ l, denT D (restrA T l) = restr (denT D T) l
  | [] => rfl
  | t :: l => by
    show _ = (match aget (denT D T) t with | some v => (t, v) :: restr (denT D T) l | none => restr (denT D T) l)
    rw [aget_denT, restrA]
    cases aget T t with
    | none => exact restrA_den D T l
    | some v =>
      show (t, den D v) :: denT D (restrA T l) = (t, den D v) :: _
      rw [restrA_den D T l]
def nilB : List Nat → Bool
  | [] => true
  | _ => false
def sxDW (C : Cfg) (kd : TypeId → Option RK) (H0 : AH) (call : CallA ρ) (N : Nat) (ops : List Oper) (st : List Nat) (ms : List Nat) : List Oper → Nat → AT → AS → List Rec → (AT → AS → List Rec → Option ρ) → Option ρ
  | [], _, T, s, rs, k => k T s rs
  | o :: l, i, T, s, rs, k => sxG C kd H0 call ops T (restrA T (looks ops o)) s o (fun v s' rd wr => cond (dOk N o.dst) (match nilB rd && (nilB wr && Nat.beq s.nx s'.nx) with
    | true => putA st o.dst v T fun T' => sxDW C kd H0 call N ops st ms l (i + 1) T' s' rs k
    | false => cond (pairB ms ⟨i, rd, wr, s.nx, s'.nx⟩ rs) (putA st o.dst v T fun T' => sxDW C kd H0 call N ops st ms l (i + 1) T' s' (⟨i, rd, wr, s.nx, s'.nx⟩ :: rs) k) none) none) fun _ _ _ _ => none
theorem aget_putD {d : Option Nat} {v : Value} {T : Tm} (t : Nat) : aget (putD d v T) t = if d = some t then some v else aget T t := by
  cases d with
  | none => rw [if_neg (fun h => by cases h)]; rfl
  | some e =>
    show aget ((e, v) :: T) t = _
    rw [aget_cons]
    by_cases h : t = e
    · rw [if_pos h, if_pos (by rw [h])]
    · rw [if_neg h, if_neg (fun hh => h (Option.some.inj hh).symm)]
theorem sxDW_ok (hcall : CallsOk C H0 call) {st ms : List Nat} {k : AT → AS → List Rec → Option ρ} {Q : Tm → St → List Rec → Prop} : ∀ {l : List Oper} {i : Nat} {T : AT} {s : AS} {rs : List Rec} {rd wr : List Nat} {df : List Value}, sxDW C kd H0 call N ops.toList st ms l i T s rs k = some r → (∀ T' s' rs' rd wr df, k T' s' rs' = some r → Q (denT (Dof H0 s') T') ⟨hp H0 s', s'.nx, rd, wr, df⟩ rs') → DW C N ops ms l i (denT (Dof H0 s) T) ⟨hp H0 s, s.nx, rd, wr, df⟩ rs Q
  | [], i, T, s, rs, rd, wr, df, h, hq => hq _ _ _ _ _ _ h
  | o :: l, i, T, s, rs, rd, wr, df, h, hq => by
    rw [sxDW] at h
    obtain ⟨v, s', rd', wr', h1, hs, ht⟩ := (sxG_ok (N := N) hcall h).resolve_right (fun ⟨_, _, _, _, e, _⟩ => by cases e)
    clear h
    obtain ⟨hd, h⟩ := cond_some h1
    clear h1
    rw [restrA_den] at hs
    have hd' : ∀ d, o.dst = some d → d < N := fun d e => by rw [e] at hd; exact ble_iff.1 hd
    split at h
    · rename_i hn
      obtain ⟨h1, hn⟩ := and_ok hn
      obtain ⟨h2, h3⟩ := and_ok hn
      have h1 : rd' = [] := by cases rd' with | nil => rfl | cons => cases h1
      have h2 : wr' = [] := by cases wr' with | nil => rfl | cons => cases h2
      rw [h1, h2] at hs
      obtain ⟨T', h4, hT⟩ := putA_ok h
      refine ⟨_, _, denT (Dof H0 s') T', hs, hd', fun t => by rw [hT, ht]; exact aget_putD t, .inl ⟨rfl, rfl, Nat.eq_of_beq_eq_true h3, sxDW_ok hcall h4 hq⟩⟩
    · obtain ⟨hp1, h⟩ := cond_some h
      obtain ⟨T', h, hT⟩ := putA_ok h
      refine ⟨_, _, denT (Dof H0 s') T', hs, hd', fun t => by rw [hT, ht]; exact aget_putD t, .inr ⟨hp1, sxDW_ok hcall h hq⟩⟩
/-- Slots that steer, known ahead. -/
def splA (T : AT) : List Nat → (AT → Option ρ) → Option ρ
  | [], k => k T
  | t :: l, k => match aget T t with
    | some (.b b) => Bool.rec (motive := fun _ => Option ρ) (splA ((t, .b false) :: T) l k) (splA ((t, .b true) :: T) l k) b
    | _ => splA T l k
theorem splA_ok {k : AT → Option ρ} : ∀ {l : List Nat} {T : AT}, splA T l k = some r → ∃ T', k T' = some r ∧ ∀ D i, aget (denT D T') i = aget (denT D T) i
  | [], T, h => ⟨T, h, fun D i => rfl⟩
  | t :: l, T, h => by
    rw [splA] at h
    split at h
    · rename_i b hb
      have key : ∀ (T1 : AT), T1 = (t, .b b) :: T → ∀ D i, aget (denT D T1) i = aget (denT D T) i := fun T1 e D i => by
        subst e
        show aget ((t, den D (.b b)) :: denT D T) i = _
        rw [aget_cons]
        by_cases e : i = t
        · rw [if_pos e, e, aget_denT, hb]; rfl
        · rw [if_neg e]
      cases b
      · obtain ⟨T', h1, h2⟩ := splA_ok (T := (t, .b false) :: T) h
        exact ⟨T', h1, fun D i => (h2 D i).trans (key _ rfl D i)⟩
      · obtain ⟨T', h1, h2⟩ := splA_ok (T := (t, .b true) :: T) h
        exact ⟨T', h1, fun D i => (h2 D i).trans (key _ rfl D i)⟩
    · exact splA_ok h
theorem WP.weak {c : Code} {T T1 : Tm} {s : St} {Q : Out → Tm → St → Prop} (h : ∀ i v, aget T1 i = some v → aget T i = some v) (k : WP C N n0 c T1 s Q) : WP C N n0 c T s Q :=
  fun B W0 ν0 m0 en ν a w hm tr df => k B W0 ν0 m0 en ν a w hm ⟨tr.size, fun i v hi => tr.get i v (h i v hi)⟩ df
/-- A region. -/
def sxRg (C : Cfg) (kd : TypeId → Option RK) (H0 : AH) (call : CallA ρ) (N : Nat) (ops : List Oper) (draw : Bool) (T : AT) (s : AS) (k : Out → AT → AS → Option ρ) : Option ρ :=
  splA T (steer ops) fun T => match draw with
    | false => sxOW C kd H0 call N ops (steer ops) ops T s k
    | true => cond (regOk ops) (sxDW C kd H0 call N ops (steer ops) (masks ops []) ops 0 T s [] fun T' s' rs => cond (log3 s'.nx (allRd rs) (allWr rs)) (k .normal T' s') none) none
theorem sxRg_ok (df : List Value) (hcall : CallsOk C H0 call) {id : Nat} {draw : Bool} {k : Out → AT → AS → Option ρ} {Q : Out → Tm → St → Prop} (h : sxRg C kd H0 call N ops.toList draw T s k = some r) (hq : ∀ o T' s', k o T' s' = some r → Q o (denT (Dof H0 s') T') (stD df H0 s')) : WP C N n0 (.region id ops draw) (denT (Dof H0 s) T) (stD df H0 s) Q := by
  unfold sxRg at h
  obtain ⟨T1, h, hT⟩ := splA_ok h
  refine WP.weak (T1 := denT (Dof H0 s) T1) (fun i v hi => by rw [← hT]; exact hi) ?_
  split at h
  · exact WP.region (sxOW_ok df hcall h hq)
  · obtain ⟨hr, h⟩ := cond_some h
    refine WP.drawn Hv.mix hr (sxDW_ok hcall h fun T' s' rs rd wr _ hk => ?_) rfl rfl
    obtain ⟨hl, hk⟩ := cond_some hk
    exact ⟨hl, hq _ _ _ hk⟩
end
end
end Go.Ev
