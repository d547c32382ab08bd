/- Words of my own: a function's run over abstract states. -/
import Derived.Test.YtlkfcabklaaacaaSx10
set_option linter.unusedVariables false
set_option linter.unusedSimpArgs false
set_option linter.unusedSectionVars false
namespace Go.Ev
open Go.RowKit
noncomputable section
def resA (C : Cfg) (H0 : AH) (T : AT) (s : AS) : List ResultVar → Option (List AV)
  | [] => some []
  | .tmp t :: l => (aget T t).bind fun v => (resA C H0 T s l).bind fun q => some (v :: q)
  | .cell c t :: l => match aget T c, C.ty t with
    | some (.ptr id q), some ti => match lk H0 s id with
      | some (.cells cs _ _) => cond (Nat.ble (Nat.succ id) KB) (match isAggD ti.2 with
        | false => (nth cs q).bind fun v => (resA C H0 T s l).bind fun r => some (v :: r)
        | true => cond (Nat.beq ((cs.drop q).take ti.1.size).length ti.1.size) ((resA C H0 T s l).bind fun r => some (.ag ((cs.drop q).take ti.1.size) :: r)) none) none
      | _ => none
    | _, _ => none
def oneAV (l : List AV) : AV := match l with
  | [v] => v
  | l => .tu l
theorem oneAV_den (D : Dt) (l : List AV) : oneOf (denL D l) = den D (oneAV l) := by
  match l with
  | [] => rfl
  | [v] => rfl
  | v :: u :: l => rfl
def zipA : List AV → Nat → AT
  | [], _ => []
  | v :: l, i => (i, v) :: zipA l (i + 1)
theorem zipA_den (D : Dt) : ∀ (l : List AV) (i : Nat), denT D (zipA l i) = zipT (denL D l) i
  | [], _ => rfl
  | v :: l, i => by
    show (i, den D v) :: denT D (zipA l (i + 1)) = (i, den D v) :: zipT (denL D l) (Nat.succ i)
    rw [zipA_den D l]
theorem lowB_lg {l : List Nat} {a : Nat} (h : lowB l = true) (ha : Nat.ble (Nat.succ a) KB = true) : lowB (lg l a) = true := by
  unfold lg
  cases mem l a
  · show Bool.rec (motive := fun _ => Bool) false (lowB l) (Nat.ble (Nat.succ a) KB) = true
    rw [ha]; exact h
  · exact h
theorem allB_app {a b : List Bool} (ha : allB a = true) (hb : allB b = true) : allB (app a b) = true := by
  rw [app_eq]
  induction a with
  | nil => exact hb
  | cons x a ih =>
    change Bool.rec (motive := fun _ => Bool) false (allB a) x = true at ha
    show Bool.rec (motive := fun _ => Bool) false (allB (a ++ b)) x = true
    cases x
    · cases ha
    · exact ih ha
section
variable {ρ : Type} {r : ρ} {C : Cfg} [Hv C] [Hx C] {kd : TypeId → Option RK}
theorem resA_ok {H0 : AH} {T : AT} {s : AS} : ∀ {l : List ResultVar} {vs : List AV} {rd wr : List Nat} {df : List Value}, resA C H0 T s l = some vs → lowB rd = true →
    ∃ ns rd', aRes C (denT (Dof H0 s) T) l ⟨hp H0 s, s.nx, rd, wr, df⟩ = some (denL (Dof H0 s) vs, ns, ⟨hp H0 s, s.nx, rd', wr, df⟩) ∧ allB ns = true ∧ lowB rd' = true
  | [], vs, rd, wr, df, h, hl => by cases h; exact ⟨_, _, rfl, rfl, hl⟩
  | .tmp t :: l, vs, rd, wr, df, h, hl => by
    rw [resA] at h
    obtain ⟨v, h1, h⟩ := bd h
    obtain ⟨q, h2, h⟩ := bd h
    obtain rfl := Option.some.inj h
    obtain ⟨ns, rd', e1, e2, e3⟩ := resA_ok (wr := wr) (df := df) h2 hl
    refine ⟨ns, rd', ?_, e2, e3⟩
    show (aget (denT (Dof H0 s) T) t).bind _ = _
    rw [aget_denT, h1]
    show (aRes C _ l _).bind _ = _
    rw [e1]; rfl
  | .cell c t :: l, vs, rd, wr, df, h, hl => by
    rw [resA] at h
    split at h
    · rename_i id q ti h1 h2
      split at h
      · rename_i cs t' f h3
        obtain ⟨hid, h⟩ := cond_some h
        split at h
        · rename_i hg
          obtain ⟨v, h4, h⟩ := bd h
          obtain ⟨r, h5, h⟩ := bd h
          obtain rfl := Option.some.inj h
          obtain ⟨ns, rd', e1, e2, e3⟩ := resA_ok (rd := lg rd id) (wr := wr) (df := df) h5 (lowB_lg hl hid)
          refine ⟨_, rd', ?_, e2, e3⟩
          show (aget (denT (Dof H0 s) T) c).bind _ = _
          rw [aget_denT, h1]
          show (aLoadV C ⟨hp H0 s, s.nx, rd, wr, df⟩ t (.pointer (some ⟨id, q, none⟩))).bind _ = _
          have : aLoadV C ⟨hp H0 s, s.nx, rd, wr, df⟩ t (.pointer (some ⟨id, q, none⟩)) = some (den (Dof H0 s) v, [], ⟨hp H0 s, s.nx, lg rd id, wr, df⟩) := by
            unfold aLoadV
            simp only [h2, aget_lk h3, denO, hg]
            rw [denL_nth, h4]; rfl
          rw [this]
          show (aRes C _ l ⟨hp H0 s, s.nx, lg rd id, wr, df⟩).bind _ = _
          rw [e1]; rfl
        · rename_i hg
          obtain ⟨hlen, h⟩ := cond_some h
          obtain ⟨r, h5, h⟩ := bd h
          obtain rfl := Option.some.inj h
          obtain ⟨ns, rd', e1, e2, e3⟩ := resA_ok (rd := lg rd id) (wr := wr) (df := df) h5 (lowB_lg hl hid)
          have hd : tak (dro (denL (Dof H0 s) cs) q) ti.1.size = denL (Dof H0 s) ((cs.drop q).take ti.1.size) := by rw [tak_eq, dro_eq, denL_take, denL_drop]
          refine ⟨app [Nat.beq (len (denL (Dof H0 s) ((cs.drop q).take ti.1.size))) ti.1.size] ns, rd', ?_, ?_, e3⟩
          · show (aget (denT (Dof H0 s) T) c).bind _ = _
            rw [aget_denT, h1]
            show (aLoadV C ⟨hp H0 s, s.nx, rd, wr, df⟩ t (.pointer (some ⟨id, q, none⟩))).bind _ = _
            have : aLoadV C ⟨hp H0 s, s.nx, rd, wr, df⟩ t (.pointer (some ⟨id, q, none⟩)) = some (.agg ⟨denL (Dof H0 s) ((cs.drop q).take ti.1.size)⟩, [Nat.beq (len (denL (Dof H0 s) ((cs.drop q).take ti.1.size))) ti.1.size], ⟨hp H0 s, s.nx, lg rd id, wr, df⟩) := by
              unfold aLoadV
              simp only [h2, aget_lk h3, denO, hg, hd]; rfl
            rw [this]
            show (aRes C _ l ⟨hp H0 s, s.nx, lg rd id, wr, df⟩).bind _ = _
            rw [e1]; rfl
          · refine allB_app ?_ e2
            rw [len_eq, denL_length, hlen]; rfl
      · cases h
    · cases h
/-- A function's end: its value and its memory, under names one behind the other. -/
def retK {R : Type} (C : Cfg) (kd : TypeId → Option RK) (kr : KN) (E : SE R) (rv : List ResultVar) (ret : AV → AH → Nat → Option R) : KC R := fun o T s => match o with
  | .normal => (resA C E.H0 T s rv).bind fun vs => canon C kd kr E.n0 E.H0 [0] [(0, oneAV vs)] s fun T1 s1 => match aget T1 0 with
    | some v => cond (nilP s1.dd) (ret v s1.h s1.nx) none
    | none => none
  | .ret => (resA C E.H0 T s rv).bind fun vs => canon C kd kr E.n0 E.H0 [0] [(0, oneAV vs)] s fun T1 s1 => match aget T1 0 with
    | some v => cond (nilP s1.dd) (ret v s1.h s1.nx) none
    | none => none
  | _ => none
where nilP : List (Nat × (Nat × Nat)) → Bool
  | [] => true
  | _ => false
theorem retK_fin {R : Type} {kr : KN} {E : SE R} {F : Func} {nx1 : Nat} {ret : AV → AH → Nat → Option R} {T : AT} {s : AS} {r : R} {out : R → AV × AH} (hret : ∀ v h nx r, ret v h nx = some r → out r = (v, h) ∧ nx = nx1) (o : Out) (ho : o = .normal ∨ o = .ret)
    (h : ((resA C E.H0 T s F.results.toList).bind fun vs => canon C kd kr E.n0 E.H0 [0] [(0, oneAV vs)] s fun T1 s1 => match aget T1 0 with
      | some v => cond (retK.nilP s1.dd) (ret v s1.h s1.nx) none
      | none => none) = some r) :
    FinQ C F E.n0 (fun v s1 => v = den (Dof E.H0 ⟨(out r).2, nx1, []⟩) (out r).1 ∧ s1 = stA E.H0 ⟨(out r).2, nx1, []⟩) o (denT (Dof E.H0 s) T) (stA E.H0 s) := by
  obtain ⟨vs, h1, h⟩ := bd h
  obtain ⟨T1, s1, hk, hr⟩ := canon_ok h
  split at hk
  · rename_i v hv
    obtain ⟨hc, hk2⟩ := cond_some hk
    clear hk
    have hd := hc
    clear hc
    obtain ⟨h2, nx2, dd2⟩ := s1
    have hd : dd2 = [] := by
      cases dd2 with
      | nil => rfl
      | cons => cases hd
    subst hd
    obtain ⟨ho2, hn⟩ := hret v h2 nx2 r hk2
    subst hn
    obtain ⟨ns, rd', e1, e2, e3⟩ := resA_ok (rd := []) (wr := []) (df := []) h1 rfl
    refine ⟨ho, rfl, _, _, _, den (Dof E.H0 ⟨h2, nx2, []⟩) v, stA E.H0 ⟨h2, nx2, []⟩, e1, e2, e3, rfl, ?_, ?_⟩
    · rw [oneAV_den]
      obtain ⟨⟨R, r1, r2, r3, r4⟩, r5, r6, r7⟩ := hr
      refine ⟨⟨R, r1, ?_, r3, r4⟩, r5, r6, r7⟩
      obtain ⟨v', hv1, hv2⟩ := r2.get (i := 0) (v1 := den (Dof E.H0 ⟨h2, nx2, []⟩) v) (by rw [aget_denT, hv]; rfl)
      exact .cons hv1 hv2 .nil
    · rw [ho2]; exact ⟨rfl, rfl⟩
  · cases hk
/-- A function. -/
def sxF {R : Type} (C : Cfg) (kd : TypeId → Option RK) (kr : KN) (E : SE R) (F : Func) (c : Code) (W : AH) (vs : List AV) (ret : AV → AH → Nat → Option R) : Option R :=
  sxC C kd E [] c (zipA vs 0) ⟨W, E.n0, []⟩ (retK C kd kr E F.results.toList ret)
theorem sxF_ok {R : Type} {kr : KN} {E : SE R} {g : FuncId} {F : Func} {c : Code} (hF : C.fn g = some F) (hb : F.body = some c) (hN : E.N = F.ntmps) (hcall : CallsOk C E.H0 E.call) {W : AH} {vs : List AV} {nx1 : Nat} {ret : AV → AH → Nat → Option R} {out : R → AV × AH} (hret : ∀ v h nx r, ret v h nx = some r → out r = (v, h) ∧ nx = nx1) (hl : Nat.ble vs.length F.ntmps = true) {r : R}
    (hpv : PV C kd E r [] c (retK C kd kr E F.results.toList ret)) (h : sxF C kd kr E F c W vs ret = some r) : CW C g (denL (Dof E.H0 ⟨W, E.n0, []⟩) vs) (stA E.H0 ⟨W, E.n0, []⟩) fun v s1 => v = den (Dof E.H0 ⟨(out r).2, nx1, []⟩) (out r).1 ∧ s1 = stA E.H0 ⟨(out r).2, nx1, []⟩ := by
  refine CW.of_WP Hv.ok hF hb (by rw [len_eq, denL_length]; exact hl) rfl ?_
  rw [← zipA_den, ← hN]
  refine sxC_ok hcall (.inl hpv) h fun o T' s' hk => ?_
  cases o with
  | normal => exact retK_fin hret .normal (.inl rfl) hk
  | ret => exact retK_fin hret .ret (.inr rfl) hk
  | exit id => cases hk
  | panic v => cases hk
end
end
end Go.Ev
