/- Words of my own: a function's run over abstract states. -/
import Derived.Test.YtlkfcabklaaacaaSx10
import Derived.Test.YtlkfcabklaaacaaHr
set_option linter.unusedVariables false
set_option linter.unusedSimpArgs false
set_option linter.unusedSectionVars false
namespace Go.Ev
open Go.RowKit
noncomputable section
def oneAV (l : List AV) : AV := match l with
  | [v] => v
  | l => .tu l
theorem oneAV_den (D : Dt) (l : List AV) : oneOf (denL D l) = den D (oneAV l) := by
  match l with
  | [] => rfl
  | [v] => rfl
  | v :: u :: l => rfl
def zipA : List AV → Nat → AT
  | [], _ => []
  | v :: l, i => (i, v) :: zipA l (i + 1)
theorem zipA_den (D : Dt) : ∀ (l : List AV) (i : Nat), denT D (zipA l i) = zipT (denL D l) i
  | [], _ => rfl
  | v :: l, i => by
    show (i, den D v) :: denT D (zipA l (i + 1)) = (i, den D v) :: zipT (denL D l) (Nat.succ i)
    rw [zipA_den D l]
theorem lowB_lg {l : List Nat} {a : Nat} (h : lowB l = true) (ha : Nat.ble (Nat.succ a) KB = true) : lowB (lg l a) = true := by
  unfold lg
  cases mem l a
  · show Bool.rec (motive := fun _ => Bool) false (lowB l) (Nat.ble (Nat.succ a) KB) = true
    rw [ha]; exact h
  · exact h
theorem allB_app {a b : List Bool} (ha : allB a = true) (hb : allB b = true) : allB (app a b) = true := by
  rw [app_eq]
  induction a with
  | nil => exact hb
  | cons x a ih =>
    change Bool.rec (motive := fun _ => Bool) false (allB a) x = true at ha
    show Bool.rec (motive := fun _ => Bool) false (allB (a ++ b)) x = true
    cases x
    · cases ha
    · exact ih ha
section
variable {ρ : Type} {r : ρ} {C : Cfg} [Hv C] [Hx C] {kd : TypeId → Option RK}
/-- A function's results, handed on. -/
def resC {R : Type} (C : Cfg) (H0 : AH) (T : AT) (s : AS) : List ResultVar → (List AV → Option R) → Option R
  | [], k => k []
  | .tmp t :: l, k => (aget T t).bind fun v => resC C H0 T s l fun q => k (v :: q)
  | .cell c t :: l0, k => match aget T c, C.ty t with
    | some (.ptr id q), some ti => match lk H0 s id with
      | some (.row K o l _ _) => match ti.2 with
        | .array n _ => cond (Nat.ble (Nat.succ id) KB && (Nat.beq (n * K.z) ti.1.size && (Nat.beq q 0 && Nat.beq o 0))) (match Nat.ble n 16 with
          | false => cond (decide (l.length = n)) (resC C H0 T s l0 fun r => k (.ar K l :: r)) none
          | true => exL K l n 0 fun cs => resC C H0 T s l0 fun r => k (.ag cs :: r)) none
        | _ => none
      | some (.cells cs _ _) => cond (Nat.ble (Nat.succ id) KB) (match isAggD ti.2 with
        | false => (nth cs q).bind fun v => resC C H0 T s l0 fun r => k (v :: r)
        | true => cond (Nat.beq ((cs.drop q).take ti.1.size).length ti.1.size) (resC C H0 T s l0 fun r => k (.ag ((cs.drop q).take ti.1.size) :: r)) none) none
      | _ => none
    | _, _ => none
theorem resC_ok {R : Type} {H0 : AH} {T : AT} {s : AS} : ∀ {l : List ResultVar} {k : List AV → Option R} {r : R} {rd wr : List Nat} {df : List Value}, resC C H0 T s l k = some r → lowB rd = true →
    ∃ vs ns rd', k vs = some r ∧ aRes C (denT (Dof H0 s) T) l ⟨hp H0 s, s.nx, rd, wr, df⟩ = some (denL (Dof H0 s) vs, ns, ⟨hp H0 s, s.nx, rd', wr, df⟩) ∧ allB ns = true ∧ lowB rd' = true
  | [], k, r, rd, wr, df, h, hl => ⟨[], [], rd, h, rfl, rfl, hl⟩
  | .tmp t :: l, k, r, rd, wr, df, h, hl => by
    rw [resC] at h
    obtain ⟨v, h1, h⟩ := bd h
    obtain ⟨vs, ns, rd', e0, e1, e2, e3⟩ := resC_ok (wr := wr) (df := df) h hl
    refine ⟨v :: vs, ns, rd', e0, ?_, e2, e3⟩
    show (aget (denT (Dof H0 s) T) t).bind _ = _
    rw [aget_denT, h1]
    show (aRes C _ l _).bind _ = _
    rw [e1]; rfl
  | .cell c t :: l, k, r, rd, wr, df, h, hl => by
    rw [resC] at h
    split at h
    · rename_i id q ti h1 h2
      split at h
      · rename_i K o l' t' f h3
        split at h
        · rename_i n e hd
          obtain ⟨hc, h⟩ := cond_some h
          obtain ⟨hid, hc⟩ := and_ok hc
          obtain ⟨hz, hc2⟩ := and_ok hc
          obtain ⟨hq, ho⟩ := and_ok hc2
          have hz := Nat.eq_of_beq_eq_true hz
          have hq := Nat.eq_of_beq_eq_true hq
          have ho := Nat.eq_of_beq_eq_true ho
          have hg : isAggD ti.2 = true := by rw [hd]; rfl
          have key : l'.length = n → ∀ (vs : List AV) (ns : List Bool) (rd' : List Nat) (v : AV), den (Dof H0 s) v = .agg ⟨rowV K.kv l'⟩ → k (v :: vs) = some r → aRes C (denT (Dof H0 s) T) l ⟨hp H0 s, s.nx, lg rd id, wr, df⟩ = some (denL (Dof H0 s) vs, ns, ⟨hp H0 s, s.nx, rd', wr, df⟩) → allB ns = true → lowB rd' = true →
              ∃ vs ns rd', k vs = some r ∧ aRes C (denT (Dof H0 s) T) (.cell c t :: l) ⟨hp H0 s, s.nx, rd, wr, df⟩ = some (denL (Dof H0 s) vs, ns, ⟨hp H0 s, s.nx, rd', wr, df⟩) ∧ allB ns = true ∧ lowB rd' = true := fun hlen vs ns rd' v hv e0 e1 e2 e3 => by
            have hlen2 : (rowV K.kv l').length = ti.1.size := by rw [kv_length, hlen, hz]
            have hdd : tak (dro (rowJ K.kv o l') q) ti.1.size = rowV K.kv l' := by
              rw [tak_eq, dro_eq, hq, ho, ← hlen2]
              show (([] ++ rowV K.kv l').drop 0).take _ = _
              rw [List.nil_append, List.drop_zero, List.take_length]
            refine ⟨v :: vs, app [Nat.beq (len (rowV K.kv l')) ti.1.size] ns, rd', e0, ?_, ?_, e3⟩
            · show (aget (denT (Dof H0 s) T) c).bind _ = _
              rw [aget_denT, h1]
              show (aLoadV C ⟨hp H0 s, s.nx, rd, wr, df⟩ t (.pointer (some ⟨id, q, none⟩))).bind _ = _
              have : aLoadV C ⟨hp H0 s, s.nx, rd, wr, df⟩ t (.pointer (some ⟨id, q, none⟩)) = some (.agg ⟨rowV K.kv l'⟩, [Nat.beq (len (rowV K.kv l')) ti.1.size], ⟨hp H0 s, s.nx, lg rd id, wr, df⟩) := by
                unfold aLoadV
                simp only [h2, aget_lk h3, denO, hg, hdd]; rfl
              rw [this]
              show (aRes C _ l ⟨hp H0 s, s.nx, lg rd id, wr, df⟩).bind _ = _
              rw [e1, denL, hv]; rfl
            · refine allB_app ?_ e2
              rw [len_eq, hlen2, Nat.beq_refl]; rfl
          split at h
          · obtain ⟨hlen, h⟩ := cond_some h
            obtain ⟨vs, ns, rd', e0, e1, e2, e3⟩ := resC_ok (rd := lg rd id) (wr := wr) (df := df) h (lowB_lg hl hid)
            exact key (of_decide_eq_true hlen) vs ns rd' _ rfl e0 e1 e2 e3
          · obtain ⟨cs, h4, h5, h6⟩ := exL_ok (D := Dof H0 s) h
            obtain ⟨vs, ns, rd', e0, e1, e2, e3⟩ := resC_ok (rd := lg rd id) (wr := wr) (df := df) h4 (lowB_lg hl hid)
            exact key (by omega) vs ns rd' (.ag cs) (by rw [den, h5, List.drop_zero]) e0 e1 e2 e3
        · cases h
      · rename_i cs t' f h3
        obtain ⟨hid, h⟩ := cond_some h
        split at h
        · rename_i hg
          obtain ⟨v, h4, h⟩ := bd h
          obtain ⟨vs, ns, rd', e0, e1, e2, e3⟩ := resC_ok (rd := lg rd id) (wr := wr) (df := df) h (lowB_lg hl hid)
          refine ⟨v :: vs, _, rd', e0, ?_, e2, e3⟩
          show (aget (denT (Dof H0 s) T) c).bind _ = _
          rw [aget_denT, h1]
          show (aLoadV C ⟨hp H0 s, s.nx, rd, wr, df⟩ t (.pointer (some ⟨id, q, none⟩))).bind _ = _
          have : aLoadV C ⟨hp H0 s, s.nx, rd, wr, df⟩ t (.pointer (some ⟨id, q, none⟩)) = some (den (Dof H0 s) v, [], ⟨hp H0 s, s.nx, lg rd id, wr, df⟩) := by
            unfold aLoadV
            simp only [h2, aget_lk h3, denO, hg]
            rw [denL_nth, h4]; rfl
          rw [this]
          show (aRes C _ l ⟨hp H0 s, s.nx, lg rd id, wr, df⟩).bind _ = _
          rw [e1]; rfl
        · rename_i hg
          obtain ⟨hlen, h⟩ := cond_some h
          obtain ⟨vs, ns, rd', e0, e1, e2, e3⟩ := resC_ok (rd := lg rd id) (wr := wr) (df := df) h (lowB_lg hl hid)
          have hd : tak (dro (denL (Dof H0 s) cs) q) ti.1.size = denL (Dof H0 s) ((cs.drop q).take ti.1.size) := by rw [tak_eq, dro_eq, denL_take, denL_drop]
          refine ⟨.ag ((cs.drop q).take ti.1.size) :: vs, app [Nat.beq (len (denL (Dof H0 s) ((cs.drop q).take ti.1.size))) ti.1.size] ns, rd', e0, ?_, ?_, e3⟩
          · show (aget (denT (Dof H0 s) T) c).bind _ = _
            rw [aget_denT, h1]
            show (aLoadV C ⟨hp H0 s, s.nx, rd, wr, df⟩ t (.pointer (some ⟨id, q, none⟩))).bind _ = _
            have : aLoadV C ⟨hp H0 s, s.nx, rd, wr, df⟩ t (.pointer (some ⟨id, q, none⟩)) = some (.agg ⟨denL (Dof H0 s) ((cs.drop q).take ti.1.size)⟩, [Nat.beq (len (denL (Dof H0 s) ((cs.drop q).take ti.1.size))) ti.1.size], ⟨hp H0 s, s.nx, lg rd id, wr, df⟩) := by
              unfold aLoadV
              simp only [h2, aget_lk h3, denO, hg, hd]; rfl
            rw [this]
            show (aRes C _ l ⟨hp H0 s, s.nx, lg rd id, wr, df⟩).bind _ = _
            rw [e1]; rfl
          · refine allB_app ?_ e2
            rw [len_eq, denL_length, hlen]; rfl
      · cases h
    · cases h
/-- No panic. -/
def npk : AV → Bool
  | .pk _ => false
  | .tu l => Nat.ble l.length 6
  | _ => true
theorem npk_ok {D : Dt} {v : AV} (h : npk v = true) : isPk (den D v) = none := by
  cases v with
  | tu l =>
    have hl := ble_iff.1 h
    unfold isPk
    split
    · rename_i p hp
      have : Value.tuple ⟨denL D l⟩ = Value.tuple ⟨[.bool true, .bool true, .bool true, .bool true, .bool true, .bool true, p]⟩ := hp
      have := congrArg (fun v => match v with | Value.tuple a => a.toList.length | _ => 0) this
      have hh : (denL D l).length = 7 := this
      rw [denL_length] at hh
      omega
    · rfl
  | pk v => cases h
  | sl id z => unfold den; cases D id <;> rfl
  | ep id i z j => unfold den; cases D id <;> rfl
  | _ => rfl
def nilP : List (Nat × (Nat × Nat)) → Bool
  | [] => true
  | _ => false
theorem nilP_ok {l : List (Nat × (Nat × Nat))} (h : nilP l = true) : l = [] := by
  cases l with
  | nil => rfl
  | cons => cases h
/-- A function's end: its value and its memory, under names one behind the other. -/
def retN {R : Type} (C : Cfg) (kd : TypeId → Option RK) (kr : KN) (n0 : Nat) (H0 : AH) (ret : AV → AH → Nat → Option R) (vs : List AV) (s : AS) : Option R :=
  canon C kd kr [] n0 H0 [0] [(0, oneAV vs)] s fun T1 s1 => match aget T1 0 with
    | some v => cond (npk v && nilP s1.dd) (ret v s1.h s1.nx) none
    | none => none
/-- An end by a panic. -/
def retP {R : Type} (C : Cfg) (kd : TypeId → Option RK) (n0 : Nat) (H0 : AH) (ret : AV → AH → Nat → Option R) (t : TypeId) (s : AS) : Option R :=
  canon C kd [] [] n0 H0 [] [] s fun T1 s1 => cond (nilP s1.dd) (ret (.pk (.ifc t (.ag []))) s1.h s1.nx) none
def retK {R : Type} (C : Cfg) (kd : TypeId → Option RK) (kr : KN) (E : SE R) (rv : List ResultVar) (ret : AV → AH → Nat → Option R) : KC R := fun o T s => match o with
  | .normal => resC C E.H0 T s rv fun vs => retN C kd kr E.n0 E.H0 ret vs s
  | .ret => resC C E.H0 T s rv fun vs => retN C kd kr E.n0 E.H0 ret vs s
  | .panic (.iface t (.agg ⟨[]⟩)) => retP C kd E.n0 E.H0 ret t s
  | _ => none
/-- What a function hands back. -/
abbrev RetQ {R : Type} (H0 : AH) (out : R → AV × AH) (nx1 : R → Nat) (r : R) : Value → St → Prop := fun v s1 => v = den (Dof H0 ⟨(out r).2, nx1 r, []⟩) (out r).1 ∧ s1 = stA H0 ⟨(out r).2, nx1 r, []⟩
theorem retN_ok {R : Type} {kr : KN} {n0 : Nat} {H0 : AH} {nx1 : R → Nat} {ret : AV → AH → Nat → Option R} {vs : List AV} {s : AS} {r : R} {out : R → AV × AH} (hret : ∀ v h nx r, ret v h nx = some r → out r = (v, h) ∧ nx = nx1 r) (h : retN C kd kr n0 H0 ret vs s = some r) :
    ∃ v0 s0, Rnm n0 [(0, oneOf (denL (Dof H0 s) vs))] (stA H0 s) [(0, v0)] s0 ∧ isPk v0 = none ∧ RetQ H0 out nx1 r v0 s0 := by
  obtain ⟨T1, s1, hk, hr⟩ := canon_ok h
  split at hk
  · rename_i v hv
    obtain ⟨hc, hk2⟩ := cond_some hk
    clear hk
    obtain ⟨hnp, hd⟩ := and_ok hc
    obtain ⟨h2, nx2, dd2⟩ := s1
    have hd : dd2 = [] := nilP_ok hd
    subst hd
    obtain ⟨ho2, hn⟩ := hret v h2 nx2 r hk2
    subst hn
    refine ⟨den (Dof H0 ⟨h2, nx1 r, []⟩) v, stA H0 ⟨h2, nx1 r, []⟩, ?_, npk_ok hnp, ?_⟩
    · rw [oneAV_den]
      obtain ⟨⟨R, r1, r2, r3, r4⟩, r5, r6, r7⟩ := hr
      refine ⟨⟨R, r1, ?_, r3, r4⟩, r5, r6, r7⟩
      obtain ⟨v', hv1, hv2⟩ := r2.get (i := 0) (v1 := den (Dof H0 ⟨h2, nx1 r, []⟩) v) (by rw [aget_denT, hv]; rfl)
      exact .cons hv1 hv2 .nil
    · unfold RetQ
      rw [ho2]; exact ⟨rfl, rfl⟩
  · cases hk
theorem retP_ok {R : Type} {n0 : Nat} {H0 : AH} {nx1 : R → Nat} {ret : AV → AH → Nat → Option R} {t : TypeId} {s : AS} {r : R} {out : R → AV × AH} (hret : ∀ v h nx r, ret v h nx = some r → out r = (v, h) ∧ nx = nx1 r) (h : retP C kd n0 H0 ret t s = some r) :
    ∃ s0, Rnm n0 [] (stA H0 s) [] s0 ∧ RetQ H0 out nx1 r (pkV (.iface t (.agg ⟨[]⟩))) s0 := by
  obtain ⟨T1, s1, hk, hr⟩ := canon_ok h
  obtain ⟨hd, hk2⟩ := cond_some hk
  clear hk
  obtain ⟨h2, nx2, dd2⟩ := s1
  have hd : dd2 = [] := nilP_ok hd
  subst hd
  obtain ⟨ho2, hn⟩ := hret _ h2 nx2 r hk2
  subst hn
  refine ⟨stA H0 ⟨h2, nx1 r, []⟩, ?_, ?_⟩
  · obtain ⟨⟨R, r1, r2, r3, r4⟩, r5, r6, r7⟩ := hr
    exact ⟨⟨R, r1, .nil, r3, r4⟩, r5, r6, r7⟩
  · unfold RetQ
    rw [ho2]; exact ⟨rfl, rfl⟩
theorem retK_fin {R : Type} {kr : KN} {E : SE R} {F : Func} {nx1 : R → Nat} {ret : AV → AH → Nat → Option R} {T : AT} {s : AS} {r : R} {out : R → AV × AH} (hret : ∀ v h nx r, ret v h nx = some r → out r = (v, h) ∧ nx = nx1 r) (o : Out) (ho : o = .normal ∨ o = .ret)
    (h1 : resC C E.H0 T s F.results.toList (fun vs => retN C kd kr E.n0 E.H0 ret vs s) = some r) :
    FinQ C F E.n0 (RetQ E.H0 out nx1 r) o (denT (Dof E.H0 s) T) (stA E.H0 s) := by
  obtain ⟨vs, ns, rd', h, e1, e2, e3⟩ := resC_ok (rd := []) (wr := []) (df := []) h1 rfl
  obtain ⟨v0, s0, e4, e5, e6⟩ := retN_ok hret h
  exact .inr ⟨ho, rfl, _, _, _, v0, s0, e1, e2, e3, rfl, e4, e5, e6⟩
/-- A function. -/
def sxF {R : Type} (C : Cfg) (kd : TypeId → Option RK) (kr : KN) (E : SE R) (F : Func) (c : Code) (W : AH) (vs : List AV) (ret : AV → AH → Nat → Option R) : Option R :=
  sxC C kd E [] c (zipA vs 0) ⟨W, E.n0, []⟩ (retK C kd kr E F.results.toList ret)
theorem sxF_ok {R : Type} {kr : KN} {E : SE R} {g : FuncId} {F : Func} {c : Code} (hF : C.fn g = some F) (hb : F.body = some c) (hN : E.N = F.ntmps) (hdf : E.df = []) (hcall : CallsOk C E.H0 E.call) {W : AH} {vs : List AV} {nx1 : R → Nat} {ret : AV → AH → Nat → Option R} {out : R → AV × AH} (hret : ∀ v h nx r, ret v h nx = some r → out r = (v, h) ∧ nx = nx1 r) (hl : Nat.ble vs.length F.ntmps = true) {r : R}
    (hpv : PV C kd E r [] c (retK C kd kr E F.results.toList ret)) (h : sxF C kd kr E F c W vs ret = some r) : CW C g (denL (Dof E.H0 ⟨W, E.n0, []⟩) vs) (stA E.H0 ⟨W, E.n0, []⟩) (RetQ E.H0 out nx1 r) := by
  refine CW.of_WP Hv.ok hF hb (by rw [len_eq, denL_length]; exact hl) rfl ?_
  rw [← zipA_den, ← hN]
  have key := sxC_ok hcall (.inl hpv) h (Q := FinQ C F E.n0 (RetQ E.H0 out nx1 r)) fun o T' s' hk => by
    rw [hdf]
    unfold retK at hk
    split at hk
    · exact retK_fin hret .normal (.inl rfl) hk
    · exact retK_fin hret .ret (.inr rfl) hk
    · rename_i t
      obtain ⟨s0, e1, e2⟩ := retP_ok hret hk
      exact .inl ⟨_, s0, rfl, rfl, e1, e2⟩
    · cases hk
  rw [hdf] at key
  exact key
/-! Functions with one deferred call, laid by behind the first region. -/
def ptrE : List AV → List AV → Bool
  | [], [] => true
  | .ptr a q :: l, .ptr a' q' :: l' => (Nat.beq a a' && Nat.beq q q') && ptrE l l'
  | _, _ => false
theorem ptrE_ok {D D' : Dt} : ∀ {l l' : List AV}, ptrE l l' = true → denL D l = denL D' l'
  | [], [], _ => rfl
  | [], _ :: _, h => by cases h
  | v :: l, l', h => by
    unfold ptrE at h
    split at h
    · rename_i e; cases e
    · rename_i a q l1 a' q' l2 e
      cases e
      obtain ⟨h1, h2⟩ := and_ok h
      obtain ⟨h3, h4⟩ := and_ok h1
      rw [denL, denL, den, den, Nat.eq_of_beq_eq_true h3, Nat.eq_of_beq_eq_true h4, ptrE_ok h2]
    · cases h
/-- What is put ahead of the deferred call, and the deferred call itself. -/
def preD {R : Type} (C : Cfg) (kd : TypeId → Option RK) (H0 : AH) (call : CallA R) (N : Nat) (ed : List AV) (ops0 : List Oper) (o1 o2 : Oper) (T : AT) (s : AS) (k : AT → AS → Option R) : Option R :=
  sxRg C kd H0 call N ops0 false T s fun o T s => match o with
    | .normal => sxG C kd H0 call [o1, o2] T T s o1 (fun v s' rd wr => cond (log3 s'.nx rd wr && dOk N o1.dst) (putA [] o1.dst v T fun T' => match o2.dst, o2.op, o2.guard with
      | none, .defer ⟨.value f, ⟨[]⟩, _⟩, none => match ev1A T' f, ed with
        | some (.fn g cap), [.fn g' cap'] => cond (Nat.beq g g' && ptrE cap cap') (k T' s') none
        | _, _ => none
      | _, _, _ => none) none) (fun _ _ _ _ => none)
    | _ => none
/-- What the deferred call makes of memory: u: what is panicked with (an empty struct of a type). -/
abbrev Dfr := Option TypeId → AH → Nat → Option (Option TypeId × AH × Nat)
def uV : Option TypeId → Option (Value × Bool)
  | none => none
  | some t => some (.iface t (.agg ⟨[]⟩), false)
def lvR : List ResultVar → List Nat
  | [] => []
  | .tmp t :: l => t :: lvR l
  | .cell c _ :: l => c :: lvR l
def finD {R : Type} (C : Cfg) (kd : TypeId → Option RK) (kr : KN) (E : SE R) (n0 : Nat) (rv : List ResultVar) (dfr : Dfr) (ret : AV → AH → Nat → Option R) (u : Option TypeId) (T : AT) (s : AS) : Option R :=
  canon C kd [] E.df E.n0 E.H0 (lvR rv) T s fun T1 s1 => cond (nilP s1.dd && bdT s1.nx T1) ((dfr u s1.h s1.nx).bind fun p => match p with
    | (none, h', nx') => resC C E.H0 T1 ⟨h', nx', []⟩ rv fun vs => retN C kd kr n0 E.H0 ret vs ⟨h', nx', []⟩
    | (some t, h', nx') => retP C kd n0 E.H0 ret t ⟨h', nx', []⟩) none
def retD {R : Type} (C : Cfg) (kd : TypeId → Option RK) (kr : KN) (E : SE R) (n0 : Nat) (rv : List ResultVar) (dfr : Dfr) (ret : AV → AH → Nat → Option R) : KC R := fun o T s => match o with
  | .normal => finD C kd kr E n0 rv dfr ret none T s
  | .ret => finD C kd kr E n0 rv dfr ret none T s
  | .panic (.iface t (.agg ⟨[]⟩)) => finD C kd kr E n0 rv dfr ret (some t) T s
  | _ => none
/-- Memory with more objects, and the old ones as long as they were. -/
inductive SameD (nx : Nat) : AH → AH → Prop
  | nil : SameD nx [] []
  | new {i : Nat} {o : AO} {a b : AH} (h : Nat.ble nx i = true) (t : SameD nx a b) : SameD nx ((i, o) :: a) b
  | old {i : Nat} {o o' : AO} {a b : AH} (e : od o' = od o) (t : SameD nx a b) : SameD nx ((i, o') :: a) ((i, o) :: b)
theorem SameD.get {nx : Nat} {a b : AH} (h : SameD nx a b) : ∀ id, id < nx → (aget a id).map od = (aget b id).map od := by
  induction h with
  | nil => intro id _; rfl
  | new h t ih =>
    intro id hid
    rw [aget_cons, if_neg (by have := ble_iff.1 h; omega)]
    exact ih id hid
  | old e t ih =>
    intro id hid
    rw [aget_cons, aget_cons]
    rename_i i o o' a b
    by_cases hh : id = i
    · rw [if_pos hh, if_pos hh]; exact congrArg some e
    · rw [if_neg hh, if_neg hh]; exact ih id hid
/-- The deferred call's word. -/
def DfrOk (C : Cfg) (H0 : AH) (df : List AV) (call : CallF) (self : CodeF) (dfr : Dfr) : Prop := ∀ u h nx u' h' nx', dfr u h nx = some (u', h', nx') →
  ((runDf call C self (dfV df) (uV u) (stA H0 ⟨h, nx, []⟩)).map fun p => (p.1, p.2.h, p.2.nx, p.2.df, log3 p.2.nx p.2.rd p.2.wr)) = some (uV u', hp H0 ⟨h', nx', []⟩, nx', [], true) ∧ SameD nx h' h
theorem finD_ok {R : Type} {kr : KN} {E : SE R} {n0 : Nat} {F : Func} {nx1 : R → Nat} {dfr : Dfr} {call : CallF} {self : CodeF} {ret : AV → AH → Nat → Option R} {u : Option TypeId} {T : AT} {s : AS} {r : R} {out : R → AV × AH} (hret : ∀ v h nx r, ret v h nx = some r → out r = (v, h) ∧ nx = nx1 r) (hn : n0 ≤ E.n0) (hdfr : DfrOk C E.H0 E.df call self dfr)
    (o : Out) (ho : ((o = .normal ∨ o = .ret) ∧ uV u = none) ∨ ∃ p, o = .panic p ∧ uV u = some (p, false)) (h : finD C kd kr E n0 F.results.toList dfr ret u T s = some r) :
    FinD C F n0 call self (RetQ E.H0 out nx1 r) o (denT (Dof E.H0 s) T) (stD (dfV E.df) E.H0 s) := by
  obtain ⟨T1, s1, hk, hr⟩ := canon_ok h
  obtain ⟨hc, hk2⟩ := cond_some hk
  clear hk
  obtain ⟨hd, hbt⟩ := and_ok hc
  obtain ⟨h2, nx2, dd2⟩ := s1
  have hd : dd2 = [] := nilP_ok hd
  subst hd
  obtain ⟨⟨u', h', nx'⟩, hdf, hk3⟩ := bd hk2
  clear hk2
  obtain ⟨e0, esame⟩ := hdfr _ _ _ _ _ _ hdf
  have e3 : ∀ id, id < nx2 → Dof E.H0 ⟨h', nx', []⟩ id = Dof E.H0 ⟨h2, nx2, []⟩ id := fun id hid => by
    have := esame.get id hid
    unfold Dof
    dsimp only
    cases q1 : aget h' id with
    | none =>
      cases q2 : aget h2 id with
      | none => rfl
      | some o2 => rw [q1, show aget (AS.mk h2 nx2 []).h id = some o2 from q2] at this; cases this
    | some o1 =>
      cases q2 : aget h2 id with
      | none => rw [q1, show aget (AS.mk h2 nx2 []).h id = none from q2] at this; cases this
      | some o2 => rw [q1, show aget (AS.mk h2 nx2 []).h id = some o2 from q2] at this; exact this
  obtain ⟨⟨uu, s9⟩, e1, e2⟩ := Option.map_eq_some_iff.1 e0
  obtain ⟨h9, nx9, rd, wr, df9⟩ := s9
  simp only [Prod.mk.injEq] at e2
  obtain ⟨x1, x2, x3, x4, e2⟩ := e2
  subst x1; subst x2; subst x4; subst x3
  refine ⟨E.n0, _, _, uV u, uV u', _, hn, hr, ho, e1, e2, ?_⟩
  cases u' with
  | none =>
    obtain ⟨vs, ns, rd', h5, f1, f2, f3⟩ := resC_ok (rd := []) (wr := []) (df := []) hk3 rfl
    obtain ⟨v0, s0, e4, e5, e6⟩ := retN_ok hret h5
    refine ⟨_, _, ⟨hp E.H0 ⟨h', nx9, []⟩, nx9, rd', [], []⟩, v0, s0, ?_, f2, f3, rfl, e4, e5, e6⟩
    rw [denT_bd (D := Dof E.H0 ⟨h2, nx2, []⟩) (D' := Dof E.H0 ⟨h', nx9, []⟩) e3 hbt] at f1
    exact f1
  | some t =>
    obtain ⟨s0, e4, e5⟩ := retP_ok hret hk3
    exact ⟨s0, e4, e5⟩
theorem preD_ok {R : Type} {N n0 : Nat} {H0 : AH} {call : CallA R} {ed : List AV} {id0 id1 : Nat} {o1 o2 : Oper} {ops0 : Array Oper} {rest : Code} {T : AT} {s : AS} {k : AT → AS → Option R} {r : R} {Q : Out → Tm → St → Prop} (hcall : CallsOk C H0 call) (h : preD C kd H0 call N ed ops0.toList o1 o2 T s k = some r)
    (hq : ∀ T' s', k T' s' = some r → WP C N n0 rest (denT (Dof H0 s') T') (stD (dfV ed) H0 s') Q) : WP C N n0 (.seq (.region id0 ops0 false) (.seq (.region id1 #[o1, o2] false) rest)) (denT (Dof H0 s) T) (stA H0 s) Q := by
  refine WP.seq (sxRg_ok [] hcall h fun o T1 s1 hk => ?_)
  split at hk
  · rcases sxG_ok (N := N) (ops := #[o1, o2]) hcall hk with ⟨v, s', rd, wr, h2, hs, ht⟩ | ⟨p, s', rd, wr, h2, _⟩
    · obtain ⟨hc, h3⟩ := cond_some h2
      clear h2
      obtain ⟨hl, hd⟩ := and_ok hc
      obtain ⟨T', h4, hT⟩ := putA_ok h3
      clear h3
      split at h4
      · rename_i f tys hd2 hop hg
        split at h4
        · rename_i g cap g' cap' hf
          obtain ⟨he, h5⟩ := cond_some h4
          clear h4
          obtain ⟨he1, he2⟩ := and_ok he
          have he1 := Nat.eq_of_beq_eq_true he1
          subst he1
          obtain ⟨d2, op2, ty2, pos2, after2, g2⟩ := o2
          dsimp only at hd2 hop hg
          subst hd2; subst hop; subst hg
          refine WP.seq (WP.region ?_)
          have hf' := ev1A_ok (D := Dof H0 s') hf
          have e : denL (Dof H0 s') cap = denL (fun _ => none) cap' := ptrE_ok he2
          have hfin : OW C N n0 #[o1, ⟨none, .defer ⟨.value f, #[], tys⟩, ty2, pos2, after2, none⟩] [⟨none, .defer ⟨.value f, #[], tys⟩, ty2, pos2, after2, none⟩] (denT (Dof H0 s') T') (stA H0 s') (fun o T' s' => match o with
              | .normal => WP C N n0 rest T' s' Q
              | o => Q o T' s') := by
            refine OW.defer hf' (OW.nil ?_)
            have := hq _ _ h5
            show WP C N n0 rest _ (⟨hp H0 s', s'.nx, [], [], [.func (.func g) #[] ⟨denL (Dof H0 s') cap⟩]⟩ : St) Q
            rw [e]
            exact this
          rw [hT, ht] at hfin
          obtain ⟨d, op, ty, pos, after, g⟩ := o1
          cases d with
          | none => exact OW.st0 hs hl hfin
          | some d => exact OW.st hs hl hd hfin
        · cases h4
      · cases h4
    · cases h2
  · cases hk
/-- A function with a deferred call. -/
def sxFD {R : Type} (C : Cfg) (kd : TypeId → Option RK) (kr : KN) (E : SE R) (n0 : Nat) (F : Func) (ops0 : List Oper) (o1 o2 : Oper) (rest : Code) (W : AH) (vs : List AV) (dfr : Dfr) (ret : AV → AH → Nat → Option R) : Option R :=
  preD C kd E.H0 E.call E.N E.df ops0 o1 o2 (zipA vs 0) ⟨W, n0, []⟩ fun T s => cond (Nat.beq s.nx E.n0 && Nat.ble n0 E.n0) (sxC C kd E [] rest T s (retD C kd kr E n0 F.results.toList dfr ret)) none
theorem sxFD_ok {R : Type} {kr : KN} {E : SE R} {n0 : Nat} {g : FuncId} {F : Func} {id0 id1 : Nat} {ops0 : Array Oper} {o1 o2 : Oper} {rest : Code} {dfr : Dfr} {call : CallF} {self : CodeF} (hc1 : ∀ B W0, B ≤ W0.heap.size → CallOk C B W0 call) (hc2 : ∀ B W0, B ≤ W0.heap.size → CodeOk C B W0 self) (hF : C.fn g = some F) (hb : F.body = some (.seq (.region id0 ops0 false) (.seq (.region id1 #[o1, o2] false) rest))) (hN : E.N = F.ntmps) (hcall : CallsOk C E.H0 E.call) (hdfr : DfrOk C E.H0 E.df call self dfr) {W : AH} {vs : List AV} {nx1 : R → Nat} {ret : AV → AH → Nat → Option R} {out : R → AV × AH} (hret : ∀ v h nx r, ret v h nx = some r → out r = (v, h) ∧ nx = nx1 r) (hl : Nat.ble vs.length F.ntmps = true) {r : R}
    (hpv : PV C kd E r [] rest (retD C kd kr E n0 F.results.toList dfr ret)) (h : sxFD C kd kr E n0 F ops0.toList o1 o2 rest W vs dfr ret = some r) : CW C g (denL (Dof E.H0 ⟨W, n0, []⟩) vs) (stA E.H0 ⟨W, n0, []⟩) (RetQ E.H0 out nx1 r) := by
  refine CW.of_defer Hv.ok hc1 hc2 hF hb (by rw [len_eq, denL_length]; exact hl) rfl ?_
  rw [← zipA_den, ← hN]
  refine preD_ok hcall h fun T' s' hk => ?_
  obtain ⟨hc, hk2⟩ := cond_some hk
  clear hk
  obtain ⟨hn1, hn2⟩ := and_ok hc
  have hn1 := Nat.eq_of_beq_eq_true hn1
  have hn2 := ble_iff.1 hn2
  refine WP.up ?_
  show WP C E.N s'.nx rest _ _ _
  rw [hn1]
  refine sxC_ok hcall (.inl hpv) hk2 fun o T2 s2 hr => ?_
  unfold retD at hr
  split at hr
  · exact finD_ok hret hn2 hdfr .normal (.inl ⟨.inl rfl, rfl⟩) hr
  · exact finD_ok hret hn2 hdfr .ret (.inl ⟨.inr rfl, rfl⟩) hr
  · rename_i t
    exact finD_ok hret hn2 hdfr _ (.inr ⟨_, rfl, rfl⟩) hr
  · cases hr
end
end
end Go.Ev
