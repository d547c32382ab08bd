/- Words of my own: operations over abstract values, one by one: memory. -/
import Derived.Test.YtlkfcabklaaacaaSx5
set_option linter.unusedVariables false
set_option linter.unusedSimpArgs false
set_option linter.unusedSectionVars false
namespace Go.Ev
open Go.RowKit
noncomputable section
section
variable {ρ : Type} {r : ρ} {k : KO ρ} {C : Cfg} [Hv C] {N : Nat} {ops : Array Oper} {H0 : AH} {TF T : AT} {s : AS} {o : Oper}
variable {d : Option Nat} {ty : TypeId} {pos : String} {after : Array Edge}
theorem lk_hp {K : RK} {id o : Nat} {l : List K.α} {t : TypeId} {f : Nat × Nat} (h : lk H0 s id = some (.row K o l t f)) : aget (hp H0 s) id = some (.cells ⟨rowJ K.kv o l⟩ t f) := aget_lk h
theorem sl_ev {x : Operand} {K : RK} {id z o : Nat} {l : List K.α} {t : TypeId} {f : Nat × Nat} (hx : ev1A T x = some (.sl id z)) (h : lk H0 s id = some (.row K o l t f)) : ev1 (denT (Dof H0 s) T) x = some (.slice (some ⟨id, o, some z⟩) l.length 0) := by
  have h5 := ev1A_ok (D := Dof H0 s) hx
  rw [den, Dof_lk h] at h5; exact h5
-- texts cut
def oCut (T : AT) (s : AS) (b : List UInt8) (lo hi : Option Operand) (k : KO ρ) : Option ρ := match lo, hi with
  | some lo, none => match (ev1A T lo).bind toCnt with
    | some (c, i) => cond (c && decide (i ≤ b.length)) (k (.s (b.drop i)) s [] []) none
    | none => none
  | none, some hi => match (ev1A T hi).bind toCnt with
    | some (c, j) => cond (c && decide (j ≤ b.length)) (k (.s (b.take j)) s [] []) none
    | none => none
  | some lo, some hi => match (ev1A T lo).bind toCnt, (ev1A T hi).bind toCnt with
    | some (c, i), some (c', j) => cond ((c && c') && (decide (i ≤ j) && decide (j ≤ b.length))) (k (.s ((b.drop i).take (j - i))) s [] []) none
    | _, _ => none
  | none, none => none
theorem oCut_ok {t : TypeId} {ti : TypeInfo} {x : Operand} {b : List UInt8} {lo hi : Option Operand} (h1 : C.ty t = some (ti, .string)) (hx : ev1A T x = some (.s b)) (h : oCut T s b lo hi k = some r) : OGs C N ops H0 TF T s ⟨d, .slice t x lo hi none, ty, pos, after, none⟩ k r := by
  unfold oCut at h
  split at h
  · split at h
    · rename_i c i hi
      obtain ⟨hc, h⟩ := cond_some h
      obtain ⟨hc, hj⟩ := and_ok hc
      obtain ⟨kk, h4⟩ := cnt_of (D := Dof H0 s) hi hc
      exact .pure h (st_cutF h1 (ev1A_ok hx) h4 (of_decide_eq_true hj))
    · cases h
  · split at h
    · rename_i c i hi
      obtain ⟨hc, h⟩ := cond_some h
      obtain ⟨hc, hj⟩ := and_ok hc
      obtain ⟨kk, h4⟩ := cnt_of (D := Dof H0 s) hi hc
      exact .pure h (st_cutT h1 (ev1A_ok hx) h4 (of_decide_eq_true hj))
    · cases h
  · split at h
    · rename_i c i c' j hi hj
      obtain ⟨hc, h⟩ := cond_some h
      obtain ⟨hc, hd⟩ := and_ok hc
      obtain ⟨hc, hc'⟩ := and_ok hc
      obtain ⟨hd, hd'⟩ := and_ok hd
      obtain ⟨kk, h4⟩ := cnt_of (D := Dof H0 s) hi hc
      obtain ⟨kk', h5⟩ := cnt_of (D := Dof H0 s) hj hc'
      exact .pure h (st_cutM h1 (ev1A_ok hx) h4 h5 (of_decide_eq_true hd) (of_decide_eq_true hd'))
    · cases h
  · cases h
/-- The bounds of a part: what must hold, from where, how many. -/
def bnds (T : AT) (n : Nat) (lo hi : Option Operand) : Option (Bool × Nat × Nat) := match lo, hi with
  | some lo, none => match (ev1A T lo).bind toCnt with
    | some (c, i) => some (c && decide (i ≤ n), i, n)
    | none => none
  | none, some hi => match (ev1A T hi).bind toCnt with
    | some (c, j) => some (c && decide (j ≤ n), 0, j)
    | none => none
  | some lo, some hi => match (ev1A T lo).bind toCnt, (ev1A T hi).bind toCnt with
    | some (c, i), some (c', j) => some ((c && c') && (decide (i ≤ j) && decide (j ≤ n)), i, j)
    | _, _ => none
  | none, none => some (true, 0, n)
theorem bnds_ok {D : Dt} {n : Nat} {lo hi : Option Operand} {c : Bool} {i j : Nat} (h : bnds T n lo hi = some (c, i, j)) (hc : c = true) : lowOf (denT D T) lo = some (i : Int) ∧ highOf (denT D T) n hi = some (j : Int) ∧ i ≤ j ∧ j ≤ n := by
  unfold bnds at h
  split at h
  · split at h
    · rename_i c i hi
      simp only [Option.some.injEq, Prod.mk.injEq] at h
      obtain ⟨rfl, rfl, rfl⟩ := h
      obtain ⟨hc, hj⟩ := and_ok hc
      obtain ⟨kk, h4⟩ := cnt_of (D := D) hi hc
      exact ⟨by simp only [lowOf, h4], rfl, of_decide_eq_true hj, Nat.le_refl _⟩
    · cases h
  · split at h
    · rename_i c i hi
      simp only [Option.some.injEq, Prod.mk.injEq] at h
      obtain ⟨rfl, rfl, rfl⟩ := h
      obtain ⟨hc, hj⟩ := and_ok hc
      obtain ⟨kk, h4⟩ := cnt_of (D := D) hi hc
      exact ⟨rfl, by simp only [highOf, h4], Nat.zero_le _, of_decide_eq_true hj⟩
    · cases h
  · split at h
    · rename_i c i c' j hi hj
      simp only [Option.some.injEq, Prod.mk.injEq] at h
      obtain ⟨rfl, rfl, rfl⟩ := h
      obtain ⟨hc, hd⟩ := and_ok hc
      obtain ⟨hc, hc'⟩ := and_ok hc
      obtain ⟨hd, hd'⟩ := and_ok hd
      obtain ⟨kk, h4⟩ := cnt_of (D := D) hi hc
      obtain ⟨kk', h5⟩ := cnt_of (D := D) hj hc'
      exact ⟨by simp only [lowOf, h4], by simp only [highOf, h5], of_decide_eq_true hd, of_decide_eq_true hd'⟩
    · cases h
  · simp only [Option.some.injEq, Prod.mk.injEq] at h
    obtain ⟨rfl, rfl, rfl⟩ := h
    exact ⟨rfl, rfl, Nat.zero_le _, Nat.le_refl _⟩
/-- A part of a list, as it is written. -/
def partL {α : Type} (l : List α) (lo hi : Option Operand) (i j : Nat) : List α := match lo, hi with
  | none, none => l
  | some _, none => l.drop i
  | none, some _ => l.take j
  | some _, some _ => (l.drop i).take (j - i)
theorem partL_ok {α : Type} {l : List α} {lo hi : Option Operand} {c : Bool} {i j : Nat} (h : bnds T l.length lo hi = some (c, i, j)) : (l.drop i).take (j - i) = partL l lo hi i j := by
  unfold bnds at h; unfold partL
  split at h
  · split at h
    · simp only [Option.some.injEq, Prod.mk.injEq] at h
      obtain ⟨_, rfl, rfl⟩ := h
      exact List.take_of_length_le (by rw [List.length_drop]; exact Nat.le_refl _)
    · cases h
  · split at h
    · simp only [Option.some.injEq, Prod.mk.injEq] at h
      obtain ⟨_, rfl, rfl⟩ := h
      simp
    · cases h
  · split at h
    · simp only [Option.some.injEq, Prod.mk.injEq] at h
      obtain ⟨_, rfl, rfl⟩ := h
      rfl
    · cases h
  · simp only [Option.some.injEq, Prod.mk.injEq] at h
    obtain ⟨_, rfl, rfl⟩ := h
    simp
def oSl (C : Cfg) (H0 : AH) (TF T : AT) (s : AS) (t : TypeId) (x : Operand) (lo hi : Option Operand) (k : KO ρ) : Option ρ := match C.ty t, ev1A T x with
  | some (_, .string), some (.s b) => oCut T s b lo hi k
  | some (_, .slice e), some (.sl id z) => match C.ty e, lk H0 s id with
    | some ei, some (.row K o l e' f) => cond (Nat.beq ei.1.size z && (Nat.beq z K.z && Nat.beq e e')) (match bnds T l.length lo hi with
      | some (c, i, j) => cond c (match Nat.beq f.1 1 with
        | true => alc H0 TF s (.row K (o + i * z) (partL l lo hi i j) e (1, 0)) fun s' => k (.sl s.nx z) s' [id] []
        | false => cond (aget s.h id).isSome (alc H0 TF ⟨aput s.h id (.row K o l e (1, 0)), s.nx, s.dd⟩ (.row K (o + i * z) (partL l lo hi i j) e (1, 0)) fun s' => k (.sl s.nx z) s' [id] [id]) none) none
      | none => none) none
    | _, _ => none
  | some (_, .slice e), some .nsl => match C.ty e, bnds T 0 lo hi with
    | some _, some (c, _, _) => cond c (k .nsl s [] []) none
    | _, _ => none
  | _, _ => none
theorem oSl_ok {t : TypeId} {x : Operand} {lo hi : Option Operand} (h : oSl C H0 TF T s t x lo hi k = some r) : OGs C N ops H0 TF T s ⟨d, .slice t x lo hi none, ty, pos, after, none⟩ k r := by
  unfold oSl at h
  split at h
  · rename_i ti b h1 hx
    exact oCut_ok h1 hx h
  · rename_i ti e id z h1 hx
    split at h
    · rename_i ei K o l e' f h2 h3
      obtain ⟨hz0, h'⟩ := cond_some h
      obtain ⟨hz, hz1⟩ := and_ok hz0
      obtain ⟨hz2, he⟩ := and_ok hz1
      have he := Nat.eq_of_beq_eq_true he
      have hz2 := Nat.eq_of_beq_eq_true hz2
      clear hz0 hz1 h
      subst he; subst hz2
      have h := h'
      clear h'
      split at h
      · rename_i c i j hb
        obtain ⟨hc, h⟩ := cond_some h
        obtain ⟨hl, hh, hij, hj⟩ := bnds_ok (D := Dof H0 s) hb hc
        split at h
        · rename_i hf
          obtain ⟨s', ha, hk⟩ := alc_ok h
          refine OGs.new ha ?_ hk (st_view h1 h2 (Nat.eq_of_beq_eq_true hz) (sl_ev hx h3) hl hh (lk_hp h3) hf hij hj rfl (partL_ok hb))
          rw [den_new_sl ha, ← partL_ok hb, List.length_take, List.length_drop, Nat.min_eq_left (by omega)]
        · rename_i hf
          obtain ⟨hs, h⟩ := cond_some h
          obtain ⟨ob, hob⟩ := Option.isSome_iff_exists.1 hs
          have hob2 : ob = .row K o l e f := by
            unfold lk at h3; rw [hob] at h3; exact Option.some.inj h3
          subst hob2
          obtain ⟨s', ha, hk⟩ := alc_ok h
          have hod : od (.row K o l e (1, 0)) = od (.row K o l e f) := rfl
          have hD := Dof_put (H0 := H0) hob hod
          have hP := hp_put (H0 := H0) hob hod
          have st := st_cutL (C := C) (N := N) (s := ⟨hp H0 s, s.nx, [], [], []⟩) (ops := ops) (d := d) (ty := ty) (pos := pos) (after := after) h1 h2 (Nat.eq_of_beq_eq_true hz) (sl_ev hx h3) hl hh (Int.natCast_nonneg _) (Int.ofNat_le.2 hij) (Int.ofNat_le.2 hj)
          rw [Int.toNat_natCast, Int.toNat_natCast] at st
          have st2 := Stp.viewW st (lk_hp h3) hf (by rw [rowJ_length]; exact Nat.add_le_add_left (Nat.mul_le_mul_right _ (Nat.le_trans hij hj)) _) rfl
          rw [rowJ_part (by omega), partL_ok hb] at st2
          refine ⟨_, s', _, _, hk, ?_, by rw [ha.t, hD]⟩
          have hnx : (AS.mk (aput s.h id (.row K o l e (1, 0))) s.nx s.dd).nx = s.nx := rfl
          rw [show s.nx = (AS.mk (aput s.h id (.row K o l e (1, 0))) s.nx s.dd).nx from rfl, den_new_sl ha, ha.h, ha.eq, hP, hD, ← partL_ok hb, List.length_take, List.length_drop, Nat.min_eq_left (by omega), partL_ok hb]
          exact st2
      · cases h
    · cases h
  · rename_i ti e h1 hx
    split at h
    · rename_i ei c i j h2 hb
      obtain ⟨hc, h⟩ := cond_some h
      obtain ⟨hl, hh, hij, hj⟩ := bnds_ok (D := Dof H0 s) hb hc
      obtain rfl : j = 0 := by omega
      obtain rfl : i = 0 := by omega
      exact .pure h (st_cut0 h1 h2 (ev1A_ok hx) hl hh)
    · cases h
  · cases h
def isZ : RK → AV → Bool
  | .u32, .n .u32 m => Nat.beq m 0
  | .u64, .n .u64 m => Nat.beq m 0
  | .bl, .b false => true
  | _, _ => false
theorem isZ_ok {K : RK} {v : AV} {D : Dt} (h : isZ K v = true) : [den D v] = K.kv K.dflt := by
  unfold isZ at h
  split at h <;> first | (rw [Nat.eq_of_beq_eq_true h]; rfl) | rfl | cases h
def zOk (K : RK) : List AV → Bool
  | [] => true
  | v :: l => isZ K v && zOk K l
theorem zOk_ok {K : RK} {D : Dt} : ∀ {l : List AV}, zOk K l = true → denL D l = rowV K.kv (List.replicate l.length K.dflt)
  | [], _ => rfl
  | v :: l, h => by
    obtain ⟨h1, h2⟩ := and_ok h
    rw [denL, zOk_ok h2, List.length_cons, List.replicate_succ, rowV_cons, ← isZ_ok (D := D) h1]; rfl
/-- Some arrays are kept as rows. -/
def arK (kd : TypeId → Option RK) (t : TypeId) : TypeDesc → Option (RK × Nat)
  | .array n _ => (kd t).bind fun K => some (K, n)
  | _ => none
def oAl (C : Cfg) (kd : TypeId → Option RK) (H0 : AH) (TF : AT) (s : AS) (t : TypeId) (k : KO ρ) : Option ρ := (C.ty t).bind fun ti => ti.1.zero.bind fun zv => (ofVs zv.cells.toList).bind fun zs => match arK kd t ti.2 with
  | some (K, n) => match Nat.ble n 16 with
    | false => cond (zOk K zs && Nat.beq zs.length n) (alc H0 TF s (.row K 0 (List.replicate n K.dflt) t (0, 0)) fun s' => k (.ptr s.nx 0) s' [] []) none
    | true => (rowOf K n zs).bind fun l => alc H0 TF s (.row K 0 l t (0, 0)) fun s' => k (.ptr s.nx 0) s' [] []
  | none => alc H0 TF s (.cells zs t (0, 0)) fun s' => k (.ptr s.nx 0) s' [] []
theorem oAl_ok {kd : TypeId → Option RK} {t : TypeId} (h : oAl C kd H0 TF s t k = some r) : OGs C N ops H0 TF T s ⟨d, .alloc t, ty, pos, after, none⟩ k r := by
  obtain ⟨ti, h1, h⟩ := bd h
  obtain ⟨zv, h2, h⟩ := bd h
  obtain ⟨zs, h3, h⟩ := bd h
  obtain ⟨e1, e2⟩ := ofVs_ok (D := Dof H0 s) h3
  split at h
  · rename_i K n hk
    split at h
    · obtain ⟨hc, h⟩ := cond_some h
      obtain ⟨hz, hn⟩ := and_ok hc
      obtain ⟨s', ha, hk⟩ := alc_ok h
      have hn := Nat.eq_of_beq_eq_true hn
      have hz := zOk_ok (D := Dof H0 s) hz
      rw [hn] at hz
      refine OGs.new ha rfl hk (st_al (zs := rowV K.kv (List.replicate n K.dflt)) h1 h2 ?_ ?_)
      · rw [← hz, e1]
      · rw [← hz]; exact flAs_flats e2
    · obtain ⟨l, hl, h⟩ := bd h
      obtain ⟨s', ha, hk⟩ := alc_ok h
      obtain ⟨g1, _⟩ := rowOf_ok (D := Dof H0 s) hl
      refine OGs.new ha rfl hk (st_al (zs := rowV K.kv l) h1 h2 ?_ ?_)
      · rw [← g1, e1]
      · rw [← g1]; exact flAs_flats e2
  · obtain ⟨s', ha, hk⟩ := alc_ok h
    refine OGs.new ha rfl hk (st_al (zs := denL (Dof H0 s) zs) h1 h2 ?_ (flAs_flats e2))
    rw [e1]
def oBx (C : Cfg) (kd : TypeId → Option RK) (H0 : AH) (TF T : AT) (s : AS) (t : TypeId) (x : Operand) (k : KO ρ) : Option ρ := (ev1A T x).bind fun v => match v, (C.ty t).bind fun ti => arK kd t ti.2 with
  | .ar K l, _ => alc H0 TF s (.row K 0 l t (0, 0)) fun s' => k (.ptr s.nx 0) s' [] []
  | .ag cs, some (K, n) => (rowOf K n cs).bind fun l => alc H0 TF s (.row K 0 l t (0, 0)) fun s' => k (.ptr s.nx 0) s' [] []
  | v, _ => cond (nj (den (Dof H0 s) v)) (alc H0 TF s (.cells (cellsA v) t (0, 0)) fun s' => k (.ptr s.nx 0) s' [] []) none
theorem oBx_ok {kd : TypeId → Option RK} {t : TypeId} {x : Operand} (h : oBx C kd H0 TF T s t x k = some r) : OGs C N ops H0 TF T s ⟨d, .box t x, ty, pos, after, none⟩ k r := by
  obtain ⟨v, hx, h⟩ := bd h
  split at h
  · rename_i K l
    obtain ⟨s', ha, hk⟩ := alc_ok h
    exact OGs.new ha rfl hk (st_bx (vs := rowV K.kv l) (ev1A_ok hx) rfl rfl)
  · rename_i cs K n _
    obtain ⟨l, hl, h⟩ := bd h
    obtain ⟨s', ha, hk⟩ := alc_ok h
    obtain ⟨g1, _⟩ := rowOf_ok (D := Dof H0 s) hl
    exact OGs.new ha rfl hk (st_bx (vs := rowV K.kv l) (ev1A_ok hx) (by rw [← g1]; rfl) rfl)
  · obtain ⟨hj, h⟩ := cond_some h
    obtain ⟨s', ha, hk⟩ := alc_ok h
    exact OGs.new ha rfl hk (st_bx (ev1A_ok hx) (cellsA_den' _ _) hj)
/-- A row's elements, one by one. -/
def exL {R : Type} (K : RK) (l : List K.α) : Nat → Nat → (List AV → Option R) → Option R
  | 0, i, k => cond (decide (l.length = i)) (k []) none
  | n + 1, i, k => (l[i]?).bind fun x => exL K l n (i + 1) fun cs => k (K.k x ++ cs)
theorem exL_ok {R : Type} {K : RK} {l : List K.α} {D : Dt} : ∀ {n i : Nat} {k : List AV → Option R} {r : R}, exL K l n i k = some r → ∃ cs, k cs = some r ∧ denL D cs = rowV K.kv (l.drop i) ∧ l.length = i + n
  | 0, i, k, r, h => by
    obtain ⟨hl, h⟩ := cond_some h
    have hl := of_decide_eq_true hl
    exact ⟨[], h, by rw [List.drop_of_length_le (by omega)]; rfl, by omega⟩
  | n + 1, i, k, r, h => by
    rw [exL] at h
    obtain ⟨x, hx, h⟩ := bd h
    obtain ⟨cs, h1, h2, h3⟩ := exL_ok (D := D) h
    refine ⟨_, h1, ?_, by omega⟩
    obtain ⟨hi, hx⟩ := List.getElem?_eq_some_iff.1 hx
    rw [denL_app, h2, K.k_den, List.drop_eq_getElem_cons hi, hx, rowV_cons]
-- reading and writing
def oLd (C : Cfg) (H0 : AH) (T : AT) (s : AS) (t : TypeId) (x : Operand) (k : KO ρ) : Option ρ := match C.ty t with
  | some ti => match ev1A T x with
    | some (.ptr id q) => match lk H0 s id with
      | some (.cells cs t' f) => match isAggD ti.2 with
        | true => cond (Nat.beq ((cs.drop q).take ti.1.size).length ti.1.size) (k (.ag ((cs.drop q).take ti.1.size)) s [id] []) none
        | false => (nth cs q).bind fun v => k v s [id] []
      | some (.row K o l t' f) => match ti.2 with
        | .array n _ => cond (Nat.beq (n * K.z) ti.1.size && (Nat.beq q 0 && Nat.beq o 0)) (match Nat.ble n 16 with
          | false => cond (decide (l.length = n)) (k (.ar K l) s [id] []) none
          | true => exL K l n 0 fun cs => k (.ag cs) s [id] []) none
        | _ => none
      | _ => none
    | some (.ep id i z j) => match lk H0 s id with
      | some (.row K o l t' f) => cond (Nat.beq z K.z) ((l[i]?).bind fun e => match isAggD ti.2 with
        | true => cond (Nat.ble (j + ti.1.size) K.z) (k (.ag (((K.k e).drop j).take ti.1.size)) s [id] []) none
        | false => (nth (K.k e) j).bind fun v => k v s [id] []) none
      | _ => none
    | _ => none
  | none => none
theorem oLd_ok {t : TypeId} {x : Operand} (h : oLd C H0 T s t x k = some r) : OGs C N ops H0 TF T s ⟨d, .load t x, ty, pos, after, none⟩ k r := by
  unfold oLd at h
  split at h
  · rename_i ti h1
    split at h
    · rename_i id q hx
      split at h
      · rename_i cs t' f h3
        split at h
        · rename_i hg
          obtain ⟨hl, h⟩ := cond_some h
          refine .read h ?_
          have := st_lA (C := C) (N := N) (ops := ops) (d := d) (ty := ty) (pos := pos) (after := after) (vs := denL (Dof H0 s) ((cs.drop q).take ti.1.size)) (nx := s.nx) (rd := []) (wr := []) (df := []) h1 hg (ev1A_ok (D := Dof H0 s) hx) (aget_lk h3) (by rw [denL_take, denL_drop]) (by rw [denL_length]; exact Nat.eq_of_beq_eq_true hl)
          exact this
        · rename_i hg
          obtain ⟨v, hv, h⟩ := bd h
          refine .read h ?_
          exact st_ld h1 hg (ev1A_ok hx) (aget_lk h3) (by rw [denL_nth, hv]; rfl)
      · rename_i K o l t' f h3
        split at h
        · rename_i n e hd
          obtain ⟨hc, h⟩ := cond_some h
          obtain ⟨hz, hc2⟩ := and_ok hc
          obtain ⟨hq, ho⟩ := and_ok hc2
          have hz := Nat.eq_of_beq_eq_true hz
          have hq := Nat.eq_of_beq_eq_true hq
          have ho := Nat.eq_of_beq_eq_true ho
          have hg : isAggD ti.2 = true := by rw [hd]; rfl
          have key : l.length = n → Stp C N ops ⟨d, .load t x, ty, pos, after, none⟩ (denT (Dof H0 s) T) ⟨hp H0 s, s.nx, [], [], []⟩ (.agg ⟨rowV K.kv l⟩) ⟨hp H0 s, s.nx, [id], [], []⟩ := fun hl => by
            have hlen : (rowV K.kv l).length = ti.1.size := by rw [kv_length, hl, hz]
            refine st_lA (vs := rowV K.kv l) (rd := []) h1 hg (ev1A_ok (D := Dof H0 s) hx) (lk_hp h3) ?_ hlen
            rw [hq, ho, ← hlen]
            show (([] ++ rowV K.kv l).drop 0).take _ = _
            rw [List.nil_append, List.drop_zero, List.take_length]
          split at h
          · obtain ⟨hl, h⟩ := cond_some h
            exact .read h (key (of_decide_eq_true hl))
          · obtain ⟨cs, h4, h5, h6⟩ := exL_ok (D := Dof H0 s) h
            refine .read h4 ?_
            rw [den, h5, List.drop_zero]
            exact key (by omega)
        · cases h
      · cases h
    · rename_i id i z j hx
      split at h
      · rename_i K o l t' f h3
        obtain ⟨hz, h'⟩ := cond_some h
        have hz := Nat.eq_of_beq_eq_true hz
        clear h
        subst hz
        obtain ⟨e, he, h⟩ := bd h'
        have h5 := ev1A_ok (D := Dof H0 s) hx
        rw [den, Dof_lk h3] at h5
        split at h
        · rename_i hg
          obtain ⟨hl, h⟩ := cond_some h
          have hl := ble_iff.1 hl
          refine .read h ?_
          refine st_lA (vs := denL (Dof H0 s) (((K.k e).drop j).take ti.1.size)) h1 hg h5 (lk_hp h3) ?_ ?_
          · show ((rowJ K.kv o l).drop (o + i * K.z + j)).take _ = _
            rw [rowJ_sub he hl, denL_take, denL_drop, K.k_den]
          · rw [denL_length, List.length_take, List.length_drop, K.k_length]; omega
        · rename_i hg
          obtain ⟨v, hv, h⟩ := bd h
          refine .read h (st_ld h1 hg h5 (lk_hp h3) (rowJ_nth he ?_))
          rw [← K.k_den (Dof H0 s) e, ← nth_eq, denL_nth, hv]; rfl
      · cases h
    · cases h
  · cases h
/-- Rows' kinds, compared. -/
def ldK : (K K' : RK) → List K.α → Option (List K'.α)
  | .u32, .u32, l => some l
  | .u64, .u64, l => some l
  | .bl, .bl, l => some l
  | _, _, _ => none
theorem ldK_ok {K K' : RK} {l : List K.α} {l2 : List K'.α} (h : ldK K K' l = some l2) : rowV K'.kv l2 = rowV K.kv l ∧ l2.length = l.length := by
  unfold ldK at h
  split at h <;> first | (cases h; exact ⟨rfl, rfl⟩) | cases h
def oSt (C : Cfg) (H0 : AH) (T : AT) (s : AS) (t : TypeId) (x y : Operand) (k : KO ρ) : Option ρ := match C.ty t, ev1A T y with
  | some ti, some (.ar K' l') => match ev1A T x with
    | some (.ptr id q) => match aget s.h id with
      | some (.row K o l t' f) => cond ((Nat.beq q 0 && Nat.beq o 0) && (Nat.beq K.z 1 && !(Nat.beq f.1 1))) ((ldK K' K l').bind fun l2 => cond (decide (l'.length = ti.1.size) && decide (l'.length = l.length)) (k .un ⟨aput s.h id (.row K o l2 t' f), s.nx, s.dd⟩ [] [id]) none) none
      | _ => none
    | _ => none
  | some ti, some u => cond (Nat.beq (cellsA u).length ti.1.size && ones (denL (Dof H0 s) (cellsA u))) (match ev1A T x with
    | some (.ptr id q) => match aget s.h id with
      | some (.row K o l t' f) => match ti.2 with
        | .array n _ => cond ((Nat.beq (n * K.z) ti.1.size && (Nat.beq q 0 && Nat.beq o 0)) && !(Nat.beq f.1 1)) ((rowOf K n (cellsA u)).bind fun l2 => cond (decide (l.length = n)) (k .un ⟨aput s.h id (.row K o l2 t' f), s.nx, s.dd⟩ [] [id]) none) none
        | _ => none
      | some (.cells cs t' f) => cond (Nat.ble (q + ti.1.size) cs.length && !(Nat.beq f.1 1)) (k .un ⟨aput s.h id (.cells (spA cs q (cellsA u)) t' f), s.nx, s.dd⟩ [] [id]) none
      | _ => none
    | some (.ep id i z j) => match aget s.h id with
      | some (.row K o l t' f) => cond (Nat.beq z K.z && (!(Nat.beq f.1 1) && Nat.ble (j + ti.1.size) K.z)) ((l[i]?).bind fun e => (K.mk (spA (K.k e) j (cellsA u))).bind fun e' => k .un ⟨aput s.h id (.row K o (l.set i e') t' f), s.nx, s.dd⟩ [] [id]) none
      | _ => none
    | _ => none) none
  | _, _ => none
theorem oSt_ok {t : TypeId} {x y : Operand} (h : oSt C H0 T s t x y k = some r) : OGs C N ops H0 TF T s ⟨d, .store t x y, ty, pos, after, none⟩ k r := by
  unfold oSt at h
  split at h
  · rename_i ti K' l' h1 hy
    split at h
    · rename_i id q hx
      split at h
      · rename_i K o l t' f h3
        obtain ⟨hc, h⟩ := cond_some h
        obtain ⟨hc1, hc2⟩ := and_ok hc
        obtain ⟨hq, ho⟩ := and_ok hc1
        obtain ⟨hz, hf⟩ := and_ok hc2
        obtain ⟨l2, h4, h⟩ := bd h
        obtain ⟨hl, hk9⟩ := cond_some h
        obtain ⟨hl1, hl2⟩ := and_ok hl
        obtain ⟨e1, e2⟩ := ldK_ok h4
        have hl1 := of_decide_eq_true hl1
        have hl2 := of_decide_eq_true hl2
        have hq := Nat.eq_of_beq_eq_true hq
        have ho := Nat.eq_of_beq_eq_true ho
        have hz := Nat.eq_of_beq_eq_true hz
        have hf : Nat.beq f.1 1 = false := by simpa using hf
        subst hq; subst ho
        have hod : od (.row K 0 l2 t' f) = od (.row K 0 l t' f) := by
          show ((0, fun _ => l2.length) : Nat × (Nat → Nat)) = (0, fun _ => l.length)
          rw [e2, hl2]
        have hlk : lk H0 s id = some (.row K 0 l t' f) := by unfold lk; rw [h3]
        refine ⟨_, _, _, _, hk9, ?_, by rw [Dof_put h3 hod]⟩
        rw [hp_put h3 hod, Dof_put h3 hod]
        have hlen : (rowV K.kv l2).length = ti.1.size := by rw [kv_length, hz, e2, hl1, Nat.mul_one]
        have hlen' : (rowV K.kv l).length = ti.1.size := by rw [kv_length, hz, ← hl2, hl1, Nat.mul_one]
        refine st_st (vs := rowV K.kv l2) h1 (ev1A_ok (D := Dof H0 s) hx) (ev1A_ok (D := Dof H0 s) hy) (by rw [e1]; rfl) (lk_hp hlk) hlen (ones_rowV (z := K.z) l2) ?_ ?_ rfl hf
        · show 0 + _ ≤ ([] ++ rowV K.kv l).length
          rw [List.nil_append, hlen']; omega
        · show ([] ++ rowV K.kv l).take 0 ++ (rowV K.kv l2 ++ ([] ++ rowV K.kv l).drop (0 + _)) = [] ++ rowV K.kv l2
          rw [List.nil_append, List.nil_append, List.take_zero, List.nil_append, List.drop_of_length_le (by rw [hlen, hlen']; omega), List.append_nil]
      · cases h
    · cases h
  · rename_i ti u _ h1 hy
    obtain ⟨hc, h⟩ := cond_some h
    obtain ⟨hlen, hones⟩ := and_ok hc
    have hlen := Nat.eq_of_beq_eq_true hlen
    split at h
    · rename_i id q hx
      split at h
      · rename_i K o l t' f h3
        split at h
        · rename_i n e hd
          obtain ⟨hc, h⟩ := cond_some h
          obtain ⟨hc1, hf⟩ := and_ok hc
          obtain ⟨hz, hc2⟩ := and_ok hc1
          obtain ⟨hq, ho⟩ := and_ok hc2
          obtain ⟨l2, h4, h⟩ := bd h
          obtain ⟨hl, hk9⟩ := cond_some h
          have hl := of_decide_eq_true hl
          have hz := Nat.eq_of_beq_eq_true hz
          have hq := Nat.eq_of_beq_eq_true hq
          have ho := Nat.eq_of_beq_eq_true ho
          have hf : Nat.beq f.1 1 = false := by simpa using hf
          subst hq; subst ho
          obtain ⟨g1, g2⟩ := rowOf_ok (D := Dof H0 s) h4
          have hod : od (.row K 0 l2 t' f) = od (.row K 0 l t' f) := by
            show ((0, fun _ => l2.length) : Nat × (Nat → Nat)) = (0, fun _ => l.length)
            rw [g2, hl]
          have hlk : lk H0 s id = some (.row K 0 l t' f) := by unfold lk; rw [h3]
          refine ⟨_, _, _, _, hk9, ?_, by rw [Dof_put h3 hod]⟩
          rw [hp_put h3 hod, Dof_put h3 hod]
          have hlen2 : (rowV K.kv l2).length = ti.1.size := by rw [kv_length, g2, hz]
          have hlen' : (rowV K.kv l).length = ti.1.size := by rw [kv_length, hl, hz]
          refine st_st (vs := rowV K.kv l2) h1 (ev1A_ok (D := Dof H0 s) hx) (ev1A_ok hy) (by rw [cellsA_den', g1]) (lk_hp hlk) hlen2 (ones_rowV (z := K.z) l2) ?_ ?_ rfl hf
          · show 0 + _ ≤ ([] ++ rowV K.kv l).length
            rw [List.nil_append, hlen']; omega
          · show ([] ++ rowV K.kv l).take 0 ++ (rowV K.kv l2 ++ ([] ++ rowV K.kv l).drop (0 + _)) = [] ++ rowV K.kv l2
            rw [List.nil_append, List.nil_append, List.take_zero, List.nil_append, List.drop_of_length_le (by rw [hlen2, hlen']; omega), List.append_nil]
        · cases h
      · rename_i cs t' f h3
        obtain ⟨hc, h⟩ := cond_some h
        obtain ⟨hle, hf⟩ := and_ok hc
        have hle := ble_iff.1 hle
        have hf : Nat.beq f.1 1 = false := by simpa using hf
        have hod : od (.cells (spA cs q (cellsA u)) t' f) = od (.cells cs t' f) := by
          show ((0, fun z => (spA cs q (cellsA u)).length / z) : Nat × (Nat → Nat)) = (0, fun z => cs.length / z)
          have : (spA cs q (cellsA u)).length = cs.length := by unfold spA; simp; omega
          rw [this]
        have hlk : lk H0 s id = some (.cells cs t' f) := by unfold lk; rw [h3]
        refine ⟨_, _, _, _, h, ?_, by rw [Dof_put h3 hod]⟩
        rw [hp_put h3 hod, Dof_put h3 hod]
        refine st_st h1 (ev1A_ok hx) (ev1A_ok hy) (cellsA_den' _ _) (aget_lk hlk) (by rw [denL_length, hlen]) hones (by rw [denL_length]; exact hle) ?_ rfl hf
        rw [spA_den, splice_eq]
      · cases h
    · rename_i id i z j hx
      split at h
      · rename_i K o l t' f h3
        obtain ⟨hc1, h'⟩ := cond_some h
        obtain ⟨hz, hc2⟩ := and_ok hc1
        obtain ⟨hf, hle⟩ := and_ok hc2
        have hle := ble_iff.1 hle
        have hf : Nat.beq f.1 1 = false := by simpa using hf
        have hz := Nat.eq_of_beq_eq_true hz
        clear h hc1 hc2
        subst hz
        obtain ⟨e, he, h⟩ := bd h'
        obtain ⟨e', he', h⟩ := bd h
        have hod : od (.row K o (l.set i e') t' f) = od (.row K o l t' f) := by
          show ((o, fun _ => (l.set i e').length) : Nat × (Nat → Nat)) = (o, fun _ => l.length)
          rw [List.length_set]
        have hlk : lk H0 s id = some (.row K o l t' f) := by unfold lk; rw [h3]
        have h5 := ev1A_ok (D := Dof H0 s) hx
        rw [den, Dof_lk hlk] at h5
        refine ⟨_, _, _, _, h, ?_, by rw [Dof_put h3 hod]⟩
        rw [hp_put h3 hod, Dof_put h3 hod]
        have hkl : (K.kv e).length = K.z := RowK.len e
        have hil : i < l.length := (List.getElem?_eq_some_iff.1 he).1
        have hmul : i * K.z + K.z ≤ l.length * K.z := by rw [← Nat.succ_mul]; exact Nat.mul_le_mul_right _ hil
        refine st_st h1 h5 (ev1A_ok hy) (cellsA_den' _ _) (lk_hp hlk) (by rw [denL_length, hlen]) hones ?_ ?_ rfl hf
        · rw [rowJ_length]; show o + i * K.z + j + _ ≤ _; omega
        · refine rowJ_set he (by rw [denL_length, hlen]; exact hle) ?_
          have := RK.mk_ok he'
          rw [← K.k_den (Dof H0 s) e', ← this, spA_den, splice_eq, K.k_den]
      · cases h
    · cases h
  · cases h

-- building
def oBd (C : Cfg) (D : Dt) (T : AT) (s : AS) (t : TypeId) (parts : List (Nat × Operand)) (k : KO ρ) : Option ρ := (C.ty t).bind fun ti => ti.1.zero.bind fun zv => (ofVs zv.cells.toList).bind fun zs => (epsA T parts).bind fun ps => match ti.2 with
  | .struct fs => cond (tyAll C fs.toList) ((afA D (placeS C fs) ps zs).bind fun l => k (.ag l) s [] []) none
  | .array _ e => (C.ty e).bind fun ei => (afA D (fun i => some (Nat.mul i ei.1.size, ei.1.size)) ps zs).bind fun l => k (.ag l) s [] []
  | _ => none
theorem oBd_ok {t : TypeId} {parts : Array (Nat × Operand)} (h : oBd C (Dof H0 s) T s t parts.toList k = some r) : OGs C N ops H0 TF T s ⟨d, .build t parts, ty, pos, after, none⟩ k r := by
  obtain ⟨⟨ti, td⟩, h1, h⟩ := bd h
  obtain ⟨zv, h2, h⟩ := bd h
  obtain ⟨zs, h3, h⟩ := bd h
  obtain ⟨ps, h4, h⟩ := bd h
  obtain ⟨e1, e2⟩ := ofVs_ok (D := Dof H0 s) h3
  have hzs : zv.cells = ⟨denL (Dof H0 s) zs⟩ := by rw [e1]
  cases td with
  | struct fs =>
    obtain ⟨h5, h⟩ := cond_some h
    obtain ⟨l, h6, h⟩ := bd h
    exact .pure h (st_bdS h1 h2 hzs (epsA_ok h4) (afA_ok h6) (flAs_flats e2) h5)
  | array n e =>
    obtain ⟨ei, h5, h⟩ := bd h
    obtain ⟨l, h6, h⟩ := bd h
    have h2 : ti.zero = some zv := h2
    refine .pure h (st_bd (ns := [flats (denL (Dof H0 s) zs)]) ?_ (by rw [flAs_flats e2]; rfl))
    unfold aBuild
    simp only [h1, epsA_ok (D := Dof H0 s) h4, h2, h5]
    rw [hzs]
    simp only [afA_ok h6]
    rfl
  | _ => cases h
/-- New slices. -/
def oBs (C : Cfg) (kd : TypeId → Option RK) (H0 : AH) (TF T : AT) (s : AS) (t : TypeId) (n : Nat) (parts : List (Nat × Operand)) (k : KO ρ) : Option ρ := match C.ty t with
  | some (_, .slice e) => (C.ty e).bind fun ei => (kd e).bind fun K => ei.1.zero.bind fun zv => (ofVs zv.cells.toList).bind fun zs => (K.mk zs).bind fun x0 => (epsA T parts).bind fun ps =>
    cond (Nat.beq ei.1.size K.z && Nat.ble (Nat.mul n ei.1.size) 16777216) ((afA (Dof H0 s) (fun i => some (Nat.mul i ei.1.size, ei.1.size)) ps ((List.replicate n (K.k x0)).flatten)).bind fun c => (rowOf K n c).bind fun l =>
      alc H0 TF s (.row K 0 l e (0, 0)) fun s' => k (.sl s.nx K.z) s' [] []) none
  | _ => none
theorem flat_rep {K : RK} {x : K.α} {D : Dt} : ∀ n, denL D ((List.replicate n (K.k x)).flatten) = rowV K.kv (List.replicate n x)
  | 0 => rfl
  | n + 1 => by
    rw [List.replicate_succ, List.flatten_cons, denL_app, flat_rep n, K.k_den]; rfl
theorem mk_kv {K : RK} {cs : List AV} {x : K.α} {D : Dt} (h : K.mk cs = some x) : denL D cs = K.kv x := by rw [RK.mk_ok h, K.k_den]
theorem oBs_ok {kd : TypeId → Option RK} {t : TypeId} {n : Nat} {parts : Array (Nat × Operand)} (h : oBs C kd H0 TF T s t n parts.toList k = some r) : OGs C N ops H0 TF T s ⟨d, .buildSlice t n parts, ty, pos, after, none⟩ k r := by
  unfold oBs at h
  split at h
  · rename_i ti e h1
    obtain ⟨ei, h2, h⟩ := bd h
    obtain ⟨K, h3, h⟩ := bd h
    obtain ⟨zv, h4, h⟩ := bd h
    obtain ⟨zs, h5, h⟩ := bd h
    obtain ⟨x0, h6, h⟩ := bd h
    obtain ⟨ps, h7, h⟩ := bd h
    obtain ⟨hc, h⟩ := cond_some h
    obtain ⟨hz, hn⟩ := and_ok hc
    have hz := Nat.eq_of_beq_eq_true hz
    obtain ⟨c, h8, h⟩ := bd h
    obtain ⟨l, h9, h⟩ := bd h
    obtain ⟨s', ha, hk⟩ := alc_ok h
    obtain ⟨e1, e2⟩ := ofVs_ok (D := Dof H0 s) h5
    obtain ⟨g1, g2⟩ := rowOf_ok (D := Dof H0 s) h9
    have hkz : (K.kv x0).length = K.z := RowK.len x0
    have hzs : zv.cells = ⟨K.kv x0⟩ := by rw [← mk_kv (D := Dof H0 s) h6, e1]
    have hfill := afA_ok h8
    rw [flat_rep, ← zrow_rep, g1] at hfill
    have st := st_bs (C := C) (N := N) (T := denT (Dof H0 s) T) (ops := ops) (d := d) (ty := ty) (pos := pos) (after := after) (h := hp H0 s) (nx := s.nx) (rd := []) (wr := []) (df := []) h1 h2 h4 hzs (by rw [← mk_kv (D := Dof H0 s) h6]; exact flAs_flats e2)
      (by rw [len_eq, hkz]; exact ble_iff.2 K.z_pos) (epsA_ok h7) (r := rowV K.kv l) (by rw [← hfill, hz]; rfl) hn (by rw [len_eq, kv_length, g2, hz])
    rw [hz] at st
    refine OGs.new ha ?_ hk st
    rw [den_new_sl ha, g2]
  · cases h
def oMs (C : Cfg) (kd : TypeId → Option RK) (H0 : AH) (TF T : AT) (s : AS) (t : TypeId) (x y : Operand) (k : KO ρ) : Option ρ := match C.ty t, (ev1A T x).bind toCnt, (ev1A T y).bind toCnt with
  | some (_, .slice e), some (c, i), some (c', j) => (C.ty e).bind fun ei => (kd e).bind fun K => ei.1.zero.bind fun zv => (ofVs zv.cells.toList).bind fun zs => (K.mk zs).bind fun x0 =>
    cond (Nat.beq ei.1.size K.z && Nat.ble ei.1.bytes 65536) (cond ((c && c') && (Nat.ble i j && Nat.ble j 100000000)) (alc H0 TF s (.row K 0 (List.replicate i x0) e (0, 0)) fun s' => k (.sl s.nx K.z) s' [] []) none) none
  | _, _, _ => none
theorem oMs_ok {kd : TypeId → Option RK} {t : TypeId} {x y : Operand} (h : oMs C kd H0 TF T s t x y k = some r) : OGs C N ops H0 TF T s ⟨d, .makeSlice t x y, ty, pos, after, none⟩ k r := by
  unfold oMs at h
  split at h
  · rename_i ti e c i c' j h1 hx hy
    obtain ⟨ei, h2, h⟩ := bd h
    obtain ⟨K, h3, h⟩ := bd h
    obtain ⟨zv, h4, h⟩ := bd h
    obtain ⟨zs, h5, h⟩ := bd h
    obtain ⟨x0, h6, h⟩ := bd h
    obtain ⟨hc, h⟩ := cond_some h
    obtain ⟨hz, hby⟩ := and_ok hc
    have hz := Nat.eq_of_beq_eq_true hz
    obtain ⟨hd, h⟩ := cond_some h
    obtain ⟨hd, hd2⟩ := and_ok hd
    obtain ⟨hc, hc'⟩ := and_ok hd
    obtain ⟨hij, hj⟩ := and_ok hd2
    have hij := ble_iff.1 hij
    have hj := ble_iff.1 hj
    obtain ⟨s', ha, hk⟩ := alc_ok h
    obtain ⟨e1, e2⟩ := ofVs_ok (D := Dof H0 s) h5
    obtain ⟨kk, h7⟩ := cnt_of (D := Dof H0 s) hx hc
    obtain ⟨kk', h8⟩ := cnt_of (D := Dof H0 s) hy hc'
    obtain ⟨K', hK'⟩ : ∃ K', K' = kk := ⟨_, rfl⟩
    have hkz : (K.kv x0).length = K.z := RowK.len x0
    have hzs : zv.cells = ⟨K.kv x0⟩ := by rw [← mk_kv (D := Dof H0 s) h6, e1]
    have st := st_ms (C := C) (N := N) (T := denT (Dof H0 s) T) (ops := ops) (d := d) (ty := ty) (pos := pos) (after := after) (h := hp H0 s) (nx := s.nx) (rd := []) (wr := []) (df := []) h1 h2 hz h4 hzs (by rw [← mk_kv (D := Dof H0 s) h6]; exact flAs_flats e2)
      (by rw [len_eq, hkz]; exact ble_iff.2 K.z_pos) (ble_iff.1 hby) h7 h8 (Int.natCast_nonneg _) (Int.ofNat_le.2 hij) (by omega) (r := rowV K.kv (List.replicate i x0)) (by rw [Int.toNat_natCast]; exact zrow_rep i)
    rw [Int.toNat_natCast] at st
    refine OGs.new ha ?_ hk st
    rw [den_new_sl ha, List.length_replicate]
  · cases h
-- appending
def srcA (C : Cfg) (H0 : AH) (T : AT) (s : AS) (K : RK) (xt : TypeId) (y : Operand) : Option (List K.α × List Nat) := match C.ty xt, ev1A T y with
  | some (_, .slice _), some (.sl id z) => match lk H0 s id with
    | some (.row K2 o l t f) => match decEq K2 K with
      | .isTrue e => cond (Nat.beq z K.z) (some (e ▸ l, [id])) none
      | .isFalse _ => none
    | _ => none
  | some (_, .slice _), some .nsl => some ([], [])
  | some (_, .string), some (.s b) => match K with
    | .u8 => some (b, [])
    | _ => none
  | _, _ => none
theorem srcA_ok {K : RK} {xt : TypeId} {y : Operand} {l : List K.α} {rd : List Nat} (h : srcA C H0 T s K xt y = some (l, rd)) :
    ∃ u, ev1 (denT (Dof H0 s) T) y = some u ∧ Apd C (hp H0 s) K.z xt u l.length (rowV K.kv l) rd ∧ (∀ q dn n, Nat.min l.length dn = n → ∃ ns, cpSrc C ⟨hp H0 s, q, [], [], []⟩ K.z xt u dn = some (n, rowV K.kv (l.take n), ns, ⟨hp H0 s, q, rd, [], []⟩) ∧ allB ns = true) := by
  unfold srcA at h
  split at h
  · rename_i ti e id z h1 hy
    split at h
    · rename_i K2 o l2 t f h3
      split at h
      · rename_i e1 _
        subst e1
        obtain ⟨hz, h⟩ := cond_some' h
        have hz := Nat.eq_of_beq_eq_true hz
        cases h
        subst hz
        refine ⟨_, sl_ev hy h3, apd_rowJ h1 (lk_hp h3) rfl, fun q dn n hn => ?_⟩
        refine ⟨_, cp_row h1 (lk_hp h3) hn ?_, ?_⟩
        · show ((jrow o ++ rowV K2.kv l2).drop o).take (n * K2.z) = _
          rw [List.drop_left' (jrow_length o), rowV_take]
        · have hle : (l2.take n).length = n := by rw [List.length_take]; rw [← hn]; exact Nat.min_eq_left (Nat.min_le_left _ _)
          rw [len_eq, kv_length, hle, Nat.beq_refl, show Nat.beq (n * K2.z) (Nat.mul n K2.z) = true from Nat.beq_refl _, ones_rowV (z := K2.z)]; rfl
      · cases h
    · cases h
  · rename_i ti e h1 hy
    cases h
    exact ⟨_, ev1A_ok hy, apd_nil h1, fun q dn n hn => by
      have : n = 0 := by rw [← hn]; exact Nat.zero_min _
      subst this
      exact ⟨_, cp_nil h1, rfl⟩⟩
  · rename_i ti b h1 hy
    split at h
    · cases h
      exact ⟨_, ev1A_ok hy, apd_str h1, fun q dn n hn => ⟨_, cp_str h1 hn, rfl⟩⟩
    · cases h
  · cases h
end
end
end Go.Ev
