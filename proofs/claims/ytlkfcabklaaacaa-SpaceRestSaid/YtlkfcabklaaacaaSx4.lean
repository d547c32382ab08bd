/- Words of my own: operations over abstract values, one by one. -/
import Derived.Test.YtlkfcabklaaacaaSx3
import Derived.ChangeKeysEq
set_option linter.unusedVariables false
set_option linter.unusedSimpArgs false
set_option linter.unusedSectionVars false
namespace Go.Ev
open Go.RowKit
noncomputable section
/-- What comes behind an operation: its value, the state, the names it has looked at, and written. -/
abbrev KO (ρ : Type) := AV → AS → List Nat → List Nat → Option ρ
/-- An operation's step, over abstract values. -/
structure OG (C : Cfg) (N : Nat) (ops : Array Oper) (H0 : AH) (TF T : AT) (s : AS) (o : Oper) (v : AV) (s' : AS) (rd wr : List Nat) : Prop where
  stp : Stp C N ops o (denT (Dof H0 s) T) ⟨hp H0 s, s.nx, [], [], []⟩ (den (Dof H0 s') v) ⟨hp H0 s', s'.nx, rd, wr, []⟩
  t : denT (Dof H0 s') TF = denT (Dof H0 s) TF
/-- What is said of an operation. -/
def OGs {ρ : Type} (C : Cfg) (N : Nat) (ops : Array Oper) (H0 : AH) (TF T : AT) (s : AS) (o : Oper) (k : KO ρ) (r : ρ) : Prop := ∃ v s' rd wr, k v s' rd wr = some r ∧ OG C N ops H0 TF T s o v s' rd wr
section
variable {ρ : Type} {r : ρ} {k : KO ρ} {C : Cfg} [Hv C] {N : Nat} {ops : Array Oper} {H0 : AH} {TF T : AT} {s : AS} {o : Oper}
variable {d : Option Nat} {ty : TypeId} {pos : String} {after : Array Edge}
theorem OGs.pure {v : AV} (hk : k v s [] [] = some r) (h : Stp C N ops o (denT (Dof H0 s) T) ⟨hp H0 s, s.nx, [], [], []⟩ (den (Dof H0 s) v) ⟨hp H0 s, s.nx, [], [], []⟩) : OGs C N ops H0 TF T s o k r := ⟨v, s, [], [], hk, h, rfl⟩
theorem OGs.read {v : AV} {rd : List Nat} (hk : k v s rd [] = some r) (h : Stp C N ops o (denT (Dof H0 s) T) ⟨hp H0 s, s.nx, [], [], []⟩ (den (Dof H0 s) v) ⟨hp H0 s, s.nx, rd, [], []⟩) : OGs C N ops H0 TF T s o k r := ⟨v, s, rd, [], hk, h, rfl⟩
/-- A new object. -/
theorem OGs.new {ob : AO} {s' : AS} {v : AV} {u : Value} {rd : List Nat} (ha : Alc H0 TF s ob s') (hu : den (Dof H0 s') v = u) (hk : k v s' rd [] = some r) (h : Stp C N ops o (denT (Dof H0 s) T) ⟨hp H0 s, s.nx, [], [], []⟩ u ⟨(s.nx, denO (Dof H0 s) ob) :: hp H0 s, s.nx + 1, rd, [], []⟩) : OGs C N ops H0 TF T s o k r := by
  refine ⟨v, s', rd, [], hk, ?_, ha.t⟩
  rw [hu, ha.h, ha.eq]; exact h
theorem den_new_sl {K : RK} {o : Nat} {l : List K.α} {t : TypeId} {f : Nat × Nat} {s' : AS} {z : Nat} (ha : Alc H0 TF s (.row K o l t f) s') : den (Dof H0 s') (.sl s.nx z) = .slice (some ⟨s.nx, o, some z⟩) l.length 0 := by
  rw [den, ha.n]; rfl
/-- Moving a value; nil of a slice's type becomes an empty row. -/
def oMv (C : Cfg) (kd : TypeId → Option RK) (H0 : AH) (TF T : AT) (s : AS) (ty : TypeId) (x : Operand) (k : KO ρ) : Option ρ :=
  (ev1A T x).bind fun v => match v with
    | .nsl => match C.ty ty with
      | some (_, .slice e) => match kd e with
        | some K => alc H0 TF s (.row K 0 [] e (0, 0)) fun s' => k (.sl s.nx K.z) s' [] []
        | none => k .nsl s [] []
      | _ => k .nsl s [] []
    | v => k v s [] []
theorem oMv_ok {kd : TypeId → Option RK} {x : Operand} (h : oMv C kd H0 TF T s ty x k = some r) (hs : ∀ v, ev1 (denT (Dof H0 s) T) x = some v → Stp C N ops o (denT (Dof H0 s) T) ⟨hp H0 s, s.nx, [], [], []⟩ v ⟨hp H0 s, s.nx, [], [], []⟩) : OGs C N ops H0 TF T s o k r := by
  obtain ⟨v, h1, h⟩ := bd h
  have h2 := hs _ (ev1A_ok h1)
  split at h
  · split at h
    · split at h
      · rename_i K _
        obtain ⟨s', ha, hk⟩ := alc_ok h
        refine OGs.new ha (den_new_sl ha) hk ?_
        exact Stp.ghost h2
      · exact .pure h h2
    · exact .pure h h2
  · exact .pure h h2
def oPk (C : Cfg) (kd : TypeId → Option RK) (H0 : AH) (TF T : AT) (s : AS) (ty : TypeId) (c a b : Operand) (k : KO ρ) : Option ρ := match ev1A T c with
  | some (.b true) => oMv C kd H0 TF T s ty a k
  | some (.b false) => oMv C kd H0 TF T s ty b k
  | _ => none
theorem oPk_ok {kd : TypeId → Option RK} {c a b : Operand} (h : oPk C kd H0 TF T s ty c a b k = some r) : OGs C N ops H0 TF T s ⟨d, .pick c a b, ty, pos, after, none⟩ k r := by
  unfold oPk at h
  split at h
  · rename_i hc; exact oMv_ok h fun v hv => st_pkT (ev1A_ok hc) hv
  · rename_i hc; exact oMv_ok h fun v hv => st_pkF (ev1A_ok hc) hv
  · cases h
def oNc (T : AT) (s : AS) (D : Dt) (x : Operand) (k : KO ρ) : Option ρ := match ev1A T x with
  | some (.ptr i o) => k (.ptr i o) s [] []
  | some (.ep i a z j) => cond (D i).isSome (k (.ep i a z j) s [] []) none
  | _ => none
theorem oNc_ok {x : Operand} (h : oNc T s (Dof H0 s) x k = some r) : OGs C N ops H0 TF T s ⟨d, .nilCheck x, ty, pos, after, none⟩ k r := by
  unfold oNc at h
  split at h
  · rename_i hc; exact .pure h (st_nc (ev1A_ok hc))
  · rename_i i a z j hc
    obtain ⟨hd, h⟩ := cond_some h
    obtain ⟨p, hp⟩ := Option.isSome_iff_exists.1 hd
    refine .pure h ?_
    have := ev1A_ok (D := Dof H0 s) hc
    simp only [den, hp] at this ⊢
    exact st_nc this
  · cases h
def oEx (T : AT) (s : AS) (x : Operand) (i : Nat) (k : KO ρ) : Option ρ := match ev1A T x with
  | some (.tu l) => (nth l i).bind fun v => k v s [] []
  | _ => none
theorem oEx_ok {x : Operand} {i : Nat} (h : oEx T s x i k = some r) : OGs C N ops H0 TF T s ⟨d, .extract x i, ty, pos, after, none⟩ k r := by
  unfold oEx at h
  split at h
  · rename_i l hc
    obtain ⟨v, hv, h⟩ := bd h
    refine .pure h (st_ex (vs := denL (Dof H0 s) l) (ev1A_ok hc) ?_)
    rw [denL_nth, hv]; rfl
  · cases h
/-- One operand's operations. -/
def oUn (T : AT) (s : AS) (u : UnOp) (x : Operand) (k : KO ρ) : Option ρ := match u, ev1A T x with
  | .not, some (.b b) => k (.b (!b)) s [] []
  | .neg, some (.i kk n) => k (iW kk (0 - n)) s [] []
  | .neg, some (.n kk m) => k (iW kk (0 - (m : Int))) s [] []
  | .xor, some v => match toN v with
    | some (kk, m) => k (nW kk (Nat.xor (bits2 kk - 1) (m % bits2 kk))) s [] []
    | none => none
  | _, _ => none
theorem kmax (kk : IntKind) (h : kk.signed = false) : kk.max = ((bits2 kk - 1 : Nat) : Int) := by cases kk <;> first | rfl | cases h
theorem oUn_ok {u : UnOp} {t : TypeId} {x : Operand} (h : oUn T s u x k = some r) : OGs C N ops H0 TF T s ⟨d, .unOp u t x, ty, pos, after, none⟩ k r := by
  unfold oUn at h
  split at h
  · rename_i b hc; exact .pure h (st_not (ev1A_ok hc))
  · rename_i kk n hc
    refine .pure h ?_
    have := ev1A_ok (D := Dof H0 s) hc
    rw [iW_den]
    exact Stp.of_aOp (ns := []) rfl (fun _ _ _ h => by cases h) (fun _ h => by cases h) (by simp only [aOp, aPure, this, den, wrapF_eq]; rfl) rfl
  · rename_i kk m hc
    refine .pure h ?_
    have := ev1A_ok (D := Dof H0 s) hc
    rw [iW_den]
    exact Stp.of_aOp (ns := []) rfl (fun _ _ _ h => by cases h) (fun _ h => by cases h) (by simp only [aOp, aPure, this, den, wrapF_eq]; rfl) rfl
  · rename_i v hc
    split at h
    · rename_i kk m hm
      obtain ⟨e1, e2, e3⟩ := toN_ok (D := Dof H0 s) hm
      have := ev1A_ok (D := Dof H0 s) hc
      rw [e1] at this
      refine .pure h ?_
      rw [nW_den]
      refine Stp.of_aOp (ns := []) rfl (fun _ _ _ h => by cases h) (fun _ h => by cases h) ?_ rfl
      have hb : bit2 Nat.xor kk (if kk.signed then -1 else kk.max) (m : Int) = some (.int kk (kk.wrap ((Nat.xor (bits2 kk - 1) (m % bits2 kk) : Nat) : Int))) := by
        rw [e2, kmax kk e2]
        show some (Value.int kk (wrapF kk _)) = _
        rw [wrapF_eq, show Nat.mod (bits2 kk - 1) (Nat.pow 2 kk.bits) = bits2 kk - 1 from by cases kk <;> rfl, show Nat.pow 2 kk.bits = bits2 kk from bits2_eq kk]
        rfl
      simp only [aOp, aPure, this, hb]; rfl
    · cases h
  · cases h

theorem kv_length (K : RK) (l : List K.α) : (rowV K.kv l).length = l.length * K.z := rowV_length l
-- comparing structs
theorem beq_dec2 {α : Type} [BEq α] [LawfulBEq α] [DecidableEq α] (a b : α) : (a == b) = decide (a = b) := by rw [Bool.eq_iff_iff]; simp
def eq1 : TypeDesc → AV → AV → Option Bool
  | .bool, .b a, .b b => some (a == b)
  | .string, .s a, .s b => some (decide (a = b))
  | .int _, .i ka a, .i kb b => match decide (ka = kb) with
    | true => some (decide (a = b))
    | false => none
  | .int _, v, u => match toN v, toN u with
    | some (ka, a), some (kb, b) => match decide (ka = kb) with
      | true => some (decide (a = b))
      | false => none
    | _, _ => none
  | _, _, _ => none
theorem eq1_ok {D : Dt} {t : TypeDesc} {v u : AV} {b : Bool} (h : eq1 t v u = some b) : basicEq t (den D v) (den D u) = some b := by
  unfold eq1 at h
  split at h
  · exact h
  · rename_i a c
    obtain rfl := Option.some.inj h
    show some (a == c) = _
    rw [beq_dec2]
  · rename_i ka a kb c
    split at h
    · rename_i hk
      obtain rfl := of_decide_eq_true hk
      obtain rfl := Option.some.inj h
      show (if ka = ka then some (a == c) else none) = _
      rw [if_pos rfl, beq_dec2]
    · cases h
  · split at h
    · rename_i ka a kb c h1 h2
      split at h
      · rename_i hk
        obtain rfl := of_decide_eq_true hk
        obtain rfl := Option.some.inj h
        rw [(toN_ok (D := D) h1).1, (toN_ok (D := D) h2).1]
        show (if ka = ka then some ((a : Int) == (c : Int)) else none) = _
        rw [if_pos rfl, beq_dec2]
        congr 1
        simp [Int.ofNat_inj]
      · cases h
    · cases h
  · cases h
def eqF (C : Cfg) : List Field → List AV → List AV → Option Bool
  | [], _, _ => some true
  | f :: fs, xs, ys => match C.ty f.type, nth xs f.offset, nth ys f.offset with
    | some fi, some v, some u => cond (!decide (f.name = "_") && !isAggD fi.2) ((eq1 fi.2 v u).bind fun b => (eqF C fs xs ys).bind fun r => some (b && r)) none
    | _, _, _ => none
theorem eqF_ok {D : Dt} {xs ys : List AV} {d : Nat} : ∀ {fs : List Field} {b : Bool}, eqF C fs xs ys = some b → EqFs C (d + 1) ⟨denL D xs⟩ ⟨denL D ys⟩ fs b
  | [], b, h => by cases h; exact .nil
  | f :: fs, b, h => by
    rw [eqF] at h
    split at h
    · rename_i fi v u h1 h2 h3
      obtain ⟨hb, h⟩ := cond_some h
      obtain ⟨hb1, hb2⟩ := and_ok hb
      obtain ⟨b1, h4, h⟩ := bd h
      obtain ⟨r, h5, h⟩ := bd h
      obtain rfl := Option.some.inj h
      refine .one (by simpa using hb1) h1 (by simpa using hb2) (v := den D v) (u := den D u) ?_ ?_ (fun w => basicEq_run Hv.ok h1 (eq1_ok h4) d w) (eqF_ok h5)
      · show nth (denL D xs) f.offset = _; rw [denL_nth, h2]; rfl
      · show nth (denL D ys) f.offset = _; rw [denL_nth, h3]; rfl
    · cases h
/-- Elements of arrays. -/
def eqEl (C : Cfg) (e : TypeId) (ei : TypeInfo × TypeDesc) (xs ys : List AV) (i : Nat) : Option Bool := match ei.2 with
  | .struct fs => cond (!C.P.stoodInHeld e) (eqF C fs.toList ((xs.drop (i * ei.1.size)).take ei.1.size) ((ys.drop (i * ei.1.size)).take ei.1.size)) none
  | dd => cond (!isAggD dd) (match nth xs (i * ei.1.size), nth ys (i * ei.1.size) with
    | some v, some u => eq1 dd v u
    | _, _ => none) none
def eqIt (C : Cfg) (e : TypeId) (ei : TypeInfo × TypeDesc) (xs ys : List AV) : List Nat → Option Bool
  | [] => some true
  | i :: is => (eqEl C e ei xs ys i).bind fun b => (eqIt C e ei xs ys is).bind fun r => some (b && r)
theorem part_one {e : TypeId} {ei : TypeInfo × TypeDesc} (h : C.ty e = some ei) (ha : isAggD ei.2 = false) {xs : List Value} {o : Nat} {v : Value} (hv : nth xs o = some v) (w : World) : (part e ⟨xs⟩ o).run C.P w = .ok v w := by
  rw [nth_eq] at hv
  unfold part
  have hv' : (⟨xs⟩ : Array Value)[o]? = some v := by rw [← Array.getElem?_toList]; exact hv
  simp only [Sem.run_bind, isAgg_run Hv.ok h, Result.andThen_ok, ha, Bool.false_eq_true, if_false, hv', Sem.run_pure]
theorem part_agg {e : TypeId} {ei : TypeInfo × TypeDesc} (h : C.ty e = some ei) (ha : isAggD ei.2 = true) {xs : List Value} {o : Nat} (w : World) : (part e ⟨xs⟩ o).run C.P w = .ok (.agg ⟨(xs.drop o).take ei.1.size⟩) w := by
  unfold part
  simp only [Sem.run_bind, isAgg_run Hv.ok h, Result.andThen_ok, ha, if_true, sizeOf_run Hv.ok h, Sem.run_pure]
  congr 2
  apply Array.toList_inj.1
  simp [List.drop_take]
theorem eqEl_ok {D : Dt} {e : TypeId} {ei : TypeInfo × TypeDesc} (h : C.ty e = some ei) {xs ys : List AV} {i : Nat} {b : Bool} (hb : eqEl C e ei xs ys i = some b) (d : Nat) (w : World) :
    ∃ v u, (part e ⟨denL D xs⟩ (i * ei.1.size)).run C.P w = .ok v w ∧ (part e ⟨denL D ys⟩ (i * ei.1.size)).run C.P w = .ok u w ∧ (Op.equalIn (d + 2) e v u).run C.P w = .ok b w := by
  unfold eqEl at hb
  split at hb
  · rename_i fs hf
    obtain ⟨hs, hb⟩ := cond_some hb
    refine ⟨_, _, part_agg h (by rw [hf]; rfl) w, part_agg h (by rw [hf]; rfl) w, ?_⟩
    have h' : C.ty e = some (ei.1, .struct fs) := by rw [h, ← hf]
    rw [← denL_drop, ← denL_take, ← denL_drop, ← denL_take]
    exact eqStruct_run (d := d + 1) Hv.ok h' (by simpa using hs) (eqF_ok hb) w
  · obtain ⟨ha, hb⟩ := cond_some hb
    have ha : isAggD ei.2 = false := by simpa using ha
    split at hb
    · rename_i v u h1 h2
      refine ⟨den D v, den D u, part_one h ha (by rw [denL_nth, h1]; rfl) w, part_one h ha (by rw [denL_nth, h2]; rfl) w, ?_⟩
      exact basicEq_run Hv.ok h (eq1_ok hb) (d + 1) w
    · cases hb
theorem cellsOf_ty {e : TypeId} {ei : TypeInfo × TypeDesc} (h : C.ty e = some ei) : C.P.cellsOf e = ei.1.size := by
  have := (Hv.ok.ty _ _ h).1
  unfold Program.cellsOf
  rw [this]
  rfl
theorem eqIt_ok {D : Dt} {e : TypeId} {ei : TypeInfo × TypeDesc} (h : C.ty e = some ei) {xs ys : List AV} (d : Nat) : ∀ {is : List Nat} {b : Bool}, eqIt C e ei xs ys is = some b → ∀ w, (Op.eqItems (d + 2) e (C.P.cellsOf e) ⟨denL D xs⟩ ⟨denL D ys⟩ is).run C.P w = .ok b w
  | [], b, hb, w => by cases hb; rfl
  | i :: is, b, hb, w => by
    rw [eqIt] at hb
    obtain ⟨b1, h1, hb⟩ := bd hb
    obtain ⟨r, h2, hb⟩ := bd hb
    obtain rfl := Option.some.inj hb
    obtain ⟨v, u, e1, e2, e3⟩ := eqEl_ok (D := D) h h1 d w
    rw [cellsOf_ty h]
    simp only [Op.eqItems, Sem.run_bind, e1, e2, e3, Result.andThen_ok]
    have ih := eqIt_ok (D := D) h d h2 w
    rw [cellsOf_ty h] at ih
    cases b1
    · simp
    · simpa using ih
/-- What is not nil, beside nil. -/
def nilA : TypeDesc → AV → AV → Option Bool
  | .pointer _, .ptr _ _, .nptr => some false
  | .func _ _ _, .fn _ (_ :: _), .nfn => some false
  | .map _ _, .mp _, .nmap => some false
  | _, _, _ => none
theorem nilA_ok {D : Dt} {t : TypeDesc} {v u : AV} {b : Bool} (h : nilA t v u = some b) : nilCmp t (den D v) (den D u) = some b ∧ plain (den D v) = false := by
  unfold nilA at h
  split at h <;> first | (cases h; exact ⟨rfl, rfl⟩) | cases h
def eqOp (op : BinOp) (b : Bool) : Option AV := match op with
  | .eql => some (.b b)
  | .neq => some (.b (!b))
  | _ => none
def oBin (C : Cfg) (T : AT) (s : AS) (op : BinOp) (t : TypeId) (x y : Operand) (k : KO ρ) : Option ρ := match ev1A T x, ev1A T y with
  | some (.ag xs), some (.ag ys) => match C.ty t with
    | some (_, .struct fs) => cond ((flAs xs && flAs ys) && (!C.P.eqGuardType C.P.depth t && !C.P.stoodInHeld t)) ((eqF C fs.toList xs ys).bind fun b => (eqOp op b).bind fun v => k v s [] []) none
    | some (_, .array n e) => cond ((flAs xs && flAs ys) && !C.P.eqGuardType C.P.depth t) ((C.ty e).bind fun ei => (eqIt C e ei xs ys (List.range n)).bind fun b => (eqOp op b).bind fun v => k v s [] []) none
    | _ => none
  | some v, some u => match C.ty t with
    | some ti => match nilA ti.2 v u with
      | some b => (eqOp op b).bind fun v => k v s [] []
      | none => (binA C op t v u).bind fun p => cond p.1 (k p.2 s [] []) none
    | none => none
  | _, _ => none
theorem oBin_ok {op : BinOp} {t t' : TypeId} {x y : Operand} (h : oBin C T s op t x y k = some r) : OGs C N ops H0 TF T s ⟨d, .binOp op t x y t', ty, pos, after, none⟩ k r := by
  unfold oBin at h
  split at h
  · rename_i xs ys hx hy
    split at h
    · rename_i ti fs ht
      obtain ⟨hb, h⟩ := cond_some h
      obtain ⟨hb1, hb2⟩ := and_ok hb
      obtain ⟨h1, h2⟩ := and_ok hb1
      obtain ⟨h3, h4⟩ := and_ok hb2
      obtain ⟨b, h5, h⟩ := bd h
      obtain ⟨v, h6, h⟩ := bd h
      have hq : ∀ w, (Op.equalIn 10000 t (.agg ⟨denL (Dof H0 s) xs⟩) (.agg ⟨denL (Dof H0 s) ys⟩)).run C.P w = .ok b w := fun w => eqStruct_run (d := 9999) Hv.ok ht (by simpa using h4) (eqF_ok h5) w
      unfold eqOp at h6
      split at h6
      · cases h6
        exact .pure h (st_eqA (ev1A_ok hx) (ev1A_ok hy) (flAs_flats h1) (flAs_flats h2) (by simpa using h3) hq)
      · cases h6
        exact .pure h (st_neA (ev1A_ok hx) (ev1A_ok hy) (flAs_flats h1) (flAs_flats h2) (by simpa using h3) hq)
      · cases h6
    · rename_i ti n e ht
      obtain ⟨hb, h⟩ := cond_some h
      obtain ⟨hb1, h3⟩ := and_ok hb
      obtain ⟨h1, h2⟩ := and_ok hb1
      obtain ⟨ei, he, h⟩ := bd h
      obtain ⟨b, h5, h⟩ := bd h
      obtain ⟨v, h6, h⟩ := bd h
      have hq : ∀ w, (Op.equalIn 10000 t (.agg ⟨denL (Dof H0 s) xs⟩) (.agg ⟨denL (Dof H0 s) ys⟩)).run C.P w = .ok b w := fun w =>
        (run_equalIn_array (P := C.P) (w := w) 9999 _ _ (Hv.ok.ty _ _ ht).2 (Hv.ok.ty _ _ he).1).trans (eqIt_ok (D := Dof H0 s) he 9997 h5 w)
      unfold eqOp at h6
      split at h6
      · cases h6
        exact .pure h (st_eqA (ev1A_ok hx) (ev1A_ok hy) (flAs_flats h1) (flAs_flats h2) (by simpa using h3) hq)
      · cases h6
        exact .pure h (st_neA (ev1A_ok hx) (ev1A_ok hy) (flAs_flats h1) (flAs_flats h2) (by simpa using h3) hq)
      · cases h6
    · cases h
  · rename_i v u _ hx hy
    split at h
    · rename_i ti ht
      split at h
      · rename_i b hb
        obtain ⟨a, h6, h⟩ := bd h
        obtain ⟨e1, e2⟩ := nilA_ok (D := Dof H0 s) hb
        unfold eqOp at h6
        split at h6
        · cases h6; exact .pure h (st_nilE ht (ev1A_ok hx) (ev1A_ok hy) e2 e1)
        · cases h6; exact .pure h (st_nilN ht (ev1A_ok hx) (ev1A_ok hy) e2 e1)
        · cases h6
      · obtain ⟨p, h6, h⟩ := bd h
        obtain ⟨hc, h⟩ := cond_some h
        exact .pure h (binA_ok (c := p.1) (r := p.2) h6 hc (ev1A_ok hx) (ev1A_ok hy))
    · cases h
  · cases h
-- converting
def cvV (kk : IntKind) : AV → Option AV
  | .y x => match kk with
    | .u8 => some (.y x)
    | .u16 => some (.n .u16 x.toNat)
    | .u32 => some (.n .u32 x.toNat)
    | .u64 => some (.n .u64 x.toNat)
    | .i64 => some (.i .i64 ((x.toNat : Nat) : Int))
    | _ => none
  | .n _ m => some (nW kk m)
  | .i _ n => some (iW kk n)
  | _ => none
theorem cvV_ok {D : Dt} {kk : IntKind} {v a : AV} (h : cvV kk v = some a) : ∃ k n, den D v = .int k n ∧ den D a = .int kk (kk.wrap n) := by
  unfold cvV at h
  split at h
  · rename_i x
    have hx := UInt8.toNat_lt_size x
    have hx : x.toNat < 256 := hx
    refine ⟨.u8, _, rfl, ?_⟩
    split at h <;> cases h <;>
      (show Value.int _ _ = Value.int _ _
       congr 1
       simp only [IntKind.wrap, IntKind.signed, IntKind.bits, Bool.false_and, Bool.false_eq_true, if_false, Bool.true_and]
       first | omega | (split <;> simp_all <;> omega))
  · rename_i kx m
    cases h
    exact ⟨kx, _, rfl, nW_den D kk m⟩
  · rename_i kx n
    cases h
    exact ⟨kx, n, rfl, iW_den D kk n⟩
  · cases h
def oCv (C : Cfg) (H0 : AH) (TF T : AT) (s : AS) (src dst : TypeId) (x : Operand) (k : KO ρ) : Option ρ := match C.ty src, C.ty dst, ev1A T x with
  | some _, some (_, .int kk), some v => (cvV kk v).bind fun a => k a s [] []
  | some (_, .string), some (_, .slice e), some (.s b) => match C.ty e with
    | some (_, .int .u8) => alc H0 TF s (.row .u8 0 b e (0, 0)) fun s' => k (.sl s.nx 1) s' [] []
    | _ => none
  | some (_, .slice e), some (_, .string), some (.sl id 1) => match C.ty e, lk H0 s id with
    | some (_, .int .u8), some (.row .u8 o l t f) => k (.s l) s [id] []
    | _, _ => none
  | some (_, .slice e), some (_, .string), some .nsl => match C.ty e with
    | some (_, .int .u8) => k (.s []) s [] []
    | _ => none
  | some (_, .string), some (_, .string), some (.s b) => k (.s b) s [] []
  | some (_, .slice _), some (_, .slice e), some (.sl id z) => match C.ty e, aget s.h id with
    | some (_, .int .u8), some (.row K o l e' f) => cond (Nat.beq src dst && !(Nat.beq f.1 1)) (cond (Nat.ble 1 l.length) (k (.sl id z) ⟨aput s.h id (.row K o l e' f), s.nx, s.dd⟩ [] [id]) none) none
    | _, _ => none
  | _, _, _ => none
theorem oCv_ok {src dst : TypeId} {x : Operand} (h : oCv C H0 TF T s src dst x k = some r) : OGs C N ops H0 TF T s ⟨d, .convert src dst x, ty, pos, after, none⟩ k r := by
  unfold oCv at h
  split at h
  · rename_i i1 ti kk v h1 h2 hx
    obtain ⟨a, h3, h⟩ := bd h
    obtain ⟨kx, n, e1, e2⟩ := cvV_ok (D := Dof H0 s) h3
    have := ev1A_ok (D := Dof H0 s) hx
    rw [e1] at this
    refine .pure h ?_
    rw [e2]; exact st_cv h1 h2 this
  · rename_i i1 i2 e b h1 h2 hx
    split at h
    · rename_i i3 h3
      obtain ⟨s', ha, hk⟩ := alc_ok h
      exact OGs.new ha (den_new_sl ha) hk (st_cSB h1 h2 h3 (ev1A_ok hx))
    · cases h
  · rename_i i1 e i2 id h1 h2 hx
    split at h
    · rename_i i3 o l t f h3 h4
      have h5 := ev1A_ok (D := Dof H0 s) hx
      rw [den, Dof_lk h4] at h5
      refine .read h (st_cBS h1 h2 h3 h5 (aget_lk h4) ?_ rfl)
      show ((jrow o ++ rowV RK.u8.kv l).drop o).take l.length = _
      rw [List.drop_left' (jrow_length o)]
      have : (rowV RK.u8.kv l).length = l.length * 1 := kv_length .u8 l
      rw [List.take_of_length_le (by omega)]
      rfl
    · cases h
  · rename_i i1 e i2 h1 h2 hx
    split at h
    · rename_i i3 h3
      exact .pure h (st_cB0 h1 h2 h3 (ev1A_ok hx))
    · cases h
  · rename_i i1 i2 b h1 h2 hx
    exact .pure h (st_cvS h1 h2 (ev1A_ok hx))
  · rename_i i1 e1 i2 e id z h1 h2 hx
    split at h
    · rename_i i3 K o l e' f h3 h4
      obtain ⟨hc, h⟩ := cond_some h
      obtain ⟨hsd, hf⟩ := and_ok hc
      obtain ⟨hn, h⟩ := cond_some h
      have hlk : lk H0 s id = some (.row K o l e' f) := by unfold lk; rw [h4]
      have h5 := ev1A_ok (D := Dof H0 s) hx
      rw [den, Dof_lk hlk] at h5
      have hD := Dof_put (H0 := H0) (o' := .row K o l e' f) h4 rfl
      have hP := hp_put (H0 := H0) (o' := .row K o l e' f) h4 rfl
      refine ⟨_, _, _, _, h, ?_, by rw [hD]⟩
      rw [hD, hP, den, Dof_lk hlk]
      refine Stp.of_aOp (ns := [Nat.beq src dst, Nat.ble 1 l.length, not (ro (.cells ⟨rowJ K.kv o l⟩ e' f))]) rfl (fun _ _ _ h => by cases h) (fun _ h => by cases h) ?_ ?_
      · simp only [aOp, aConv, h1, h2, h5, h3, show aget (hp H0 s) id = some (.cells ⟨rowJ K.kv o l⟩ e' f) from aget_lk hlk]
        rfl
      · have hf : Nat.beq f.1 1 = false := by simpa using hf
        rw [hsd, hn, show ro (.cells ⟨rowJ K.kv o l⟩ e' f) = false from hf]; rfl
    · cases h
  · cases h
def oMi (C : Cfg) (T : AT) (s : AS) (t : TypeId) (x : Operand) (k : KO ρ) : Option ρ := match C.ty t, ev1A T x with
  | some ti, some v => cond (match ti.2 with | .interface _ => false | _ => true) (k (.ifc t v) s [] []) none
  | _, _ => none
theorem oMi_ok {t : TypeId} {x : Operand} (h : oMi C T s t x k = some r) : OGs C N ops H0 TF T s ⟨d, .makeInterface t x, ty, pos, after, none⟩ k r := by
  unfold oMi at h
  split at h
  · rename_i ti v h1 hx
    obtain ⟨hb, h⟩ := cond_some h
    exact .pure h (st_mi h1 (ev1A_ok hx) hb)
  · cases h
def oMf (T : AT) (s : AS) (fn : Fn) (first cap : List Operand) (k : KO ρ) : Option ρ := match fn, first with
  | .func f, [] => (evsA T cap).bind fun l => k (.fn f l) s [] []
  | _, _ => none
theorem oMf_ok {fn : Fn} {first cap : Array Operand} (h : oMf T s fn first.toList cap.toList k = some r) : OGs C N ops H0 TF T s ⟨d, .makeFunc fn first cap, ty, pos, after, none⟩ k r := by
  unfold oMf at h
  split at h
  · rename_i f hf
    obtain ⟨l, h1, h⟩ := bd h
    have : first = #[] := Array.toList_inj.1 hf
    subst this
    exact .pure h (st_mf (vs := denL (Dof H0 s) l) (evsA_ok h1))
  · cases h
-- places
def oFa (C : Cfg) (D : Dt) (T : AT) (s : AS) (t : TypeId) (x : Operand) (i : Nat) (k : KO ρ) : Option ρ := match C.ty t with
  | some (_, .struct fs) => (nth fs.toList i).bind fun f => (C.ty f.type).bind fun fi => match fi.1.size with
    | 0 => none
    | _ => match ev1A T x with
      | some (.ptr a q) => k (.ptr a (q + f.offset)) s [] []
      | some (.ep a n z j) => cond (D a).isSome (k (.ep a n z (j + f.offset)) s [] []) none
      | _ => none
  | _ => none
theorem oFa_ok {t : TypeId} {x : Operand} {i : Nat} (h : oFa C (Dof H0 s) T s t x i k = some r) : OGs C N ops H0 TF T s ⟨d, .fieldAddr t x i, ty, pos, after, none⟩ k r := by
  unfold oFa at h
  split at h
  · rename_i ti fs h1
    obtain ⟨f, h2, h⟩ := bd h
    obtain ⟨fi, h3, h⟩ := bd h
    split at h
    · cases h
    · rename_i hz
      obtain ⟨z, hz⟩ : ∃ z, fi.1.size = Nat.succ z := by cases hh : fi.1.size with | zero => exact absurd hh hz | succ z => exact ⟨z, rfl⟩
      split at h
      · rename_i a q hx
        exact .pure h (st_fa h1 (ev1A_ok hx) h2 h3 hz)
      · rename_i a n zz j hx
        obtain ⟨hd, h⟩ := cond_some h
        obtain ⟨p, hpp⟩ := Option.isSome_iff_exists.1 hd
        refine .pure h ?_
        have h5 := ev1A_ok (D := Dof H0 s) hx
        simp only [den, hpp] at h5 ⊢
        have := st_fa (C := C) (N := N) (s := ⟨hp H0 s, s.nx, [], [], []⟩) (ops := ops) (d := d) (ty := ty) (pos := pos) (after := after) h1 h5 h2 h3 hz
        rwa [Nat.add_assoc] at this
      · cases h
  · cases h
def apA (ti : TypeInfo × TypeDesc) (l : List AV) (off : Nat) : Option AV := match isAggD ti.2 with
  | true => some (.ag ((l.drop off).take ti.1.size))
  | false => nth l off
theorem apA_ok {D : Dt} {ti : TypeInfo × TypeDesc} {l : List AV} {off : Nat} {v : AV} (h : apA ti l off = some v) : apart ti (denL D l) off = some (den D v, []) := by
  unfold apA at h; unfold apart
  split at h
  · rename_i hg
    cases h
    rw [hg, tak_eq, dro_eq, ← denL_drop, ← denL_take]; rfl
  · rename_i hg
    rw [hg, denL_nth, h]; rfl
def oFd (C : Cfg) (T : AT) (s : AS) (t : TypeId) (x : Operand) (i : Nat) (k : KO ρ) : Option ρ := match C.ty t, ev1A T x with
  | some (_, .struct fs), some (.ag l) => (nth fs.toList i).bind fun f => (C.ty f.type).bind fun fi => (apA fi l f.offset).bind fun v => k v s [] []
  | _, _ => none
theorem oFd_ok {t : TypeId} {x : Operand} {i : Nat} (h : oFd C T s t x i k = some r) : OGs C N ops H0 TF T s ⟨d, .field t x i, ty, pos, after, none⟩ k r := by
  unfold oFd at h
  split at h
  · rename_i ti fs l h1 hx
    obtain ⟨f, h2, h⟩ := bd h
    obtain ⟨fi, h3, h⟩ := bd h
    obtain ⟨v, h4, h⟩ := bd h
    exact .pure h (st_fd (vs := denL (Dof H0 s) l) h1 (ev1A_ok hx) h2 h3 (apA_ok h4) rfl)
  · cases h
def oIa (C : Cfg) (H0 : AH) (T : AT) (s : AS) (t : TypeId) (x i : Operand) (k : KO ρ) : Option ρ := match C.ty t, ev1A T x, (ev1A T i).bind toCnt with
  | some (_, .slice e), some (.sl id z), some (c, j) => match C.ty e, lk H0 s id with
    | some ei, some (.row K o l t' f) => cond (Nat.beq ei.1.size z) (cond (c && decide (j < l.length)) (k (.ep id j z 0) s [] []) none) none
    | _, _ => none
  | some (_, .array n e), some (.ptr a q), some (c, j) => match C.ty e with
    | some ei => match lk H0 s a with
      | some (.row K o l t' f) => cond (Nat.beq q 0 && (Nat.beq o 0 && Nat.beq ei.1.size K.z)) (cond (c && Nat.ble (Nat.succ j) n) (k (.ep a j K.z 0) s [] []) none) none
      | _ => cond (c && Nat.ble (Nat.succ j) n) (k (.ptr a (q + j * ei.1.size)) s [] []) none
    | none => none
  | _, _, _ => none
theorem cnt_of {D : Dt} {T : AT} {i : Operand} {c : Bool} {j : Nat} (h : (ev1A T i).bind toCnt = some (c, j)) (hc : c = true) : ∃ kk, ev1 (denT D T) i = some (.int kk (j : Int)) := by
  obtain ⟨v, h1, h2⟩ := bd h
  obtain ⟨kk, h3⟩ := toCnt_ok (D := D) h2 hc
  exact ⟨kk, by rw [ev1A_ok h1, h3]⟩
theorem oIa_ok {t : TypeId} {x i : Operand} (h : oIa C H0 T s t x i k = some r) : OGs C N ops H0 TF T s ⟨d, .indexAddr t x i, ty, pos, after, none⟩ k r := by
  unfold oIa at h
  split at h
  · rename_i ti e id z c j h1 hx hi
    split at h
    · rename_i ei K o l t' f h2 h3
      obtain ⟨hz, h⟩ := cond_some h
      obtain ⟨hc, h⟩ := cond_some h
      obtain ⟨hc, hj⟩ := and_ok hc
      obtain ⟨kk, h4⟩ := cnt_of (D := Dof H0 s) hi hc
      have h5 := ev1A_ok (D := Dof H0 s) hx
      rw [den, Dof_lk h3] at h5
      refine .pure h ?_
      rw [den, Dof_lk h3]
      exact st_iaO h1 h2 (Nat.eq_of_beq_eq_true hz) h5 h4 (of_decide_eq_true hj)
    · cases h
  · rename_i ti n e a q c j h1 hx hi
    split at h
    · rename_i ei h2
      have gen : ∀ {c : Bool}, (ev1A T i).bind toCnt = some (c, j) → c = true → Nat.ble (Nat.succ j) n = true → Stp C N ops ⟨d, .indexAddr t x i, ty, pos, after, none⟩ (denT (Dof H0 s) T) ⟨hp H0 s, s.nx, [], [], []⟩ (.pointer (some ⟨a, q + j * ei.1.size, none⟩)) ⟨hp H0 s, s.nx, [], [], []⟩ := fun hi hc hj => by
        obtain ⟨kk, h4⟩ := cnt_of (D := Dof H0 s) hi hc
        refine Stp.of_aOp (ns := [leI 0 (j : Int), Nat.ble (Nat.succ (toNatF (j : Int))) n]) rfl (fun _ _ _ h => by cases h) (fun _ h => by cases h) ?_ ?_
        · simp only [aOp, aPure, h1, h2, ev1A_ok hx, h4, den, toNatF_eq, Int.toNat_natCast, Option.bind_some]; rfl
        · rw [leI_eq, toNatF_eq, Int.toNat_natCast, hj]; simp [allB]
      split at h
      · rename_i K o l t' f h3
        obtain ⟨hz, h⟩ := cond_some h
        obtain ⟨hc, h⟩ := cond_some h
        obtain ⟨hq, hz⟩ := and_ok hz
        obtain ⟨ho, hz⟩ := and_ok hz
        obtain ⟨hc, hj⟩ := and_ok hc
        have hq := Nat.eq_of_beq_eq_true hq
        have ho := Nat.eq_of_beq_eq_true ho
        have hz := Nat.eq_of_beq_eq_true hz
        refine .pure h ?_
        have := gen hi hc hj
        rw [den, Dof_lk h3]
        show Stp C N ops _ _ _ (.pointer (some ⟨a, o + j * K.z + 0, none⟩)) _
        rw [ho, ← hz, Nat.add_zero]
        rwa [hq] at this
      · obtain ⟨hc, h⟩ := cond_some h
        obtain ⟨hc, hj⟩ := and_ok hc
        exact .pure h (gen hi hc hj)
    · cases h
  · cases h
def oIx (C : Cfg) (T : AT) (s : AS) (t : TypeId) (x i : Operand) (k : KO ρ) : Option ρ := match C.ty t, ev1A T x, (ev1A T i).bind toCnt with
  | some (_, .string), some (.s b), some (c, j) => cond c ((b[j]?).bind fun u => k (.y u) s [] []) none
  | some (_, .array n e), some (.ag l), some (c, j) => (C.ty e).bind fun ei => cond (c && Nat.ble (Nat.succ j) n) ((apA ei l (j * ei.1.size)).bind fun v => k v s [] []) none
  | some (_, .array n e), some (.ar K l), some (c, j) => (C.ty e).bind fun ei => cond (Nat.beq ei.1.size K.z && !isAggD ei.2) (cond (c && Nat.ble (Nat.succ j) n) ((l[j]?).bind fun u => (nth (K.k u) 0).bind fun v => k v s [] []) none) none
  | _, _, _ => none
theorem oIx_ok {t : TypeId} {x i : Operand} (h : oIx C T s t x i k = some r) : OGs C N ops H0 TF T s ⟨d, .index t x i, ty, pos, after, none⟩ k r := by
  unfold oIx at h
  split at h
  · rename_i ti b c j h1 hx hi
    obtain ⟨hc, h⟩ := cond_some h
    obtain ⟨u, h2, h⟩ := bd h
    obtain ⟨kk, h4⟩ := cnt_of (D := Dof H0 s) hi hc
    exact .pure h (st_ibN h1 (ev1A_ok hx) h4 h2)
  · rename_i ti n e l c j h1 hx hi
    obtain ⟨ei, h2, h⟩ := bd h
    obtain ⟨hc, h⟩ := cond_some h
    obtain ⟨hc, hj⟩ := and_ok hc
    obtain ⟨kk, h4⟩ := cnt_of (D := Dof H0 s) hi hc
    obtain ⟨v, h5, h⟩ := bd h
    exact .pure h (st_ix (vs := denL (Dof H0 s) l) h1 h2 (ev1A_ok hx) h4 (Int.natCast_nonneg _) (Int.ofNat_lt.2 (ble_iff.1 hj)) (by rw [Int.toNat_natCast]; exact apA_ok h5) rfl)
  · rename_i ti n e K l c j h1 hx hi
    obtain ⟨ei, h2, h⟩ := bd h
    obtain ⟨hz, h⟩ := cond_some h
    obtain ⟨hc, h⟩ := cond_some h
    obtain ⟨hz, hg⟩ := and_ok hz
    obtain ⟨hc, hj⟩ := and_ok hc
    obtain ⟨kk, h4⟩ := cnt_of (D := Dof H0 s) hi hc
    obtain ⟨u, hu, h⟩ := bd h
    obtain ⟨v, h5, h⟩ := bd h
    have hz := Nat.eq_of_beq_eq_true hz
    have hg : isAggD ei.2 = false := by simpa using hg
    have hap : apart ei (rowV K.kv l) (j * ei.1.size) = some (den (Dof H0 s) v, []) := by
      unfold apart
      rw [hg]
      have := rowV_nth (k := K.kv) (z := K.z) (j := 0) (v := den (Dof H0 s) v) hu (by rw [← K.k_den (Dof H0 s) u, ← nth_eq, denL_nth, h5]; rfl)
      rw [Nat.add_zero] at this
      rw [hz, this]; rfl
    exact .pure h (st_ix (vs := rowV K.kv l) h1 h2 (ev1A_ok hx) h4 (Int.natCast_nonneg _) (Int.ofNat_lt.2 (ble_iff.1 hj)) (by rw [Int.toNat_natCast]; exact hap) rfl)
  · cases h
def oLen (C : Cfg) (H0 : AH) (T : AT) (s : AS) (t : TypeId) (x : Operand) (k : KO ρ) : Option ρ := match C.ty t, ev1A T x with
  | some (_, .string), some (.s b) => k (.i .i64 (b.length : Int)) s [] []
  | some (_, .slice _), some (.sl id z) => match lk H0 s id with
    | some (.row K o l t' f) => k (.i .i64 (l.length : Int)) s [] []
    | _ => none
  | some (_, .slice _), some .nsl => k (.i .i64 0) s [] []
  | _, _ => none
theorem oLen_ok {t : TypeId} {x : Operand} (h : oLen C H0 T s t x k = some r) : OGs C N ops H0 TF T s ⟨d, .call ⟨.builtin .len, #[x], #[t]⟩, ty, pos, after, none⟩ k r := by
  unfold oLen at h
  split at h
  · rename_i ti b h1 hx
    exact .pure h (st_lenS h1 (ev1A_ok hx))
  · rename_i ti e id z h1 hx
    split at h
    · rename_i K o l t' f h3
      have h5 := ev1A_ok (D := Dof H0 s) hx
      rw [den, Dof_lk h3] at h5
      exact .pure h (st_lenL h1 h5)
    · cases h
  · rename_i ti e h1 hx
    exact .pure h (st_lenL h1 (ev1A_ok hx))
  · cases h
end
end
end Go.Ev
