/- Words of my own: appending, copying; all operations together. -/
import Derived.Test.YtlkfcabklaaacaaSx6
set_option linter.unusedVariables false
set_option linter.unusedSimpArgs false
set_option linter.unusedSectionVars false
namespace Go.Ev
open Go.RowKit
noncomputable section
section
variable {ρ : Type} {r : ρ} {k : KO ρ} {C : Cfg} [Hv C] {N : Nat} {ops : Array Oper} {H0 : AH} {TF T : AT} {s : AS} {o : Oper}
variable {d : Option Nat} {ty : TypeId} {pos : String} {after : Array Edge}
/-- An element type as appending wants it. -/
def elOk (ei : TypeInfo × TypeDesc) (z : Nat) : Bool := match ei.1.zero with
  | some zv => Nat.beq zv.cells.toList.length ei.1.size && (Nat.beq ei.1.size z && Nat.ble ei.1.bytes 65536)
  | none => false
theorem elOk_ok {ei : TypeInfo × TypeDesc} {z : Nat} (h : elOk ei z = true) : ∃ zv, ei.1.zero = some zv ∧ zv.cells.toList.length = ei.1.size ∧ ei.1.size = z ∧ ei.1.bytes ≤ 65536 := by
  unfold elOk at h
  split at h
  · rename_i zv hz
    obtain ⟨h1, h2⟩ := and_ok h
    obtain ⟨h2, h3⟩ := and_ok h2
    exact ⟨zv, hz, Nat.eq_of_beq_eq_true h1, Nat.eq_of_beq_eq_true h2, ble_iff.1 h3⟩
  · cases h
def rdOf (l : List Nat) : List Nat := List.rec (motive := fun _ => List Nat) [] (fun a _ ih => lg ih a) l
def oApp (C : Cfg) (kd : TypeId → Option RK) (H0 : AH) (TF T : AT) (s : AS) (t xt : TypeId) (x y : Operand) (k : KO ρ) : Option ρ := match C.ty t with
  | some (_, .slice e) => (C.ty e).bind fun ei => match ev1A T x with
    | some .nsl => (kd e).bind fun K => cond (elOk ei K.z) ((srcA C H0 T s K xt y).bind fun p => cond (Nat.ble p.1.length 100000000) (alc H0 TF s (.row K 0 p.1 e (0, 0)) fun s' => k (.sl s.nx K.z) s' (rdOf p.2) []) none) none
    | some (.sl id z) => match aget s.h id with
      | some (.row K 0 l e' (0, 0)) => cond (elOk ei K.z && (Nat.beq z K.z && (Nat.beq e e' && (aget H0 id).isNone))) ((srcA C H0 T s K xt y).bind fun p => cond (Nat.ble (l.length + p.1.length) 100000000)
          (alc H0 TF ⟨adel s.h id, s.nx, (id, (0, l.length)) :: s.dd⟩ (.row K 0 (l ++ p.1) e (0, 0)) fun s' => k (.sl s.nx K.z) s' (rdOf p.2) [id]) none) none
      | _ => none
    | _ => none
  | _ => none
theorem Dof_del {id : Nat} {o : AO} {n : Nat} (h : aget s.h id = some o) (hn : aget H0 id = none) (hod : od o = (0, fun _ => n)) : Dof H0 ⟨adel s.h id, s.nx, (id, (0, n)) :: s.dd⟩ = Dof H0 s := by
  funext i
  unfold Dof
  dsimp only
  rw [aget_adel, aget_cons]
  by_cases e : i = id
  · subst e
    rw [if_pos rfl, if_pos rfl, hn, h]
    show some (0, fun _ => n) = some (od o)
    rw [hod]
  · rw [if_neg e, if_neg e]
theorem hp_del {id : Nat} {o : AO} {n : Nat} (h : aget s.h id = some o) (hn : aget H0 id = none) (hod : od o = (0, fun _ => n)) : hp H0 ⟨adel s.h id, s.nx, (id, (0, n)) :: s.dd⟩ = adel (hp H0 s) id := by
  unfold hp
  rw [Dof_del h hn hod, adel_app, ← denH_del, ← denH_del, adel_none id H0 hn]
theorem oApp_ok {kd : TypeId → Option RK} {t xt : TypeId} {x y : Operand} (h : oApp C kd H0 TF T s t xt x y k = some r) : OGs C N ops H0 TF T s ⟨d, .call ⟨.builtin .append, #[x, y], #[t, xt]⟩, ty, pos, after, none⟩ k r := by
  unfold oApp at h
  split at h
  · rename_i ti e h1
    obtain ⟨ei, h2, h⟩ := bd h
    split at h
    · rename_i hx
      obtain ⟨K, h3, h⟩ := bd h
      obtain ⟨hc, h⟩ := cond_some h
      obtain ⟨zv, hz, hzl, hzz, hby⟩ := elOk_ok hc
      obtain ⟨p, hp1, h⟩ := bd h
      obtain ⟨hle, h⟩ := cond_some h
      obtain ⟨s', ha, hk⟩ := alc_ok h
      obtain ⟨u, hy, hap, _⟩ := srcA_ok hp1
      refine OGs.new ha ?_ hk (st_app0 (news := rowV K.kv p.1) h1 h2 hz hzl hzz hby (ev1A_ok (D := Dof H0 s) hx) hy hap (ble_iff.1 hle) (rowV_empty rfl))
      rw [den_new_sl ha]
    · rename_i id z hx
      split at h
      · rename_i K l e' h3
        obtain ⟨hc, h'⟩ := cond_some h
        obtain ⟨hc1, hc2⟩ := and_ok hc
        obtain ⟨hz1, hc3⟩ := and_ok hc2
        obtain ⟨he, hn⟩ := and_ok hc3
        have hz1 := Nat.eq_of_beq_eq_true hz1
        have he := Nat.eq_of_beq_eq_true he
        have hn : aget H0 id = none := by simpa using hn
        clear h hc hc2 hc3
        subst hz1; subst he
        obtain ⟨zv, hz, hzl, hzz, hby⟩ := elOk_ok hc1
        obtain ⟨p, hp1, h⟩ := bd h'
        obtain ⟨hle, h⟩ := cond_some h
        obtain ⟨s', ha, hk⟩ := alc_ok h
        obtain ⟨u, hy, hap, _⟩ := srcA_ok hp1
        have hlk : lk H0 s id = some (.row K 0 l e (0, 0)) := by unfold lk; rw [h3]
        have hD := Dof_del (n := l.length) h3 hn rfl
        have hP := hp_del (n := l.length) h3 hn rfl
        have st := st_app (C := C) (N := N) (ops := ops) (d := d) (ty := ty) (pos := pos) (after := after) (nx := s.nx) (c1 := rowV K.kv (l ++ p.1)) h1 h2 hz hzl hzz hby (sl_ev hx hlk) hy hap (c0 := rowV K.kv l) (lk_hp hlk) (kv_length K l) (ones_rowV (z := K.z) l) (ble_iff.1 hle) (rowV_append _ _).symm rfl (rowV_empty rfl)
        refine ⟨_, s', _, _, hk, ?_, by rw [ha.t, hD]⟩
        rw [show s.nx = (AS.mk (adel s.h id) s.nx ((id, (0, l.length)) :: s.dd)).nx from rfl, den_new_sl ha, ha.h, ha.eq, hP, hD, List.length_append]
        exact st
      · cases h
    · cases h
  · cases h
def oCp (C : Cfg) (H0 : AH) (T : AT) (s : AS) (t xt : TypeId) (x y : Operand) (k : KO ρ) : Option ρ := match C.ty t with
  | some (_, .slice e) => (C.ty e).bind fun ei => match ev1A T x with
    | some (.sl id z) => match aget s.h id with
      | some (.row K o l e' f) => cond (Nat.beq ei.1.size K.z && (Nat.beq z K.z && !(Nat.beq f.1 1))) ((srcA C H0 T s K xt y).bind fun p => cond (Nat.ble 1 l.length) (k (.i .i64 (Nat.min p.1.length l.length : Nat)) ⟨aput s.h id (.row K o (p.1.take (Nat.min p.1.length l.length) ++ l.drop (Nat.min p.1.length l.length)) e' f), s.nx, s.dd⟩ p.2 [id]) none) none
      | _ => none
    | _ => none
  | _ => none
theorem oCp_ok {t xt : TypeId} {x y : Operand} (h : oCp C H0 T s t xt x y k = some r) : OGs C N ops H0 TF T s ⟨d, .call ⟨.builtin .copy, #[x, y], #[t, xt]⟩, ty, pos, after, none⟩ k r := by
  unfold oCp at h
  split at h
  · rename_i ti e h1
    obtain ⟨ei, h2, h⟩ := bd h
    split at h
    · rename_i id z hx
      split at h
      · rename_i K o l e' f h3
        obtain ⟨hc, h'⟩ := cond_some h
        obtain ⟨hz2, hc2⟩ := and_ok hc
        obtain ⟨hz1, hf⟩ := and_ok hc2
        have hz1 := Nat.eq_of_beq_eq_true hz1
        have hz2 := Nat.eq_of_beq_eq_true hz2
        have hf : Nat.beq f.1 1 = false := by simpa using hf
        clear h hc hc2
        subst hz1
        obtain ⟨p, hp1, h⟩ := bd h'
        obtain ⟨hdn, h⟩ := cond_some h
        obtain ⟨u, hy, _, hcp⟩ := srcA_ok hp1
        have hlk : lk H0 s id = some (.row K o l e' f) := by unfold lk; rw [h3]
        obtain ⟨n, hn⟩ : ∃ n, n = Nat.min p.1.length l.length := ⟨_, rfl⟩
        have hn1 : n ≤ p.1.length := by rw [hn]; exact Nat.min_le_left _ _
        have hn2 : n ≤ l.length := by rw [hn]; exact Nat.min_le_right _ _
        rw [← hn] at h
        obtain ⟨ns, hs, hns⟩ := hcp s.nx l.length n hn.symm
        have hlen : (p.1.take n ++ l.drop n).length = l.length := by rw [List.length_append, List.length_take, List.length_drop, Nat.min_eq_left hn1]; omega
        have hod : od (.row K o (p.1.take n ++ l.drop n) e' f) = od (.row K o l e' f) := by
          show ((o, fun _ => (p.1.take n ++ l.drop n).length) : Nat × (Nat → Nat)) = (o, fun _ => l.length)
          rw [hlen]
        have htk : (rowV K.kv (p.1.take n)).length = n * K.z := by rw [kv_length, List.length_take, Nat.min_eq_left hn1]
        refine ⟨_, _, _, _, h, ?_, by rw [Dof_put h3 hod]⟩
        rw [hp_put h3 hod, Dof_put h3 hod]
        refine st_cp (n := n) h1 h2 hz2 (sl_ev hx hlk) hy hs hns (lk_hp hlk) (ble_iff.1 hdn) ?_ ?_ rfl hf
        · rw [rowJ_length]; exact Nat.add_le_add_left (Nat.mul_le_mul_right _ hn2) _
        · show (jrow o ++ rowV K.kv l).take o ++ (rowV K.kv (p.1.take n) ++ (jrow o ++ rowV K.kv l).drop (o + (rowV K.kv (p.1.take n)).length)) = jrow o ++ rowV K.kv (p.1.take n ++ l.drop n)
          rw [List.take_left' (jrow_length o), ← List.drop_drop, List.drop_left' (jrow_length o), htk, rowV_drop, rowV_append]
      · cases h
    · cases h
  · cases h
def oMin (T : AT) (s : AS) (x y : Operand) (k : KO ρ) : Option ρ := match ev1A T x, ev1A T y with
  | some (.i kk a), some (.i _ b) => k (.i kk (if b < a then b else a)) s [] []
  | _, _ => none
theorem oMin_ok {x y : Operand} {tys : Array TypeId} (h : oMin T s x y k = some r) : OGs C N ops H0 TF T s ⟨d, .call ⟨.builtin .min, #[x, y], tys⟩, ty, pos, after, none⟩ k r := by
  unfold oMin at h
  split at h
  · rename_i kk a kk' b hx hy
    exact .pure h (st_min (ev1A_ok hx) (ev1A_ok hy))
  · cases h
class Hx (C : Cfg) : Prop where
  ok : True
/-- What the program calls: its word, from the arguments and the memory; the second way is a panic's. -/
abbrev CallA (ρ : Type) := AT → AS → Nat → List AV → KO ρ → KO ρ → Option ρ
/-- What is said of an operation that may panic. -/
def OGs2 {ρ : Type} (C : Cfg) (N : Nat) (ops : Array Oper) (H0 : AH) (TF T : AT) (s : AS) (o : Oper) (k kp : KO ρ) (r : ρ) : Prop := OGs C N ops H0 TF T s o k r ∨
  ∃ p s' rd wr, kp p s' rd wr = some r ∧ StpP C N ops o (denT (Dof H0 s) T) ⟨hp H0 s, s.nx, [], [], []⟩ (den (Dof H0 s') p) ⟨hp H0 s', s'.nx, rd, wr, []⟩ ∧ denT (Dof H0 s') TF = denT (Dof H0 s) TF
def xtOk (C : Cfg) (g t : Nat) : Bool := Nat.beq g C.P.globals.size && !(C.P.packed t)
/-- Two functions of the library without a body: a slice's length, asked of an interface value. -/
def oXt (C : Cfg) (H0 : AH) (TF : AT) (s : AS) (kx : Nat) (vs : List AV) (k : KO ρ) : Option ρ := match kx, vs with
  | 1, [.ifc t (.sl id z)] => match C.ty t, lk H0 s id with
    | some (i, _), some (.row K o l t' f) => match i.desc with
      | .slice _ => alc H0 TF s (.cells [.sl id z] t (0, 0)) fun s' => k (.ag [.st C.P.globals.size t, .ptr s.nx 0, .n .u64 151]) s' [] []
      | _ => none
    | _, _ => none
  | 2, [.ag [.st g t, .ptr a 0, .n .u64 151]] => match C.ty t, lk H0 s a with
    | some (i, _), some (.cells (.sl id z :: cs) t2 f2) => match i.desc, lk H0 s id with
      | .slice _, some (.row K o l t' f) => cond (xtOk C g t) (k (.i .i64 (l.length : Int)) s [a] []) none
      | _, _ => none
    | _, _ => none
  | _, _ => none
/-- All operations. -/
def sxOp (C : Cfg) (kd : TypeId → Option RK) (H0 : AH) (call : CallA ρ) (TF T : AT) (s : AS) (ty : TypeId) (op : Op) (k kp : KO ρ) : Option ρ := match op with
  | .move x => oMv C kd H0 TF T s ty x k
  | .assign x => oMv C kd H0 TF T s ty x k
  | .pick c a b => oPk C kd H0 TF T s ty c a b k
  | .nilCheck x => oNc T s (Dof H0 s) x k
  | .extract x i => oEx T s x i k
  | .unOp u _ x => oUn T s u x k
  | .binOp op t x y _ => oBin C T s op t x y k
  | .convert a b x => oCv C H0 TF T s a b x k
  | .makeInterface t x => oMi C T s t x k
  | .makeFunc fn first cap => oMf T s fn first.toList cap.toList k
  | .fieldAddr t x i => oFa C (Dof H0 s) T s t x i k
  | .field t x i => oFd C T s t x i k
  | .indexAddr t x i => oIa C H0 T s t x i k
  | .index t x i => oIx C T s t x i k
  | .slice t x lo hi none => oSl C H0 TF T s t x lo hi k
  | .alloc t => oAl C kd H0 TF s t k
  | .box t x => oBx C kd H0 TF T s t x k
  | .load t x => oLd C H0 T s t x k
  | .store t x y => oSt C H0 T s t x y k
  | .build t parts => oBd C (Dof H0 s) T s t parts.toList k
  | .buildSlice t n parts => oBs C kd H0 TF T s t n parts.toList k
  | .makeSlice t x y => oMs C kd H0 TF T s t x y k
  | .call c => match c.callee, c.args.toList, c.argTypes.toList with
    | .builtin .len, [x], [t] => oLen C H0 T s t x k
    | .builtin .append, [x, y], [t, xt] => oApp C kd H0 TF T s t xt x y k
    | .builtin .copy, [x, y], [t, xt] => oCp C H0 T s t xt x y k
    | .builtin .min, [x, y], _ => oMin T s x y k
    | .value f, args, _ => match ev1A T f with
      | some (.fn g cap) => (evsA T args).bind fun vs => match C.xt g with
        | none => call TF s g (vs ++ cap) k kp
        | some kx => oXt C H0 TF s kx (vs ++ cap) k
      | _ => none
    | _, _, _ => none
  | .panic x => match ev1A T x with
    | some (.ifc t (.ag [])) => kp (.ifc t (.ag [])) s [] []
    | _ => none
  | _ => none
/-- Calls are right. -/
def CallsOk (C : Cfg) (H0 : AH) (call : CallA ρ) : Prop := ∀ (TF : AT) (s : AS) (g : Nat) (vs : List AV) (k kp : KO ρ) (r : ρ), call TF s g vs k kp = some r →
  (∃ v s' rd wr, k v s' rd wr = some r ∧ CallR C g (denL (Dof H0 s) vs) ⟨hp H0 s, s.nx, [], [], []⟩ (den (Dof H0 s') v) ⟨hp H0 s', s'.nx, rd, wr, []⟩ ∧ isPk (den (Dof H0 s') v) = none ∧ denT (Dof H0 s') TF = denT (Dof H0 s) TF) ∨
  ∃ p s' rd wr, kp p s' rd wr = some r ∧ CallR C g (denL (Dof H0 s) vs) ⟨hp H0 s, s.nx, [], [], []⟩ (pkV (den (Dof H0 s') p)) ⟨hp H0 s', s'.nx, rd, wr, []⟩ ∧ denT (Dof H0 s') TF = denT (Dof H0 s) TF
theorem oXt_ok {f : Operand} {args : Array Operand} {tys : Array TypeId} {g kx : Nat} {cap vs : List AV} (hf : ev1A T f = some (.fn g cap)) (hvs : evsA T args.toList = some vs) (hx : C.xt g = some kx) (h : oXt C H0 TF s kx (vs ++ cap) k = some r) :
    OGs C N ops H0 TF T s ⟨d, .call ⟨.value f, args, tys⟩, ty, pos, after, none⟩ k r := by
  have happ : app (denL (Dof H0 s) vs) (⟨denL (Dof H0 s) cap⟩ : Array Value).toList = denL (Dof H0 s) (vs ++ cap) := by rw [app_eq, denL_app]
  have hf' := ev1A_ok (D := Dof H0 s) hf
  have hvs' := evsA_ok (D := Dof H0 s) hvs
  generalize hall : vs ++ cap = al at h happ
  unfold oXt at h
  split at h
  · rename_i t id z
    split at h
    · rename_i i td K o l t' f' h1 h2
      split at h
      · rename_i e hd
        obtain ⟨s', ha, hk⟩ := alc_ok h
        have hsl : den (Dof H0 s) (.sl id z) = .slice (some ⟨id, o, some z⟩) l.length 0 := by rw [den, Dof_lk h2]; rfl
        refine OGs.new ha rfl hk ?_
        refine Stp.ext (k := 1) (ns := []) Hv.ok hf' hvs' hx happ ?_ rfl
        show aExt C _ 1 [.iface t (den (Dof H0 s) (.sl id z))] = _
        rw [hsl]
        show (match C.ty t with | some (i, _) => _ | none => none) = _
        rw [h1]
        dsimp only
        rw [hd]
        show some (_, _, newB _ _) = some (_, _, _)
        have : denO (Dof H0 s) (.cells [.sl id z] t (0, 0)) = .cells #[.slice (some ⟨id, o, some z⟩) l.length 0] t (0, 0) := by
          show Obj.cells ⟨[den (Dof H0 s) (.sl id z)]⟩ t (0, 0) = _
          rw [hsl]
        rw [this]; rfl
      · cases h
    · cases h
  · rename_i g' t a
    split at h
    · rename_i i td id z cs t2 f2 h1 h2
      split at h
      · rename_i e K o l t' f' hd h3
        obtain ⟨hc, h⟩ := cond_some h
        obtain ⟨hc1, hc2⟩ := and_ok hc
        have hsl : den (Dof H0 s) (.sl id z) = .slice (some ⟨id, o, some z⟩) l.length 0 := by rw [den, Dof_lk h3]; rfl
        refine .read h ?_
        refine Stp.ext (k := 2) (ns := [Nat.beq g' C.P.globals.size, Bool.rec (motive := fun _ => Bool) true false (C.P.packed t)]) Hv.ok hf' hvs' hx happ ?_ ?_
        · show (match C.ty t, aget (hp H0 s) a with | some (i, _), some (.cells ⟨.slice p n c :: l⟩ _ _) => _ | _, _ => none) = _
          rw [h1, aget_lk h2]
          have : denO (Dof H0 s) (.cells (.sl id z :: cs) t2 f2) = .cells ⟨.slice (some ⟨id, o, some z⟩) l.length 0 :: denL (Dof H0 s) cs⟩ t2 f2 := by
            show Obj.cells ⟨den (Dof H0 s) (.sl id z) :: _⟩ t2 f2 = _
            rw [hsl]
          rw [this]
          dsimp only
          rw [hd]; rfl
        · rw [hc1]
          have : C.P.packed t = false := by simpa using hc2
          rw [this]; rfl
      · cases h
    · cases h
  · cases h
theorem arr2 {α : Type} {a : Array α} {x y : α} (h : a.toList = [x, y]) : a = #[x, y] := Array.toList_inj.1 h
theorem arr1 {α : Type} {a : Array α} {x : α} (h : a.toList = [x]) : a = #[x] := Array.toList_inj.1 h
theorem sxOp_ok [Hx C] {kd : TypeId → Option RK} {call : CallA ρ} (hcall : CallsOk C H0 call) {op : Op} {kp : KO ρ} (h : sxOp C kd H0 call TF T s ty op k kp = some r) : OGs2 C N ops H0 TF T s ⟨d, op, ty, pos, after, none⟩ k kp r := by
  unfold sxOp at h
  split at h
  · exact .inl (oMv_ok h fun v hv => st_mv hv)
  · exact .inl (oMv_ok h fun v hv => st_as hv)
  · exact .inl (oPk_ok h)
  · exact .inl (oNc_ok h)
  · exact .inl (oEx_ok h)
  · exact .inl (oUn_ok h)
  · exact .inl (oBin_ok h)
  · exact .inl (oCv_ok h)
  · exact .inl (oMi_ok h)
  · exact .inl (oMf_ok h)
  · exact .inl (oFa_ok h)
  · exact .inl (oFd_ok h)
  · exact .inl (oIa_ok h)
  · exact .inl (oIx_ok h)
  · exact .inl (oSl_ok h)
  · exact .inl (oAl_ok h)
  · exact .inl (oBx_ok h)
  · exact .inl (oLd_ok h)
  · exact .inl (oSt_ok h)
  · exact .inl (oBd_ok h)
  · exact .inl (oBs_ok h)
  · exact .inl (oMs_ok h)
  · rename_i c
    obtain ⟨callee, args, tys⟩ := c
    dsimp only at h
    split at h
    · rename_i x t ha ht
      rw [arr1 ha, arr1 ht]; exact .inl (oLen_ok h)
    · rename_i x y t xt ha ht
      rw [arr2 ha, arr2 ht]; exact .inl (oApp_ok h)
    · rename_i x y t xt ha ht
      rw [arr2 ha, arr2 ht]; exact .inl (oCp_ok h)
    · rename_i x y ha
      rw [arr2 ha]; exact .inl (oMin_ok h)
    · rename_i f args' tys'
      split at h
      · rename_i g cap hf
        obtain ⟨vs, hvs, h⟩ := bd h
        split at h
        · rename_i hx
          have hap : app (denL (Dof H0 s) vs) (⟨denL (Dof H0 s) cap⟩ : Array Value).toList = denL (Dof H0 s) (vs ++ cap) := by rw [app_eq, denL_app]
          rcases hcall _ _ _ _ _ _ _ h with ⟨v, s', rd, wr, hk, hr, hp1, ht⟩ | ⟨p, s', rd, wr, hk, hr, ht⟩
          · exact .inl ⟨v, s', rd, wr, hk, Stp.call (vs := denL (Dof H0 s) vs) (cap := ⟨denL (Dof H0 s) cap⟩) (vs' := denL (Dof H0 s) (vs ++ cap)) Hv.ok (ev1A_ok hf) (evsA_ok hvs) hx Hv.pc hap hr hp1, ht⟩
          · exact .inr ⟨p, s', rd, wr, hk, StpP.call (vs := denL (Dof H0 s) vs) (cap := ⟨denL (Dof H0 s) cap⟩) (vs' := denL (Dof H0 s) (vs ++ cap)) Hv.ok (ev1A_ok hf) (evsA_ok hvs) hx Hv.pc hap hr rfl, ht⟩
        · rename_i kx hx
          exact .inl (oXt_ok hf hvs hx h)
      · cases h
    · cases h
  · split at h
    · rename_i t hx
      exact .inr ⟨_, s, [], [], h, StpP.panic Hv.ok (ev1A_ok (D := Dof H0 s) hx) rfl, rfl⟩
    · cases h
  · cases h
end
end
end Go.Ev
