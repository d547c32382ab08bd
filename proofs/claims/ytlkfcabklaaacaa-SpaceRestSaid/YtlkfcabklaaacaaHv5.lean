/- Words of my own: rules for single operations. -/
import Derived.Test.YtlkfcabklaaacaaHv4
set_option linter.unusedVariables false
set_option linter.unusedSimpArgs false
set_option linter.unusedSectionVars false
namespace Go.Ev
open Go.RowKit
class Hv (C : Cfg) : Prop where
  ok : C.Ok
  mix : C.P.follows .mixedOrders = true
  pc : C.pc = fun _ _ => none
/-- A text. -/
abbrev str (l : List UInt8) : Value := .string ⟨⟨l⟩⟩
/-- Bytes, as cells. -/
def bytes1 (b : UInt8) : Value := .int .u8 (b.toNat : Int)
/-- A row: each element's cells, one behind the other. -/
def rowV {α : Type} (k : α → List Value) (l : List α) : List Value := l.flatMap k
def kB (b : UInt8) : List Value := [bytes1 b]
abbrev bytesV (l : List UInt8) : List Value := rowV kB l
theorem bytesV_map (l : List UInt8) : bytesV l = l.map bytes1 := by
  induction l with
  | nil => rfl
  | cons b l ih => show bytes1 b :: bytesV l = _; rw [ih]; rfl
section
variable {C : Cfg} [Hv C] {N n0 : Nat} {T : Tm} {s : St} {ops : Array Oper} {l : List Oper} {d : Option Nat} {ty : TypeId} {pos : String} {after : Array Edge} {v : Value} {s' : St}
theorem Stp.of_aOp {o : Oper} {ns : List Bool} (hg : o.guard = none) (hop : ∀ f args tys, o.op ≠ .call ⟨.value f, args, tys⟩) (hop2 : ∀ x, o.op ≠ .panic x) (h : aOp C T s o = some (v, ns, s')) (hn : allB ns = true) : Stp C N ops o T s v s' := by
  refine Stp.of_step (call := fun _ _ _ => none) Hv.ok (fun B W0 hB g vs s e v s' h => by cases h) ?_
  have key : stepOp (fun _ _ _ => none) C N ops.toList o T s = (match aOp C T s o with | some (v, ns, s') => Bool.rec (motive := fun _ => Option (Out × Value × St)) none (some (.normal, v, s')) (allB ns) | none => none) := by
    obtain ⟨dst, op, type, pos, after, guard⟩ := o
    dsimp only at hg
    subst hg
    cases op <;> first
      | rfl
      | exact absurd rfl (hop2 _)
      | (rename_i c
         obtain ⟨cal, args, tys⟩ := c
         cases cal <;> first | rfl | exact absurd rfl (hop _ _ _))
  rw [key, h]
  dsimp only
  rw [hn]
/-- What a guard looks at. -/
noncomputable def gslot (ops : List Oper) (T : Tm) (j : Nat) : Option Value := match nth ops j with
  | some oj => match oj.dst with
    | some d => aget T d
    | none => none
  | none => none
theorem Stp.yes {op : Op} {j : Nat} {want b : Bool} (hj : gslot ops.toList T j = some (.bool b)) (hb : b = want) (h : Stp C N ops ⟨d, op, ty, pos, after, none⟩ T s v s') : Stp C N ops ⟨d, op, ty, pos, after, some (j, want)⟩ T s v s' := by
  refine ⟨h.1, fun B W0 hB ν m a w K Q tr p k => ?_⟩
  have hw : aWanted ops.toList T ⟨d, op, ty, pos, after, some (j, want)⟩ = some true := by
    unfold aWanted
    unfold gslot at hj
    dsimp only
    revert hj
    cases nth ops.toList j with
    | none => intro hj; cases hj
    | some oj =>
      dsimp only
      cases oj.dst with
      | none => intro hj; cases hj
      | some e =>
        dsimp only
        intro hj
        rw [hj]
        subst hb
        cases b <;> rfl
  rcases h.2 B W0 hB ν m a w K Q tr p k with ⟨h1, h2⟩ | ⟨h1, h2⟩
  · cases h1
  · exact .inr ⟨aWanted_ok tr hw, h2⟩
theorem StpP.yes {op : Op} {j : Nat} {want b : Bool} (hj : gslot ops.toList T j = some (.bool b)) (hb : b = want) (h : StpP C N ops ⟨d, op, ty, pos, after, none⟩ T s v s') : StpP C N ops ⟨d, op, ty, pos, after, some (j, want)⟩ T s v s' := by
  refine ⟨h.1, fun B W0 hB ν m a w K Q tr p k => ?_⟩
  have hw : aWanted ops.toList T ⟨d, op, ty, pos, after, some (j, want)⟩ = some true := by
    unfold aWanted
    unfold gslot at hj
    dsimp only
    revert hj
    cases nth ops.toList j with
    | none => intro hj; cases hj
    | some oj =>
      dsimp only
      cases oj.dst with
      | none => intro hj; cases hj
      | some e =>
        dsimp only
        intro hj
        rw [hj]
        subst hb
        cases b <;> rfl
  rcases h.2 B W0 hB ν m a w K Q tr p k with ⟨h1, h2⟩ | ⟨h1, h2⟩
  · cases h1
  · exact .inr ⟨aWanted_ok tr hw, h2⟩
theorem Stp.no {op : Op} {j : Nat} {want b : Bool} (hj : gslot ops.toList T j = some (.bool b)) (hb : b = !want) : Stp C N ops ⟨d, op, ty, pos, after, some (j, want)⟩ T s undef s := by
  refine ⟨.refl s, fun B W0 hB ν m a w K Q tr p k => ?_⟩
  have hw : aWanted ops.toList T ⟨d, op, ty, pos, after, some (j, want)⟩ = some false := by
    unfold aWanted
    unfold gslot at hj
    dsimp only
    revert hj
    cases nth ops.toList j with
    | none => intro hj; cases hj
    | some oj =>
      dsimp only
      cases oj.dst with
      | none => intro hj; cases hj
      | some e =>
        dsimp only
        intro hj
        rw [hj]
        subst hb
        cases want <;> rfl
  exact .inl ⟨aWanted_ok tr hw, k ν undef w (VR.of_plain rfl) (.refl p)⟩
theorem Stp.nou {op : Op} {j : Nat} {want : Bool} (hj : gslot ops.toList T j = some undef) : Stp C N ops ⟨d, op, ty, pos, after, some (j, want)⟩ T s undef s := by
  refine ⟨.refl s, fun B W0 hB ν m a w K Q tr p k => ?_⟩
  have hw : aWanted ops.toList T ⟨d, op, ty, pos, after, some (j, want)⟩ = some false := by
    unfold aWanted
    unfold gslot at hj
    dsimp only
    revert hj
    cases nth ops.toList j with
    | none => intro hj; cases hj
    | some oj =>
      dsimp only
      cases oj.dst with
      | none => intro hj; cases hj
      | some e =>
        dsimp only
        intro hj
        rw [hj]
        rfl
  exact .inl ⟨aWanted_ok tr hw, k ν undef w (VR.of_plain rfl) (.refl p)⟩

/-- Shorthand: an operation that always runs. -/
theorem st_mv {x : Operand} (hx : ev1 T x = some v) : Stp C N ops ⟨d, .move x, ty, pos, after, none⟩ T s v s :=
  Stp.of_aOp (ns := []) rfl (fun _ _ _ h => by cases h) (fun _ h => by cases h) (by simp [aOp, aPure, hx]) rfl
theorem st_as {x : Operand} (hx : ev1 T x = some v) : Stp C N ops ⟨d, .assign x, ty, pos, after, none⟩ T s v s :=
  Stp.of_aOp (ns := []) rfl (fun _ _ _ h => by cases h) (fun _ h => by cases h) (by simp [aOp, aPure, hx]) rfl
theorem st_pkT {c a b : Operand} (hc : ev1 T c = some (.bool true)) (ha : ev1 T a = some v) : Stp C N ops ⟨d, .pick c a b, ty, pos, after, none⟩ T s v s :=
  Stp.of_aOp (ns := []) rfl (fun _ _ _ h => by cases h) (fun _ h => by cases h) (by simp [aOp, aPure, hc, ha]) rfl
theorem st_pkF {c a b : Operand} (hc : ev1 T c = some (.bool false)) (hb : ev1 T b = some v) : Stp C N ops ⟨d, .pick c a b, ty, pos, after, none⟩ T s v s :=
  Stp.of_aOp (ns := []) rfl (fun _ _ _ h => by cases h) (fun _ h => by cases h) (by simp [aOp, aPure, hc, hb]) rfl
theorem st_nc {x : Operand} {p : Addr} (hx : ev1 T x = some (.pointer (some p))) : Stp C N ops ⟨d, .nilCheck x, ty, pos, after, none⟩ T s (.pointer (some p)) s :=
  Stp.of_aOp (ns := []) rfl (fun _ _ _ h => by cases h) (fun _ h => by cases h) (by simp [aOp, aPure, hx]) rfl
theorem st_ex {x : Operand} {i : Nat} {vs : List Value} (hx : ev1 T x = some (.tuple ⟨vs⟩)) (hi : nth vs i = some v) : Stp C N ops ⟨d, .extract x i, ty, pos, after, none⟩ T s v s :=
  Stp.of_aOp (ns := []) rfl (fun _ _ _ h => by cases h) (fun _ h => by cases h) (by simp [aOp, aPure, hx, hi]) rfl
theorem st_not {t : TypeId} {x : Operand} {b : Bool} (hx : ev1 T x = some (.bool b)) : Stp C N ops ⟨d, .unOp .not t x, ty, pos, after, none⟩ T s (.bool (!b)) s :=
  Stp.of_aOp (ns := []) rfl (fun _ _ _ h => by cases h) (fun _ h => by cases h) (by cases b <;> simp [aOp, aPure, hx]) rfl
theorem st_notD {t : TypeId} {x : Operand} {p : Prop} [Decidable p] (hx : ev1 T x = some (.bool (decide p))) : Stp C N ops ⟨d, .unOp .not t x, ty, pos, after, none⟩ T s (.bool (decide (¬p))) s := by
  have := st_not (C := C) (N := N) (s := s) (ops := ops) (d := d) (ty := ty) (pos := pos) (after := after) (t := t) hx
  rwa [show (!decide p) = decide (¬p) by by_cases h : p <;> simp [h]] at this
/-- Two whole numbers. -/
theorem st_int {op : BinOp} {t t' : TypeId} {x y : Operand} {k : IntKind} {a b : Int} (hx : ev1 T x = some (.int k a)) (hy : ev1 T y = some (.int k b)) (h : intOp op k a b = some v) : Stp C N ops ⟨d, .binOp op t x y t', ty, pos, after, none⟩ T s v s :=
  Stp.of_aOp (ns := []) rfl (fun _ _ _ h => by cases h) (fun _ h => by cases h) (by simp [aOp, aPure, aBin, hx, hy, h]) rfl
theorem st_addw {t t' : TypeId} {x y : Operand} {k : IntKind} {a b : Int} (hx : ev1 T x = some (.int k a)) (hy : ev1 T y = some (.int k b)) : Stp C N ops ⟨d, .binOp .add t x y t', ty, pos, after, none⟩ T s (.int k (k.wrap (a + b))) s :=
  st_int hx hy (by simp only [intOp, wrapF_eq]; rfl)
theorem st_subw {t t' : TypeId} {x y : Operand} {k : IntKind} {a b : Int} (hx : ev1 T x = some (.int k a)) (hy : ev1 T y = some (.int k b)) : Stp C N ops ⟨d, .binOp .sub t x y t', ty, pos, after, none⟩ T s (.int k (k.wrap (a - b))) s :=
  st_int hx hy (by simp only [intOp, wrapF_eq]; rfl)
theorem st_mulw {t t' : TypeId} {x y : Operand} {k : IntKind} {a b : Int} (hx : ev1 T x = some (.int k a)) (hy : ev1 T y = some (.int k b)) : Stp C N ops ⟨d, .binOp .mul t x y t', ty, pos, after, none⟩ T s (.int k (k.wrap (a * b))) s :=
  st_int hx hy (by simp only [intOp, wrapF_eq]; rfl)
/-- Small enough. -/
def sm (n : Int) : Prop := -4611686018427387904 ≤ n ∧ n ≤ 4611686018427387904
theorem wrap_sm {n : Int} (h1 : -4611686018427387904 ≤ n) (h2 : n ≤ 4611686018427387904) : IntKind.i64.wrap n = n := IntWalk.i64_in n ⟨by omega, by omega⟩
theorem st_add {t t' : TypeId} {x y : Operand} {a b c : Int} (hx : ev1 T x = some (.int .i64 a)) (hy : ev1 T y = some (.int .i64 b)) (h : a + b = c ∧ sm c) : Stp C N ops ⟨d, .binOp .add t x y t', ty, pos, after, none⟩ T s (.int .i64 c) s := by
  have := st_addw (C := C) (N := N) (s := s) (ops := ops) (d := d) (ty := ty) (pos := pos) (after := after) (t := t) (t' := t') hx hy
  obtain ⟨rfl, h1, h2⟩ := h
  rwa [wrap_sm h1 h2] at this
theorem st_sub {t t' : TypeId} {x y : Operand} {a b c : Int} (hx : ev1 T x = some (.int .i64 a)) (hy : ev1 T y = some (.int .i64 b)) (h : a - b = c ∧ sm c) : Stp C N ops ⟨d, .binOp .sub t x y t', ty, pos, after, none⟩ T s (.int .i64 c) s := by
  have := st_subw (C := C) (N := N) (s := s) (ops := ops) (d := d) (ty := ty) (pos := pos) (after := after) (t := t) (t' := t') hx hy
  obtain ⟨rfl, h1, h2⟩ := h
  rwa [wrap_sm h1 h2] at this
theorem st_mul {t t' : TypeId} {x y : Operand} {a b c : Int} (hx : ev1 T x = some (.int .i64 a)) (hy : ev1 T y = some (.int .i64 b)) (h : a * b = c ∧ sm c) : Stp C N ops ⟨d, .binOp .mul t x y t', ty, pos, after, none⟩ T s (.int .i64 c) s := by
  have := st_mulw (C := C) (N := N) (s := s) (ops := ops) (d := d) (ty := ty) (pos := pos) (after := after) (t := t) (t' := t') hx hy
  obtain ⟨rfl, h1, h2⟩ := h
  rwa [wrap_sm h1 h2] at this
theorem st_lt {t t' : TypeId} {x y : Operand} {k : IntKind} {a b : Int} (hx : ev1 T x = some (.int k a)) (hy : ev1 T y = some (.int k b)) : Stp C N ops ⟨d, .binOp .lss t x y t', ty, pos, after, none⟩ T s (.bool (decide (a < b))) s :=
  st_int hx hy (by
    simp only [intOp, neg_rec, leI_eq]
    rw [show (!decide (b ≤ a)) = decide (a < b) by by_cases h : b ≤ a <;> simp [h] <;> omega])
theorem st_le {t t' : TypeId} {x y : Operand} {k : IntKind} {a b : Int} (hx : ev1 T x = some (.int k a)) (hy : ev1 T y = some (.int k b)) : Stp C N ops ⟨d, .binOp .leq t x y t', ty, pos, after, none⟩ T s (.bool (decide (a ≤ b))) s :=
  st_int hx hy (by simp only [intOp, neg_rec, leI_eq])
theorem st_gt {t t' : TypeId} {x y : Operand} {k : IntKind} {a b : Int} (hx : ev1 T x = some (.int k a)) (hy : ev1 T y = some (.int k b)) : Stp C N ops ⟨d, .binOp .gtr t x y t', ty, pos, after, none⟩ T s (.bool (decide (b < a))) s :=
  st_int hx hy (by
    simp only [intOp, neg_rec, leI_eq]
    rw [show (!decide (a ≤ b)) = decide (b < a) by by_cases h : a ≤ b <;> simp [h] <;> omega])
theorem st_ge {t t' : TypeId} {x y : Operand} {k : IntKind} {a b : Int} (hx : ev1 T x = some (.int k a)) (hy : ev1 T y = some (.int k b)) : Stp C N ops ⟨d, .binOp .geq t x y t', ty, pos, after, none⟩ T s (.bool (decide (b ≤ a))) s :=
  st_int hx hy (by simp only [intOp, neg_rec, leI_eq])
theorem st_eq {t t' : TypeId} {x y : Operand} {k : IntKind} {a b : Int} (hx : ev1 T x = some (.int k a)) (hy : ev1 T y = some (.int k b)) : Stp C N ops ⟨d, .binOp .eql t x y t', ty, pos, after, none⟩ T s (.bool (decide (a = b))) s :=
  st_int hx hy (by simp only [intOp, eqI_eq]; rfl)
theorem st_ne {t t' : TypeId} {x y : Operand} {k : IntKind} {a b : Int} (hx : ev1 T x = some (.int k a)) (hy : ev1 T y = some (.int k b)) : Stp C N ops ⟨d, .binOp .neq t x y t', ty, pos, after, none⟩ T s (.bool (decide (a ≠ b))) s :=
  st_int hx hy (by
    simp only [intOp, neg_rec, eqI_eq]
    rw [show (!(a == b)) = decide (a ≠ b) by by_cases h : a = b <;> simp [h]])
theorem st_cv {src dst : TypeId} {x : Operand} {k k' : IntKind} {n : Int} {i1 : TypeInfo × TypeDesc} {i2 : TypeInfo} (h1 : C.ty src = some i1) (h2 : C.ty dst = some (i2, .int k)) (hx : ev1 T x = some (.int k' n)) : Stp C N ops ⟨d, .convert src dst x, ty, pos, after, none⟩ T s (.int k (k.wrap n)) s :=
  Stp.of_aOp (ns := []) rfl (fun _ _ _ h => by cases h) (fun _ h => by cases h) (by
    obtain ⟨i1, d1⟩ := i1
    cases d1 <;> simp [aOp, aConv, aPure, h1, h2, hx, wrapF_eq]) rfl
theorem st_cvi {src dst : TypeId} {x : Operand} {k k' : IntKind} {n : Int} {i1 : TypeInfo × TypeDesc} {i2 : TypeInfo} (h1 : C.ty src = some i1) (h2 : C.ty dst = some (i2, .int k)) (hx : ev1 T x = some (.int k' n)) (h3 : k.wrap n = n) : Stp C N ops ⟨d, .convert src dst x, ty, pos, after, none⟩ T s (.int k n) s := by
  have := st_cv (C := C) (N := N) (s := s) (ops := ops) (d := d) (ty := ty) (pos := pos) (after := after) h1 h2 hx
  rwa [h3] at this
theorem st_mi {t : TypeId} {x : Operand} {ti : TypeInfo × TypeDesc} (h1 : C.ty t = some ti) (hx : ev1 T x = some v) (hd : (match ti.2 with | .interface _ => false | _ => true) = true) : Stp C N ops ⟨d, .makeInterface t x, ty, pos, after, none⟩ T s (.iface t v) s :=
  Stp.of_aOp (ns := []) rfl (fun _ _ _ h => by cases h) (fun _ h => by cases h) (by
    obtain ⟨i1, d1⟩ := ti
    cases d1 <;> simp_all [aOp, aPure]) rfl
theorem st_mf {f : FuncId} {cap : Array Operand} {vs : List Value} (h : evs T cap.toList = some vs) : Stp C N ops ⟨d, .makeFunc (.func f) #[] cap, ty, pos, after, none⟩ T s (.func (.func f) #[] ⟨vs⟩) s :=
  Stp.of_aOp (ns := []) rfl (fun _ _ _ h => by cases h) (fun _ h => by cases h) (by simp [aOp, aPure, h]) rfl
theorem st_fa {t : TypeId} {x : Operand} {i a q : Nat} {ti : TypeInfo} {fs : Array Field} {f : Field} {fi : TypeInfo × TypeDesc} {z : Nat} (h1 : C.ty t = some (ti, .struct fs)) (hx : ev1 T x = some (.pointer (some ⟨a, q, none⟩))) (hf : nth fs.toList i = some f) (hfi : C.ty f.type = some fi) (hz : fi.1.size = Nat.succ z) :
    Stp C N ops ⟨d, .fieldAddr t x i, ty, pos, after, none⟩ T s (.pointer (some ⟨a, q + f.offset, none⟩)) s :=
  Stp.of_aOp (ns := []) rfl (fun _ _ _ h => by cases h) (fun _ h => by cases h) (by simp [aOp, aPure, h1, hx, hf, hfi, hz]) rfl
theorem st_fd {t : TypeId} {x : Operand} {i : Nat} {ti : TypeInfo} {fs : Array Field} {f : Field} {fi : TypeInfo × TypeDesc} {vs : List Value} {ns : List Bool} (h1 : C.ty t = some (ti, .struct fs)) (hx : ev1 T x = some (.agg ⟨vs⟩)) (hf : nth fs.toList i = some f) (hfi : C.ty f.type = some fi) (h : apart fi vs f.offset = some (v, ns)) (hn : allB ns = true) :
    Stp C N ops ⟨d, .field t x i, ty, pos, after, none⟩ T s v s :=
  Stp.of_aOp (ns := ns) rfl (fun _ _ _ h => by cases h) (fun _ h => by cases h) (by simp [aOp, aPure, h1, hx, hf, hfi, h]) hn
/-- A place in a slice. -/
theorem st_ia {t e : TypeId} {x i : Operand} {a q z n c : Nat} {k : IntKind} {j : Int} {ti : TypeInfo} {ei : TypeInfo × TypeDesc} (h1 : C.ty t = some (ti, .slice e)) (h2 : C.ty e = some ei) (hz : ei.1.size = z) (hx : ev1 T x = some (.slice (some ⟨a, q, some z⟩) n c)) (hi : ev1 T i = some (.int k j)) (h0 : 0 ≤ j) (hn : j < n) :
    Stp C N ops ⟨d, .indexAddr t x i, ty, pos, after, none⟩ T s (.pointer (some ⟨a, q + j.toNat * z, none⟩)) s := by
  refine Stp.of_aOp (ns := [leI 0 j, Nat.ble (Nat.succ (toNatF j)) n, Nat.beq z ei.1.size]) rfl (fun _ _ _ h => by cases h) (fun _ h => by cases h) ?_ ?_
  · simp [aOp, aPure, h1, h2, hx, hi, toNatF_eq]
  · rw [leI_eq, toNatF_eq, hz]
    have : Nat.ble (Nat.succ j.toNat) n = true := ble_iff.2 (by omega)
    simp [allB, h0, this, Nat.beq_refl]
/-- A byte of a text. -/
theorem st_ib {t : TypeId} {x i : Operand} {k : IntKind} {j : Int} {b : List UInt8} {u : UInt8} {ti : TypeInfo} (h1 : C.ty t = some (ti, .string)) (hx : ev1 T x = some (str b)) (hi : ev1 T i = some (.int k j)) (h0 : 0 ≤ j) (hb : b[j.toNat]? = some u) :
    Stp C N ops ⟨d, .index t x i, ty, pos, after, none⟩ T s (bytes1 u) s := by
  refine Stp.of_aOp (ns := [leI 0 j]) rfl (fun _ _ _ h => by cases h) (fun _ h => by cases h) ?_ ?_
  · simp [aOp, aPure, h1, hx, hi, toNatF_eq, nth_eq, hb, bytes1]
  · rw [leI_eq]; simp [allB, h0]
/-- An element of an array that is a value. -/
theorem st_ix {t e : TypeId} {x i : Operand} {k : IntKind} {j : Int} {vs : List Value} {n : Nat} {ti : TypeInfo} {ei : TypeInfo × TypeDesc} {ns : List Bool} (h1 : C.ty t = some (ti, .array n e)) (h2 : C.ty e = some ei) (hx : ev1 T x = some (.agg ⟨vs⟩)) (hi : ev1 T i = some (.int k j)) (h0 : 0 ≤ j) (hj : j < n) (h : apart ei vs (j.toNat * ei.1.size) = some (v, ns)) (hn : allB ns = true) :
    Stp C N ops ⟨d, .index t x i, ty, pos, after, none⟩ T s v s := by
  refine Stp.of_aOp (ns := leI 0 j :: Nat.ble (Nat.succ (toNatF j)) n :: ns) rfl (fun _ _ _ h => by cases h) (fun _ h => by cases h) ?_ ?_
  · simp only [aOp, aPure, h1, h2, hx, hi, toNatF_eq, Option.bind_some]
    rw [show Nat.mul j.toNat ei.1.size = j.toNat * ei.1.size from rfl, h]
    rfl
  · rw [leI_eq, toNatF_eq]
    have : Nat.ble (Nat.succ j.toNat) n = true := ble_iff.2 (by omega)
    show Bool.rec (motive := fun _ => Bool) false (Bool.rec (motive := fun _ => Bool) false (allB ns) (Nat.ble (Nat.succ j.toNat) n)) (decide (0 ≤ j)) = true
    rw [this, decide_eq_true h0, hn]
/-- Lengths. -/
theorem st_lenS {t : TypeId} {x : Operand} {b : List UInt8} {ti : TypeInfo} (h1 : C.ty t = some (ti, .string)) (hx : ev1 T x = some (str b)) : Stp C N ops ⟨d, .call ⟨.builtin .len, #[x], #[t]⟩, ty, pos, after, none⟩ T s (.int .i64 (b.length : Int)) s :=
  Stp.of_aOp (ns := []) rfl (fun _ _ _ h => by cases h) (fun _ h => by cases h) (by simp [aOp, aPure, evs, h1, hx, len_eq]) rfl
theorem st_lenL {t e : TypeId} {x : Operand} {p : Option Addr} {n c : Nat} {ti : TypeInfo} (h1 : C.ty t = some (ti, .slice e)) (hx : ev1 T x = some (.slice p n c)) : Stp C N ops ⟨d, .call ⟨.builtin .len, #[x], #[t]⟩, ty, pos, after, none⟩ T s (.int .i64 (n : Int)) s :=
  Stp.of_aOp (ns := []) rfl (fun _ _ _ h => by cases h) (fun _ h => by cases h) (by simp [aOp, aPure, evs, h1, hx, len_eq]) rfl

/-- Cutting. -/
theorem st_cutS {t : TypeId} {x : Operand} {lo hi : Option Operand} {b : List UInt8} {i j : Int} {ti : TypeInfo} (h1 : C.ty t = some (ti, .string)) (hx : ev1 T x = some (str b)) (hl : lowOf T lo = some i) (hh : highOf T b.length hi = some j) (h0 : 0 ≤ i) (h2 : i ≤ j) (h3 : j ≤ b.length) :
    Stp C N ops ⟨d, .slice t x lo hi none, ty, pos, after, none⟩ T s (str ((b.drop i.toNat).take (j.toNat - i.toNat))) s := by
  refine Stp.of_aOp (ns := [leI 0 i, leI i j, leI j (Int.ofNat b.length)]) rfl (fun _ _ _ h => by cases h) (fun _ h => by cases h) ?_ ?_
  · simp only [aOp, aPure, h1, hx, hl, len_eq, hh, Option.bind_some, toNatF_eq, tak_eq, dro_eq]
    rfl
  · rw [leI_eq, leI_eq, leI_eq]; simp [allB, h0, h2, h3]
theorem st_cutL {t e : TypeId} {x : Operand} {lo hi : Option Operand} {a q z n c : Nat} {i j : Int} {ti : TypeInfo} {ei : TypeInfo × TypeDesc} (h1 : C.ty t = some (ti, .slice e)) (h4 : C.ty e = some ei) (hz : ei.1.size = z) (hx : ev1 T x = some (.slice (some ⟨a, q, some z⟩) n c)) (hl : lowOf T lo = some i) (hh : highOf T n hi = some j) (h0 : 0 ≤ i) (h2 : i ≤ j) (h3 : j ≤ n) :
    Stp C N ops ⟨d, .slice t x lo hi none, ty, pos, after, none⟩ T s (.slice (some ⟨a, q + i.toNat * z, some z⟩) (j.toNat - i.toNat) 0) s := by
  refine Stp.of_aOp (ns := [leI 0 i, leI i j, leI j (Int.ofNat n), Nat.beq z ei.1.size]) rfl (fun _ _ _ h => by cases h) (fun _ h => by cases h) ?_ ?_
  · simp only [aOp, aPure, h1, h4, hx, hl, hh, Option.bind_some, toNatF_eq]
    rfl
  · rw [leI_eq, leI_eq, leI_eq, hz, Nat.beq_refl]; simp [allB, h0, h2, h3]
theorem st_cut0 {t e : TypeId} {x : Operand} {lo hi : Option Operand} {ti : TypeInfo} {ei : TypeInfo × TypeDesc} (h1 : C.ty t = some (ti, .slice e)) (h4 : C.ty e = some ei) (hx : ev1 T x = some (.slice none 0 0)) (hl : lowOf T lo = some 0) (hh : highOf T 0 hi = some 0) :
    Stp C N ops ⟨d, .slice t x lo hi none, ty, pos, after, none⟩ T s (.slice none 0 0) s := by
  refine Stp.of_aOp (ns := [eqI 0 0, eqI 0 0, Nat.beq 0 0, Nat.beq 0 0]) rfl (fun _ _ _ h => by cases h) (fun _ h => by cases h) ?_ rfl
  simp only [aOp, aPure, h1, h4, hx, hl, hh, Option.bind_some]
/-- Texts. -/
theorem st_str {op : BinOp} {t t' : TypeId} {x y : Operand} {a b : List UInt8} (hx : ev1 T x = some (str a)) (hy : ev1 T y = some (str b)) (h : strOp op ⟨⟨a⟩⟩ ⟨⟨b⟩⟩ = some v) : Stp C N ops ⟨d, .binOp op t x y t', ty, pos, after, none⟩ T s v s :=
  Stp.of_aOp (ns := []) rfl (fun _ _ _ h => by cases h) (fun _ h => by cases h) (by simp [aOp, aPure, aBin, hx, hy, h]) rfl
theorem st_cat {t t' : TypeId} {x y : Operand} {a b : List UInt8} (hx : ev1 T x = some (str a)) (hy : ev1 T y = some (str b)) (h : a.length + b.length ≤ 4611686018427387904) : Stp C N ops ⟨d, .binOp .add t x y t', ty, pos, after, none⟩ T s (str (a ++ b)) s :=
  st_str hx hy (by
    have : Nat.ble (Nat.add a.length b.length) 9223372036854775807 = true := ble_iff.2 (Nat.le_trans h (by decide))
    simp only [strOp, len_eq, bapp, app_eq]
    rw [this])
theorem st_eqS {t t' : TypeId} {x y : Operand} {a b : List UInt8} (hx : ev1 T x = some (str a)) (hy : ev1 T y = some (str b)) : Stp C N ops ⟨d, .binOp .eql t x y t', ty, pos, after, none⟩ T s (.bool (decide (a = b))) s :=
  st_str hx hy (by simp only [strOp, eqB_eq]; rw [show (a == b) = decide (a = b) by by_cases h : a = b <;> simp [h]])
theorem st_neS {t t' : TypeId} {x y : Operand} {a b : List UInt8} (hx : ev1 T x = some (str a)) (hy : ev1 T y = some (str b)) : Stp C N ops ⟨d, .binOp .neq t x y t', ty, pos, after, none⟩ T s (.bool (decide (a ≠ b))) s :=
  st_str hx hy (by simp only [strOp, eqB_eq, neg_rec]; rw [show (!(a == b)) = decide (a ≠ b) by by_cases h : a = b <;> simp [h]])
/-- The order of texts. -/
abbrev sLt (a b : List UInt8) : Bool := Op.bytesLess a b
theorem st_ltS {t t' : TypeId} {x y : Operand} {a b : List UInt8} (hx : ev1 T x = some (str a)) (hy : ev1 T y = some (str b)) : Stp C N ops ⟨d, .binOp .lss t x y t', ty, pos, after, none⟩ T s (.bool (sLt a b)) s :=
  st_str hx hy (by simp only [strOp, ltB_eq])
theorem st_geS {t t' : TypeId} {x y : Operand} {a b : List UInt8} (hx : ev1 T x = some (str a)) (hy : ev1 T y = some (str b)) : Stp C N ops ⟨d, .binOp .geq t x y t', ty, pos, after, none⟩ T s (.bool (!sLt a b)) s :=
  st_str hx hy (by simp only [strOp, ltB_eq, neg_rec])
theorem st_leS {t t' : TypeId} {x y : Operand} {a b : List UInt8} (hx : ev1 T x = some (str a)) (hy : ev1 T y = some (str b)) : Stp C N ops ⟨d, .binOp .leq t x y t', ty, pos, after, none⟩ T s (.bool (sLt a b || decide (a = b))) s :=
  st_str hx hy (by simp only [strOp, ltB_eq, eqB_eq, or_rec]; rw [show (a == b) = decide (a = b) by by_cases h : a = b <;> simp [h]])
theorem st_gtS {t t' : TypeId} {x y : Operand} {a b : List UInt8} (hx : ev1 T x = some (str a)) (hy : ev1 T y = some (str b)) : Stp C N ops ⟨d, .binOp .gtr t x y t', ty, pos, after, none⟩ T s (.bool (!(sLt a b || decide (a = b)))) s :=
  st_str hx hy (by simp only [strOp, ltB_eq, eqB_eq, or_rec, neg_rec]; rw [show (a == b) = decide (a = b) by by_cases h : a = b <;> simp [h]])
/-- Shifts and bits of what is not negative. -/
theorem st_sho {op : BinOp} (hop : ∀ k a b, intOp op k a b = none) {t t' : TypeId} {x y : Operand} {k k' : IntKind} {a b : Int} (hx : ev1 T x = some (.int k a)) (hy : ev1 T y = some (.int k' b)) (h : shOp op k a b = some v) : Stp C N ops ⟨d, .binOp op t x y t', ty, pos, after, none⟩ T s v s := by
  refine Stp.of_aOp (ns := []) rfl (fun _ _ _ h => by cases h) (fun _ h => by cases h) ?_ rfl
  simp only [aOp, aPure, aBin, hx, hy, Option.bind_some, hop, h]
  by_cases hk : k = k' <;> simp [hk]
theorem minF_le {n k : Nat} (h : n ≤ k) : minF n k = n := by
  unfold minF
  rw [show Nat.ble n k = true from ble_iff.2 h]
theorem st_shr {t t' : TypeId} {x y : Operand} {k k' : IntKind} {m n : Nat} (hx : ev1 T x = some (.int k (m : Int))) (hy : ev1 T y = some (.int k' (n : Int))) (h : n ≤ k.bits) : Stp C N ops ⟨d, .binOp .shr t x y t', ty, pos, after, none⟩ T s (.int k ((m / 2 ^ n : Nat) : Int)) s :=
  st_sho (fun _ _ _ => rfl) hx hy (by
    show some (Value.int k (Int.ofNat (Nat.div m (Nat.pow 2 (minF n k.bits))))) = _
    rw [minF_le h]; rfl)
theorem st_shl {t t' : TypeId} {x y : Operand} {k k' : IntKind} {m n : Nat} (hx : ev1 T x = some (.int k (m : Int))) (hy : ev1 T y = some (.int k' (n : Int))) (h : n ≤ k.bits) : Stp C N ops ⟨d, .binOp .shl t x y t', ty, pos, after, none⟩ T s (.int k (k.wrap ((m * 2 ^ n : Nat) : Int))) s :=
  st_sho (fun _ _ _ => rfl) hx hy (by
    show some (Value.int k (wrapF k (Int.ofNat (Nat.mul m (Nat.pow 2 (minF n k.bits)))))) = _
    rw [minF_le h, wrapF_eq]; rfl)
theorem st_and {t t' : TypeId} {x y : Operand} {k : IntKind} {m n : Nat} (hx : ev1 T x = some (.int k (m : Int))) (hy : ev1 T y = some (.int k (n : Int))) : Stp C N ops ⟨d, .binOp .and t x y t', ty, pos, after, none⟩ T s (.int k (k.wrap (((m % 2 ^ k.bits) &&& (n % 2 ^ k.bits) : Nat) : Int))) s :=
  st_int hx hy (by rw [← wrapF_eq]; rfl)
theorem st_or {t t' : TypeId} {x y : Operand} {k : IntKind} {m n : Nat} (hx : ev1 T x = some (.int k (m : Int))) (hy : ev1 T y = some (.int k (n : Int))) : Stp C N ops ⟨d, .binOp .or t x y t', ty, pos, after, none⟩ T s (.int k (k.wrap (((m % 2 ^ k.bits) ||| (n % 2 ^ k.bits) : Nat) : Int))) s :=
  st_int hx hy (by rw [← wrapF_eq]; rfl)
theorem st_xor {t t' : TypeId} {x y : Operand} {k : IntKind} {m n : Nat} (hx : ev1 T x = some (.int k (m : Int))) (hy : ev1 T y = some (.int k (n : Int))) : Stp C N ops ⟨d, .binOp .xor t x y t', ty, pos, after, none⟩ T s (.int k (k.wrap (((m % 2 ^ k.bits) ^^^ (n % 2 ^ k.bits) : Nat) : Int))) s :=
  st_int hx hy (by rw [← wrapF_eq]; rfl)
/-- Memory: a new cell or struct. -/
theorem st_al {t : TypeId} {ti : TypeInfo × TypeDesc} {zv : Value} {zs : List Value} {h : List (Nat × Obj)} {nx : Nat} {rd wr : List Nat} {df : List Value} (h1 : C.ty t = some ti) (hz : ti.1.zero = some zv) (hzs : zv.cells = ⟨zs⟩) (hf : flats zs = true) :
    Stp C N ops ⟨d, .alloc t, ty, pos, after, none⟩ T ⟨h, nx, rd, wr, df⟩ (.pointer (some ⟨nx, 0, none⟩)) ⟨(nx, .cells ⟨zs⟩ t (0, 0)) :: h, nx + 1, rd, wr, df⟩ :=
  Stp.of_aOp (ns := [flats zs]) rfl (fun _ _ _ h => by cases h) (fun _ h => by cases h) (by simp [aOp, aAlloc, h1, hz, hzs, newB]) (by simp [allB, hf])
theorem st_bx {t : TypeId} {x : Operand} {vs : List Value} {h : List (Nat × Obj)} {nx : Nat} {rd wr : List Nat} {df : List Value} (hx : ev1 T x = some v) (hv : v.cells = ⟨vs⟩) (hj : nj v = true := by rfl) :
    Stp C N ops ⟨d, .box t x, ty, pos, after, none⟩ T ⟨h, nx, rd, wr, df⟩ (.pointer (some ⟨nx, 0, none⟩)) ⟨(nx, .cells ⟨vs⟩ t (0, 0)) :: h, nx + 1, rd, wr, df⟩ :=
  Stp.of_aOp (ns := [nj v]) rfl (fun _ _ _ h => by cases h) (fun _ h => by cases h) (by simp [aOp, aBox, hx, newB, hv]) (by rw [hj]; rfl)
/-- Memory: one cell read. -/
theorem st_ld {t : TypeId} {x : Operand} {a o : Nat} {cs : List Value} {ct : TypeId} {cf : Nat × Nat} {ti : TypeInfo × TypeDesc} {h : List (Nat × Obj)} {nx : Nat} {rd wr : List Nat} {df : List Value} (h1 : C.ty t = some ti) (hg : isAggD ti.2 = false) (hx : ev1 T x = some (.pointer (some ⟨a, o, none⟩))) (hh : aget h a = some (.cells ⟨cs⟩ ct cf)) (hv : nth cs o = some v) :
    Stp C N ops ⟨d, .load t x, ty, pos, after, none⟩ T ⟨h, nx, rd, wr, df⟩ v ⟨h, nx, lg rd a, wr, df⟩ :=
  Stp.of_aOp (ns := []) rfl (fun _ _ _ h => by cases h) (fun _ h => by cases h) (by simp [aOp, aLoad, aLoadV, h1, hg, hx, hh, hv, rdS]) rfl
/-- Memory: a struct (or array) read. -/
theorem st_lA {t : TypeId} {x : Operand} {a o : Nat} {cs vs : List Value} {ct : TypeId} {cf : Nat × Nat} {ti : TypeInfo × TypeDesc} {h : List (Nat × Obj)} {nx : Nat} {rd wr : List Nat} {df : List Value} (h1 : C.ty t = some ti) (hg : isAggD ti.2 = true) (hx : ev1 T x = some (.pointer (some ⟨a, o, none⟩))) (hh : aget h a = some (.cells ⟨cs⟩ ct cf)) (hv : (cs.drop o).take ti.1.size = vs) (hl : vs.length = ti.1.size) :
    Stp C N ops ⟨d, .load t x, ty, pos, after, none⟩ T ⟨h, nx, rd, wr, df⟩ (.agg ⟨vs⟩) ⟨h, nx, lg rd a, wr, df⟩ := by
  refine Stp.of_aOp (ns := [Nat.beq (len ((cs.drop o).take ti.1.size)) ti.1.size]) rfl (fun _ _ _ h => by cases h) (fun _ h => by cases h) (by simp [aOp, aLoad, aLoadV, h1, hg, hx, hh, rdS, tak_eq, dro_eq, hv]) ?_
  rw [len_eq, hv, hl, Nat.beq_refl]; rfl
/-- Memory: a store. -/
theorem st_st {t : TypeId} {x y : Operand} {a o : Nat} {cs cs' vs : List Value} {ct : TypeId} {cf : Nat × Nat} {ti : TypeInfo × TypeDesc} {h h' : List (Nat × Obj)} {nx : Nat} {rd wr : List Nat} {df : List Value} {u : Value} (h1 : C.ty t = some ti) (hx : ev1 T x = some (.pointer (some ⟨a, o, none⟩))) (hy : ev1 T y = some u) (hu : u.cells = ⟨vs⟩) (hh : aget h a = some (.cells ⟨cs⟩ ct cf))
    (hl : vs.length = ti.1.size) (ho : ones vs = true) (hs : o + ti.1.size ≤ cs.length) (hc : cs.take o ++ (vs ++ cs.drop (o + vs.length)) = cs') (hh' : aput h a (.cells ⟨cs'⟩ ct cf) = h') (hro : Nat.beq cf.1 1 = false := by rfl) :
    Stp C N ops ⟨d, .store t x y, ty, pos, after, none⟩ T ⟨h, nx, rd, wr, df⟩ undef ⟨h', nx, rd, lg wr a, df⟩ := by
  refine Stp.of_aOp (ns := [Nat.beq (len vs) ti.1.size, ones vs, Nat.ble (Nat.add o ti.1.size) (len cs), not (Nat.beq cf.1 1)]) rfl (fun _ _ _ h => by cases h) (fun _ h => by cases h) ?_ ?_
  · subst hh'; subst hc
    simp [aOp, aStore, h1, hx, hy, hh, hu, wrS, splice_eq, ro]
  · rw [len_eq, len_eq, hl, Nat.beq_refl, ho, show Nat.ble (Nat.add o ti.1.size) cs.length = true from ble_iff.2 hs, hro]; rfl

/-- Appending: what is appended. -/
def Apd (C : Cfg) (h : List (Nat × Obj)) (size : Nat) (xt : TypeId) (u : Value) (k : Nat) (news : List Value) (rd' : List Nat) : Prop :=
  ∀ (nx : Nat) (rd wr : List Nat) (df : List Value), ∃ ns, aSrc C ⟨h, nx, rd, wr, df⟩ size xt u = some (k, news, ns, ⟨h, nx, List.rec (motive := fun _ => List Nat) rd (fun a _ ih => lg ih a) rd', wr, df⟩) ∧ allB ns = true
theorem apd_nil {h : List (Nat × Obj)} {size : Nat} {xt e : TypeId} {ti : TypeInfo} (h1 : C.ty xt = some (ti, .slice e)) : Apd C h size xt (.slice none 0 0) 0 [] [] :=
  fun nx rd wr df => ⟨[], by simp [aSrc, h1], rfl⟩
theorem apd_row {h : List (Nat × Obj)} {size : Nat} {xt e : TypeId} {ti : TypeInfo} {b r k c : Nat} {cs news : List Value} {ct : TypeId} {cf : Nat × Nat} (h1 : C.ty xt = some (ti, .slice e)) (hh : aget h b = some (.cells ⟨cs⟩ ct cf)) (hn : (cs.drop r).take (k * size) = news) (hl : news.length = k * size) (ho : ones news = true) : Apd C h size xt (.slice (some ⟨b, r, some size⟩) k c) k news [b] := by
  intro nx rd wr df
  refine ⟨[Nat.beq size size, Nat.beq (len news) (Nat.mul k size), ones news], ?_, ?_⟩
  · have e : tak (dro cs r) (Nat.mul k size) = news := by rw [tak_eq, dro_eq]; exact hn
    simp only [aSrc, h1, hh, e]
    rfl
  · rw [len_eq, hl, ho, Nat.beq_refl, show Nat.beq (k * size) (Nat.mul k size) = true from Nat.beq_refl _]; rfl
theorem apd_str {h : List (Nat × Obj)} {xt : TypeId} {ti : TypeInfo} {b : List UInt8} (h1 : C.ty xt = some (ti, .string)) : Apd C h 1 xt (str b) b.length (bytesV b) [] := by
  intro nx rd wr df
  refine ⟨[Nat.beq 1 1], ?_, rfl⟩
  rw [bytesV_map]
  simp only [aSrc, h1, len_eq, bytes_rec]
  rfl
/-- Appending to nothing. -/
theorem st_ap0 {t xt e : TypeId} {x y : Operand} {u : Value} {k : Nat} {news : List Value} {rd' : List Nat} {ti : TypeInfo} {ei : TypeInfo × TypeDesc} {zv : Value} {h : List (Nat × Obj)} {nx : Nat} (h1 : C.ty t = some (ti, .slice e)) (h2 : C.ty e = some ei) (hz : ei.1.zero = some zv) (hzl : zv.cells.toList.length = ei.1.size) (hby : ei.1.bytes ≤ 65536) (hx : ev1 T x = some (.slice none 0 0)) (hy : ev1 T y = some u)
    (ha : Apd C h ei.1.size xt u (Nat.succ k) news rd') (hk : k ≤ 100000000) :
    Stp C N ops ⟨d, .call ⟨.builtin .append, #[x, y], #[t, xt]⟩, ty, pos, after, none⟩ T ⟨h, nx, [], [], []⟩ (.slice (some ⟨nx, 0, some ei.1.size⟩) (Nat.succ k) 0) ⟨(nx, .cells ⟨news⟩ e (0, 0)) :: h, nx + 1, List.rec (motive := fun _ => List Nat) [] (fun a _ ih => lg ih a) rd', [], []⟩ := by
  obtain ⟨ns, hs, hn⟩ := ha nx [] [] []
  refine Stp.of_aOp (ns := Nat.ble (Nat.mul (Nat.add (Nat.mul 2 (Nat.succ k)) 768) ei.1.bytes) 281474976710656 :: Nat.ble (Nat.succ k) 9223372036854775807 :: Nat.beq (len zv.cells.toList) ei.1.size :: ns) rfl (fun _ _ _ h => by cases h) (fun _ h => by cases h) ?_ ?_
  · simp only [aOp, aAppend, h1, h2, hx, hy, hs, hz]
    rfl
  · have e1 : Nat.ble (Nat.mul (Nat.add (Nat.mul 2 (Nat.succ k)) 768) ei.1.bytes) 281474976710656 = true := ble_iff.2 (by
      show (2 * (k + 1) + 768) * ei.1.bytes ≤ 281474976710656
      exact Nat.le_trans (Nat.mul_le_mul (show 2 * (k + 1) + 768 ≤ 200000770 by omega) hby) (by decide))
    have e2 : Nat.ble (Nat.succ k) 9223372036854775807 = true := ble_iff.2 (Nat.le_trans (Nat.succ_le_succ hk) (by decide))
    rw [e1, e2, len_eq, hzl, Nat.beq_refl]
    exact hn
/-- Appending to a row that ends where the slice does. -/
theorem st_ap {t xt e : TypeId} {x y : Operand} {u : Value} {k n c a z : Nat} {c0 c1 news : List Value} {cf : Nat × Nat} {rd' : List Nat} {ti : TypeInfo} {ei : TypeInfo × TypeDesc} {zv : Value} {h h' : List (Nat × Obj)} {nx : Nat} (h1 : C.ty t = some (ti, .slice e)) (h2 : C.ty e = some ei) (hz : ei.1.zero = some zv) (hzl : zv.cells.toList.length = ei.1.size) (hzz : ei.1.size = z) (hby : ei.1.bytes ≤ 65536) (hx : ev1 T x = some (.slice (some ⟨a, 0, some z⟩) n c)) (hy : ev1 T y = some u)
    (ha : Apd C h z xt u (Nat.succ k) news rd') (hh : aget h a = some (.cells ⟨c0⟩ e cf)) (hl : c0.length = n * z) (ho : ones c0 = true) (hk : n + k ≤ 100000000) (hc : c0 ++ news = c1) (hh' : adel h a = h') (hro : Nat.beq cf.1 1 = false := by rfl) :
    Stp C N ops ⟨d, .call ⟨.builtin .append, #[x, y], #[t, xt]⟩, ty, pos, after, none⟩ T ⟨h, nx, [], [], []⟩ (.slice (some ⟨nx, 0, some z⟩) (n + Nat.succ k) 0) ⟨(nx, .cells ⟨c1⟩ e (0, 0)) :: h', nx + 1, List.rec (motive := fun _ => List Nat) [] (fun a _ ih => lg ih a) rd', [a], []⟩ := by
  obtain ⟨ns, hs, hn⟩ := ha nx [] [] []
  subst hzz; subst hc; subst hh'
  refine Stp.of_aOp (ns := Nat.ble (Nat.mul (Nat.add (Nat.mul 2 (Nat.add n (Nat.succ k))) 768) ei.1.bytes) 281474976710656 :: Nat.ble (Nat.add n (Nat.succ k)) 9223372036854775807 :: Nat.beq (len zv.cells.toList) ei.1.size :: Nat.beq 0 0 :: Nat.beq ei.1.size ei.1.size :: Nat.beq (len c0) (Nat.mul n ei.1.size) :: ones c0 :: Nat.beq e e :: not (ro (.cells ⟨c0⟩ e cf)) :: ns) rfl (fun _ _ _ h => by cases h) (fun _ h => by cases h) ?_ ?_
  · simp only [aOp, aAppend, h1, h2, hx, hy, hs, hz, hh]
    rw [app_eq]
    rfl
  · have e1 : Nat.ble (Nat.mul (Nat.add (Nat.mul 2 (Nat.add n (Nat.succ k))) 768) ei.1.bytes) 281474976710656 = true := ble_iff.2 (by
      show (2 * (n + (k + 1)) + 768) * ei.1.bytes ≤ 281474976710656
      exact Nat.le_trans (Nat.mul_le_mul (show 2 * (n + (k + 1)) + 768 ≤ 200000770 by omega) hby) (by decide))
    have e2 : Nat.ble (Nat.add n (Nat.succ k)) 9223372036854775807 = true := ble_iff.2 (Nat.le_trans (show n + (k + 1) ≤ 100000001 by omega) (by decide))
    rw [e1, e2, len_eq, hzl, len_eq, hl, ho, Nat.beq_refl, Nat.beq_refl, Nat.beq_refl, show Nat.beq (n * ei.1.size) (Nat.mul n ei.1.size) = true from Nat.beq_refl _, show ro (.cells ⟨c0⟩ e cf) = false from hro]
    exact hn
/-- Nothing is appended. -/
theorem st_apN {t xt e : TypeId} {x y : Operand} {u : Value} {p : Option Addr} {n c : Nat} {news : List Value} {rd' : List Nat} {ti : TypeInfo} {ei : TypeInfo × TypeDesc} {h : List (Nat × Obj)} {nx : Nat} (h1 : C.ty t = some (ti, .slice e)) (h2 : C.ty e = some ei) (hx : ev1 T x = some (.slice p n c)) (hp : (∃ a q z, p = some ⟨a, q, some z⟩) ∨ (p = none ∧ n ≤ c)) (hy : ev1 T y = some u) (ha : Apd C h ei.1.size xt u 0 news rd') :
    Stp C N ops ⟨d, .call ⟨.builtin .append, #[x, y], #[t, xt]⟩, ty, pos, after, none⟩ T ⟨h, nx, [], [], []⟩ (.slice p n c) ⟨h, nx, List.rec (motive := fun _ => List Nat) [] (fun a _ ih => lg ih a) rd', [], []⟩ := by
  obtain ⟨ns, hs, hn⟩ := ha nx [] [] []
  rcases hp with ⟨a, q, z, rfl⟩ | ⟨rfl, hle⟩
  · refine Stp.of_aOp (ns := ns) rfl (fun _ _ _ h => by cases h) (fun _ h => by cases h) ?_ hn
    simp only [aOp, aAppend, h1, h2, hx, hy, hs]
  · refine Stp.of_aOp (ns := Nat.ble n c :: ns) rfl (fun _ _ _ h => by cases h) (fun _ h => by cases h) ?_ ?_
    · simp only [aOp, aAppend, h1, h2, hx, hy, hs]
    · rw [show Nat.ble n c = true from ble_iff.2 hle]; exact hn
/-- A slice of what is given (the arguments behind the dots). -/
theorem st_bs {t e : TypeId} {n : Nat} {parts : Array (Nat × Operand)} {ps : List (Nat × Value)} {r zs : List Value} {ti : TypeInfo} {ei : TypeInfo × TypeDesc} {zv : Value} {h : List (Nat × Obj)} {nx : Nat} {rd wr : List Nat} {df : List Value} (h1 : C.ty t = some (ti, .slice e)) (h2 : C.ty e = some ei) (hz : ei.1.zero = some zv) (hzs : zv.cells = ⟨zs⟩) (hf : flats zs = true) (hz1 : Nat.ble 1 (len zs) = true) (hp : evps T parts.toList = some ps)
    (hr : afill (fun i => some (Nat.mul i ei.1.size, ei.1.size)) ps (zrow (Nat.mul n ei.1.size) zs) = some r) (hn : Nat.ble (Nat.mul n ei.1.size) 16777216 = true) (hl : len r = n * ei.1.size) :
    Stp C N ops ⟨d, .buildSlice t n parts, ty, pos, after, none⟩ T ⟨h, nx, rd, wr, df⟩ (.slice (some ⟨nx, 0, some ei.1.size⟩) n 0) ⟨(nx, .cells ⟨r⟩ e (0, 0)) :: h, nx + 1, rd, wr, df⟩ := by
  refine Stp.of_aOp (ns := [flats zs, Nat.ble 1 (len zs), Nat.ble (Nat.mul n ei.1.size) 16777216, Nat.beq (len r) (Nat.mul n ei.1.size)]) rfl (fun _ _ _ h => by cases h) (fun _ h => by cases h) ?_ ?_
  · simp only [aOp, aBuildSlice, h1, h2, hz, hzs, hp, hr, Option.bind_some]
    rfl
  · rw [hf, hz1, hn, hl, show Nat.beq (n * ei.1.size) (Nat.mul n ei.1.size) = true from Nat.beq_refl _]; rfl
/-- One element. -/
theorem st_bs1 {t e : TypeId} {x : Operand} {vs zs : List Value} {z : Nat} {ti : TypeInfo} {ei : TypeInfo × TypeDesc} {zv : Value} {h : List (Nat × Obj)} {nx : Nat} {rd wr : List Nat} {df : List Value} (h1 : C.ty t = some (ti, .slice e)) (h2 : C.ty e = some ei) (hzz : ei.1.size = z) (hz : ei.1.zero = some zv) (hzs : zv.cells = ⟨zs⟩) (hf : flats zs = true) (hzl : zs.length = z) (hz0 : 0 < z) (hz1 : z ≤ 1000) (hx : ev1 T x = some v) (hv : v.cells = ⟨vs⟩) (hvl : vs.length = z) (hj : nj v = true := by rfl) :
    Stp C N ops ⟨d, .buildSlice t 1 #[(0, x)], ty, pos, after, none⟩ T ⟨h, nx, rd, wr, df⟩ (.slice (some ⟨nx, 0, some z⟩) 1 0) ⟨(nx, .cells ⟨vs⟩ e (0, 0)) :: h, nx + 1, rd, wr, df⟩ := by
  subst hzz
  have hzr : zrow (Nat.mul 1 ei.1.size) zs = zs := by
    refine List.ext_getElem? fun i => ?_
    unfold zrow
    rw [List.getElem?_map]
    by_cases hi : i < zs.length
    · rw [List.getElem?_range (by show i < 1 * ei.1.size; omega)]
      simp only [Option.map_some, nth_eq, len_eq]
      rw [show Nat.mod i zs.length = i from Nat.mod_eq_of_lt hi, List.getElem?_eq_getElem hi]
      rfl
    · rw [List.getElem?_eq_none (by simp; omega), List.getElem?_eq_none (by omega)]
      rfl
  refine st_bs h1 h2 hz hzs hf ?_ (ps := [(0, v)]) ?_ ?_ ?_ ?_
  · rw [len_eq]; exact ble_iff.2 (by omega)
  · show (ev1 T x).bind (fun v => some [(0, v)]) = _
    rw [hx]; rfl
  · rw [hzr]
    show Bool.rec (motive := fun _ => Option (List Value)) none (Bool.rec (motive := fun _ => Option (List Value)) none (some (Ev.splice zs (Nat.mul 0 ei.1.size) v.cells.toList)) (Nat.ble (Nat.add (Nat.mul 0 ei.1.size) ei.1.size) (len zs))) (and (nj v) (Nat.beq (len v.cells.toList) ei.1.size)) = some vs
    rw [hj, hv, len_eq, len_eq, hvl, Nat.beq_refl, splice_eq, show Nat.mul 0 ei.1.size = 0 from Nat.zero_mul _, show Nat.ble (Nat.add 0 ei.1.size) zs.length = true from ble_iff.2 (by show 0 + ei.1.size ≤ _; omega)]
    simp only [List.take_zero, List.nil_append, Nat.zero_add, Bool.true_and]
    rw [List.drop_eq_nil_of_le (by omega), List.append_nil]
  · exact ble_iff.2 (by show 1 * ei.1.size ≤ _; omega)
  · rw [len_eq, hvl]; omega
end
end Go.Ev
