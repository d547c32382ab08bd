/- Words of my own: plain facts about bytes, rows, numbers. -/
import Derived.Test.YtlkfcabklaaacaaHv7
set_option linter.unusedVariables false
namespace Go.Ev
open Go.RowKit
/-- A number's bytes, the lowest first. -/
def le (n k : Nat) : List UInt8 := (List.range k).map fun i => UInt8.ofNat (n / 2 ^ (8 * i))
theorem le_zero (n : Nat) : le n 0 = [] := rfl
theorem le_succ (n k : Nat) : le n (k + 1) = le n k ++ [UInt8.ofNat (n / 2 ^ (8 * k))] := by
  unfold le; rw [List.range_succ, List.map_append]; rfl
theorem le_length (n k : Nat) : (le n k).length = k := by simp [le]
/-- What a row's elements are like. -/
class RowK {α : Type} (k : α → List Value) (z : outParam Nat) : Prop where
  len : ∀ x, (k x).length = z
  one : ∀ x, ones (k x) = true
  flt : ∀ x, flats (k x) = true
section
variable {α : Type} {k : α → List Value} {z : Nat} [RowK k z]
set_option linter.unusedSectionVars false
omit [RowK k z] in
theorem rowV_nil : rowV k [] = [] := rfl
omit [RowK k z] in
theorem rowV_cons (x : α) (l : List α) : rowV k (x :: l) = k x ++ rowV k l := rfl
omit [RowK k z] in
theorem rowV_append (a b : List α) : rowV k (a ++ b) = rowV k a ++ rowV k b := by simp [rowV]
omit [RowK k z] in
theorem rowV_push (l : List α) (x : α) : rowV k l ++ k x = rowV k (l ++ [x]) := by simp [rowV]
theorem rowV_length (l : List α) : (rowV k l).length = l.length * z := by
  induction l with
  | nil => simp [rowV]
  | cons x l ih => rw [rowV_cons, List.length_append, ih, RowK.len (k := k) x, List.length_cons, Nat.add_mul]; omega
omit [RowK k z] in
theorem ones_app (a b : List Value) (ha : ones a = true) (hb : ones b = true) : ones (a ++ b) = true := by
  induction a with
  | nil => exact hb
  | cons v a ih =>
    change Bool.rec (motive := fun _ => Bool) false (ones a) (one1 v) = true at ha
    show Bool.rec (motive := fun _ => Bool) false (ones (a ++ b)) (one1 v) = true
    cases h1 : one1 v <;> rw [h1] at ha
    · cases ha
    · exact ih ha
theorem ones_rowV {α : Type} {k : α → List Value} {z : Nat} [RowK k z] : ∀ (l : List α), ones (rowV k l) = true
  | [] => rfl
  | x :: l => by rw [rowV_cons]; exact ones_app _ _ (RowK.one x) (ones_rowV l)
theorem flats_rowV {α : Type} {k : α → List Value} {z : Nat} [RowK k z] (l : List α) : flats (rowV k l) = true := by
  induction l with
  | nil => rfl
  | cons x l ih => rw [rowV_cons]; simp only [Ev.flats, List.all_append, Bool.and_eq_true]; exact ⟨RowK.flt x, ih⟩
theorem rowV_drop (l : List α) (i : Nat) : (rowV k l).drop (i * z) = rowV k (l.drop i) := by
  induction l generalizing i with
  | nil => simp [rowV]
  | cons x l ih =>
    cases i with
    | zero => simp
    | succ i =>
      have hx := RowK.len (k := k) x
      rw [rowV_cons, List.drop_succ_cons, ← ih i, Nat.succ_mul, Nat.add_comm (i * z) z, ← List.drop_drop, show (k x ++ rowV k l).drop z = rowV k l by rw [← hx, List.drop_left]]
theorem rowV_take (l : List α) (i : Nat) : (rowV k l).take (i * z) = rowV k (l.take i) := by
  induction l generalizing i with
  | nil => simp [rowV]
  | cons x l ih =>
    cases i with
    | zero => simp [rowV]
    | succ i =>
      have hx := RowK.len (k := k) x
      rw [rowV_cons, List.take_succ_cons, rowV_cons, ← ih i, Nat.succ_mul, Nat.add_comm (i * z) z, List.take_append, hx, Nat.add_sub_cancel_left, List.take_of_length_le (by omega)]
/-- An element's cells. -/
theorem rowV_at {l : List α} {i : Nat} {x : α} (h : l[i]? = some x) : ((rowV k l).drop (i * z)).take z = k x := by
  rw [rowV_drop]
  obtain ⟨hi, rfl⟩ := List.getElem?_eq_some_iff.1 h
  rw [List.drop_eq_getElem_cons hi, rowV_cons, ← RowK.len (k := k) l[i], List.take_left]
/-- A cell of an element. -/
theorem rowV_nth {l : List α} {i j : Nat} {x : α} {v : Value} (h : l[i]? = some x) (hv : (k x)[j]? = some v) : nth (rowV k l) (i * z + j) = some v := by
  rw [nth_eq]
  have hj : j < z := by
    have := (List.getElem?_eq_some_iff.1 hv).1
    rwa [RowK.len (k := k) x] at this
  have h1 := rowV_at (k := k) h
  have : (((rowV k l).drop (i * z)).take z)[j]? = some v := by rw [h1]; exact hv
  rw [List.getElem?_take, if_pos hj, List.getElem?_drop] at this
  exact this
/-- The whole row. -/
theorem rowV_whole (l : List α) : ((rowV k l).drop 0).take (l.length * z) = rowV k l := by
  rw [List.drop_zero, ← rowV_length (k := k) l, List.take_length]
/-- A part of a row. -/
theorem rowV_part (l : List α) (i n : Nat) : ((rowV k l).drop (i * z)).take (n * z) = rowV k ((l.drop i).take n) := by
  rw [rowV_drop, rowV_take]
theorem apd_rowV {C : Cfg} [Hv C] {h : List (Nat × Obj)} {xt e ct : TypeId} {ti : TypeInfo} {b n c : Nat} {l : List α} {cf : Nat × Nat} (h1 : C.ty xt = some (ti, .slice e)) (hh : aget h b = some (.cells ⟨rowV k l⟩ ct cf)) (hn : l.length = n) : Apd C h z xt (.slice (some ⟨b, 0, some z⟩) n c) n (rowV k l) [b] :=
  apd_row h1 hh (by rw [← hn]; exact rowV_whole l) (by rw [rowV_length, hn]) (ones_rowV l)
omit [RowK k z] in
theorem rowV_empty {l : List α} {n : Nat} (hn : l.length = n) : n = 0 → rowV k l = [] := fun h => by
  rw [List.length_eq_zero_iff.1 (hn.trans h)]; rfl
end
instance : RowK kB 1 := ⟨fun _ => rfl, fun _ => rfl, fun _ => rfl⟩
theorem take_whole {α : Type} (l : List α) (n : Nat) (h : l.length = n) : (l.drop 0).take n = l := by
  rw [List.drop_zero, ← h, List.take_length]
/-- A byte of a number. -/
theorem byte_of (n i : Nat) : Value.int .u8 (IntKind.u8.wrap ((n / 2 ^ (8 * i) : Nat) : Int)) = bytes1 (UInt8.ofNat (n / 2 ^ (8 * i))) := by
  unfold bytes1
  rw [IntKind.wrap_u8]
  congr 1
theorem bytesV_push (l : List UInt8) (b : UInt8) : bytesV l ++ [bytes1 b] = bytesV (l ++ [b]) := rowV_push l b
section
variable {C : Cfg} [Hv C] {N n0 : Nat} {T : Tm} {s : St} {ops : Array Oper} {l : List Oper} {d : Option Nat} {ty : TypeId} {pos : String} {after : Array Edge} {v : Value} {s' : St}
/-- A place in a slice that begins with its row. -/
theorem st_iaN {t e : TypeId} {x i : Operand} {a z n c j : Nat} {k : IntKind} {ti : TypeInfo} {ei : TypeInfo × TypeDesc} (h1 : C.ty t = some (ti, .slice e)) (h2 : C.ty e = some ei) (hz : ei.1.size = z) (hx : ev1 T x = some (.slice (some ⟨a, 0, some z⟩) n c)) (hi : ev1 T i = some (.int k (j : Int))) (hn : j < n) :
    Stp C N ops ⟨d, .indexAddr t x i, ty, pos, after, none⟩ T s (.pointer (some ⟨a, j * z, none⟩)) s := by
  have := st_ia (C := C) (N := N) (s := s) (ops := ops) (d := d) (ty := ty) (pos := pos) (after := after) h1 h2 hz hx hi (Int.natCast_nonneg _) (Int.ofNat_lt.2 hn)
  rwa [Nat.zero_add, Int.toNat_natCast] at this
theorem st_ibN {t : TypeId} {x i : Operand} {k : IntKind} {j : Nat} {b : List UInt8} {u : UInt8} {ti : TypeInfo} (h1 : C.ty t = some (ti, .string)) (hx : ev1 T x = some (str b)) (hi : ev1 T i = some (.int k (j : Int))) (hb : b[j]? = some u) :
    Stp C N ops ⟨d, .index t x i, ty, pos, after, none⟩ T s (.int .u8 ((u.toNat : Nat) : Int)) s :=
  st_ib h1 hx hi (Int.natCast_nonneg _) (by rwa [Int.toNat_natCast])
/-- A new slice, empty. -/
theorem st_ms0 {t e : TypeId} {x y : Operand} {k' : IntKind} {j : Nat} {zs r : List Value} {z : Nat} {ti : TypeInfo} {ei : TypeInfo × TypeDesc} {zv : Value} {h : List (Nat × Obj)} {nx : Nat} {rd wr : List Nat} {df : List Value} (h1 : C.ty t = some (ti, .slice e)) (h2 : C.ty e = some ei) (hzz : ei.1.size = z) (hz : ei.1.zero = some zv) (hzs : zv.cells = ⟨zs⟩) (hf : flats zs = true) (hz1 : Nat.ble 1 (len zs) = true) (hby : ei.1.bytes ≤ 65536) (hx : ev1 T x = some (.int .i64 0)) (hy : ev1 T y = some (.int k' (j : Int))) (hj : j ≤ 100000000) (hr : r = []) :
    Stp C N ops ⟨d, .makeSlice t x y, ty, pos, after, none⟩ T ⟨h, nx, rd, wr, df⟩ (.slice (some ⟨nx, 0, some z⟩) 0 0) ⟨(nx, .cells ⟨r⟩ e (0, 0)) :: h, nx + 1, rd, wr, df⟩ :=
  st_ms h1 h2 hzz hz hzs hf hz1 hby hx hy (Int.le_refl _) (Int.natCast_nonneg _) (by omega) (by rw [hr]; show zrow (0 * z) zs = []; rw [Nat.zero_mul]; rfl)
theorem st_cutF {t : TypeId} {x lo : Operand} {k : IntKind} {i : Nat} {b : List UInt8} {ti : TypeInfo} (h1 : C.ty t = some (ti, .string)) (hx : ev1 T x = some (str b)) (hl : ev1 T lo = some (.int k (i : Int))) (h3 : i ≤ b.length) :
    Stp C N ops ⟨d, .slice t x (some lo) none none, ty, pos, after, none⟩ T s (str (b.drop i)) s := by
  have := st_cutS (C := C) (N := N) (s := s) (ops := ops) (d := d) (ty := ty) (pos := pos) (after := after) (lo := some lo) (hi := none) (i := (i : Int)) (j := (b.length : Int)) h1 hx (by simp only [lowOf, hl]) rfl (Int.natCast_nonneg _) (Int.ofNat_le.2 h3) (Int.le_refl _)
  rwa [Int.toNat_natCast, Int.toNat_natCast, ← List.length_drop, List.take_length] at this
theorem st_cutT {t : TypeId} {x hi : Operand} {k : IntKind} {j : Nat} {b : List UInt8} {ti : TypeInfo} (h1 : C.ty t = some (ti, .string)) (hx : ev1 T x = some (str b)) (hh : ev1 T hi = some (.int k (j : Int))) (h3 : j ≤ b.length) :
    Stp C N ops ⟨d, .slice t x none (some hi) none, ty, pos, after, none⟩ T s (str (b.take j)) s := by
  have := st_cutS (C := C) (N := N) (s := s) (ops := ops) (d := d) (ty := ty) (pos := pos) (after := after) (lo := none) (hi := some hi) (i := 0) (j := (j : Int)) h1 hx rfl (by simp only [highOf, hh]) (Int.le_refl _) (Int.natCast_nonneg _) (Int.ofNat_le.2 h3)
  rwa [Int.toNat_natCast, Int.toNat_zero, List.drop_zero, Nat.sub_zero] at this
theorem st_cutM {t : TypeId} {x lo hi : Operand} {k k' : IntKind} {i j : Nat} {b : List UInt8} {ti : TypeInfo} (h1 : C.ty t = some (ti, .string)) (hx : ev1 T x = some (str b)) (hl : ev1 T lo = some (.int k (i : Int))) (hh : ev1 T hi = some (.int k' (j : Int))) (h2 : i ≤ j) (h3 : j ≤ b.length) :
    Stp C N ops ⟨d, .slice t x (some lo) (some hi) none, ty, pos, after, none⟩ T s (str ((b.drop i).take (j - i))) s := by
  have := st_cutS (C := C) (N := N) (s := s) (ops := ops) (d := d) (ty := ty) (pos := pos) (after := after) (lo := some lo) (hi := some hi) (i := (i : Int)) (j := (j : Int)) h1 hx (by simp only [lowOf, hl]) (by simp only [highOf, hh]) (Int.natCast_nonneg _) (Int.ofNat_le.2 h2) (Int.ofNat_le.2 h3)
  rwa [Int.toNat_natCast, Int.toNat_natCast] at this
theorem st_cvS {t u : TypeId} {x : Operand} {b : List UInt8} {i1 : TypeInfo} {i2 : TypeInfo} (h1 : C.ty t = some (i1, .string)) (h2 : C.ty u = some (i2, .string)) (hx : ev1 T x = some (str b)) : Stp C N ops ⟨d, .convert t u x, ty, pos, after, none⟩ T s (str b) s :=
  Stp.of_aOp (ns := []) rfl (fun _ _ _ h => by cases h) (fun _ h => by cases h) (by simp only [aOp, aConv, aPure, h1, h2, hx]; rfl) rfl
end
theorem push_of {α : Type} {k : α → List Value} {l : List α} {x : α} {cells : List Value} (h : cells = k x) : rowV k l ++ cells = rowV k (l ++ [x]) := by rw [h]; exact rowV_push l x
theorem RN.sliceE {f : Bool} {ρ : Nat → Option Nat} {b a o n n' c c' z : Nat} (h : ρ b = some a) (hn : n = n') : RN f ρ (.slice (some ⟨b, o, some z⟩) n c) (.slice (some ⟨a, o, some z⟩) n' c') := hn ▸ .slice h
theorem ex_at {α : Type} {l : List α} {i : Nat} (h : i < l.length) : ∃ x, l[i]? = some x := ⟨_, List.getElem?_eq_getElem h⟩
end Go.Ev
