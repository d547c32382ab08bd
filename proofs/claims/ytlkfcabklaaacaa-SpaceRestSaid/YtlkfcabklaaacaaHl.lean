/- Words of my own: leaves, plainly. -/
import Derived.Test.YtlkfcabklaaacaaHe
set_option linter.unusedVariables false
namespace Go.Ev
open Go.RowKit
theorem takeR_le' {l : List UInt8} {k n : Nat} (h : l.length ≤ n) : (takeR l k).length ≤ n := by
  unfold takeR
  split
  · simp; omega
  · exact h
theorem numV_lt {l : List UInt8} {k : Nat} : numV l k < 256 ^ k := by
  unfold numV
  exact Nat.lt_of_lt_of_le (ofLe_lt _) (Nat.pow_le_pow_right (by decide) takeV_length)
theorem numV_le1 {l : List UInt8} : numV l 1 ≤ 255 := by have := numV_lt (l := l) (k := 1); omega
theorem i64_num {l : List UInt8} {k : Nat} (hk : k ≤ 4) : IntKind.i64.wrap ((numV l k : Nat) : Int) = ((numV l k : Nat) : Int) := by
  have h := numV_lt (l := l) (k := k)
  have h2 : (256 : Nat) ^ k ≤ 256 ^ 4 := Nat.pow_le_pow_right (by decide) hk
  exact wrap_sm (by omega) (by omega)
theorem u32_num {l : List UInt8} : IntKind.u32.wrap ((numV l 4 : Nat) : Int) = ((numV l 4 : Nat) : Int) := by
  have h := numV_lt (l := l) (k := 4)
  exact IntWalk.u32_in _ ⟨by omega, by omega⟩
def u64 (n : Int) : Nat := (IntKind.u64.wrap n).toNat
def u32 (n : Int) : Nat := (IntKind.u32.wrap n).toNat
theorem u64_cast (n : Int) : IntKind.u64.wrap n = ((u64 n : Nat) : Int) := by
  unfold u64; rw [Int.toNat_of_nonneg]
  simp only [IntKind.wrap, IntKind.signed, IntKind.bits, Bool.false_and, Bool.false_eq_true, if_false]; omega
theorem u32_cast (n : Int) : IntKind.u32.wrap n = ((u32 n : Nat) : Int) := by
  unfold u32; rw [Int.toNat_of_nonneg]; rw [IntKind.wrap_u32]; omega
theorem u64_of {n : Nat} (h : n < 18446744073709551616) : u64 (n : Int) = n := by
  unfold u64; rw [IntWalk.u64_in _ ⟨by omega, by omega⟩]; simp
theorem u64_sm {n : Nat} (h : n ≤ 4611686018427387904) : IntKind.u64.wrap (n : Int) = (n : Int) := IntWalk.u64_in _ ⟨by omega, by omega⟩
section
variable {C : Cfg} [Hv C] {N n0 : Nat} {T : Tm} {s : St} {ops : Array Oper} {l : List Oper} {d : Option Nat} {ty : TypeId} {pos : String} {after : Array Edge} {v : Value} {s' : St}
theorem st_cvU {src dst : TypeId} {x : Operand} {k' : IntKind} {n : Int} {i1 : TypeInfo × TypeDesc} {i2 : TypeInfo} (h1 : C.ty src = some i1) (h2 : C.ty dst = some (i2, .int .u64)) (hx : ev1 T x = some (.int k' n)) : Stp C N ops ⟨d, .convert src dst x, ty, pos, after, none⟩ T s (.int .u64 ((u64 n : Nat) : Int)) s := by
  have := st_cv (C := C) (N := N) (s := s) (ops := ops) (d := d) (ty := ty) (pos := pos) (after := after) h1 h2 hx
  rwa [u64_cast] at this
theorem st_cvW {src dst : TypeId} {x : Operand} {k' : IntKind} {n : Int} {i1 : TypeInfo × TypeDesc} {i2 : TypeInfo} (h1 : C.ty src = some i1) (h2 : C.ty dst = some (i2, .int .u32)) (hx : ev1 T x = some (.int k' n)) : Stp C N ops ⟨d, .convert src dst x, ty, pos, after, none⟩ T s (.int .u32 ((u32 n : Nat) : Int)) s := by
  have := st_cv (C := C) (N := N) (s := s) (ops := ops) (d := d) (ty := ty) (pos := pos) (after := after) h1 h2 hx
  rwa [u32_cast] at this
end
theorem all_succ {P : Nat → Prop} {i : Nat} (h : ∀ j, j < i → P j) (hi : P i) : ∀ j, j < i + 1 → P j := fun j hj => by
  by_cases e : j = i
  · rw [e]; exact hi
  · exact h j (by omega)
-- leaves
def vput (x : Item) : List UInt8 := if x.over = true then le (u64 x.len) 4 ++ le (u64 (x.head : Int)) 4 else le x.value.length 1 ++ x.value
theorem vput_length (x : Item) : (vput x).length = vsz x := by unfold vput vsz; split <;> simp [le_length]
def ibytes (x : Item) : List UInt8 := le (if x.over = true then 1 else 0) 1 ++ le x.key.length 1 ++ x.key ++ vput x
theorem ibytes_length (x : Item) : (ibytes x).length = isz x := by simp [ibytes, isz, le_length, vput_length]; omega
def lbytes (l : List Item) : List UInt8 := l.flatMap ibytes
theorem lbytes_length (l : List Item) : (lbytes l).length = lsz l := by
  induction l with
  | nil => rfl
  | cons x l ih => show (ibytes x ++ lbytes l).length = _; rw [List.length_append, ih, ibytes_length]; rfl
theorem lbytes_succ {l : List Item} {i : Nat} {x : Item} (h : l[i]? = some x) : lbytes (l.take (i + 1)) = lbytes (l.take i) ++ ibytes x := by
  rw [take_succ_at h]; simp [lbytes]
def okAt (l : List Item) (i : Nat) : Bool := match l[i]? with
  | none => true
  | some x => vmayB x && (decide (i = 0) || match l[i - 1]? with | some y => sLt y.key x.key | none => true)
def lmayB (l : List Item) : Bool := decide (∀ i, i < l.length → okAt l i = true) && decide (0 < l.length)
theorem lmay_bad {l : List Item} {i : Nat} (hi : i < l.length) (h : okAt l i = false) : lmayB l = false := by
  unfold lmayB
  rw [decide_eq_false (fun hh => by rw [hh i hi] at h; cases h)]; rfl
theorem lmay_end {l : List Item} (h : ∀ i, i < l.length → okAt l i = true) : lmayB l = decide (0 < l.length) := by
  unfold lmayB; rw [decide_eq_true h]; rfl
theorem lmay_at {l : List Item} (h : lmayB l = true) {i : Nat} {x : Item} (hx : l[i]? = some x) : vmayB x = true := by
  unfold lmayB at h
  simp only [Bool.and_eq_true, decide_eq_true_eq] at h
  have := h.1 i (List.getElem?_eq_some_iff.1 hx).1
  unfold okAt at this
  rw [hx] at this
  simp only [Bool.and_eq_true] at this
  exact this.1
theorem vmay_le {x : Item} (h : vmayB x = true) : x.key.length ≤ 40 ∧ x.value.length ≤ 255 := by
  unfold vmayB at h
  simp only [Bool.and_eq_true, keyB, decide_eq_true_eq] at h
  refine ⟨h.1, ?_⟩
  have h2 := h.2
  split at h2
  · simp only [Bool.and_eq_true, decide_eq_true_eq] at h2
    rw [h2.1.1.1]; simp
  · simp only [Bool.and_eq_true, decide_eq_true_eq] at h2
    exact h2.1.1
theorem lmay_sz {l : List Item} (h : lmayB l = true) : ∀ x ∈ l, x.key.length + x.value.length ≤ 1000000 := fun x hx => by
  obtain ⟨i, hi⟩ := List.mem_iff_getElem?.1 hx
  have := vmay_le (lmay_at h hi)
  omega
theorem lsz_take_le (l : List Item) (i : Nat) : lsz (l.take i) ≤ lsz l := by
  conv => rhs; rw [← List.take_append_drop i l, lsz_append]
  omega
def pg0 : Pg := ⟨0, 0, 0, 0, 0, []⟩
def lpgOk (s : Int) (n tx : Nat) (l : List Item) : Bool := lmayB l && decide (lsz l ≤ room s) && numB n && decide (tx ≤ 4611686018427387904)
def lpg (s : Int) (n tx : Nat) (l : List Item) : Pg := if lpgOk s n tx l = true then ⟨4, (l.length : Int), n, 0, tx, bodyS s (lbytes l)⟩ else pg0
def lpgE (s : Int) (n tx : Nat) (l : List Item) : Nat := if lpgOk s n tx l = true then 0 else 2
theorem lpg_ok {s : Int} {n tx : Nat} {l : List Item} (h : lpgOk s n tx l = true) : lpg s n tx l = ⟨4, (l.length : Int), n, 0, tx, bodyS s (lbytes l)⟩ ∧ lpgE s n tx l = 0 := by simp [lpg, lpgE, h]
theorem lpg_bad {s : Int} {n tx : Nat} {l : List Item} (h : lpgOk s n tx l = false) : lpg s n tx l = pg0 ∧ lpgE s n tx l = 2 := by simp [lpg, lpgE, h]
def item0 : Item := ⟨[], [], false, 0, 0⟩
/-- One item, read. -/
def itemP (l : List UInt8) : Item × Nat × List UInt8 :=
  if takeE (takeR l 1) 1 ≠ 0 ∨ 1 < numV l 1 then (item0, 4, takeR (takeR l 1) 1)
  else if takeE (takeR (takeR l 1) 1) (numV (takeR l 1) 1) ≠ 0 then (⟨takeV (takeR (takeR l 1) 1) (numV (takeR l 1) 1), [], false, 0, 0⟩, takeE (takeR (takeR l 1) 1) (numV (takeR l 1) 1), takeR (takeR (takeR l 1) 1) (numV (takeR l 1) 1))
  else if numV l 1 = 1 then
    (⟨takeV (takeR (takeR l 1) 1) (numV (takeR l 1) 1), [], true, (numV (takeR (takeR (takeR l 1) 1) (numV (takeR l 1) 1)) 4 : Int), numV (takeR (takeR (takeR (takeR l 1) 1) (numV (takeR l 1) 1)) 4) 4⟩,
      takeE (takeR (takeR (takeR (takeR l 1) 1) (numV (takeR l 1) 1)) 4) 4, takeR (takeR (takeR (takeR (takeR l 1) 1) (numV (takeR l 1) 1)) 4) 4)
  else if takeE (takeR (takeR (takeR l 1) 1) (numV (takeR l 1) 1)) 1 ≠ 0 then (⟨takeV (takeR (takeR l 1) 1) (numV (takeR l 1) 1), [], false, 0, 0⟩, takeE (takeR (takeR (takeR l 1) 1) (numV (takeR l 1) 1)) 1, takeR (takeR (takeR (takeR l 1) 1) (numV (takeR l 1) 1)) 1)
  else (⟨takeV (takeR (takeR l 1) 1) (numV (takeR l 1) 1), takeV (takeR (takeR (takeR (takeR l 1) 1) (numV (takeR l 1) 1)) 1) (numV (takeR (takeR (takeR l 1) 1) (numV (takeR l 1) 1)) 1), false, 0, 0⟩,
      takeE (takeR (takeR (takeR (takeR l 1) 1) (numV (takeR l 1) 1)) 1) (numV (takeR (takeR (takeR l 1) 1) (numV (takeR l 1) 1)) 1), takeR (takeR (takeR (takeR (takeR l 1) 1) (numV (takeR l 1) 1)) 1) (numV (takeR (takeR (takeR l 1) 1) (numV (takeR l 1) 1)) 1))
end Go.Ev
