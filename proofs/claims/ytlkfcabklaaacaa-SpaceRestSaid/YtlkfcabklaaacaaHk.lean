/- Words of my own: what the program's data are, as plain Lean; plain functions of them. -/
import Derived.Test.YtlkfcabklaaacaaHb
set_option linter.unusedVariables false
namespace Go.Ev
open Go.RowKit
theorem RN.tupleL {f : Bool} {ρ : Nat → Option Nat} {l l' : List Value} (h : RNs f ρ l l') : RN f ρ (.tuple ⟨l⟩) (.tuple ⟨l'⟩) := by
  have hl : ∀ {l l' : List Value}, RNs f ρ l l' → l.length = l'.length ∧ ∀ (i : Nat) (h1 : i < l.length) (h2 : i < l'.length), RN f ρ l[i] l'[i] := by
    intro l l' h
    induction h with
    | nil => exact ⟨rfl, fun i h => by cases h⟩
    | cons h t ih => exact ⟨congrArg (· + 1) ih.1, fun i h1 h2 => by cases i with | zero => exact h | succ i => exact ih.2 i _ _⟩
  exact .tuple (hl h).1 fun i h1 h2 => (hl h).2 i h1 h2
theorem RN.aggL {f : Bool} {ρ : Nat → Option Nat} {l l' : List Value} (h : RNs f ρ l l') : RN f ρ (.agg ⟨l⟩) (.agg ⟨l'⟩) := by
  have := RN.tupleL h
  cases this with
  | tuple hs h => exact .agg hs h
  | flat hf => exact absurd (show false = true from hf) (by decide)
theorem RN.fnL {f : Bool} {ρ : Nat → Option Nat} {g : FuncId} {l l' : List Value} (h : RNs f ρ l l') : RN f ρ (.func (.func g) #[] ⟨l⟩) (.func (.func g) #[] ⟨l'⟩) := by
  have := RN.tupleL h
  cases this with
  | tuple hs h => exact .fn hs h
  | flat hf => exact absurd (show false = true from hf) (by decide)
section
variable {C : Cfg} [Hv C] {N n0 : Nat} {T : Tm} {s : St} {ops : Array Oper} {l : List Oper} {d : Option Nat} {ty : TypeId} {pos : String} {after : Array Edge} {v : Value} {s' : St}
theorem st_rem {t t' : TypeId} {x y : Operand} {k : IntKind} {a b : Int} (hx : ev1 T x = some (.int k a)) (hy : ev1 T y = some (.int k b)) (h : b ≠ 0) : Stp C N ops ⟨d, .binOp .rem t x y t', ty, pos, after, none⟩ T s (.int k (Int.tmod a b)) s :=
  st_int hx hy (by simp only [intOp, eqI_eq]; rw [show (b == 0) = false by simpa using h])
theorem st_quo {t t' : TypeId} {x y : Operand} {k : IntKind} {a b : Int} (hx : ev1 T x = some (.int k a)) (hy : ev1 T y = some (.int k b)) (h : b ≠ 0) : Stp C N ops ⟨d, .binOp .quo t x y t', ty, pos, after, none⟩ T s (.int k (k.wrap (Int.tdiv a b))) s :=
  st_int hx hy (by simp only [intOp, eqI_eq, wrapF_eq]; rw [show (b == 0) = false by simpa using h])
theorem st_quoN {t t' : TypeId} {x y : Operand} {a b : Nat} (hx : ev1 T x = some (.int .i64 (a : Int))) (hy : ev1 T y = some (.int .i64 (b : Int))) (h : b ≠ 0) (ha : a ≤ 4611686018427387904) : Stp C N ops ⟨d, .binOp .quo t x y t', ty, pos, after, none⟩ T s (.int .i64 ((a / b : Nat) : Int)) s := by
  have := st_quo (C := C) (N := N) (s := s) (ops := ops) (d := d) (ty := ty) (pos := pos) (after := after) (t := t) (t' := t') hx hy (by omega)
  rwa [show Int.tdiv (a : Int) (b : Int) = ((a / b : Nat) : Int) from rfl, wrap_sm (Int.le_trans (by decide) (Int.natCast_nonneg _)) (Int.le_trans (Int.ofNat_le.2 (Nat.le_trans (Nat.div_le_self a b) ha)) (by decide))] at this
theorem st_remN {t t' : TypeId} {x y : Operand} {k : IntKind} {a b : Nat} (hx : ev1 T x = some (.int k (a : Int))) (hy : ev1 T y = some (.int k (b : Int))) (h : b ≠ 0) : Stp C N ops ⟨d, .binOp .rem t x y t', ty, pos, after, none⟩ T s (.int k ((a % b : Nat) : Int)) s :=
  st_rem hx hy (by omega)
theorem st_orE {t t' : TypeId} {x y : Operand} {k : IntKind} {m n : Nat} {c : Int} (hx : ev1 T x = some (.int k (m : Int))) (hy : ev1 T y = some (.int k (n : Int))) (h : k.wrap (((m % 2 ^ k.bits) ||| (n % 2 ^ k.bits) : Nat) : Int) = c) : Stp C N ops ⟨d, .binOp .or t x y t', ty, pos, after, none⟩ T s (.int k c) s := h ▸ st_or hx hy
theorem st_shlE {t t' : TypeId} {x y : Operand} {k k' : IntKind} {m n : Nat} {c : Int} (hx : ev1 T x = some (.int k (m : Int))) (hy : ev1 T y = some (.int k' (n : Int))) (hn : n ≤ k.bits) (h : k.wrap ((m * 2 ^ n : Nat) : Int) = c) : Stp C N ops ⟨d, .binOp .shl t x y t', ty, pos, after, none⟩ T s (.int k c) s := h ▸ st_shl hx hy hn
/-- Comparing a pointer with nil. -/
theorem st_pn {t t' e : TypeId} {x y : Operand} {p : Addr} {ti : TypeInfo} (h1 : C.ty t = some (ti, .pointer e)) (hx : ev1 T x = some (.pointer (some p))) (hy : ev1 T y = some (.pointer none)) : Stp C N ops ⟨d, .binOp .eql t x y t', ty, pos, after, none⟩ T s (.bool false) s :=
  Stp.of_aOp (ns := []) rfl (fun _ _ _ h => by cases h) (fun _ h => by cases h) (by simp [aOp, aPure, aBin, hx, hy, plain, Ev.flat, h1, nilCmp]) rfl
theorem rep_kB (j : Nat) : List.replicate j (Value.int .u8 0) = rowV kB (List.replicate j 0) := by
  induction j with
  | zero => rfl
  | succ j ih => rw [List.replicate_succ, List.replicate_succ, rowV_cons, ih]; rfl
/-- A new row of bytes, all zero. -/
theorem st_msB {t e : TypeId} {x y : Operand} {k k' : IntKind} {j : Nat} {ti : TypeInfo} {ei : TypeInfo × TypeDesc} {h : List (Nat × Obj)} {nx : Nat} {rd wr : List Nat} {df : List Value} (h1 : C.ty t = some (ti, .slice e)) (h2 : C.ty e = some ei) (hzz : ei.1.size = 1) (hz : ei.1.zero = some (.int .u8 0)) (hby : ei.1.bytes ≤ 65536) (hx : ev1 T x = some (.int k (j : Int))) (hy : ev1 T y = some (.int k' (j : Int))) (hj : j ≤ 100000000) :
    Stp C N ops ⟨d, .makeSlice t x y, ty, pos, after, none⟩ T ⟨h, nx, rd, wr, df⟩ (.slice (some ⟨nx, 0, some 1⟩) j 0) ⟨(nx, .cells ⟨rowV kB (List.replicate j 0)⟩ e (0, 0)) :: h, nx + 1, rd, wr, df⟩ :=
  st_ms h1 h2 hzz hz rfl rfl rfl hby hx hy (Int.natCast_nonneg _) (Int.le_refl _) (by omega) (by
    rw [Int.toNat_natCast, Nat.mul_one, zrow_one]
    exact rep_kB j)
end
theorem bool_of {b c : Bool} (h : b = true ↔ c = true) : Value.bool b = Value.bool c := congrArg _ (Bool.eq_iff_iff.2 h)
theorem int_of {k : IntKind} {a b : Int} (h : a = b) : Value.int k a = Value.int k b := congrArg _ h
theorem str_of {a b : List UInt8} (h : a = b) : str a = str b := by rw [h]
-- sizes of pages
def goodB (s : Int) : Bool := decide (128 ≤ s) && decide (s ≤ 4096) && decide (Int.tmod s 64 = 0)
def room (s : Int) : Nat := if goodB s = true then s.toNat - 24 else 0
theorem goodB_le {s : Int} (h : goodB s = true) : 128 ≤ s ∧ s ≤ 4096 ∧ room s = s.toNat - 24 := by
  have : room s = s.toNat - 24 := if_pos h
  simp only [goodB, Bool.and_eq_true, decide_eq_true_eq] at h
  omega
theorem room_le (s : Int) : room s ≤ 4072 := by
  unfold room
  split
  · have := goodB_le (by assumption); omega
  · omega
theorem room_bad {s : Int} (h : goodB s = false) : room s = 0 := by unfold room; rw [h]; rfl
def numB (n : Nat) : Bool := decide (2 ≤ n) && decide (n ≤ 2147483647)
def keyB (k : List UInt8) : Bool := decide (k.length ≤ 40)
-- bodies
def bodyE (s : Int) (l : List UInt8) : Nat := if goodB s = true then (if room s < l.length then 3 else 0) else 2
def padL (s : Int) (l : List UInt8) : List UInt8 := l ++ List.replicate (room s - l.length) 0
def bodyS (s : Int) (l : List UInt8) : List UInt8 := if goodB s = true ∧ l.length ≤ room s then padL s l else []
theorem padL_length {s : Int} {l : List UInt8} (h : l.length ≤ room s) : (padL s l).length = room s := by simp [padL]; omega
theorem copy_pad {s : Int} {l : List UInt8} (h : l.length ≤ room s) : (rowV kB (List.replicate (room s) 0)).take 0 ++ (rowV kB l ++ (rowV kB (List.replicate (room s) 0)).drop (0 + (rowV kB l).length)) = rowV kB (padL s l) := by
  have e : (rowV kB (List.replicate (room s) (0 : UInt8))).drop (0 + (rowV kB l).length) = rowV kB (List.replicate (room s - l.length) 0) := by
    rw [Nat.zero_add, rowV_length, rowV_drop, List.drop_replicate]
  rw [e, List.take_zero, List.nil_append, ← rowV_append]; rfl
theorem len_eq' (l : List Value) : len l = l.length := len_eq l
theorem body_bad {s : Int} {l : List UInt8} (h : goodB s = false) : bodyS s l = [] ∧ bodyE s l = 2 := by simp [bodyS, bodyE, h]
theorem body_long {s : Int} {l : List UInt8} (h : goodB s = true) (h2 : room s < l.length) : bodyS s l = [] ∧ bodyE s l = 3 := by
  simp only [bodyS, bodyE, h, if_true, if_pos h2, if_neg (show ¬ (True ∧ l.length ≤ room s) by simp; omega)]; exact ⟨trivial, trivial⟩
theorem body_ok {s : Int} {l : List UInt8} (h : goodB s = true) (h2 : l.length ≤ room s) : bodyS s l = padL s l ∧ bodyE s l = 0 := by
  simp only [bodyS, bodyE, h, if_true, if_pos (show True ∧ l.length ≤ room s from ⟨trivial, h2⟩), if_neg (show ¬ room s < l.length by omega)]; exact ⟨trivial, trivial⟩
-- reading
def takeV (l : List UInt8) (k : Nat) : List UInt8 := if k ≤ l.length then l.take k else []
def takeE (l : List UInt8) (k : Nat) : Nat := if k ≤ l.length then 0 else 7
def takeR (l : List UInt8) (k : Nat) : List UInt8 := if k ≤ l.length then l.drop k else l
/-- A number of bytes, the lowest first. -/
def ofLe : List UInt8 → Nat
  | [] => 0
  | b :: l => b.toNat + 256 * ofLe l
theorem ofLe_append (a b : List UInt8) : ofLe (a ++ b) = ofLe a + 256 ^ a.length * ofLe b := by
  induction a with
  | nil => simp [ofLe]
  | cons x a ih =>
    show x.toNat + 256 * ofLe (a ++ b) = x.toNat + 256 * ofLe a + 256 ^ (a.length + 1) * ofLe b
    rw [ih, Nat.pow_succ, Nat.mul_add, Nat.mul_comm (256 ^ a.length) 256, Nat.mul_assoc]; omega
theorem ofLe_lt (l : List UInt8) : ofLe l < 256 ^ l.length := by
  induction l with
  | nil => simp [ofLe]
  | cons x l ih =>
    show x.toNat + 256 * ofLe l < 256 ^ (l.length + 1)
    have := x.toNat_lt
    rw [Nat.pow_succ]; omega
theorem take_succ_at {α : Type} {l : List α} {i : Nat} {x : α} (h : l[i]? = some x) : l.take (i + 1) = l.take i ++ [x] := by
  obtain ⟨hi, rfl⟩ := List.getElem?_eq_some_iff.1 h
  rw [List.take_add_one, h]; rfl
theorem ofLe_or {l : List UInt8} {i : Nat} {b : UInt8} (h : l[i]? = some b) (hi : i < 8) : IntKind.u64.wrap (((ofLe (l.take i) % 2 ^ IntKind.u64.bits) ||| ((b.toNat * 2 ^ (8 * i)) % 2 ^ IntKind.u64.bits) : Nat) : Int) = ((ofLe (l.take (i + 1)) : Nat) : Int) := by
  have hil := (List.getElem?_eq_some_iff.1 h).1
  have e1 : ofLe (l.take (i + 1)) = ofLe (l.take i) + 256 ^ i * b.toNat := by
    rw [take_succ_at h, ofLe_append, List.length_take, Nat.min_eq_left (by omega)]
    simp [ofLe]
  have e2 : (256 : Nat) ^ i = 2 ^ (8 * i) := by rw [Nat.pow_mul]
  have h1 : ofLe (l.take i) < 2 ^ (8 * i) := by
    have := ofLe_lt (l.take i)
    rwa [List.length_take, Nat.min_eq_left (by omega), e2] at this
  have h2 : ofLe (l.take (i + 1)) < 2 ^ (8 * (i + 1)) := by
    have := ofLe_lt (l.take (i + 1))
    rwa [List.length_take, Nat.min_eq_left (by omega), show (256 : Nat) ^ (i + 1) = 2 ^ (8 * (i + 1)) by rw [Nat.pow_mul]] at this
  have h3 : (2 : Nat) ^ (8 * (i + 1)) ≤ 2 ^ 64 := Nat.pow_le_pow_right (by decide) (by omega)
  have h4 : ofLe (l.take i) < 2 ^ 64 := Nat.lt_of_lt_of_le h1 (Nat.pow_le_pow_right (by decide) (by omega))
  have h5 : b.toNat * 2 ^ (8 * i) < 2 ^ 64 := by
    have : b.toNat * 2 ^ (8 * i) ≤ ofLe (l.take (i + 1)) := by rw [e1, e2, Nat.mul_comm]; omega
    omega
  rw [show IntKind.u64.bits = 64 from rfl, Nat.mod_eq_of_lt h4, Nat.mod_eq_of_lt h5, Nat.or_comm, Nat.mul_comm b.toNat, ← Nat.two_pow_add_eq_or_of_lt h1, Nat.add_comm, ← e2, ← e1]
  have : (ofLe (l.take (i + 1)) : Int) < 2 ^ 64 := by exact_mod_cast Nat.lt_of_lt_of_le h2 h3
  exact IntWalk.u64_in _ ⟨Int.natCast_nonneg _, by omega⟩
theorem u64_u8 (b : UInt8) : IntKind.u64.wrap ((b.toNat : Nat) : Int) = ((b.toNat : Nat) : Int) := IntWalk.u64_in _ ⟨Int.natCast_nonneg _, by have := b.toNat_lt; omega⟩
theorem shl_u8 {b : UInt8} {i : Nat} (hi : i < 8) : IntKind.u64.wrap ((b.toNat * 2 ^ (8 * i) : Nat) : Int) = ((b.toNat * 2 ^ (8 * i) : Nat) : Int) := by
  refine IntWalk.u64_in _ ⟨Int.natCast_nonneg _, ?_⟩
  have h := b.toNat_lt
  have h1 : b.toNat * 2 ^ (8 * i) ≤ 255 * 2 ^ 56 := Nat.mul_le_mul (by omega) (Nat.pow_le_pow_right (by decide) (by omega))
  have : ((b.toNat * 2 ^ (8 * i) : Nat) : Int) ≤ ((255 * 2 ^ 56 : Nat) : Int) := Int.ofNat_le.2 h1
  omega
def numV (l : List UInt8) (k : Nat) : Nat := ofLe (takeV l k)
theorem takeV_length {l : List UInt8} {k : Nat} : (takeV l k).length ≤ k := by unfold takeV; split <;> simp <;> omega
/-- Items of leaves. -/
structure Item where
  key : List UInt8
  value : List UInt8
  over : Bool
  len : Int
  head : Nat
  deriving DecidableEq
def kI (x : Item) : List Value := [str x.key, str x.value, .bool x.over, .int .i64 x.len, .int .u32 (x.head : Int)]
instance : RowK kI 5 := ⟨fun _ => rfl, fun _ => rfl, fun _ => rfl⟩
def vsz (x : Item) : Nat := if x.over = true then 8 else 1 + x.value.length
theorem vsz_le (x : Item) : vsz x ≤ 8 + x.value.length := by unfold vsz; split <;> omega
def vmayB (x : Item) : Bool := keyB x.key && (if x.over = true then decide (x.value = []) && decide (1 ≤ x.len) && decide (x.len ≤ 4096) && numB x.head else decide (x.value.length ≤ 255) && decide (x.len = 0) && decide (x.head = 0))
def isz (x : Item) : Nat := 2 + x.key.length + vsz x
def lsz : List Item → Nat
  | [] => 0
  | x :: l => isz x + lsz l
theorem lsz_append (a b : List Item) : lsz (a ++ b) = lsz a + lsz b := by
  induction a with
  | nil => simp [lsz]
  | cons x a ih => simp [lsz, ih]; omega
theorem lsz_succ {l : List Item} {i : Nat} {x : Item} (h : l[i]? = some x) : lsz (l.take (i + 1)) = lsz (l.take i) + (2 + x.key.length + vsz x) := by
  rw [take_succ_at h, lsz_append]; simp [lsz, isz]
def kU (n : Nat) : List Value := [.int .u32 (n : Int)]
instance : RowK kU 1 := ⟨fun _ => rfl, fun _ => rfl, fun _ => rfl⟩
def kS (l : List UInt8) : List Value := [str l]
instance : RowK kS 1 := ⟨fun _ => rfl, fun _ => rfl, fun _ => rfl⟩
structure Pg where
  kind : Int
  count : Int
  page : Nat
  link : Nat
  tx : Nat
  body : List UInt8
  deriving DecidableEq
def kP (p : Pg) : List Value := [.int .i64 p.kind, .int .i64 p.count, .int .u32 (p.page : Int), .int .u32 (p.link : Int), .int .u64 (p.tx : Int), str p.body]
instance : RowK kP 6 := ⟨fun _ => rfl, fun _ => rfl, fun _ => rfl⟩
end Go.Ev
