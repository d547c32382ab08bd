/- Words of my own: leaves, read, plainly. -/
import Derived.Test.YtlkfcabklaaacaaHj
set_option linter.unusedVariables false
namespace Go.Ev
open Go.RowKit
theorem takeR_drop {l : List UInt8} {k : Nat} (h : takeE l k = 0) : (takeR l k).length + k = l.length := by
  unfold takeE at h; unfold takeR
  split at h
  · rename_i hk
    rw [if_pos hk, List.length_drop]; omega
  · cases h
theorem takeE_iff {l : List UInt8} {k : Nat} : takeE l k = 0 ↔ k ≤ l.length := by
  unfold takeE; split <;> simp <;> omega
theorem takeR_len {l : List UInt8} {k : Nat} : (takeR l k).length ≤ l.length := takeR_le' (Nat.le_refl _)
/-- An item that is read takes two bytes at least. -/
theorem itemP_len {l : List UInt8} : (itemP l).2.2.length ≤ l.length := by
  have h1 := takeR_len (l := l) (k := 1)
  have h2 := takeR_len (l := takeR l 1) (k := 1)
  have h3 := takeR_len (l := takeR (takeR l 1) 1) (k := numV (takeR l 1) 1)
  generalize hr : takeR (takeR (takeR l 1) 1) (numV (takeR l 1) 1) = r at *
  have h4 := takeR_len (l := r) (k := 4)
  have h5 := takeR_len (l := takeR r 4) (k := 4)
  have h6 := takeR_len (l := r) (k := 1)
  have h7 := takeR_len (l := takeR r 1) (k := numV r 1)
  unfold itemP
  (repeat' split) <;> simp only [hr] <;> omega
theorem itemP_two {l : List UInt8} (h : (itemP l).2.1 = 0) : (itemP l).2.2.length + 2 ≤ l.length := by
  have k1 : takeE (takeR l 1) 1 = 0 := by
    by_cases c : takeE (takeR l 1) 1 = 0
    · exact c
    · unfold itemP at h
      rw [if_pos (.inl c)] at h
      cases h
  have e1 := takeR_drop k1
  have h1 := takeR_len (l := l) (k := 1)
  have k0 : takeE l 1 = 0 := by rw [takeE_iff]; omega
  have e0 := takeR_drop k0
  have h2 := takeR_len (l := takeR l 1) (k := 1)
  have h3 := takeR_len (l := takeR (takeR l 1) 1) (k := numV (takeR l 1) 1)
  generalize hr : takeR (takeR (takeR l 1) 1) (numV (takeR l 1) 1) = r at *
  have h4 := takeR_len (l := r) (k := 4)
  have h5 := takeR_len (l := takeR r 4) (k := 4)
  have h6 := takeR_len (l := r) (k := 1)
  have h7 := takeR_len (l := takeR r 1) (k := numV r 1)
  unfold itemP
  (repeat' split) <;> simp only [hr] <;> omega
/-- Items, one after the other. -/
def eachR : Nat → List UInt8 → List Item → List Item × Nat × List UInt8
  | 0, l, acc => (acc, 0, l)
  | k + 1, l, acc => if (itemP l).2.1 = 0 then eachR k (itemP l).2.2 (acc ++ [(itemP l).1]) else ([], (itemP l).2.1, (itemP l).2.2)
def eachP (n : Int) (l : List UInt8) : List Item × Nat × List UInt8 := eachR n.toNat l []
theorem eachR_len : ∀ (k : Nat) (l : List UInt8) (acc : List Item), (eachR k l acc).1.length ≤ acc.length + l.length
  | 0, l, acc => Nat.le_add_right _ _
  | k + 1, l, acc => by
    unfold eachR
    split
    · rename_i h
      have h1 := eachR_len k (itemP l).2.2 (acc ++ [(itemP l).1])
      have h2 := itemP_two h
      rw [List.length_append] at h1
      simp only [List.length_cons, List.length_nil] at h1
      omega
    · exact Nat.zero_le _
theorem eachP_len (n : Int) (l : List UInt8) : (eachP n l).1.length ≤ l.length := by
  have := eachR_len n.toNat l []
  simpa [eachP] using this
theorem each_step {n : Int} {l r : List UInt8} {acc : List Item} {i : Nat} (h : eachP n l = eachR (n.toNat - i) r acc) (hi : (i : Int) < n) (h0 : (itemP r).2.1 = 0) : eachP n l = eachR (n.toNat - (i + 1)) (itemP r).2.2 (acc ++ [(itemP r).1]) := by
  rw [h, show n.toNat - i = (n.toNat - (i + 1)) + 1 by omega]
  conv => lhs; unfold eachR
  rw [if_pos h0]
theorem each_bad {n : Int} {l r : List UInt8} {acc : List Item} {i : Nat} (h : eachP n l = eachR (n.toNat - i) r acc) (hi : (i : Int) < n) (h0 : ¬(itemP r).2.1 = 0) : eachP n l = ([], (itemP r).2.1, (itemP r).2.2) := by
  rw [h, show n.toNat - i = (n.toNat - (i + 1)) + 1 by omega]
  unfold eachR
  rw [if_neg h0]
theorem each_end {n : Int} {l r : List UInt8} {acc : List Item} {i : Nat} (h : eachP n l = eachR (n.toNat - i) r acc) (hi : ¬(i : Int) < n) : eachP n l = (acc, 0, r) := by
  rw [h, show n.toNat - i = 0 by omega]; rfl
/-- A leaf, read. -/
def ofP (p : Pg) : List Item × Nat :=
  if (eachP p.count p.body).2.1 ≠ 0 then ([], 4)
  else if lpgE ((p.body.length + 24 : Nat) : Int) p.page p.tx (eachP p.count p.body).1 ≠ 0 ∨ lpg ((p.body.length + 24 : Nat) : Int) p.page p.tx (eachP p.count p.body).1 ≠ p then ([], 4)
  else ((eachP p.count p.body).1, 0)
theorem ofP_len (p : Pg) : (ofP p).1.length ≤ p.body.length := by
  unfold ofP
  split
  · exact Nat.zero_le _
  · split
    · exact Nat.zero_le _
    · exact eachP_len _ _
/-- What law 08 calls light; what may stand on a page of some size. -/
def itsz (l : List Item) : Nat := (l.map fun x => x.key.length + x.value.length).sum
def lightB (l : List Item) : Bool := decide (l.length ≤ 100) && decide (itsz l ≤ 4000)
def lightN (l : List Item) (a b : Int) : Bool := decide ((l.length : Int) ≤ a) && decide ((itsz l : Int) ≤ b)
theorem itsz_succ {l : List Item} {i : Nat} {x : Item} (h : l[i]? = some x) : itsz (l.take (i + 1)) = itsz (l.take i) + x.key.length + x.value.length := by
  unfold itsz
  rw [take_succ_at h]
  simp
  omega
theorem itsz_append (a b : List Item) : itsz (a ++ b) = itsz a + itsz b := by simp [itsz]
theorem itsz_le (l : List Item) (i : Nat) : itsz (l.take i) ≤ itsz l := by
  have := itsz_append (l.take i) (l.drop i)
  rw [List.take_append_drop] at this
  omega
theorem itsz_mem {l : List Item} {x : Item} (h : x ∈ l) : x.key.length + x.value.length ≤ itsz l := by
  induction l with
  | nil => cases h
  | cons y l ih =>
    rcases List.mem_cons.1 h with rfl | h
    · simp [itsz]
    · have := ih h
      simp only [itsz, List.map_cons, List.sum_cons] at this ⊢
      omega
def inB (s n : Int) : Bool := decide (0 ≤ n) && decide (n ≤ (if (255 : Int) < IntKind.i64.wrap (Int.tdiv s 8) then 255 else IntKind.i64.wrap (Int.tdiv s 8)))
theorem same_len {α : Type} [DecidableEq α] {a b : List α} (h : ¬a.length = b.length) : decide (a = b) = false := decide_eq_false fun e => h (by rw [e])
theorem same_ne {α : Type} [DecidableEq α] {a b : List α} {i : Nat} {x y : α} (hx : a[i]? = some x) (hy : b[i]? = some y) (h : ¬x = y) : decide (a = b) = false := decide_eq_false fun e => h (by rw [e, hy] at hx; exact (Option.some.inj hx).symm)
theorem same_end {α : Type} [DecidableEq α] {a b : List α} (h : a.take a.length = b.take a.length) (hl : a.length = b.length) : decide (a = b) = true := decide_eq_true (by
  rw [List.take_length, hl, List.take_length] at h; exact h)
theorem take_eq_succ {α : Type} {a b : List α} {i : Nat} {x : α} (h : a.take i = b.take i) (hx : a[i]? = some x) (hy : b[i]? = some x) : a.take (i + 1) = b.take (i + 1) := by
  rw [List.take_add_one, List.take_add_one, h, hx, hy]
theorem light_most {l : List Item} {a b : Int} (h : a < (l.length : Int)) : lightN l a b = false := by
  unfold lightN; rw [decide_eq_false (by omega)]; rfl
theorem light_big {l : List Item} {a b : Int} {i : Nat} (h : b < (itsz (l.take i) : Int)) : lightN l a b = false := by
  unfold lightN; have := itsz_le l i; rw [Bool.and_comm, decide_eq_false (by omega)]; rfl
theorem light_end {l : List Item} {a b : Int} (h : ¬a < (l.length : Int)) (h2 : (itsz (l.take l.length) : Int) ≤ b) : lightN l a b = true := by
  rw [List.take_length] at h2
  unfold lightN; rw [decide_eq_true (by omega), decide_eq_true h2]; rfl
end Go.Ev
