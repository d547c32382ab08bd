/- Words of my own: strings as lists of numbers; numbers as bytes, the least first. -/
import Derived.Test.YteackhccflojpaaOStr
import Derived.Lib.Strings
import Derived.Lib.Bytes
import Derived.Laws.BitsAllLaws
set_option linter.unusedVariables false
set_option linter.unusedSimpArgs false
namespace Go.Proofs.YteackhccflojpaaO
open Go.RowKit Go.Proofs.YteackhccflojpaaW.PrintWords
/-- As a step of its own (no unfolding: the kernel is not to compare what stands on both sides). -/
theorem bs {α β : Type} (a : α) (f : α → Option β) : (some a).bind f = f a := Eq.trans (Option.bind_some a f) (Eq.refl (f a))
/-- Numbers that are bytes. -/
def isB (l : List Int) : Prop := ∀ x ∈ l, 0 ≤ x ∧ x < 256
theorem isB_nil : isB [] := fun _ h => by cases h
theorem isB_cons {x : Int} {l : List Int} (hx : 0 ≤ x ∧ x < 256) (h : isB l) : isB (x :: l) := by
  intro y hy
  rcases List.mem_cons.1 hy with rfl | hy
  · exact hx
  · exact h y hy
theorem isB_append {l m : List Int} (h1 : isB l) (h2 : isB m) : isB (l ++ m) := by
  intro y hy
  rcases List.mem_append.1 hy with hy | hy
  · exact h1 y hy
  · exact h2 y hy
theorem isB_left {l m : List Int} (h : isB (l ++ m)) : isB l := fun x hx => h x (List.mem_append_left _ hx)
theorem isB_right {l m : List Int} (h : isB (l ++ m)) : isB m := fun x hx => h x (List.mem_append_right _ hx)
theorem isB_take {l : List Int} (h : isB l) (n : Nat) : isB (l.take n) := fun x hx => h x (List.mem_of_mem_take hx)
theorem isB_drop {l : List Int} (h : isB l) (n : Nat) : isB (l.drop n) := fun x hx => h x (List.mem_of_mem_drop hx)
theorem isB_wf {l : List Int} (h : ∀ x ∈ l, (Lit.int .u8 x).wf = true) : isB l := by
  intro x hx
  have := h x hx
  have h1 : IntKind.u8.min = 0 := rfl
  have h2 : IntKind.u8.max = 255 := rfl
  simp [Lit.wf, h1, h2] at this
  omega
/-- A string's bytes. -/
abbrev B (s : ByteArray) : List Int := bytesOf s
theorem isB_B (s : ByteArray) : isB (B s) := by
  intro x hx
  simp only [bytesOf, List.mem_map] at hx
  obtain ⟨b, _, rfl⟩ := hx
  have := b.toNat_lt
  omega
theorem B_length (s : ByteArray) : (B s).length = s.size := bytesOf_length s
theorem B_inj {s t : ByteArray} (h : B s = B t) : s = t := by
  have h2 : s.data.toList = t.data.toList := by
    refine List.map_inj_right (fun a b hab => ?_) |>.1 h
    exact UInt8.toNat_inj.1 (Int.ofNat_inj.1 hab)
  cases s; cases t
  simp only [ByteArray.mk.injEq]
  exact Array.toList_inj.1 h2
theorem toList_iff {s t : ByteArray} : s.toList = t.toList ↔ B s = B t := by
  rw [Lib.toList_data, Lib.toList_data]
  refine ⟨fun h => by simp only [bytesOf, h], fun h => by rw [B_inj h]⟩
theorem toList_eq_iff {s t : ByteArray} : s.toList = t.toList ↔ s = t := ⟨fun h => B_inj (toList_iff.1 h), fun h => by rw [h]⟩
theorem B_append (s t : ByteArray) : B (s ++ t) = B s ++ B t := by
  simp [bytesOf, ByteArray.data_append]
theorem B_extract (s : ByteArray) (a b : Nat) : B (s.extract a b) = ((B s).take b).drop a := by
  simp only [bytesOf, Lib.extract_data, List.map_take, List.map_drop]
  rw [List.drop_take]
theorem B_drop (s : ByteArray) (a : Nat) : B (s.extract a s.size) = (B s).drop a := by
  rw [B_extract, List.take_of_length_le (by rw [B_length]; exact Nat.le_refl _)]
theorem B_take (s : ByteArray) (b : Nat) : B (s.extract 0 b) = (B s).take b := by
  rw [B_extract, List.drop_zero]
theorem B_empty : B ⟨#[]⟩ = [] := rfl
theorem B_str {l : List Int} (h : isB l) : B (strOfNums l) = l := by
  simp only [bytesOf, strOfNums_data, List.map_map]
  refine (List.map_congr_left (g := id) (fun x hx => ?_)).trans (List.map_id l)
  have := h x hx
  simp only [Function.comp, id, UInt8.toNat_ofNat']
  omega
theorem str_B (s : ByteArray) : strOfNums (B s) = s := by
  apply B_inj
  exact B_str (isB_B s)
theorem size_str (l : List Int) : (strOfNums l).size = l.length := strOfNums_size l
theorem bt_B (s : ByteArray) (i : Int) : bt s i = rd (B s) i := (rd_bytesOf s i).symm
theorem rd_nat (l : List Int) (i : Nat) : rd l (i : Int) = l.getD i 0 := by simp [rd]
theorem rd_get {l : List Int} {i : Nat} (h : i < l.length) : rd l (i : Int) = l[i] := by simp [rd, h]

/-! ### numbers, the least byte first -/
def le : Int → Nat → List Int
  | _, 0 => []
  | n, k + 1 => n % 256 :: le (n / 256) k
def ofLe : List Int → Int
  | [] => 0
  | b :: l => b + ofLe l * 256
theorem le_length : ∀ (k : Nat) (n : Int), (le n k).length = k
  | 0, _ => rfl
  | k + 1, n => by simp [le, le_length k]
theorem isB_le : ∀ (k : Nat) (n : Int), isB (le n k)
  | 0, _ => isB_nil
  | k + 1, n => isB_cons (by omega) (isB_le k _)
theorem pow_succ256 (k : Nat) : (256 : Int) ^ (k + 1) = 256 * 256 ^ k := by rw [Int.pow_succ, Int.mul_comm]
theorem pow_pos256 (k : Nat) : (0 : Int) < 256 ^ k := Int.pow_pos (by decide)
theorem ofLe_le : ∀ (k : Nat) (n : Int), ofLe (le n k) = n % 256 ^ k
  | 0, n => by simp [le, ofLe, Int.emod_one]
  | k + 1, n => by
    simp only [le, ofLe]
    rw [ofLe_le k, pow_succ256]
    rw [Int.emod_def n (256 * 256 ^ k), Int.emod_def (n / 256), ← Int.ediv_ediv_of_nonneg (by decide), Int.mul_assoc 256]
    generalize 256 ^ k * (n / 256 / 256 ^ k) = z
    omega
theorem ofLe_nonneg : ∀ {l : List Int}, isB l → 0 ≤ ofLe l
  | [], _ => Int.le_refl _
  | b :: l, h => by
    have h1 := h b (List.mem_cons_self ..)
    have h2 := ofLe_nonneg (l := l) (fun x hx => h x (List.mem_cons_of_mem _ hx))
    simp only [ofLe]
    omega
theorem ofLe_lt : ∀ {l : List Int}, isB l → ofLe l < 256 ^ l.length
  | [], _ => by simp [ofLe]
  | b :: l, h => by
    have h1 := h b (List.mem_cons_self ..)
    have h2 := ofLe_lt (l := l) (fun x hx => h x (List.mem_cons_of_mem _ hx))
    simp only [ofLe, List.length_cons]
    rw [pow_succ256]
    omega
theorem le_ofLe : ∀ {l : List Int}, isB l → le (ofLe l) l.length = l
  | [], _ => rfl
  | b :: l, h => by
    have h1 := h b (List.mem_cons_self ..)
    have h2 := le_ofLe (l := l) (fun x hx => h x (List.mem_cons_of_mem _ hx))
    simp only [ofLe, List.length_cons, le]
    rw [show (b + ofLe l * 256) % 256 = b by omega, show (b + ofLe l * 256) / 256 = ofLe l by omega, h2]
theorem ofLe_snoc : ∀ (l : List Int) (b : Int), ofLe (l ++ [b]) = ofLe l + b * 256 ^ l.length
  | [], b => by simp [ofLe]
  | a :: l, b => by
    simp only [List.cons_append, ofLe, List.length_cons]
    rw [ofLe_snoc l b, pow_succ256, Int.add_mul, Int.mul_assoc b, Int.mul_comm (256 : Int) (256 ^ l.length), ← Int.mul_assoc b]
    omega
theorem le_snoc : ∀ (k : Nat) (n : Int), le n (k + 1) = le n k ++ [n / 256 ^ k % 256]
  | 0, n => by simp [le]
  | k + 1, n => by
    have h := le_snoc k (n / 256)
    rw [le, h, le, pow_succ256, ← Int.ediv_ediv_of_nonneg (by decide)]
    rfl
end Go.Proofs.YteackhccflojpaaO
