/- Words of my own: the order of strings by bytes. -/
import Derived.Test.YteackhccflojpaaOBase
set_option linter.unusedVariables false
set_option linter.unusedSimpArgs false
namespace Go.Proofs.YteackhccflojpaaO
open Go.RowKit
theorem bl_irrefl : ∀ l : List UInt8, Op.bytesLess l l = false
  | [] => rfl
  | a :: l => by simp [Op.bytesLess, bl_irrefl l]
theorem bl_nil (l : List UInt8) : Op.bytesLess l [] = false := by cases l <;> rfl
theorem bl_trans : ∀ {a b c : List UInt8}, Op.bytesLess a b = true → Op.bytesLess b c = true → Op.bytesLess a c = true
  | _, _, [], _, h => by rw [bl_nil] at h; cases h
  | _, [], _, h, _ => by rw [bl_nil] at h; cases h
  | [], _ :: _, _ :: _, _, _ => rfl
  | x :: a, y :: b, z :: c, h1, h2 => by
    simp only [Op.bytesLess, Bool.or_eq_true, Bool.and_eq_true, decide_eq_true_eq, beq_iff_eq] at h1 h2 ⊢
    rcases h1 with h1 | ⟨rfl, h1⟩
    · rcases h2 with h2 | ⟨rfl, h2⟩
      · exact .inl (UInt8.lt_trans h1 h2)
      · exact .inl h1
    · rcases h2 with h2 | ⟨rfl, h2⟩
      · exact .inl h2
      · exact .inr ⟨rfl, bl_trans h1 h2⟩
theorem bl_total : ∀ a b : List UInt8, Op.bytesLess a b = false → Op.bytesLess b a = false → a = b
  | [], [], _, _ => rfl
  | [], _ :: _, h, _ => by simp [Op.bytesLess] at h
  | _ :: _, [], _, h => by simp [Op.bytesLess] at h
  | x :: a, y :: b, h1, h2 => by
    simp only [Op.bytesLess, Bool.or_eq_false_iff, Bool.and_eq_false_iff, decide_eq_false_iff_not, beq_eq_false_iff_ne] at h1 h2
    have e : x = y := by
      have u := UInt8.not_lt.1 h1.1
      have v := UInt8.not_lt.1 h2.1
      exact UInt8.le_antisymm v u
    subst e
    rw [bl_total a b (h1.2.resolve_left (fun h => h rfl)) (h2.2.resolve_left (fun h => h rfl))]
theorem bl_asymm {a b : List UInt8} (h : Op.bytesLess a b = true) : Op.bytesLess b a = false := by
  cases e : Op.bytesLess b a with
  | false => rfl
  | true => have := bl_trans h e; rw [bl_irrefl] at this; cases this
/-- Not below is at or above: then what is below the one is below the other. -/
theorem bl_of_le {a b c : List UInt8} (h1 : Op.bytesLess b a = false) (h2 : Op.bytesLess b c = true) : Op.bytesLess a c = true := by
  cases e : Op.bytesLess a b with
  | true => exact bl_trans e h2
  | false => rw [bl_total a b e h1]; exact h2
theorem bl_of_lt_le {a b c : List UInt8} (h1 : Op.bytesLess a b = true) (h2 : Op.bytesLess c b = false) : Op.bytesLess a c = true := by
  cases e : Op.bytesLess b c with
  | true => exact bl_trans h1 e
  | false => rw [← bl_total b c e h2]; exact h1
theorem bl_le_trans {a b c : List UInt8} (h1 : Op.bytesLess b a = false) (h2 : Op.bytesLess c b = false) : Op.bytesLess c a = false := by
  cases e : Op.bytesLess c a with
  | false => rfl
  | true => rw [bl_of_lt_le e h1] at h2; exact h2
theorem smn_le_left (a b : ByteArray) : Op.bytesLess a.toList (smn a b).toList = false := by
  unfold smn
  split
  · exact bl_irrefl _
  · rename_i h
    simp only [Bool.or_eq_true, not_or, Bool.not_eq_true] at h
    exact h.1
theorem smn_le_right (a b : ByteArray) : Op.bytesLess b.toList (smn a b).toList = false := by
  unfold smn
  split
  · rename_i h
    simp only [Bool.or_eq_true, beq_iff_eq] at h
    rcases h with h | h
    · exact bl_asymm h
    · rw [h]; exact bl_irrefl _
  · exact bl_irrefl _
theorem smx_ge_left (a b : ByteArray) : Op.bytesLess (smx a b).toList a.toList = false := by
  unfold smx
  split
  · exact bl_irrefl _
  · rename_i h
    simp only [Bool.not_eq_true', Bool.not_eq_false] at h
    exact bl_asymm h
theorem smx_ge_right (a b : ByteArray) : Op.bytesLess (smx a b).toList b.toList = false := by
  unfold smx
  split
  · rename_i h
    simpa using h
  · exact bl_irrefl _
/-- Of the smaller and the greater, the smaller is not above the greater. -/
theorem smn_le_smx (a b : ByteArray) : Op.bytesLess (smx a b).toList (smn a b).toList = false := bl_le_trans (smn_le_left a b) (smx_ge_left a b)
end Go.Proofs.YteackhccflojpaaO
