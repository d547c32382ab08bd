/- Words of my own: the order of strings by bytes. -/
import Derived.Test.YtmnpchmdgobcnaaHm
set_option linter.unusedVariables false
set_option linter.unusedSimpArgs false
namespace Go.Ev
open Go.RowKit
theorem bl_irrefl : ∀ l : List UInt8, sLt l l = false
  | [] => rfl
  | a :: l => by
    have := bl_irrefl l
    simp [sLt, Op.bytesLess] at this ⊢
    exact this
theorem bl_nil (l : List UInt8) : sLt l [] = false := by cases l <;> rfl
theorem bl_trans : ∀ {a b c : List UInt8}, sLt a b = true → sLt b c = true → sLt a c = true
  | _, _, [], _, h => by rw [bl_nil] at h; cases h
  | _, [], _, h, _ => by rw [bl_nil] at h; cases h
  | [], _ :: _, _ :: _, _, _ => rfl
  | x :: a, y :: b, z :: c, h1, h2 => by
    simp only [sLt, Op.bytesLess, Bool.or_eq_true, Bool.and_eq_true, decide_eq_true_eq, beq_iff_eq] at h1 h2 ⊢
    rcases h1 with h1 | ⟨rfl, h1⟩
    · rcases h2 with h2 | ⟨rfl, h2⟩
      · exact .inl (UInt8.lt_trans h1 h2)
      · exact .inl h1
    · rcases h2 with h2 | ⟨rfl, h2⟩
      · exact .inl h2
      · exact .inr ⟨rfl, bl_trans h1 h2⟩
theorem bl_total : ∀ a b : List UInt8, sLt a b = false → sLt b a = false → a = b
  | [], [], _, _ => rfl
  | [], _ :: _, h, _ => by simp [sLt, Op.bytesLess] at h
  | _ :: _, [], _, h => by simp [sLt, Op.bytesLess] at h
  | x :: a, y :: b, h1, h2 => by
    simp only [sLt, Op.bytesLess, Bool.or_eq_false_iff, Bool.and_eq_false_iff, decide_eq_false_iff_not, beq_eq_false_iff_ne] at h1 h2
    have e : x = y := by
      have u := UInt8.not_lt.1 h1.1
      have v := UInt8.not_lt.1 h2.1
      exact UInt8.le_antisymm v u
    subst e
    rw [bl_total a b (h1.2.resolve_left (fun h => h rfl)) (h2.2.resolve_left (fun h => h rfl))]
theorem bl_asymm {a b : List UInt8} (h : sLt a b = true) : sLt b a = false := by
  cases e : sLt b a with
  | false => rfl
  | true => have := bl_trans h e; rw [bl_irrefl] at this; cases this
/-- Not below is at or above: then what is below the one is below the other. -/
theorem bl_of_le {a b c : List UInt8} (h1 : sLt b a = false) (h2 : sLt b c = true) : sLt a c = true := by
  cases e : sLt a b with
  | true => exact bl_trans e h2
  | false => rw [bl_total a b e h1]; exact h2
theorem bl_of_lt_le {a b c : List UInt8} (h1 : sLt a b = true) (h2 : sLt c b = false) : sLt a c = true := by
  cases e : sLt b c with
  | true => exact bl_trans h1 e
  | false => rw [← bl_total b c e h2]; exact h1
end Go.Ev
