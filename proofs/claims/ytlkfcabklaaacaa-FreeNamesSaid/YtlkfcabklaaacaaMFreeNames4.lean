/- The texts that the statement's row rests on, one behind the other. -/
import Derived.Test.YtlkfcabklaaacaaMFreeNames1
import Derived.Lib.Strings
import Derived.Lib.Bytes
import Derived.Laws.BitsAllLaws
import Derived.Test.YtlkfcabklaaacaaMFreeNames2
import Derived.Test.YtlkfcabklaaacaaMFreeNames3
namespace Go.Proofs.Ytlkfcabklaaacaa.P
open Go.RowKit Go.Proofs.YtlkfcabklaaacaaW.PrintWords Go.Proofs.YtlkfcabklaaacaaW.PrintLast Go.Proofs.YtlkfcabklaaacaaW.PrintMore
attribute [local go_sem] max2_int min2_int max_two min_two max_three min_three max_four min_four   -- for this text's walks alone
open Go.Proofs.YtlkfcabklaaacaaO
attribute [local go_sem] min2_str max2_str
set_option linter.unusedVariables false
set_option linter.unusedSimpArgs false
/-! ### careenageref03_Good: function 63 -/
def careenageref03_Good.f (a0 : Int) : Option (Bool) := if a0 ≥ 128 then (if a0 ≤ 4096 then (some ((Int.tmod a0 64) == 0)) else (some false)) else (some false)
end Go.Proofs.Ytlkfcabklaaacaa.P

namespace Go.Proofs.Ytlkfcabklaaacaa.P
open Go.RowKit Go.Proofs.YtlkfcabklaaacaaW.PrintWords Go.Proofs.YtlkfcabklaaacaaW.PrintLast Go.Proofs.YtlkfcabklaaacaaW.PrintMore
attribute [local go_sem] max2_int min2_int max_two min_two max_three min_three max_four min_four   -- for this text's walks alone
open Go.Proofs.YtlkfcabklaaacaaO
attribute [local go_sem] min2_str max2_str
set_option linter.unusedVariables false
set_option linter.unusedSimpArgs false
/-! ### careenageref04_Room: function 37 -/
def careenageref04_Room.f (a0 : Int) : Option (Int) := (careenageref03_Good.f a0).bind fun t325 => (if t325 = true then (some (wrap64 (a0 - 24))) else (some 0))
end Go.Proofs.Ytlkfcabklaaacaa.P

namespace Go.Proofs.Ytlkfcabklaaacaa.P
open Go.RowKit Go.Proofs.YtlkfcabklaaacaaW.PrintWords Go.Proofs.YtlkfcabklaaacaaW.PrintLast Go.Proofs.YtlkfcabklaaacaaW.PrintMore
attribute [local go_sem] max2_int min2_int max_two min_two max_three min_three max_four min_four   -- for this text's walks alone
open Go.Proofs.YtlkfcabklaaacaaO
attribute [local go_sem] min2_str max2_str
set_option linter.unusedVariables false
set_option linter.unusedSimpArgs false
/-! ### careenageref10_Most: function 36 -/
def careenageref10_Most.f (a0 : Int) : Option (Int) := (careenageref04_Room.f a0).bind fun t326 => (some (wrap64 (Int.tdiv t326 4)))
end Go.Proofs.Ytlkfcabklaaacaa.P

namespace Go.Proofs.Ytlkfcabklaaacaa.P
open Go.RowKit Go.Proofs.YtlkfcabklaaacaaW.PrintWords Go.Proofs.YtlkfcabklaaacaaW.PrintLast Go.Proofs.YtlkfcabklaaacaaW.PrintMore
attribute [local go_sem] max2_int min2_int max_two min_two max_three min_three max_four min_four   -- for this text's walks alone
open Go.Proofs.YtlkfcabklaaacaaO
attribute [local go_sem] min2_str max2_str
set_option linter.unusedVariables false
set_option linter.unusedSimpArgs false
/-! ### careenageref04_Number: function 65 -/
def careenageref04_Number.f (a0 : Int) : Option (Bool) := if a0 ≥ 2 then (some (decide (a0 ≤ 2147483647))) else (some false)
end Go.Proofs.Ytlkfcabklaaacaa.P

namespace Go.Proofs.Ytlkfcabklaaacaa.P
open Go.RowKit Go.Proofs.YtlkfcabklaaacaaW.PrintWords Go.Proofs.YtlkfcabklaaacaaW.PrintLast Go.Proofs.YtlkfcabklaaacaaW.PrintMore
attribute [local go_sem] max2_int min2_int max_two min_two max_three min_three max_four min_four   -- for this text's walks alone
open Go.Proofs.YtlkfcabklaaacaaO
attribute [local go_sem] min2_str max2_str
set_option linter.unusedVariables false
set_option linter.unusedSimpArgs false
/-! ### careenageref10_Rises: function 34 -/
def careenageref10_Rises.l0 : Nat → List Int → Int → Option (Bool)
  | 0, _, _ => none
  | k + 1, x0, x3 => if x3 < (x0.length : Int) then (if 0 ≤ (wrap64 (x3 - 1)) then (if (wrap64 (x3 - 1)) < (x0.length : Int) then (if 0 ≤ x3 then (if (rd x0 (wrap64 (x3 - 1))) ≥ (rd x0 x3) then (some false) else (careenageref10_Rises.l0 k x0 (wrap64 (x3 + 1)))) else (none)) else (none)) else (none)) else (some true)
def careenageref10_Rises.f (k : Nat) (l0 : List Int) : Option (Bool) := careenageref10_Rises.l0 k l0 1
end Go.Proofs.Ytlkfcabklaaacaa.P

namespace Go.Proofs.Ytlkfcabklaaacaa.P
open Go.RowKit Go.Proofs.YtlkfcabklaaacaaW.PrintWords Go.Proofs.YtlkfcabklaaacaaW.PrintLast Go.Proofs.YtlkfcabklaaacaaW.PrintMore
attribute [local go_sem] max2_int min2_int max_two min_two max_three min_three max_four min_four   -- for this text's walks alone
open Go.Proofs.YtlkfcabklaaacaaO
attribute [local go_sem] min2_str max2_str
set_option linter.unusedVariables false
set_option linter.unusedSimpArgs false
/-! ### careenageref10_Numbers: function 64 -/
def careenageref10_Numbers.l0 : Nat → List Int → Int → Option (Bool)
  | 0, _, _ => none
  | k + 1, x0, x3 => if x3 < (x0.length : Int) then (if 0 ≤ x3 then ((careenageref04_Number.f (rd x0 x3)).bind fun t330 => (if t330 = true then (careenageref10_Numbers.l0 k x0 (wrap64 (x3 + 1))) else (some false))) else (none)) else ((careenageref10_Rises.f k x0).bind fun t331 => (some t331))
def careenageref10_Numbers.f (k : Nat) (l0 : List Int) : Option (Bool) := careenageref10_Numbers.l0 k l0 0
end Go.Proofs.Ytlkfcabklaaacaa.P

namespace Go.Proofs.Ytlkfcabklaaacaa.P
open Go.RowKit Go.Proofs.YtlkfcabklaaacaaW.PrintWords Go.Proofs.YtlkfcabklaaacaaW.PrintLast Go.Proofs.YtlkfcabklaaacaaW.PrintMore
attribute [local go_sem] max2_int min2_int max_two min_two max_three min_three max_four min_four   -- for this text's walks alone
open Go.Proofs.YtlkfcabklaaacaaO
attribute [local go_sem] min2_str max2_str
set_option linter.unusedVariables false
set_option linter.unusedSimpArgs false
/-! ### careenageref01_Put: function 66 -/
mutual
def careenageref01_Put.j0 : Nat → Int → Int → List Int → Bool → Option (List Int)
  | 0, _, _, _, _ => none
  | k + 1, x1, x2, x7, x17 => if x17 = true then (some x7) else (careenageref01_Put.l0 k x1 x2 x7 0)
def careenageref01_Put.l0 : Nat → Int → Int → List Int → Int → Option (List Int)
  | 0, _, _, _, _ => none
  | k + 1, x1, x2, x7, x8 => if x8 < x2 then (if 0 ≤ (IntKind.u64.wrap (wrap64 (8 * x8))) then (if x7.length < 140737488355328 then (careenageref01_Put.l0 k x1 x2 (x7 ++ [(shr .u64 x1 (IntKind.u64.wrap (wrap64 (8 * x8)))) % 256]) (wrap64 (x8 + 1))) else (none)) else (none)) else (some x7)
end
def careenageref01_Put.f (k : Nat) (l0 : List Int) (a1 : Int) (a2 : Int) : Option (List Int) := (some (([] : List Int) : List Int)).bind fun y332 => (if y332.length + l0.length < 140737488355328 then ((some (y332 ++ l0 : List Int)).bind fun y335 => (if a2 < 1 then (careenageref01_Put.j0 k a1 a2 y335 true) else (careenageref01_Put.j0 k a1 a2 y335 (decide (a2 > 8))))) else (none))
end Go.Proofs.Ytlkfcabklaaacaa.P

namespace Go.Proofs.Ytlkfcabklaaacaa.P
open Go.RowKit Go.Proofs.YtlkfcabklaaacaaW.PrintWords Go.Proofs.YtlkfcabklaaacaaW.PrintLast Go.Proofs.YtlkfcabklaaacaaW.PrintMore
attribute [local go_sem] max2_int min2_int max_two min_two max_three min_three max_four min_four   -- for this text's walks alone
open Go.Proofs.YtlkfcabklaaacaaO
attribute [local go_sem] min2_str max2_str
set_option linter.unusedVariables false
set_option linter.unusedSimpArgs false
/-! ### careenageref04_Body: function 67 -/
def careenageref04_Body.f (a0 : Int) (l1 : List Int) : Option (ByteArray × Int) := (careenageref03_Good.f a0).bind fun t341 => (if t341 = true then ((careenageref04_Room.f a0).bind fun t342 => (if (l1.length : Int) > t342 then (some ((⟨#[]⟩ : ByteArray), 3)) else ((careenageref04_Room.f a0).bind fun t343 => (if 0 ≤ (wrap64 (t343 - (l1.length : Int))) then (if (wrap64 (t343 - (l1.length : Int)) : Int).toNat ≤ 281474976710656 then ((some (List.replicate (wrap64 (t343 - (l1.length : Int)) : Int).toNat 0 : List Int)).bind fun y344 => (if (strOfNums l1).size + (strOfNums y344).size ≤ 9223372036854775807 then (some ((strOfNums l1) ++ (strOfNums y344), 0)) else (none))) else (none)) else (none))))) else (some ((⟨#[]⟩ : ByteArray), 2)))
end Go.Proofs.Ytlkfcabklaaacaa.P

namespace Go.Proofs.Ytlkfcabklaaacaa.P
open Go.RowKit Go.Proofs.YtlkfcabklaaacaaW.PrintWords Go.Proofs.YtlkfcabklaaacaaW.PrintLast Go.Proofs.YtlkfcabklaaacaaW.PrintMore
attribute [local go_sem] max2_int min2_int max_two min_two max_three min_three max_four min_four   -- for this text's walks alone
open Go.Proofs.YtlkfcabklaaacaaO
attribute [local go_sem] min2_str max2_str
set_option linter.unusedVariables false
set_option linter.unusedSimpArgs false
/-! ### careenageref10_Page: function 32 -/
mutual
def careenageref10_Page.j0 : Nat → Int → Int → Int → Int → List Int → Bool → Option (Int × Int × Int × Int × Int × ByteArray × Int)
  | 0, _, _, _, _, _, _ => none
  | k + 1, x0, x1, x2, x3, x4, x48 => if x48 = true then (some (0, 0, 0, 0, 0, (⟨#[]⟩ : ByteArray), 2)) else (careenageref10_Page.l0 k x0 x1 x2 x3 x4 ([] : List Int) 0)
def careenageref10_Page.l0 : Nat → Int → Int → Int → Int → List Int → List Int → Int → Option (Int × Int × Int × Int × Int × ByteArray × Int)
  | 0, _, _, _, _, _, _, _ => none
  | k + 1, x0, x1, x2, x3, x4, x12, x13 => if x13 < (x4.length : Int) then (if 0 ≤ x13 then ((careenageref01_Put.f k x12 (IntKind.u64.wrap (rd x4 x13)) 4).bind fun t354 => (careenageref10_Page.l0 k x0 x1 x2 x3 x4 t354 (wrap64 (x13 + 1)))) else (none)) else ((careenageref04_Body.f x0 x12).bind fun bt357 => (some (6, (x4.length : Int), x1, x2, x3, bt357.1, 0)))
end
def careenageref10_Page.f (k : Nat) (a0 : Int) (a1 : Int) (a2 : Int) (a3 : Int) (l4 : List Int) : Option (Int × Int × Int × Int × Int × ByteArray × Int) := (careenageref03_Good.f a0).bind fun t348 => (if t348 = true then ((careenageref10_Numbers.f k l4).bind fun t349 => (if t349 = true then ((careenageref10_Most.f a0).bind fun t350 => (if (l4.length : Int) > t350 then (careenageref10_Page.j0 k a0 a1 a2 a3 l4 true) else ((careenageref04_Number.f a1).bind fun t351 => (if t351 = true then (if a2 = 0 then (careenageref10_Page.j0 k a0 a1 a2 a3 l4 (decide (a3 > 4611686018427387904))) else ((careenageref04_Number.f a2).bind fun t352 => (if t352 = true then (careenageref10_Page.j0 k a0 a1 a2 a3 l4 (decide (a3 > 4611686018427387904))) else (careenageref10_Page.j0 k a0 a1 a2 a3 l4 true)))) else (careenageref10_Page.j0 k a0 a1 a2 a3 l4 true))))) else (careenageref10_Page.j0 k a0 a1 a2 a3 l4 true))) else (careenageref10_Page.j0 k a0 a1 a2 a3 l4 true))
end Go.Proofs.Ytlkfcabklaaacaa.P

namespace Go.Proofs.Ytlkfcabklaaacaa.P
open Go.RowKit Go.Proofs.YtlkfcabklaaacaaW.PrintWords Go.Proofs.YtlkfcabklaaacaaW.PrintLast Go.Proofs.YtlkfcabklaaacaaW.PrintMore
attribute [local go_sem] max2_int min2_int max_two min_two max_three min_three max_four min_four   -- for this text's walks alone
open Go.Proofs.YtlkfcabklaaacaaO
attribute [local go_sem] min2_str max2_str
set_option linter.unusedVariables false
set_option linter.unusedSimpArgs false
/-- A state of type 96 at block g of W; what its slices lead to came in by w0. -/
def IsS96 (w0 W : World) (g : Nat) (f0 : ByteArray) : Prop := W.heap[g]? = some (.cells #[.string f0] 96 (0, 0)) ∧ w0.heap.size ≤ g
theorem IsS96.apart {w0 W : World} {g : Nat} {f0 : ByteArray} {α : Type} {d : Kd α} {e : Nat} {base : Nat} {ok : Nat → Prop} {v : Value} {xs : List α} (h : IsS96 w0 W g f0) (ho : d.R e W base ok v xs) (ht : ∀ q, q ∈ e :: d.E → q ≠ 96) : d.R e W base (fun k => ok k ∧ k ≠ g) v xs := by
  obtain ⟨hb, hg⟩ := h
  exact Kd.R_types ho hb ht
/-! ### careenageref01_New: function 68 -/
def careenageref01_New.f (a0 : ByteArray) : Option (ByteArray) := some a0
end Go.Proofs.Ytlkfcabklaaacaa.P

namespace Go.Proofs.Ytlkfcabklaaacaa.P
open Go.RowKit Go.Proofs.YtlkfcabklaaacaaW.PrintWords Go.Proofs.YtlkfcabklaaacaaW.PrintLast Go.Proofs.YtlkfcabklaaacaaW.PrintMore
attribute [local go_sem] max2_int min2_int max_two min_two max_three min_three max_four min_four   -- for this text's walks alone
open Go.Proofs.YtlkfcabklaaacaaO
attribute [local go_sem] min2_str max2_str
set_option linter.unusedVariables false
set_option linter.unusedSimpArgs false
/-! ### careenageref01_Reader_Number: function 69 -/
mutual
def careenageref01_Reader_Number.j0 : Nat → Int → Bool → ByteArray → Option (Int × Int × ByteArray)
  | 0, _, _, _ => none
  | k + 1, x1, x13, x1000 => if x13 = true then (some (0, 2, x1000)) else (if (x1000.size : Int) < x1 then (some (0, 7, x1000)) else (careenageref01_Reader_Number.l0 k x1 0 0 x1000))
def careenageref01_Reader_Number.l0 : Nat → Int → Int → Int → ByteArray → Option (Int × Int × ByteArray)
  | 0, _, _, _, _ => none
  | k + 1, x1, x6, x7, x1000 => if x7 < x1 then (if 0 ≤ x7 then (if x7 < (x1000.size : Int) then (if 0 ≤ (IntKind.u64.wrap (wrap64 (8 * x7))) then (careenageref01_Reader_Number.l0 k x1 (Go.bits .or .u64 x6 (shl .u64 (IntKind.u64.wrap (bt x1000 x7)) (IntKind.u64.wrap (wrap64 (8 * x7))))) (wrap64 (x7 + 1)) x1000) else (none)) else (none)) else (none)) else (if 0 ≤ x1 then (if x1 ≤ (x1000.size : Int) then (some (x6, 0, x1000.extract (x1 : Int).toNat x1000.size)) else (none)) else (none))
end
def careenageref01_Reader_Number.f (k : Nat) (s0_0 : ByteArray) (a1 : Int) : Option (Int × Int × ByteArray) := if a1 < 1 then (careenageref01_Reader_Number.j0 k a1 true s0_0) else (careenageref01_Reader_Number.j0 k a1 (decide (a1 > 8)) s0_0)
end Go.Proofs.Ytlkfcabklaaacaa.P

namespace Go.Proofs.Ytlkfcabklaaacaa.P
open Go.RowKit Go.Proofs.YtlkfcabklaaacaaW.PrintWords Go.Proofs.YtlkfcabklaaacaaW.PrintLast Go.Proofs.YtlkfcabklaaacaaW.PrintMore
attribute [local go_sem] max2_int min2_int max_two min_two max_three min_three max_four min_four   -- for this text's walks alone
open Go.Proofs.YtlkfcabklaaacaaO
attribute [local go_sem] min2_str max2_str
set_option linter.unusedVariables false
set_option linter.unusedSimpArgs false
attribute [local go_sem high] eqA39
/-! ### careenageref10_Of: function 33 -/
def careenageref10_Of.l0 : Nat → List Int → Int → Int → Int → Int → Int → Int → ByteArray → ByteArray → Option (List Int × Int × Int)
  | 0, _, _, _, _, _, _, _, _, _ => none
  | k + 1, x6, x7, x361000, x361001, x361002, x361003, x361004, x361005, x363000 => if x7 < x361001 then ((careenageref01_Reader_Number.f k x363000 4).bind fun bt363 => (if bt363.2.1 = 0 then (if x6.length < 35184372088832 then (careenageref10_Of.l0 k (x6 ++ [(bt363.1) % 4294967296]) (wrap64 (x7 + 1)) x361000 x361001 x361002 x361003 x361004 x361005 bt363.2.2) else (none)) else (some (([] : List Int), 0, 4)))) else ((careenageref10_Page.f k (wrap64 ((x361005.size : Int) + 24)) x361002 x361003 x361004 x6).bind fun bt369 => (if bt369.2.2.2.2.2.2 = 0 then (if (!(bt369.1 == x361000) || (!(bt369.2.1 == x361001) || (!(bt369.2.2.1 == x361002) || (!(bt369.2.2.2.1 == x361003) || (!(bt369.2.2.2.2.1 == x361004) || (!(bt369.2.2.2.2.2.1.toList == x361005.toList))))))) = true then (some (([] : List Int), 0, 4)) else (some (x6, x361003, 0))) else (some (([] : List Int), 0, 4))))
def careenageref10_Of.f (k : Nat) (a0_0 : Int) (a0_1 : Int) (a0_2 : Int) (a0_3 : Int) (a0_4 : Int) (a0_5 : ByteArray) : Option (List Int × Int × Int) := (careenageref01_New.f a0_5).bind fun t361 => (careenageref10_Of.l0 k ([] : List Int) 0 a0_0 a0_1 a0_2 a0_3 a0_4 a0_5 t361)
end Go.Proofs.Ytlkfcabklaaacaa.P

namespace Go.Proofs.YtlkfcabklaaacaaO
set_option linter.unusedVariables false
set_option linter.unusedSimpArgs false
open Go.RowKit Go.Proofs.YtlkfcabklaaacaaW.PrintWords
/-- As a step of its own (no unfolding: the kernel is not to compare what stands on both sides). -/
theorem bs {α β : Type} (a : α) (f : α → Option β) : (some a).bind f = f a := Eq.trans (Option.bind_some a f) (Eq.refl (f a))
/-- Numbers that are bytes. -/
def isB (l : List Int) : Prop := ∀ x ∈ l, 0 ≤ x ∧ x < 256
theorem isB_nil : isB [] := fun _ h => by cases h
theorem isB_cons {x : Int} {l : List Int} (hx : 0 ≤ x ∧ x < 256) (h : isB l) : isB (x :: l) := by
  intro y hy
  rcases List.mem_cons.1 hy with rfl | hy
  · exact hx
  · exact h y hy
theorem isB_append {l m : List Int} (h1 : isB l) (h2 : isB m) : isB (l ++ m) := by
  intro y hy
  rcases List.mem_append.1 hy with hy | hy
  · exact h1 y hy
  · exact h2 y hy
theorem isB_take {l : List Int} (h : isB l) (n : Nat) : isB (l.take n) := fun x hx => h x (List.mem_of_mem_take hx)
/-- A string's bytes. -/
abbrev B (s : ByteArray) : List Int := bytesOf s
theorem isB_B (s : ByteArray) : isB (B s) := by
  intro x hx
  simp only [bytesOf, List.mem_map] at hx
  obtain ⟨b, _, rfl⟩ := hx
  have := b.toNat_lt
  omega
theorem B_length (s : ByteArray) : (B s).length = s.size := bytesOf_length s
theorem B_inj {s t : ByteArray} (h : B s = B t) : s = t := by
  have h2 : s.data.toList = t.data.toList := by
    refine List.map_inj_right (fun a b hab => ?_) |>.1 h
    exact UInt8.toNat_inj.1 (Int.ofNat_inj.1 hab)
  cases s; cases t
  simp only [ByteArray.mk.injEq]
  exact Array.toList_inj.1 h2
theorem toList_iff {s t : ByteArray} : s.toList = t.toList ↔ B s = B t := by
  rw [Lib.toList_data, Lib.toList_data]
  refine ⟨fun h => by simp only [bytesOf, h], fun h => by rw [B_inj h]⟩
theorem toList_eq_iff {s t : ByteArray} : s.toList = t.toList ↔ s = t := ⟨fun h => B_inj (toList_iff.1 h), fun h => by rw [h]⟩
theorem B_extract (s : ByteArray) (a b : Nat) : B (s.extract a b) = ((B s).take b).drop a := by
  simp only [bytesOf, Lib.extract_data, List.map_take, List.map_drop]
  rw [List.drop_take]
theorem B_drop (s : ByteArray) (a : Nat) : B (s.extract a s.size) = (B s).drop a := by
  rw [B_extract, List.take_of_length_le (by rw [B_length]; exact Nat.le_refl _)]
theorem B_take (s : ByteArray) (b : Nat) : B (s.extract 0 b) = (B s).take b := by
  rw [B_extract, List.drop_zero]
theorem B_empty : B ⟨#[]⟩ = [] := rfl
theorem B_str {l : List Int} (h : isB l) : B (strOfNums l) = l := by
  simp only [bytesOf, strOfNums_data, List.map_map]
  refine (List.map_congr_left (g := id) (fun x hx => ?_)).trans (List.map_id l)
  have := h x hx
  simp only [Function.comp, id, UInt8.toNat_ofNat']
  omega
theorem size_str (l : List Int) : (strOfNums l).size = l.length := strOfNums_size l
theorem bt_B (s : ByteArray) (i : Int) : bt s i = rd (B s) i := (rd_bytesOf s i).symm
theorem rd_get {l : List Int} {i : Nat} (h : i < l.length) : rd l (i : Int) = l[i] := by simp [rd, h]
/-! ### numbers, the least byte first -/
def le : Int → Nat → List Int
  | _, 0 => []
  | n, k + 1 => n % 256 :: le (n / 256) k
def ofLe : List Int → Int
  | [] => 0
  | b :: l => b + ofLe l * 256
theorem le_length : ∀ (k : Nat) (n : Int), (le n k).length = k
  | 0, _ => rfl
  | k + 1, n => by simp [le, le_length k]
theorem isB_le : ∀ (k : Nat) (n : Int), isB (le n k)
  | 0, _ => isB_nil
  | k + 1, n => isB_cons (by omega) (isB_le k _)
theorem pow_succ256 (k : Nat) : (256 : Int) ^ (k + 1) = 256 * 256 ^ k := by rw [Int.pow_succ, Int.mul_comm]
theorem pow_pos256 (k : Nat) : (0 : Int) < 256 ^ k := Int.pow_pos (by decide)
theorem ofLe_le : ∀ (k : Nat) (n : Int), ofLe (le n k) = n % 256 ^ k
  | 0, n => by simp [le, ofLe, Int.emod_one]
  | k + 1, n => by
    simp only [le, ofLe]
    rw [ofLe_le k, pow_succ256]
    rw [Int.emod_def n (256 * 256 ^ k), Int.emod_def (n / 256), ← Int.ediv_ediv_of_nonneg (by decide), Int.mul_assoc 256]
    generalize 256 ^ k * (n / 256 / 256 ^ k) = z
    omega
theorem ofLe_nonneg : ∀ {l : List Int}, isB l → 0 ≤ ofLe l
  | [], _ => Int.le_refl _
  | b :: l, h => by
    have h1 := h b (List.mem_cons_self ..)
    have h2 := ofLe_nonneg (l := l) (fun x hx => h x (List.mem_cons_of_mem _ hx))
    simp only [ofLe]
    omega
theorem ofLe_lt : ∀ {l : List Int}, isB l → ofLe l < 256 ^ l.length
  | [], _ => by simp [ofLe]
  | b :: l, h => by
    have h1 := h b (List.mem_cons_self ..)
    have h2 := ofLe_lt (l := l) (fun x hx => h x (List.mem_cons_of_mem _ hx))
    simp only [ofLe, List.length_cons]
    rw [pow_succ256]
    omega
theorem ofLe_snoc : ∀ (l : List Int) (b : Int), ofLe (l ++ [b]) = ofLe l + b * 256 ^ l.length
  | [], b => by simp [ofLe]
  | a :: l, b => by
    simp only [List.cons_append, ofLe, List.length_cons]
    rw [ofLe_snoc l b, pow_succ256, Int.add_mul, Int.mul_assoc b, Int.mul_comm (256 : Int) (256 ^ l.length), ← Int.mul_assoc b]
    omega
end Go.Proofs.YtlkfcabklaaacaaO

namespace Go.Proofs.Ytlkfcabklaaacaa.Q
set_option linter.unusedVariables false
set_option linter.unusedSimpArgs false
open Go.RowKit Go.Proofs.Ytlkfcabklaaacaa.P Go.Proofs.YtlkfcabklaaacaaW.PrintWords Go.Proofs.YtlkfcabklaaacaaW.PrintLast Go.Proofs.YtlkfcabklaaacaaW.PrintMore Go.Proofs.YtlkfcabklaaacaaO
/-- The sizes of pages. -/
def goodS (a : Int) : Bool := decide (128 ≤ a) && decide (a ≤ 4096) && (Int.tmod a 64 == 0)
def roomS (a : Int) : Int := if goodS a = true then a - 24 else 0
theorem roomS_range (a : Int) : 0 ≤ roomS a ∧ roomS a ≤ 4072 := by
  unfold roomS goodS
  split
  · rename_i h
    simp only [Bool.and_eq_true, decide_eq_true_eq, beq_iff_eq] at h
    omega
  · omega
theorem good_is (a : Int) : device_Good.f a = some (goodS a) := by
  unfold device_Good.f goodS
  by_cases h1 : a ≥ 128
  · by_cases h2 : a ≤ 4096
    · simp [h1, h2]
    · simp [h1, h2]
  · have h3 : ¬ (128 ≤ a) := by omega
    simp [h3]
theorem room_is (a : Int) : frame_Room.f a = some (roomS a) := by
  unfold frame_Room.f
  rw [good_is, bs]
  unfold roomS
  by_cases h : goodS a = true
  · rw [if_pos h, if_pos h]
    unfold goodS at h
    simp only [Bool.and_eq_true, decide_eq_true_eq, beq_iff_eq] at h
    congr 1
    unfold wrap64
    omega
  · rw [if_neg h, if_neg h]
def mostS (a : Int) : Int := roomS a / 4
theorem most_is (a : Int) : free_Most.f a = some (mostS a) := by
  unfold free_Most.f
  rw [room_is, bs]
  have := roomS_range a
  congr 1
  rw [Int.tdiv_eq_ediv_of_nonneg this.1]
  unfold mostS wrap64
  omega
theorem mostS_zero (a : Int) : mostS a = 0 ↔ goodS a = false := by
  unfold mostS roomS goodS
  split
  · rename_i h
    simp only [Bool.and_eq_true, decide_eq_true_eq, beq_iff_eq] at h
    simp only [h, decide_true, beq_self_eq_true, Bool.and_self, Bool.true_eq_false, iff_false]
    omega
  · rename_i h
    simp only [Bool.not_eq_true] at h
    simp [h]
/-- Each number is greater than the one before it. -/
def riseP (l : List Int) : Prop := ∀ i : Nat, 0 < i → i < l.length → rd l ((i : Int) - 1) < rd l (i : Int)
theorem rises_down (l : List Int) (hl : l.length < 4611686018427387904) : ∀ (n k : Nat), n < k → n < l.length → slices_IsSortedFunc_uint32_uint32_62.l0 k l (n : Int) = some true ∨ slices_IsSortedFunc_uint32_uint32_62.l0 k l (n : Int) = some false
  | n, 0, h, _ => by omega
  | 0, k + 1, _, _ => by
    rw [slices_IsSortedFunc_uint32_uint32_62.l0, if_neg (by omega)]
    exact Or.inl rfl
  | n + 1, k + 1, h, hn => by
    have ih := rises_down l hl n k (by omega) (by omega)
    have hw : wrap64 (((n + 1 : Nat) : Int) - 1) = (n : Int) := by unfold wrap64; omega
    rw [slices_IsSortedFunc_uint32_uint32_62.l0, if_pos (by omega), if_pos (by omega), if_pos (by omega), hw, if_pos (by omega), if_pos (by omega)]
    unfold free_Rises_1.f
    split
    · rw [bs, if_neg (by omega)]
      exact ih
    · rw [bs, if_pos (by omega)]
      exact Or.inr rfl
theorem rises_iff (l : List Int) (hl : l.length < 4611686018427387904) : ∀ (n k : Nat), n < k → n < l.length → (slices_IsSortedFunc_uint32_uint32_62.l0 k l (n : Int) = some true ↔ ∀ i : Nat, 0 < i → i ≤ n → rd l ((i : Int) - 1) < rd l (i : Int))
  | n, 0, h, _ => by omega
  | 0, k + 1, _, _ => by
    rw [slices_IsSortedFunc_uint32_uint32_62.l0, if_neg (by omega)]
    exact ⟨fun _ i h0 h1 => by omega, fun _ => rfl⟩
  | n + 1, k + 1, h, hn => by
    have ih := rises_iff l hl n k (by omega) (by omega)
    have hw : wrap64 (((n + 1 : Nat) : Int) - 1) = (n : Int) := by unfold wrap64; omega
    have hn1 : ((n + 1 : Nat) : Int) - 1 = (n : Int) := by omega
    rw [slices_IsSortedFunc_uint32_uint32_62.l0, if_pos (by omega), if_pos (by omega), if_pos (by omega), hw, if_pos (by omega), if_pos (by omega)]
    unfold free_Rises_1.f
    split
    · rename_i hlt
      rw [bs, if_neg (by omega), ih]
      refine ⟨fun hh i h0 h1 => ?_, fun hh i h0 h1 => hh i h0 (by omega)⟩
      by_cases e : i = n + 1
      · subst e
        rw [hn1]
        exact hlt
      · exact hh i h0 (by omega)
    · rename_i hlt
      rw [bs, if_pos (by omega)]
      refine ⟨fun hh => (by cases hh), fun hh => absurd (hh (n + 1) (by omega) (Nat.le_refl _)) ?_⟩
      rw [hn1]
      exact hlt
def riseB (l : List Int) : Bool := (List.range l.length).all (fun i => decide (i = 0 ∨ rd l ((i : Int) - 1) < rd l (i : Int)))
theorem riseB_iff (l : List Int) : riseB l = true ↔ riseP l := by
  unfold riseB riseP
  rw [List.all_eq_true]
  refine ⟨fun h i h0 h1 => ?_, fun h i hi => ?_⟩
  · have := h i (List.mem_range.2 h1)
    simp only [decide_eq_true_eq] at this
    rcases this with h2 | h2
    · omega
    · exact h2
  · simp only [decide_eq_true_eq]
    by_cases e : i = 0
    · exact Or.inl e
    · exact Or.inr (h i (by omega) (List.mem_range.1 hi))
theorem rises_is (l : List Int) (hl : l.length < 4611686018427387904) (k : Nat) (hk : l.length ≤ k) (hk0 : 0 < k) : free_Rises.f k l = some (riseB l) := by
  unfold free_Rises.f slices_IsSortedFunc_uint32_uint32_62.f
  by_cases h0 : l.length = 0
  · have hw : wrap64 ((l.length : Int) - 1) = -1 := by unfold wrap64; omega
    obtain ⟨k, rfl⟩ : ∃ j, k = j + 1 := ⟨k - 1, by omega⟩
    rw [hw, slices_IsSortedFunc_uint32_uint32_62.l0, if_neg (by omega), bs]
    congr 1
    symm
    rw [riseB_iff]
    intro i _ hi
    omega
  · obtain ⟨n, hn⟩ : ∃ n, l.length = n + 1 := ⟨l.length - 1, by omega⟩
    have hw : wrap64 ((l.length : Int) - 1) = (n : Int) := by unfold wrap64; omega
    rw [hw]
    have h1 := rises_iff l hl n k (by omega) (by omega)
    have h2 := rises_down l hl n k (by omega) (by omega)
    have h3 : (∀ i : Nat, 0 < i → i ≤ n → rd l ((i : Int) - 1) < rd l (i : Int)) ↔ riseB l = true := by
      rw [riseB_iff]
      exact ⟨fun h i a b => h i a (by omega), fun h i a b => h i a (by omega)⟩
    rw [h3] at h1
    rcases h2 with h2 | h2
    · rw [h2, bs, h1.1 h2]
    · rw [h2, bs]
      congr 1
      cases hb : riseB l with
      | false => rfl
      | true =>
        rw [h1.2 hb] at h2
        cases h2
theorem rrises_up (l : List Int) (hl : l.length < 4611686018427387904) : ∀ (d i k : Nat), i + d = l.length → d < k → 1 ≤ i → careenageref10_Rises.l0 k l (i : Int) = some (decide (∀ j, j < l.length → i ≤ j → rd l ((j : Int) - 1) < rd l (j : Int)))
  | d, i, 0, _, h, _ => by omega
  | 0, i, k + 1, hi, _, _ => by
    rw [careenageref10_Rises.l0, if_neg (by omega)]
    congr 1
    symm
    rw [decide_eq_true_eq]
    intro j hj hij
    omega
  | d + 1, i, k + 1, hi, hk, h1 => by
    have ih := rrises_up l hl d (i + 1) k (by omega) (by omega) (by omega)
    have hw : wrap64 ((i : Int) - 1) = (i : Int) - 1 := by unfold wrap64; omega
    have hw2 : wrap64 ((i : Int) + 1) = ((i + 1 : Nat) : Int) := by unfold wrap64; omega
    rw [careenageref10_Rises.l0, if_pos (by omega), hw, if_pos (by omega), if_pos (by omega), if_pos (by omega)]
    by_cases hge : rd l ((i : Int) - 1) ≥ rd l (i : Int)
    · rw [if_pos hge]
      congr 1
      symm
      rw [decide_eq_false_iff_not]
      intro h
      have := h i (by omega) (Nat.le_refl _)
      omega
    · rw [if_neg hge, hw2, ih]
      congr 1
      rw [decide_eq_decide]
      refine ⟨fun h j hj hij => ?_, fun h j hj hij => h j hj (by omega)⟩
      by_cases e : j = i
      · subst e
        omega
      · exact h j hj (by omega)
def numB (x : Int) : Bool := decide (2 ≤ x) && decide (x ≤ 2147483647)
theorem number_is (a : Int) : free_number.f a = some (numB a) := by
  unfold free_number.f numB
  by_cases h : a ≥ 2
  · rw [if_pos h]
    simp [show (2 : Int) ≤ a from h]
  · rw [if_neg h]
    simp [show ¬ (2 : Int) ≤ a from h]
theorem odd_is (a : Int) : free_Page_1.f a = some (!numB a) := by
  unfold free_Page_1.f
  rw [number_is, bs]
def numsB (l : List Int) : Bool := l.all numB
theorem numsB_iff (l : List Int) : numsB l = true ↔ ∀ j : Nat, j < l.length → numB (rd l (j : Int)) = true := by
  unfold numsB
  rw [List.all_eq_true]
  refine ⟨fun h j hj => ?_, fun h x hx => ?_⟩
  · rw [rd_get hj]
    exact h _ (List.getElem_mem hj)
  · obtain ⟨j, hj, rfl⟩ := List.mem_iff_getElem.1 hx
    have := h j hj
    rwa [rd_get hj] at this
theorem index_up (l : List Int) (hl : l.length < 4611686018427387904) : ∀ (d i k : Nat), i + d = l.length → d < k → ∃ r, slices_IndexFunc_uint32_uint32_56.l0 k l (l.length : Int) (i : Int) = some r ∧ (0 ≤ r ↔ ∃ j : Nat, i ≤ j ∧ j < l.length ∧ numB (rd l (j : Int)) = false)
  | d, i, 0, _, h => by omega
  | 0, i, k + 1, hi, _ => by
    rw [slices_IndexFunc_uint32_uint32_56.l0, if_neg (by omega)]
    refine ⟨-1, rfl, ⟨fun h => by omega, fun ⟨j, a, b, _⟩ => by omega⟩⟩
  | d + 1, i, k + 1, hi, hk => by
    obtain ⟨r, hr, hiff⟩ := index_up l hl d (i + 1) k (by omega) (by omega)
    have hw2 : wrap64 ((i : Int) + 1) = ((i + 1 : Nat) : Int) := by unfold wrap64; omega
    rw [slices_IndexFunc_uint32_uint32_56.l0, if_pos (by omega), if_pos (by omega), if_pos (by omega), odd_is, bs]
    cases hb : numB (rd l (i : Int)) with
    | false =>
      rw [Bool.not_false, if_pos rfl]
      exact ⟨_, rfl, ⟨fun _ => ⟨i, Nat.le_refl _, by omega, hb⟩, fun _ => by omega⟩⟩
    | true =>
      rw [Bool.not_true, if_neg (by decide), hw2, hr]
      refine ⟨r, rfl, hiff.trans ⟨fun ⟨j, a, b, c⟩ => ⟨j, by omega, b, c⟩, fun ⟨j, a, b, c⟩ => ?_⟩⟩
      by_cases e : j = i
      · subst e
        rw [hb] at c
        cases c
      · exact ⟨j, by omega, b, c⟩
theorem contains_is (l : List Int) (hl : l.length < 4611686018427387904) (k : Nat) (hk : l.length < k) : slices_ContainsFunc_uint32_uint32_56.f k l = some (!numsB l) := by
  unfold slices_ContainsFunc_uint32_uint32_56.f slices_IndexFunc_uint32_uint32_56.f
  obtain ⟨r, hr, hiff⟩ := index_up l hl l.length 0 k (by omega) hk
  rw [show (0 : Int) = ((0 : Nat) : Int) from rfl, hr, bs]
  congr 1
  cases hb : numsB l with
  | true =>
    rw [Bool.not_true, decide_eq_false_iff_not]
    intro h
    obtain ⟨j, _, hj, hf⟩ := hiff.1 h
    rw [(numsB_iff l).1 hb j hj] at hf
    cases hf
  | false =>
    rw [Bool.not_false, decide_eq_true_eq]
    refine hiff.2 ?_
    refine Classical.byContradiction fun hn => ?_
    have : numsB l = true := (numsB_iff l).2 fun j hj => by
      cases hq : numB (rd l (j : Int)) with
      | true => rfl
      | false => exact absurd ⟨j, Nat.zero_le _, hj, hq⟩ hn
    rw [hb] at this
    cases this
end Go.Proofs.Ytlkfcabklaaacaa.Q

namespace Go.Proofs.Ytlkfcabklaaacaa.Q
set_option linter.unusedVariables false
set_option linter.unusedSimpArgs false
open Go.RowKit Go.Proofs.Ytlkfcabklaaacaa.P Go.Proofs.YtlkfcabklaaacaaW.PrintWords Go.Proofs.YtlkfcabklaaacaaW.PrintLast Go.Proofs.YtlkfcabklaaacaaW.PrintMore Go.Proofs.YtlkfcabklaaacaaO
theorem w64 {x : Int} (h0 : -9223372036854775808 ≤ x) (h1 : x ≤ 9223372036854775807) : wrap64 x = x := by
  unfold wrap64
  omega
theorem u64w {x : Int} (h0 : 0 ≤ x) (h1 : x < 18446744073709551616) : IntKind.u64.wrap x = x := by
  rw [IntKind.wrap_u64]
  omega
theorem pow8 (i : Nat) : (2 : Int) ^ (8 * i) = 256 ^ i := by
  rw [Int.pow_mul]
  rfl
theorem pow256_le {i : Nat} (h : i ≤ 8) : (256 : Int) ^ i ≤ 18446744073709551616 := by
  have : i = 0 ∨ i = 1 ∨ i = 2 ∨ i = 3 ∨ i = 4 ∨ i = 5 ∨ i = 6 ∨ i = 7 ∨ i = 8 := by omega
  rcases this with rfl | rfl | rfl | rfl | rfl | rfl | rfl | rfl | rfl <;> decide
theorem shr_byte (n : Int) (i : Nat) (h : i ≤ 8) : shr .u64 n (8 * (i : Int)) = n / 256 ^ i := by
  unfold shr
  rw [show min (8 * (i : Int)).toNat IntKind.u64.bits = 8 * i by simp only [IntKind.bits]; omega, pow8]
theorem shl_byte (b : Int) (i : Nat) (h : i ≤ 7) (hb : 0 ≤ b ∧ b < 256) : shl .u64 b (8 * (i : Int)) = b * 256 ^ i := by
  unfold shl
  rw [show min (8 * (i : Int)).toNat IntKind.u64.bits = 8 * i by simp only [IntKind.bits]; omega, pow8]
  have h1 := pow256_le (i := i + 1) (by omega)
  rw [pow_succ256] at h1
  have h2 := pow_pos256 i
  refine u64w (Int.mul_nonneg hb.1 (Int.le_of_lt h2)) ?_
  have h3 : b * 256 ^ i ≤ 255 * 256 ^ i := Int.mul_le_mul_of_nonneg_right (by omega) (Int.le_of_lt h2)
  omega
theorem or_byte (v b : Int) (i : Nat) (h : i ≤ 7) (hv : 0 ≤ v ∧ v < 256 ^ i) (hb : 0 ≤ b ∧ b < 256) : Go.bits .or .u64 v (b * 256 ^ i) = v + b * 256 ^ i := by
  have h1 := pow256_le (i := i + 1) (by omega)
  rw [pow_succ256] at h1
  have h2 := pow_pos256 i
  have h3 : b * 256 ^ i ≤ 255 * 256 ^ i := Int.mul_le_mul_of_nonneg_right (by omega) (Int.le_of_lt h2)
  have h4 : 0 ≤ b * 256 ^ i := Int.mul_nonneg hb.1 (Int.le_of_lt h2)
  rw [u64_or _ _ hv.1 (by omega) h4 (by omega)]
  obtain ⟨v, rfl⟩ := Int.eq_ofNat_of_zero_le hv.1
  obtain ⟨b, rfl⟩ := Int.eq_ofNat_of_zero_le hb.1
  have e : ((b : Int) * 256 ^ i) = ((b * 256 ^ i : Nat) : Int) := by rw [Int.natCast_mul, Int.natCast_pow]; rfl
  have hv2 : v < 2 ^ (8 * i) := by
    have := hv.2
    rw [Nat.pow_mul]
    have e2 : ((256 : Int) ^ i) = (((2 ^ 8) ^ i : Nat) : Int) := by rw [Int.natCast_pow]; rfl
    rw [e2] at this
    exact Int.ofNat_lt.1 this
  rw [e, Int.toNat_natCast, Int.toNat_natCast, Nat.or_comm, nat_join (8 * i) (b * 256 ^ i) v (by rw [Nat.pow_mul]; exact Nat.mul_mod_left _ _) hv2]
  omega
theorem le_drop : ∀ (K i : Nat) (n : Int), i < K → (le n K).drop i = (n / 256 ^ i % 256) :: (le n K).drop (i + 1)
  | 0, i, n, h => by omega
  | K + 1, 0, n, h => by simp [le]
  | K + 1, i + 1, n, h => by
    simp only [le, List.drop_succ_cons]
    rw [le_drop K i _ (by omega), pow_succ256, Int.ediv_ediv_of_nonneg (by decide)]
theorem put_l0 (n : Int) (K : Nat) (hK : K ≤ 8) : ∀ (d k i : Nat) (x : List Int), i + d = K → d < k → x.length + d ≤ 140737488355327 → octet_Put.l0 k n x K i = some (x ++ (le n K).drop i)
  | 0, k + 1, i, x, h, _, _ => by
    simp only [octet_Put.l0]
    rw [if_neg (by omega), List.drop_eq_nil_of_le (by rw [le_length]; omega), List.append_nil]
  | d + 1, k + 1, i, x, h, hk, hl => by
    simp only [octet_Put.l0]
    have e1 : wrap64 (8 * (i : Int)) = 8 * (i : Int) := w64 (by omega) (by omega)
    have e2 : wrap64 ((i : Int) + 1) = ((i + 1 : Nat) : Int) := by rw [w64 (by omega) (by omega)]; rfl
    rw [if_pos (by omega), e1, if_pos (by omega), if_pos (by omega), shr_byte n i (by omega), e2,
      put_l0 n K hK d k (i + 1) _ (by omega) (by omega) (by simp; omega), le_drop K i n (by omega)]
    simp
/-- What Put answers. -/
def putL (l : List Int) (n K : Int) : List Int := if 1 ≤ K ∧ K ≤ 8 then l ++ le n K.toNat else l
theorem put_is (k : Nat) (l : List Int) (n K : Int) (hk : 12 ≤ k) (hl : l.length ≤ 140737488355000) : octet_Put.f k l n K = some (putL l n K) := by
  obtain ⟨k, rfl⟩ : ∃ m, k = m + 2 := ⟨k - 2, by omega⟩
  unfold octet_Put.f putL
  have e1 : wrap64 ((l.length : Int) + 8) = (l.length : Int) + 8 := w64 (by omega) (by omega)
  rw [e1, if_pos (by omega), if_pos (by omega)]
  simp only [bs, List.nil_append]
  rw [if_pos (by simp; omega)]
  by_cases h1 : K < 1
  · rw [if_pos h1, if_neg (by omega)]
    simp [octet_Put.j0]
  · rw [if_neg h1]
    by_cases h2 : K > 8
    · rw [if_neg (by omega)]
      simp [octet_Put.j0, h2]
    · rw [if_pos (by omega)]
      obtain ⟨K, rfl⟩ := Int.eq_ofNat_of_zero_le (show 0 ≤ K by omega)
      simp only [octet_Put.j0, h2, decide_false]
      rw [if_neg (by decide), show (0 : Int) = ((0 : Nat) : Int) from rfl, put_l0 n K (by omega) K (k + 1) 0 l (by omega) (by omega) (by omega)]
      simp
end Go.Proofs.Ytlkfcabklaaacaa.Q

namespace Go.Proofs.Ytlkfcabklaaacaa.Q
set_option linter.unusedVariables false
set_option linter.unusedSimpArgs false
open Go.RowKit Go.Proofs.Ytlkfcabklaaacaa.P Go.Proofs.YtlkfcabklaaacaaW.PrintWords Go.Proofs.YtlkfcabklaaacaaW.PrintLast Go.Proofs.YtlkfcabklaaacaaW.PrintMore Go.Proofs.YtlkfcabklaaacaaO
def numL (x : Int) : List Int := le (IntKind.u64.wrap x) 4
theorem numL_length (x : Int) : (numL x).length = 4 := le_length 4 _
theorem put4 (l : List Int) (n : Int) : putL l n 4 = l ++ le n 4 := by
  unfold putL
  rw [if_pos (by decide)]
  rfl
theorem drop_rd (l : List Int) (i : Nat) (h : i < l.length) : l.drop i = rd l (i : Int) :: l.drop (i + 1) := by
  rw [rd_get h]
  exact List.drop_eq_getElem_cons h
theorem page_loop (s n nx tx : Int) (l : List Int) (hl : l.length < 1000000) : ∀ (d i k : Nat) (acc : List Int), i + d = l.length → d + 13 ≤ k → acc.length + 4 * d ≤ 8000000 →
    free_Page.l0 k s n nx tx l acc l (l.length : Int) (i : Int) = (frame_Body.f s (acc ++ (l.drop i).flatMap numL)).bind fun bt => some (6, (l.length : Int), n, nx, tx, bt.1, 0)
  | d, i, 0, acc, _, h, _ => by omega
  | 0, i, k + 1, acc, hi, hk, ha => by
    rw [free_Page.l0, if_neg (by omega), List.drop_of_length_le (by omega), List.flatMap_nil, List.append_nil]
  | d + 1, i, k + 1, acc, hi, hk, ha => by
    have hw2 : wrap64 ((i : Int) + 1) = ((i + 1 : Nat) : Int) := by unfold wrap64; omega
    rw [free_Page.l0, if_pos (by omega), if_pos (by omega), if_pos (by omega), put_is k acc _ 4 (by omega) (by omega), bs, put4, hw2,
      page_loop s n nx tx l hl d (i + 1) k _ (by omega) (by omega) (by rw [List.length_append, le_length]; omega), drop_rd l i (by omega), List.flatMap_cons, List.append_assoc]
    rfl
theorem nums_length (l : List Int) : (l.flatMap numL).length = 4 * l.length := by
  induction l with
  | nil => rfl
  | cons x l ih =>
    rw [List.flatMap_cons, List.length_append, numL_length, ih, List.length_cons]
    omega
/-- The bytes, and zeros behind them, as many as there is room for. -/
def padS (m : Int) (l : List Int) : ByteArray := strOfNums (l ++ List.replicate (m.toNat - l.length) 0)
theorem body_is (s : Int) (l : List Int) (hg : goodS s = true) (hl : (l.length : Int) ≤ roomS s) : frame_Body.f s l = some (padS (roomS s) l, 0) := by
  have hr := roomS_range s
  unfold frame_Body.f padded padS
  rw [good_is, bs, if_pos hg, room_is, bs, if_neg (by omega), if_pos (by omega)]
  rw [show min l.length (roomS s).toNat = l.length by omega, List.take_length, List.drop_replicate]
def okS (s n nx tx : Int) (l : List Int) : Bool := goodS s && (numsB l && riseB l) && decide ((l.length : Int) ≤ mostS s) && numB n && (decide (nx = 0) || numB nx) && decide (tx ≤ 4611686018427387904)
def pageS (s n nx tx : Int) (l : List Int) : Int × Int × Int × Int × Int × ByteArray × Int := if okS s n nx tx l = true then (6, (l.length : Int), n, nx, tx, padS (roomS s) (l.flatMap numL), 0) else (0, 0, 0, 0, 0, (⟨#[]⟩ : ByteArray), 2)
theorem most_len (s : Int) (l : List Int) (h : (l.length : Int) ≤ mostS s) : ((l.flatMap numL).length : Int) ≤ roomS s := by
  rw [nums_length]
  unfold mostS at h
  omega
theorem page_end (k : Nat) (s n nx tx : Int) (l : List Int) (b : Bool) (hl : l.length < 1000000) (hk : l.length + 14 ≤ k) (hg : goodS s = true) (hm : (l.length : Int) ≤ mostS s) :
    free_Page.j0 k s n nx tx l b = some (if b = true then (0, 0, 0, 0, 0, (⟨#[]⟩ : ByteArray), 2) else (6, (l.length : Int), n, nx, tx, padS (roomS s) (l.flatMap numL), 0)) := by
  obtain ⟨k, rfl⟩ : ∃ j, k = j + 1 := ⟨k - 1, by omega⟩
  rw [free_Page.j0]
  cases b with
  | true => rw [if_pos rfl, if_pos rfl]
  | false =>
    rw [if_neg (by decide), if_neg (by decide), show (0 : Int) = ((0 : Nat) : Int) from rfl, page_loop s n nx tx l hl l.length 0 k [] (by omega) (by omega) (by simp; omega), List.drop_zero, List.nil_append, body_is s _ hg (most_len s l hm), bs]
    rfl
theorem page_bad (k : Nat) (s n nx tx : Int) (l : List Int) (hk : 0 < k) : free_Page.j0 k s n nx tx l true = some (0, 0, 0, 0, 0, (⟨#[]⟩ : ByteArray), 2) := by
  obtain ⟨k, rfl⟩ : ∃ j, k = j + 1 := ⟨k - 1, by omega⟩
  rw [free_Page.j0, if_pos rfl]
theorem page_is (k : Nat) (s n nx tx : Int) (l : List Int) (hl : l.length < 1000000) (hk : 2 * l.length + 14 ≤ k) : free_Page.f k s n nx tx l = some (pageS s n nx tx l) := by
  have hbad := page_bad k s n nx tx l (by omega)
  have hnot : okS s n nx tx l = false → some (pageS s n nx tx l) = some (0, 0, 0, 0, 0, (⟨#[]⟩ : ByteArray), 2) := fun h => by
    unfold pageS
    rw [h, if_neg (by decide)]
  unfold free_Page.f
  rw [most_is, bs]
  by_cases h0 : mostS s = 0
  · rw [if_pos h0, hbad, hnot (by unfold okS; simp [(mostS_zero s).1 h0])]
  · have hg : goodS s = true := by
      cases hq : goodS s with
      | true => rfl
      | false => exact absurd ((mostS_zero s).2 hq) h0
    rw [if_neg h0, bs]
    by_cases h1 : (l.length : Int) > mostS s
    · rw [if_pos h1, hbad, hnot (by unfold okS; simp [show ¬ ((l.length : Int) ≤ mostS s) by omega])]
    · rw [if_neg h1, rises_is l (by omega) k (by omega) (by omega), bs]
      cases h2 : riseB l with
      | false => rw [if_neg (by decide), hbad, hnot (by unfold okS; simp [h2])]
      | true =>
        rw [if_pos rfl, contains_is l (by omega) k (by omega), bs]
        cases h3 : numsB l with
        | false => rw [Bool.not_false, if_pos rfl, hbad, hnot (by unfold okS; simp [h3])]
        | true =>
          rw [Bool.not_true, if_neg (by decide), odd_is, bs]
          cases h4 : numB n with
          | false => rw [Bool.not_false, if_pos rfl, hbad, hnot (by unfold okS; simp [h4])]
          | true =>
            rw [Bool.not_true, if_neg (by decide)]
            have hend := page_end k s n nx tx l (decide (tx > 4611686018427387904)) hl (by omega) hg (by omega)
            by_cases h5 : nx = 0
            · rw [if_pos h5, hend]
              congr 1
              unfold pageS okS
              by_cases h6 : tx > 4611686018427387904
              · simp [h6, show ¬ (tx ≤ 4611686018427387904) by omega]
              · simp [h6, show tx ≤ 4611686018427387904 by omega, hg, h2, h3, h4, h5, show (l.length : Int) ≤ mostS s by omega]
            · rw [if_neg h5, odd_is, bs]
              cases h7 : numB nx with
              | false => rw [Bool.not_false, if_pos rfl, hbad, hnot (by unfold okS; simp [h5, h7])]
              | true =>
                rw [Bool.not_true, if_neg (by decide), hend]
                congr 1
                unfold pageS okS
                by_cases h6 : tx > 4611686018427387904
                · simp [h6, show ¬ (tx ≤ 4611686018427387904) by omega]
                · simp [h6, show tx ≤ 4611686018427387904 by omega, hg, h2, h3, h4, h7, show (l.length : Int) ≤ mostS s by omega]
end Go.Proofs.Ytlkfcabklaaacaa.Q

namespace Go.Proofs.Ytlkfcabklaaacaa.P
open Go.RowKit Go.Proofs.YtlkfcabklaaacaaW.PrintWords Go.Proofs.YtlkfcabklaaacaaW.PrintLast Go.Proofs.YtlkfcabklaaacaaW.PrintMore
attribute [local go_sem] max2_int min2_int max_two min_two max_three min_three max_four min_four   -- for this text's walks alone
open Go.Proofs.YtlkfcabklaaacaaO
attribute [local go_sem] min2_str max2_str
set_option linter.unusedVariables false
set_option linter.unusedSimpArgs false
/-! ### octet_Reader_Bytes: function 81 -/
def octet_Reader_Bytes.f (s0_0 : ByteArray) (a1 : Int) : Option (ByteArray × Int × ByteArray) := if a1 < 0 then (some ((⟨#[]⟩ : ByteArray), 2, s0_0)) else ((octet_Reader_take.f s0_0 a1).bind fun bt535 => (some (bt535.1, bt535.2.1, bt535.2.2)))
end Go.Proofs.Ytlkfcabklaaacaa.P

namespace Go.Proofs.Ytlkfcabklaaacaa.Q
set_option linter.unusedVariables false
set_option linter.unusedSimpArgs false
open Go.RowKit Go.Proofs.Ytlkfcabklaaacaa.P Go.Proofs.YtlkfcabklaaacaaW.PrintWords Go.Proofs.YtlkfcabklaaacaaW.PrintLast Go.Proofs.YtlkfcabklaaacaaW.PrintMore Go.Proofs.YtlkfcabklaaacaaO
theorem bt_get {s : ByteArray} {i : Nat} (h : i < (B s).length) : bt s (i : Int) = (B s)[i] := by rw [bt_B, rd_get h]
/-- What Number answers. -/
def numR (s : ByteArray) (n : Int) : Int × Int × ByteArray :=
  if n < 1 ∨ n > 8 then (0, 2, s) else if (s.size : Int) < n then (0, 7, s) else (ofLe ((B s).take n.toNat), 0, s.extract n.toNat s.size)
theorem ofLe_step {l : List Int} (hl : isB l) {i : Nat} (hi : i < l.length) (h8 : i ≤ 7) : Go.bits .or .u64 (ofLe (l.take i)) (shl .u64 (IntKind.u64.wrap l[i]) (8 * (i : Int))) = ofLe (l.take (i + 1)) := by
  have hb := hl l[i] (List.getElem_mem hi)
  have hv := ofLe_lt (isB_take hl i)
  rw [List.length_take, Nat.min_eq_left (by omega)] at hv
  rw [u64w hb.1 (by omega), shl_byte _ _ h8 hb, or_byte _ _ _ h8 ⟨ofLe_nonneg (isB_take hl i), hv⟩ hb, List.take_succ_eq_append_getElem hi, ofLe_snoc, List.length_take, Nat.min_eq_left (by omega)]
theorem num_l0 (s x : ByteArray) (e : Int) (hx : x.size ≤ 8) : ∀ (d k i : Nat), i + d = x.size → d < k → octet_Reader_Number.l0 k (ofLe ((B x).take i)) e x (x.size : Int) i s = some (ofLe (B x), e, s)
  | 0, k + 1, i, h, _ => by
    simp only [octet_Reader_Number.l0]
    rw [if_neg (by omega), List.take_of_length_le (by rw [B_length]; omega)]
  | d + 1, k + 1, i, h, hk => by
    have hi : i < (B x).length := by rw [B_length]; omega
    simp only [octet_Reader_Number.l0]
    rw [if_pos (by omega), if_pos (by omega), if_pos (by omega), w64 (x := 8 * (i : Int)) (by omega) (by omega), if_pos (by omega), bt_get hi, ofLe_step (isB_B x) hi (by omega), w64 (by omega) (by omega)]
    exact num_l0 s x e hx d k (i + 1) (by omega) (by omega)
theorem num_is (s : ByteArray) (n : Int) (k : Nat) (hk : 9 < k) : octet_Reader_Number.f k s n = some (numR s n) := by
  unfold octet_Reader_Number.f numR
  by_cases h1 : n < 1
  · rw [if_pos h1, if_pos (.inl h1)]
  · rw [if_neg h1]
    by_cases h2 : n > 8
    · rw [if_pos h2, if_pos (.inr h2)]
    · rw [if_neg h2, if_neg (by omega)]
      unfold octet_Reader_take.f
      by_cases h3 : n > (s.size : Int)
      · rw [if_pos h3, if_pos h3]
        simp only [bs]
        have := num_l0 s ⟨#[]⟩ 7 (by decide) 0 k 0 rfl (by omega)
        simpa [B_empty, ofLe] using this
      · rw [if_neg h3, if_neg h3, if_pos (by omega), if_pos (by omega)]
        simp only [bs]
        have hsz : (s.extract 0 n.toNat).size = n.toNat := by rw [ByteArray.size_extract]; omega
        have := num_l0 (s.extract n.toNat s.size) (s.extract 0 n.toNat) 0 (by omega) n.toNat k 0 (by omega) (by omega)
        rw [B_take] at this
        simpa [ofLe] using this
end Go.Proofs.Ytlkfcabklaaacaa.Q

namespace Go.Proofs.Ytlkfcabklaaacaa.P
open Go.RowKit Go.Proofs.YtlkfcabklaaacaaW.PrintWords Go.Proofs.YtlkfcabklaaacaaW.PrintLast Go.Proofs.YtlkfcabklaaacaaW.PrintMore
attribute [local go_sem] max2_int min2_int max_two min_two max_three min_three max_four min_four   -- for this text's walks alone
open Go.Proofs.YtlkfcabklaaacaaO
attribute [local go_sem] min2_str max2_str
set_option linter.unusedVariables false
set_option linter.unusedSimpArgs false
/-! ### careenagekit_Pick: function 18 -/
def careenagekit_Pick.f (a0 : Int) (a1 : Int) : Option (Int) := if a1 < 1 then (some 0) else (if a1 = 0 then (none) else (if (Int.tmod a0 a1) < 0 then (some (wrap64 ((Int.tmod a0 a1) + a1))) else (some (Int.tmod a0 a1))))
end Go.Proofs.Ytlkfcabklaaacaa.P

namespace Go.Proofs.Ytlkfcabklaaacaa.P
open Go.RowKit Go.Proofs.YtlkfcabklaaacaaW.PrintWords Go.Proofs.YtlkfcabklaaacaaW.PrintLast Go.Proofs.YtlkfcabklaaacaaW.PrintMore
attribute [local go_sem] max2_int min2_int max_two min_two max_three min_three max_four min_four   -- for this text's walks alone
open Go.Proofs.YtlkfcabklaaacaaO
attribute [local go_sem] min2_str max2_str
set_option linter.unusedVariables false
set_option linter.unusedSimpArgs false
/-! ### careenageref01_Reader_Bytes: function 73 -/
def careenageref01_Reader_Bytes.f (s0_0 : ByteArray) (a1 : Int) : Option (ByteArray × Int × ByteArray) := if a1 < 0 then (some ((⟨#[]⟩ : ByteArray), 2, s0_0)) else (if (s0_0.size : Int) < a1 then (some ((⟨#[]⟩ : ByteArray), 7, s0_0)) else (if 0 ≤ a1 then (if a1 ≤ (s0_0.size : Int) then (some (s0_0.extract 0 (a1 : Int).toNat, 0, s0_0.extract (a1 : Int).toNat s0_0.size)) else (none)) else (none)))
end Go.Proofs.Ytlkfcabklaaacaa.P

namespace Go.Proofs.Ytlkfcabklaaacaa.Q
set_option linter.unusedVariables false
set_option linter.unusedSimpArgs false
open Go.RowKit Go.Proofs.Ytlkfcabklaaacaa.P Go.Proofs.YtlkfcabklaaacaaW.PrintWords Go.Proofs.YtlkfcabklaaacaaW.PrintLast Go.Proofs.YtlkfcabklaaacaaW.PrintMore Go.Proofs.YtlkfcabklaaacaaO
theorem same_up (l : List Int) (hl : l.length < 1000000) : ∀ (d i k : Nat), i + d = l.length → d < k → careenagekit_Same_uint32.l0 k l l (i : Int) = some true
  | d, i, 0, _, h => by omega
  | 0, i, k + 1, hi, _ => by rw [careenagekit_Same_uint32.l0, if_neg (by omega)]
  | d + 1, i, k + 1, hi, hk => by
    have hw2 : wrap64 ((i : Int) + 1) = ((i + 1 : Nat) : Int) := by unfold wrap64; omega
    rw [careenagekit_Same_uint32.l0, if_pos (by omega), if_pos (by omega), if_pos (by omega), if_pos rfl, hw2]
    exact same_up l hl d (i + 1) k (by omega) (by omega)
theorem same_is (l : List Int) (hl : l.length < 1000000) (k : Nat) (hk : l.length < k) : careenagekit_Same_uint32.f k l l = some true := by
  unfold careenagekit_Same_uint32.f
  rw [if_pos rfl]
  exact same_up l hl l.length 0 k (by omega) hk
end Go.Proofs.Ytlkfcabklaaacaa.Q

namespace Go.Proofs.Ytlkfcabklaaacaa.Q
set_option linter.unusedVariables false
set_option linter.unusedSimpArgs false
open Go.RowKit Go.Proofs.Ytlkfcabklaaacaa.P Go.Proofs.YtlkfcabklaaacaaW.PrintWords Go.Proofs.YtlkfcabklaaacaaW.PrintLast Go.Proofs.YtlkfcabklaaacaaW.PrintMore Go.Proofs.YtlkfcabklaaacaaO
/-- So many numbers of four bytes each. -/
def numsOf : Nat → List Int → List Int
  | 0, _ => []
  | n + 1, s => ofLe (s.take 4) % 4294967296 :: numsOf n (s.drop 4)
def finS (p0 cnt p2 p3 p4 : Int) (p5 : ByteArray) (l : List Int) : List Int × Int × Int :=
  if pageS (wrap64 ((p5.size : Int) + 24)) p2 p3 p4 l = (p0, cnt, p2, p3, p4, p5, 0) then (l, p3, 0) else ([], 0, 4)
def ofS (p0 cnt p2 p3 p4 : Int) (p5 : ByteArray) : List Int × Int × Int :=
  if 4 * cnt.toNat ≤ p5.size then finS p0 cnt p2 p3 p4 p5 (numsOf cnt.toNat (B p5)) else ([], 0, 4)
theorem num4 (s : ByteArray) : numR s 4 = if s.size < 4 then (0, 7, s) else (ofLe ((B s).take 4), 0, s.extract 4 s.size) := by
  unfold numR
  rw [if_neg (by omega)]
  by_cases h : s.size < 4
  · rw [if_pos (by omega), if_pos h]
  · rw [if_neg (by omega), if_neg h]
    rfl
theorem page_same (a b c d e f : Int) (g : ByteArray) (p0 cnt p2 p3 p4 : Int) (p5 : ByteArray) (h : (!(a == p0) || (!(b == cnt) || (!(c == p2) || (!(d == p3) || (!(e == p4) || (!(g.toList == p5.toList))))))) = false) : (a, b, c, d, e, g) = (p0, cnt, p2, p3, p4, p5) := by
  simp only [Bool.or_eq_false_iff, Bool.not_eq_false', beq_iff_eq, toList_eq_iff] at h
  obtain ⟨rfl, rfl, rfl, rfl, rfl, rfl⟩ := h
  rfl
theorem page_diff (a b c d e f : Int) (g : ByteArray) (p0 cnt p2 p3 p4 : Int) (p5 : ByteArray) (h : (!(a == p0) || (!(b == cnt) || (!(c == p2) || (!(d == p3) || (!(e == p4) || (!(g.toList == p5.toList))))))) = true) : ¬ (a, b, c, d, e, g) = (p0, cnt, p2, p3, p4, p5) := by
  intro hh
  simp only [Prod.mk.injEq] at hh
  obtain ⟨rfl, rfl, rfl, rfl, rfl, rfl⟩ := hh
  simp at h
theorem fin_is (x : Int × Int × Int × Int × Int × ByteArray × Int) (p0 cnt p2 p3 p4 : Int) (p5 : ByteArray) {α : Type} (u v : α) :
    (if x.2.2.2.2.2.2 = 0 then (if (!(x.1 == p0) || (!(x.2.1 == cnt) || (!(x.2.2.1 == p2) || (!(x.2.2.2.1 == p3) || (!(x.2.2.2.2.1 == p4) || (!(x.2.2.2.2.2.1.toList == p5.toList))))))) = true then v else u) else v) = if x = (p0, cnt, p2, p3, p4, p5, 0) then u else v := by
  obtain ⟨a, b, c, d, e, g, f⟩ := x
  simp only []
  by_cases hf : f = 0
  · subst hf
    rw [if_pos rfl]
    cases h : (!(a == p0) || (!(b == cnt) || (!(c == p2) || (!(d == p3) || (!(e == p4) || (!(g.toList == p5.toList))))))) with
    | true =>
      have := page_diff a b c d e 0 g p0 cnt p2 p3 p4 p5 h
      rw [if_pos rfl, if_neg]
      intro hh
      simp only [Prod.mk.injEq] at hh this
      exact this ⟨hh.1, hh.2.1, hh.2.2.1, hh.2.2.2.1, hh.2.2.2.2.1, hh.2.2.2.2.2.1⟩
    | false =>
      have := page_same a b c d e 0 g p0 cnt p2 p3 p4 p5 h
      simp only [Prod.mk.injEq] at this
      obtain ⟨rfl, rfl, rfl, rfl, rfl, rfl⟩ := this
      rw [if_neg (by decide), if_pos rfl]
  · rw [if_neg hf, if_neg]
    intro hh
    simp only [Prod.mk.injEq] at hh
    exact hf hh.2.2.2.2.2.2
theorem of_loop (cnt p0 p2 p3 p4 : Int) (p5 : ByteArray) (hc : cnt ≤ 9223372036854775807) : ∀ (d k : Nat) (i : Int) (acc : List Int) (s : ByteArray), s.size / 4 ≤ d → acc.length + d ≤ 2000 → d + 4100 ≤ k → 0 ≤ i →
    free_Of.l0 k acc cnt i p0 cnt p2 p3 p4 p5 s = some (if 4 * (cnt - i).toNat ≤ s.size then finS p0 cnt p2 p3 p4 p5 (acc ++ numsOf (cnt - i).toNat (B s)) else ([], 0, 4))
  | d, 0, i, acc, s, _, _, h, _ => by omega
  | d, k + 1, i, acc, s, hs, ha, hk, h0 => by
    rw [free_Of.l0]
    by_cases hi : i < cnt
    · rw [if_pos hi, num_is s 4 k (by omega), bs, num4]
      by_cases h4 : s.size < 4
      · rw [if_pos h4, if_neg (show ¬ ((7 : Int) = 0) by decide), if_neg (by omega)]
      · obtain ⟨r, hr⟩ : ∃ r, (cnt - i).toNat = r + 1 := ⟨(cnt - i).toNat - 1, by omega⟩
        have hw : wrap64 (i + 1) = i + 1 := w64 (by omega) (by omega)
        have hr2 : (cnt - (i + 1)).toNat = r := by omega
        obtain ⟨d, rfl⟩ : ∃ e, d = e + 1 := ⟨d - 1, by omega⟩
        rw [if_neg h4]
        simp only [if_true]
        rw [if_pos (by omega), hw, of_loop cnt p0 p2 p3 p4 p5 hc d k (i + 1) _ _ (by rw [ByteArray.size_extract]; omega) (by rw [List.length_append]; simp; omega) (by omega) (by omega), hr2, hr, B_drop, numsOf, List.append_assoc, ByteArray.size_extract]
        congr 1
        by_cases h5 : 4 * (r + 1) ≤ s.size
        · rw [if_pos h5, if_pos (by omega)]
          rfl
        · rw [if_neg h5, if_neg (by omega)]
    · have hr : (cnt - i).toNat = 0 := by omega
      rw [if_neg hi, page_is k _ _ _ _ acc (by omega) (by omega), bs, fin_is, hr, if_pos (show 4 * 0 ≤ s.size by omega), numsOf, List.append_nil]
      unfold finS
      split <;> rfl
theorem of_is (k : Nat) (p0 cnt p2 p3 p4 : Int) (p5 : ByteArray) (hc : cnt ≤ 9223372036854775807) (hs : p5.size ≤ 4800) (hk : 5400 ≤ k) : free_Of.f k p0 cnt p2 p3 p4 p5 = some (ofS p0 cnt p2 p3 p4 p5) := by
  unfold free_Of.f octet_New.f
  rw [bs, of_loop cnt p0 p2 p3 p4 p5 hc 1200 k 0 [] p5 (by omega) (by simp) (by omega) (by omega)]
  unfold ofS
  rw [List.nil_append, Int.sub_zero]
theorem numsOf_back : ∀ (l rest : List Int), (∀ x ∈ l, 0 ≤ x ∧ x < 4294967296) → numsOf l.length (l.flatMap numL ++ rest) = l
  | [], _, _ => rfl
  | x :: l, rest, h => by
    have hx := h x (List.mem_cons_self ..)
    have ih := numsOf_back l rest (fun y hy => h y (List.mem_cons_of_mem _ hy))
    have h1 : ((x :: l).flatMap numL ++ rest).take 4 = numL x := by
      rw [List.flatMap_cons, List.append_assoc, List.take_append_of_le_length (by rw [numL_length]; omega), List.take_of_length_le (by rw [numL_length]; omega)]
    have h2 : ((x :: l).flatMap numL ++ rest).drop 4 = l.flatMap numL ++ rest := by
      rw [List.flatMap_cons, List.append_assoc, ← numL_length x, List.drop_left]
    rw [List.length_cons, numsOf, h1, h2, ih]
    congr 1
    unfold numL
    rw [ofLe_le, u64w hx.1 (by omega)]
    have : (256 : Int) ^ 4 = 4294967296 := by decide
    rw [this]
    omega
theorem isB_nums (l : List Int) : isB (l.flatMap numL) := by
  intro x hx
  obtain ⟨y, _, hy⟩ := List.mem_flatMap.1 hx
  exact isB_le 4 _ x hy
theorem isB_zeros (n : Nat) : isB (List.replicate n 0) := by
  intro x hx
  have := (List.mem_replicate.1 hx).2
  omega
theorem B_padS (m : Int) {l : List Int} (h : isB l) : B (padS m l) = l ++ List.replicate (m.toNat - l.length) 0 := B_str (isB_append h (isB_zeros _))
theorem size_padS (m : Int) (l : List Int) (h : (l.length : Int) ≤ m) : ((padS m l).size : Int) = m := by
  unfold padS
  rw [size_str, List.length_append, List.length_replicate]
  omega
theorem okS_good {s n nx tx : Int} {l : List Int} (h : okS s n nx tx l = true) : goodS s = true ∧ numsB l = true ∧ riseB l = true ∧ (l.length : Int) ≤ mostS s ∧ numB n = true ∧ (nx = 0 ∨ numB nx = true) ∧ tx ≤ 4611686018427387904 := by
  unfold okS at h
  simp only [Bool.and_eq_true, decide_eq_true_eq, Bool.or_eq_true] at h
  obtain ⟨⟨⟨⟨⟨h1, h2, h3⟩, h4⟩, h5⟩, h6⟩, h7⟩ := h
  exact ⟨h1, h2, h3, h4, h5, h6, h7⟩
theorem numB_lt {x : Int} (h : numB x = true) : 0 ≤ x ∧ x < 4294967296 := by
  unfold numB at h
  simp only [Bool.and_eq_true, decide_eq_true_eq] at h
  omega
theorem numsB_all {l : List Int} (h : numsB l = true) : ∀ x ∈ l, 0 ≤ x ∧ x < 4294967296 := by
  intro x hx
  unfold numsB at h
  exact numB_lt ((List.all_eq_true.1 h) x hx)
theorem room_size {s : Int} (h : goodS s = true) : wrap64 (roomS s + 24) = s := by
  unfold roomS
  rw [if_pos h]
  unfold goodS at h
  simp only [Bool.and_eq_true, decide_eq_true_eq, beq_iff_eq] at h
  unfold wrap64
  omega
/-- What is written is read again. -/
theorem ofS_back {s n nx tx : Int} {l : List Int} (h : okS s n nx tx l = true) : ofS 6 (l.length : Int) n nx tx (padS (roomS s) (l.flatMap numL)) = (l, nx, 0) := by
  obtain ⟨h1, h2, h3, h4, h5, h6, h7⟩ := okS_good h
  have h8 := most_len s l h4
  have h9 := size_padS (roomS s) (l.flatMap numL) h8
  unfold ofS
  rw [Int.toNat_natCast, if_pos (by rw [nums_length] at h8; omega), B_padS _ (isB_nums l), numsOf_back l _ (numsB_all h2)]
  unfold finS
  rw [h9, room_size h1]
  unfold pageS
  rw [h, if_pos rfl, if_pos rfl]
end Go.Proofs.Ytlkfcabklaaacaa.Q

namespace Go.Proofs.Ytlkfcabklaaacaa.Pure
set_option linter.unusedVariables false
set_option linter.unusedSimpArgs false
open Go.RowKit Go.Proofs.Ytlkfcabklaaacaa.P Go.Proofs.YtlkfcabklaaacaaW.PrintWords Go.Proofs.YtlkfcabklaaacaaW.PrintLast Go.Proofs.YtlkfcabklaaacaaW.PrintMore Go.Proofs.YtlkfcabklaaacaaO Go.Proofs.Ytlkfcabklaaacaa.Q
theorem lives10 (k : Nat) (hk : 5 ≤ k) : careenagelaw10_lives.f k = some true := by
  unfold careenagelaw10_lives.f
  rw [most_is, bs, if_pos (by decide)]
  have h1 : free_Need.f 128 27 = some 2 := by
    unfold free_Need.f
    rw [most_is, bs]
    decide +kernel
  have h2 : riseB [1, 2] = true := by decide
  rw [h1, bs, if_pos rfl, rises_is _ (by decide) k (by simp; omega) (by omega), bs, h2]
def dA : ByteArray := padS (roomS 128) (([3, 9] : List Int).flatMap numL)
def dB : ByteArray := padS (roomS 128) (([] : List Int).flatMap numL)
theorem room128 : roomS 128 = 104 := by decide +kernel
theorem sizeA : (dA.size : Int) = 104 := by unfold dA; rw [size_padS _ _ (by decide +kernel), room128]
theorem sizeB : (dB.size : Int) = 104 := by unfold dB; rw [size_padS _ _ (by decide +kernel), room128]
theorem okA : okS 128 7 8 5 [3, 9] = true := by decide +kernel
theorem okB : okS 128 7 0 5 [] = true := by decide +kernel
theorem pgA : pageS 128 7 8 5 [3, 9] = (6, 2, 7, 8, 5, dA, 0) := by unfold pageS; rw [if_pos okA]; rfl
theorem pgB : pageS 128 7 0 5 [] = (6, 0, 7, 0, 5, dB, 0) := by unfold pageS; rw [if_pos okB]; rfl
theorem pgX (s n nx tx : Int) (l : List Int) (h : okS s n nx tx l = false) : pageS s n nx tx l = (0, 0, 0, 0, 0, (⟨#[]⟩ : ByteArray), 2) := by unfold pageS; rw [if_neg (by rw [h]; decide)]
theorem fmA : ofS 6 2 7 8 5 dA = ([3, 9], 8, 0) := ofS_back okA
theorem fmB : ofS 6 0 7 0 5 dB = ([], 0, 0) := ofS_back okB
theorem fmX : (ofS 6 3 7 8 5 dA).2.2 = 4 := by decide +kernel
theorem txA : (dA.extract 0 8).toList = ([3, 0, 0, 0, 9, 0, 0, 0] : List UInt8) := by decide +kernel
theorem FreeNames : careenagelaw10_FreeNames.Pure := by
  suffices h : ∀ k, 6000 ≤ k → careenagelaw10_FreeNames.f k = some true from ⟨6000, h _ (Nat.le_refl _)⟩
  intro k hk
  have zA := sizeA
  have zB := sizeB
  unfold careenagelaw10_FreeNames.f
  rw [lives10 k (by omega), bs, if_pos rfl, page_is k 128 7 8 5 [3, 9] (by simp) (by simp; omega), bs, pgA]
  dsimp only
  rw [of_is k 6 2 7 8 5 dA (by omega) (by omega) (by omega), bs, fmA, page_is k 128 7 0 5 [] (by simp) (by simp; omega), bs, pgB]
  dsimp only
  rw [of_is k 6 0 7 0 5 dB (by omega) (by omega) (by omega), bs, fmB, page_is k 128 7 0 5 [9, 3] (by simp) (by simp; omega), bs, pgX _ _ _ _ _ (by decide +kernel),
    page_is k 128 7 0 5 [1] (by simp) (by simp; omega), bs, pgX _ _ _ _ _ (by decide +kernel), if_pos (by decide),
    page_is k 128 7 0 5 (List.replicate 27 0) (by simp) (by simp; omega), bs, pgX _ _ _ _ _ (by decide +kernel),
    page_is k 128 1 0 5 [] (by simp) (by simp; omega), bs, pgX _ _ _ _ _ (by decide +kernel)]
  dsimp only
  rw [of_is k 6 3 7 8 5 dA (by omega) (by omega) (by omega), bs, fmX, if_pos rfl, if_pos rfl, if_pos (by omega), if_pos (by decide), if_pos (by omega), if_pos txA, if_pos rfl,
    same_is [3, 9] (by simp) k (by simp; omega), bs, if_pos rfl, if_pos rfl, if_pos rfl, if_pos rfl, if_pos (by rfl), if_pos rfl, if_pos rfl, if_pos rfl, if_pos rfl, if_pos rfl, if_pos rfl]
  have r1 : riseB [2, 2] = false := by decide
  have r2 : riseB [] = true := by decide
  have n1 : free_Need.f 128 0 = some 0 := by
    unfold free_Need.f
    rw [most_is, bs]
    decide +kernel
  have m1 : mostS 1 = 0 := by decide +kernel
  rw [rises_is [2, 2] (by decide) k (by simp; omega) (by omega), bs, r1, if_neg (by decide), rises_is [] (by decide) k (by simp) (by omega), bs, r2, if_pos rfl, n1, bs, if_pos rfl, most_is, bs, m1]
  rfl
end Go.Proofs.Ytlkfcabklaaacaa.Pure
