/- The texts that the statement's row rests on, one behind the other. -/
import Derived.Test.YtlnmdfffmflhgaaMMetaBack1
import Derived.Lib.Strings
import Derived.Lib.Bytes
import Derived.Laws.BitsAllLaws
import Derived.Test.YtlnmdfffmflhgaaMMetaBack2
import Derived.Test.YtlnmdfffmflhgaaMMetaBack3
import Derived.Test.YtlnmdfffmflhgaaMMetaBack4
namespace Go.Proofs.Ytlnmdfffmflhgaa.P
open Go.RowKit Go.Proofs.YtlnmdfffmflhgaaW.PrintWords Go.Proofs.YtlnmdfffmflhgaaW.PrintLast Go.Proofs.YtlnmdfffmflhgaaW.PrintMore
attribute [local go_sem] max2_int min2_int max_two min_two max_three min_three max_four min_four   -- for this text's walks alone
open Go.Proofs.YtlnmdfffmflhgaaO
attribute [local go_sem] min2_str max2_str
set_option linter.unusedVariables false
set_option linter.unusedSimpArgs false
/-! ### careenageref03_Good: function 58 -/
def careenageref03_Good.f (a0 : Int) : Option (Bool) := if a0 ≥ 128 then (if a0 ≤ 4096 then (some ((Int.tmod a0 64) == 0)) else (some false)) else (some false)
end Go.Proofs.Ytlnmdfffmflhgaa.P

namespace Go.Proofs.Ytlnmdfffmflhgaa.P
open Go.RowKit Go.Proofs.YtlnmdfffmflhgaaW.PrintWords Go.Proofs.YtlnmdfffmflhgaaW.PrintLast Go.Proofs.YtlnmdfffmflhgaaW.PrintMore
attribute [local go_sem] max2_int min2_int max_two min_two max_three min_three max_four min_four   -- for this text's walks alone
open Go.Proofs.YtlnmdfffmflhgaaO
attribute [local go_sem] min2_str max2_str
set_option linter.unusedVariables false
set_option linter.unusedSimpArgs false
/-! ### careenageref04_Room: function 66 -/
def careenageref04_Room.f (a0 : Int) : Option (Int) := (careenageref03_Good.f a0).bind fun t261 => (if t261 = true then (some (wrap64 (a0 - 24))) else (some 0))
end Go.Proofs.Ytlnmdfffmflhgaa.P

namespace Go.Proofs.Ytlnmdfffmflhgaa.P
open Go.RowKit Go.Proofs.YtlnmdfffmflhgaaW.PrintWords Go.Proofs.YtlnmdfffmflhgaaW.PrintLast Go.Proofs.YtlnmdfffmflhgaaW.PrintMore
attribute [local go_sem] max2_int min2_int max_two min_two max_three min_three max_four min_four   -- for this text's walks alone
open Go.Proofs.YtlnmdfffmflhgaaO
attribute [local go_sem] min2_str max2_str
set_option linter.unusedVariables false
set_option linter.unusedSimpArgs false
/-! ### careenageref04_Body: function 54 -/
def careenageref04_Body.f (a0 : Int) (l1 : List Int) : Option (ByteArray × Int) := (careenageref03_Good.f a0).bind fun t262 => (if t262 = true then ((careenageref04_Room.f a0).bind fun t263 => (if (l1.length : Int) > t263 then (some ((⟨#[]⟩ : ByteArray), 3)) else ((careenageref04_Room.f a0).bind fun t264 => (if 0 ≤ (wrap64 (t264 - (l1.length : Int))) then (if (wrap64 (t264 - (l1.length : Int)) : Int).toNat ≤ 281474976710656 then ((some (List.replicate (wrap64 (t264 - (l1.length : Int)) : Int).toNat 0 : List Int)).bind fun y265 => (if (strOfNums l1).size + (strOfNums y265).size ≤ 9223372036854775807 then (some ((strOfNums l1) ++ (strOfNums y265), 0)) else (none))) else (none)) else (none))))) else (some ((⟨#[]⟩ : ByteArray), 2)))
end Go.Proofs.Ytlnmdfffmflhgaa.P

namespace Go.Proofs.YtlnmdfffmflhgaaO
set_option linter.unusedVariables false
set_option linter.unusedSimpArgs false
open Go.RowKit Go.Proofs.YtlnmdfffmflhgaaW.PrintWords
/-- As a step of its own (no unfolding: the kernel is not to compare what stands on both sides). -/
theorem bs {α β : Type} (a : α) (f : α → Option β) : (some a).bind f = f a := Eq.trans (Option.bind_some a f) (Eq.refl (f a))
/-- Numbers that are bytes. -/
def isB (l : List Int) : Prop := ∀ x ∈ l, 0 ≤ x ∧ x < 256
theorem isB_nil : isB [] := fun _ h => by cases h
theorem isB_cons {x : Int} {l : List Int} (hx : 0 ≤ x ∧ x < 256) (h : isB l) : isB (x :: l) := by
  intro y hy
  rcases List.mem_cons.1 hy with rfl | hy
  · exact hx
  · exact h y hy
theorem isB_append {l m : List Int} (h1 : isB l) (h2 : isB m) : isB (l ++ m) := by
  intro y hy
  rcases List.mem_append.1 hy with hy | hy
  · exact h1 y hy
  · exact h2 y hy
theorem isB_take {l : List Int} (h : isB l) (n : Nat) : isB (l.take n) := fun x hx => h x (List.mem_of_mem_take hx)
/-- A string's bytes. -/
abbrev B (s : ByteArray) : List Int := bytesOf s
theorem isB_B (s : ByteArray) : isB (B s) := by
  intro x hx
  simp only [bytesOf, List.mem_map] at hx
  obtain ⟨b, _, rfl⟩ := hx
  have := b.toNat_lt
  omega
theorem B_length (s : ByteArray) : (B s).length = s.size := bytesOf_length s
theorem B_inj {s t : ByteArray} (h : B s = B t) : s = t := by
  have h2 : s.data.toList = t.data.toList := by
    refine List.map_inj_right (fun a b hab => ?_) |>.1 h
    exact UInt8.toNat_inj.1 (Int.ofNat_inj.1 hab)
  cases s; cases t
  simp only [ByteArray.mk.injEq]
  exact Array.toList_inj.1 h2
theorem toList_iff {s t : ByteArray} : s.toList = t.toList ↔ B s = B t := by
  rw [Lib.toList_data, Lib.toList_data]
  refine ⟨fun h => by simp only [bytesOf, h], fun h => by rw [B_inj h]⟩
theorem toList_eq_iff {s t : ByteArray} : s.toList = t.toList ↔ s = t := ⟨fun h => B_inj (toList_iff.1 h), fun h => by rw [h]⟩
theorem B_extract (s : ByteArray) (a b : Nat) : B (s.extract a b) = ((B s).take b).drop a := by
  simp only [bytesOf, Lib.extract_data, List.map_take, List.map_drop]
  rw [List.drop_take]
theorem B_drop (s : ByteArray) (a : Nat) : B (s.extract a s.size) = (B s).drop a := by
  rw [B_extract, List.take_of_length_le (by rw [B_length]; exact Nat.le_refl _)]
theorem B_take (s : ByteArray) (b : Nat) : B (s.extract 0 b) = (B s).take b := by
  rw [B_extract, List.drop_zero]
theorem B_empty : B ⟨#[]⟩ = [] := rfl
theorem B_str {l : List Int} (h : isB l) : B (strOfNums l) = l := by
  simp only [bytesOf, strOfNums_data, List.map_map]
  refine (List.map_congr_left (g := id) (fun x hx => ?_)).trans (List.map_id l)
  have := h x hx
  simp only [Function.comp, id, UInt8.toNat_ofNat']
  omega
theorem bt_B (s : ByteArray) (i : Int) : bt s i = rd (B s) i := (rd_bytesOf s i).symm
theorem rd_get {l : List Int} {i : Nat} (h : i < l.length) : rd l (i : Int) = l[i] := by simp [rd, h]
/-! ### numbers, the least byte first -/
def le : Int → Nat → List Int
  | _, 0 => []
  | n, k + 1 => n % 256 :: le (n / 256) k
def ofLe : List Int → Int
  | [] => 0
  | b :: l => b + ofLe l * 256
theorem le_length : ∀ (k : Nat) (n : Int), (le n k).length = k
  | 0, _ => rfl
  | k + 1, n => by simp [le, le_length k]
theorem isB_le : ∀ (k : Nat) (n : Int), isB (le n k)
  | 0, _ => isB_nil
  | k + 1, n => isB_cons (by omega) (isB_le k _)
theorem pow_succ256 (k : Nat) : (256 : Int) ^ (k + 1) = 256 * 256 ^ k := by rw [Int.pow_succ, Int.mul_comm]
theorem pow_pos256 (k : Nat) : (0 : Int) < 256 ^ k := Int.pow_pos (by decide)
theorem ofLe_le : ∀ (k : Nat) (n : Int), ofLe (le n k) = n % 256 ^ k
  | 0, n => by simp [le, ofLe, Int.emod_one]
  | k + 1, n => by
    simp only [le, ofLe]
    rw [ofLe_le k, pow_succ256]
    rw [Int.emod_def n (256 * 256 ^ k), Int.emod_def (n / 256), ← Int.ediv_ediv_of_nonneg (by decide), Int.mul_assoc 256]
    generalize 256 ^ k * (n / 256 / 256 ^ k) = z
    omega
theorem ofLe_nonneg : ∀ {l : List Int}, isB l → 0 ≤ ofLe l
  | [], _ => Int.le_refl _
  | b :: l, h => by
    have h1 := h b (List.mem_cons_self ..)
    have h2 := ofLe_nonneg (l := l) (fun x hx => h x (List.mem_cons_of_mem _ hx))
    simp only [ofLe]
    omega
theorem ofLe_lt : ∀ {l : List Int}, isB l → ofLe l < 256 ^ l.length
  | [], _ => by simp [ofLe]
  | b :: l, h => by
    have h1 := h b (List.mem_cons_self ..)
    have h2 := ofLe_lt (l := l) (fun x hx => h x (List.mem_cons_of_mem _ hx))
    simp only [ofLe, List.length_cons]
    rw [pow_succ256]
    omega
theorem ofLe_snoc : ∀ (l : List Int) (b : Int), ofLe (l ++ [b]) = ofLe l + b * 256 ^ l.length
  | [], b => by simp [ofLe]
  | a :: l, b => by
    simp only [List.cons_append, ofLe, List.length_cons]
    rw [ofLe_snoc l b, pow_succ256, Int.add_mul, Int.mul_assoc b, Int.mul_comm (256 : Int) (256 ^ l.length), ← Int.mul_assoc b]
    omega
end Go.Proofs.YtlnmdfffmflhgaaO

namespace Go.Proofs.Ytlnmdfffmflhgaa.Q
set_option linter.unusedVariables false
set_option linter.unusedSimpArgs false
open Go.RowKit Go.Proofs.Ytlnmdfffmflhgaa.P Go.Proofs.YtlnmdfffmflhgaaW.PrintWords Go.Proofs.YtlnmdfffmflhgaaW.PrintLast Go.Proofs.YtlnmdfffmflhgaaW.PrintMore Go.Proofs.YtlnmdfffmflhgaaO
/-- The sizes of pages. -/
def goodS (a : Int) : Bool := decide (128 ≤ a) && decide (a ≤ 4096) && (Int.tmod a 64 == 0)
def roomS (a : Int) : Int := if goodS a = true then a - 24 else 0
theorem roomS_range (a : Int) : 0 ≤ roomS a ∧ roomS a ≤ 4072 := by
  unfold roomS goodS
  split
  · rename_i h
    simp only [Bool.and_eq_true, decide_eq_true_eq, beq_iff_eq] at h
    omega
  · omega
theorem good_is (a : Int) : device_Good.f a = some (goodS a) := by
  unfold device_Good.f goodS
  by_cases h1 : a ≥ 128
  · by_cases h2 : a ≤ 4096
    · simp [h1, h2]
    · simp [h1, h2]
  · have h3 : ¬ (128 ≤ a) := by omega
    simp [h3]
theorem room_is (a : Int) : frame_Room.f a = some (roomS a) := by
  unfold frame_Room.f
  rw [good_is, bs]
  unfold roomS
  by_cases h : goodS a = true
  · rw [if_pos h, if_pos h]
    unfold goodS at h
    simp only [Bool.and_eq_true, decide_eq_true_eq, beq_iff_eq] at h
    congr 1
    unfold wrap64
    omega
  · rw [if_neg h, if_neg h]
end Go.Proofs.Ytlnmdfffmflhgaa.Q

namespace Go.Proofs.Ytlnmdfffmflhgaa.P
open Go.RowKit Go.Proofs.YtlnmdfffmflhgaaW.PrintWords Go.Proofs.YtlnmdfffmflhgaaW.PrintLast Go.Proofs.YtlnmdfffmflhgaaW.PrintMore
attribute [local go_sem] max2_int min2_int max_two min_two max_three min_three max_four min_four   -- for this text's walks alone
open Go.Proofs.YtlnmdfffmflhgaaO
attribute [local go_sem] min2_str max2_str
set_option linter.unusedVariables false
set_option linter.unusedSimpArgs false
/-! ### careenageref01_Put: function 53 -/
mutual
def careenageref01_Put.j0 : Nat → Int → Int → List Int → Bool → Option (List Int)
  | 0, _, _, _, _ => none
  | k + 1, x1, x2, x7, x17 => if x17 = true then (some x7) else (careenageref01_Put.l0 k x1 x2 x7 0)
def careenageref01_Put.l0 : Nat → Int → Int → List Int → Int → Option (List Int)
  | 0, _, _, _, _ => none
  | k + 1, x1, x2, x7, x8 => if x8 < x2 then (if 0 ≤ (IntKind.u64.wrap (wrap64 (8 * x8))) then (if x7.length < 140737488355328 then (careenageref01_Put.l0 k x1 x2 (x7 ++ [(shr .u64 x1 (IntKind.u64.wrap (wrap64 (8 * x8)))) % 256]) (wrap64 (x8 + 1))) else (none)) else (none)) else (some x7)
end
def careenageref01_Put.f (k : Nat) (l0 : List Int) (a1 : Int) (a2 : Int) : Option (List Int) := (some (([] : List Int) : List Int)).bind fun y252 => (if y252.length + l0.length < 140737488355328 then ((some (y252 ++ l0 : List Int)).bind fun y255 => (if a2 < 1 then (careenageref01_Put.j0 k a1 a2 y255 true) else (careenageref01_Put.j0 k a1 a2 y255 (decide (a2 > 8))))) else (none))
end Go.Proofs.Ytlnmdfffmflhgaa.P

namespace Go.Proofs.Ytlnmdfffmflhgaa.Q
set_option linter.unusedVariables false
set_option linter.unusedSimpArgs false
open Go.RowKit Go.Proofs.Ytlnmdfffmflhgaa.P Go.Proofs.YtlnmdfffmflhgaaW.PrintWords Go.Proofs.YtlnmdfffmflhgaaW.PrintLast Go.Proofs.YtlnmdfffmflhgaaW.PrintMore Go.Proofs.YtlnmdfffmflhgaaO
theorem w64 {x : Int} (h0 : -9223372036854775808 ≤ x) (h1 : x ≤ 9223372036854775807) : wrap64 x = x := by
  unfold wrap64
  omega
theorem u64w {x : Int} (h0 : 0 ≤ x) (h1 : x < 18446744073709551616) : IntKind.u64.wrap x = x := by
  rw [IntKind.wrap_u64]
  omega
theorem pow8 (i : Nat) : (2 : Int) ^ (8 * i) = 256 ^ i := by
  rw [Int.pow_mul]
  rfl
theorem pow256_le {i : Nat} (h : i ≤ 8) : (256 : Int) ^ i ≤ 18446744073709551616 := by
  have : i = 0 ∨ i = 1 ∨ i = 2 ∨ i = 3 ∨ i = 4 ∨ i = 5 ∨ i = 6 ∨ i = 7 ∨ i = 8 := by omega
  rcases this with rfl | rfl | rfl | rfl | rfl | rfl | rfl | rfl | rfl <;> decide
theorem shr_byte (n : Int) (i : Nat) (h : i ≤ 8) : shr .u64 n (8 * (i : Int)) = n / 256 ^ i := by
  unfold shr
  rw [show min (8 * (i : Int)).toNat IntKind.u64.bits = 8 * i by simp only [IntKind.bits]; omega, pow8]
theorem shl_byte (b : Int) (i : Nat) (h : i ≤ 7) (hb : 0 ≤ b ∧ b < 256) : shl .u64 b (8 * (i : Int)) = b * 256 ^ i := by
  unfold shl
  rw [show min (8 * (i : Int)).toNat IntKind.u64.bits = 8 * i by simp only [IntKind.bits]; omega, pow8]
  have h1 := pow256_le (i := i + 1) (by omega)
  rw [pow_succ256] at h1
  have h2 := pow_pos256 i
  refine u64w (Int.mul_nonneg hb.1 (Int.le_of_lt h2)) ?_
  have h3 : b * 256 ^ i ≤ 255 * 256 ^ i := Int.mul_le_mul_of_nonneg_right (by omega) (Int.le_of_lt h2)
  omega
theorem or_byte (v b : Int) (i : Nat) (h : i ≤ 7) (hv : 0 ≤ v ∧ v < 256 ^ i) (hb : 0 ≤ b ∧ b < 256) : Go.bits .or .u64 v (b * 256 ^ i) = v + b * 256 ^ i := by
  have h1 := pow256_le (i := i + 1) (by omega)
  rw [pow_succ256] at h1
  have h2 := pow_pos256 i
  have h3 : b * 256 ^ i ≤ 255 * 256 ^ i := Int.mul_le_mul_of_nonneg_right (by omega) (Int.le_of_lt h2)
  have h4 : 0 ≤ b * 256 ^ i := Int.mul_nonneg hb.1 (Int.le_of_lt h2)
  rw [u64_or _ _ hv.1 (by omega) h4 (by omega)]
  obtain ⟨v, rfl⟩ := Int.eq_ofNat_of_zero_le hv.1
  obtain ⟨b, rfl⟩ := Int.eq_ofNat_of_zero_le hb.1
  have e : ((b : Int) * 256 ^ i) = ((b * 256 ^ i : Nat) : Int) := by rw [Int.natCast_mul, Int.natCast_pow]; rfl
  have hv2 : v < 2 ^ (8 * i) := by
    have := hv.2
    rw [Nat.pow_mul]
    have e2 : ((256 : Int) ^ i) = (((2 ^ 8) ^ i : Nat) : Int) := by rw [Int.natCast_pow]; rfl
    rw [e2] at this
    exact Int.ofNat_lt.1 this
  rw [e, Int.toNat_natCast, Int.toNat_natCast, Nat.or_comm, nat_join (8 * i) (b * 256 ^ i) v (by rw [Nat.pow_mul]; exact Nat.mul_mod_left _ _) hv2]
  omega
theorem le_drop : ∀ (K i : Nat) (n : Int), i < K → (le n K).drop i = (n / 256 ^ i % 256) :: (le n K).drop (i + 1)
  | 0, i, n, h => by omega
  | K + 1, 0, n, h => by simp [le]
  | K + 1, i + 1, n, h => by
    simp only [le, List.drop_succ_cons]
    rw [le_drop K i _ (by omega), pow_succ256, Int.ediv_ediv_of_nonneg (by decide)]
theorem put_l0 (n : Int) (K : Nat) (hK : K ≤ 8) : ∀ (d k i : Nat) (x : List Int), i + d = K → d < k → x.length + d ≤ 140737488355327 → octet_Put.l0 k n x K i = some (x ++ (le n K).drop i)
  | 0, k + 1, i, x, h, _, _ => by
    simp only [octet_Put.l0]
    rw [if_neg (by omega), List.drop_eq_nil_of_le (by rw [le_length]; omega), List.append_nil]
  | d + 1, k + 1, i, x, h, hk, hl => by
    simp only [octet_Put.l0]
    have e1 : wrap64 (8 * (i : Int)) = 8 * (i : Int) := w64 (by omega) (by omega)
    have e2 : wrap64 ((i : Int) + 1) = ((i + 1 : Nat) : Int) := by rw [w64 (by omega) (by omega)]; rfl
    rw [if_pos (by omega), e1, if_pos (by omega), if_pos (by omega), shr_byte n i (by omega), e2,
      put_l0 n K hK d k (i + 1) _ (by omega) (by omega) (by simp; omega), le_drop K i n (by omega)]
    simp
/-- What Put answers. -/
def putL (l : List Int) (n K : Int) : List Int := if 1 ≤ K ∧ K ≤ 8 then l ++ le n K.toNat else l
theorem put_is (k : Nat) (l : List Int) (n K : Int) (hk : 12 ≤ k) (hl : l.length ≤ 140737488355000) : octet_Put.f k l n K = some (putL l n K) := by
  obtain ⟨k, rfl⟩ : ∃ m, k = m + 2 := ⟨k - 2, by omega⟩
  unfold octet_Put.f putL
  have e1 : wrap64 ((l.length : Int) + 8) = (l.length : Int) + 8 := w64 (by omega) (by omega)
  rw [e1, if_pos (by omega), if_pos (by omega)]
  simp only [bs, List.nil_append]
  rw [if_pos (by simp; omega)]
  by_cases h1 : K < 1
  · rw [if_pos h1, if_neg (by omega)]
    simp [octet_Put.j0]
  · rw [if_neg h1]
    by_cases h2 : K > 8
    · rw [if_neg (by omega)]
      simp [octet_Put.j0, h2]
    · rw [if_pos (by omega)]
      obtain ⟨K, rfl⟩ := Int.eq_ofNat_of_zero_le (show 0 ≤ K by omega)
      simp only [octet_Put.j0, h2, decide_false]
      rw [if_neg (by decide), show (0 : Int) = ((0 : Nat) : Int) from rfl, put_l0 n K (by omega) K (k + 1) 0 l (by omega) (by omega) (by omega)]
      simp
end Go.Proofs.Ytlnmdfffmflhgaa.Q

namespace Go.Proofs.Ytlnmdfffmflhgaa.Q
set_option linter.unusedVariables false
set_option linter.unusedSimpArgs false
open Go.RowKit Go.Proofs.Ytlnmdfffmflhgaa.P Go.Proofs.YtlnmdfffmflhgaaW.PrintWords Go.Proofs.YtlnmdfffmflhgaaW.PrintLast Go.Proofs.YtlnmdfffmflhgaaW.PrintMore Go.Proofs.YtlnmdfffmflhgaaO
def numL (x : Int) : List Int := le (IntKind.u64.wrap x) 4
theorem numL_length (x : Int) : (numL x).length = 4 := le_length 4 _
theorem put4 (l : List Int) (n : Int) : putL l n 4 = l ++ le n 4 := by
  unfold putL
  rw [if_pos (by decide)]
  rfl
/-- The bytes, and zeros behind them, as many as there is room for. -/
def padS (m : Int) (l : List Int) : ByteArray := strOfNums (l ++ List.replicate (m.toNat - l.length) 0)
theorem body_is (s : Int) (l : List Int) (hg : goodS s = true) (hl : (l.length : Int) ≤ roomS s) : frame_Body.f s l = some (padS (roomS s) l, 0) := by
  have hr := roomS_range s
  unfold frame_Body.f padded padS
  rw [good_is, bs, if_pos hg, room_is, bs, if_neg (by omega), if_pos (by omega)]
  rw [show min l.length (roomS s).toNat = l.length by omega, List.take_length, List.drop_replicate]
end Go.Proofs.Ytlnmdfffmflhgaa.Q

namespace Go.Proofs.Ytlnmdfffmflhgaa.Q
set_option linter.unusedVariables false
set_option linter.unusedSimpArgs false
open Go.RowKit Go.Proofs.Ytlnmdfffmflhgaa.P Go.Proofs.YtlnmdfffmflhgaaW.PrintWords Go.Proofs.YtlnmdfffmflhgaaW.PrintLast Go.Proofs.YtlnmdfffmflhgaaW.PrintMore Go.Proofs.YtlnmdfffmflhgaaO
theorem bt_get {s : ByteArray} {i : Nat} (h : i < (B s).length) : bt s (i : Int) = (B s)[i] := by rw [bt_B, rd_get h]
/-- What Number answers. -/
def numR (s : ByteArray) (n : Int) : Int × Int × ByteArray :=
  if n < 1 ∨ n > 8 then (0, 2, s) else if (s.size : Int) < n then (0, 7, s) else (ofLe ((B s).take n.toNat), 0, s.extract n.toNat s.size)
theorem ofLe_step {l : List Int} (hl : isB l) {i : Nat} (hi : i < l.length) (h8 : i ≤ 7) : Go.bits .or .u64 (ofLe (l.take i)) (shl .u64 (IntKind.u64.wrap l[i]) (8 * (i : Int))) = ofLe (l.take (i + 1)) := by
  have hb := hl l[i] (List.getElem_mem hi)
  have hv := ofLe_lt (isB_take hl i)
  rw [List.length_take, Nat.min_eq_left (by omega)] at hv
  rw [u64w hb.1 (by omega), shl_byte _ _ h8 hb, or_byte _ _ _ h8 ⟨ofLe_nonneg (isB_take hl i), hv⟩ hb, List.take_succ_eq_append_getElem hi, ofLe_snoc, List.length_take, Nat.min_eq_left (by omega)]
theorem num_l0 (s x : ByteArray) (e : Int) (hx : x.size ≤ 8) : ∀ (d k i : Nat), i + d = x.size → d < k → octet_Reader_Number.l0 k (ofLe ((B x).take i)) e x (x.size : Int) i s = some (ofLe (B x), e, s)
  | 0, k + 1, i, h, _ => by
    simp only [octet_Reader_Number.l0]
    rw [if_neg (by omega), List.take_of_length_le (by rw [B_length]; omega)]
  | d + 1, k + 1, i, h, hk => by
    have hi : i < (B x).length := by rw [B_length]; omega
    simp only [octet_Reader_Number.l0]
    rw [if_pos (by omega), if_pos (by omega), if_pos (by omega), w64 (x := 8 * (i : Int)) (by omega) (by omega), if_pos (by omega), bt_get hi, ofLe_step (isB_B x) hi (by omega), w64 (by omega) (by omega)]
    exact num_l0 s x e hx d k (i + 1) (by omega) (by omega)
theorem num_is (s : ByteArray) (n : Int) (k : Nat) (hk : 9 < k) : octet_Reader_Number.f k s n = some (numR s n) := by
  unfold octet_Reader_Number.f numR
  by_cases h1 : n < 1
  · rw [if_pos h1, if_pos (.inl h1)]
  · rw [if_neg h1]
    by_cases h2 : n > 8
    · rw [if_pos h2, if_pos (.inr h2)]
    · rw [if_neg h2, if_neg (by omega)]
      unfold octet_Reader_take.f
      by_cases h3 : n > (s.size : Int)
      · rw [if_pos h3, if_pos h3]
        simp only [bs]
        have := num_l0 s ⟨#[]⟩ 7 (by decide) 0 k 0 rfl (by omega)
        simpa [B_empty, ofLe] using this
      · rw [if_neg h3, if_neg h3, if_pos (by omega), if_pos (by omega)]
        simp only [bs]
        have hsz : (s.extract 0 n.toNat).size = n.toNat := by rw [ByteArray.size_extract]; omega
        have := num_l0 (s.extract n.toNat s.size) (s.extract 0 n.toNat) 0 (by omega) n.toNat k 0 (by omega) (by omega)
        rw [B_take] at this
        simpa [ofLe] using this
end Go.Proofs.Ytlnmdfffmflhgaa.Q

namespace Go.Proofs.Ytlnmdfffmflhgaa.P
open Go.RowKit Go.Proofs.YtlnmdfffmflhgaaW.PrintWords Go.Proofs.YtlnmdfffmflhgaaW.PrintLast Go.Proofs.YtlnmdfffmflhgaaW.PrintMore
attribute [local go_sem] max2_int min2_int max_two min_two max_three min_three max_four min_four   -- for this text's walks alone
open Go.Proofs.YtlnmdfffmflhgaaO
attribute [local go_sem] min2_str max2_str
set_option linter.unusedVariables false
set_option linter.unusedSimpArgs false
/-! ### careenagekit_Pick: function 18 -/
def careenagekit_Pick.f (a0 : Int) (a1 : Int) : Option (Int) := if a1 < 1 then (some 0) else (if a1 = 0 then (none) else (if (Int.tmod a0 a1) < 0 then (some (wrap64 ((Int.tmod a0 a1) + a1))) else (some (Int.tmod a0 a1))))
end Go.Proofs.Ytlnmdfffmflhgaa.P

namespace Go.Proofs.Ytlnmdfffmflhgaa.P
open Go.RowKit Go.Proofs.YtlnmdfffmflhgaaW.PrintWords Go.Proofs.YtlnmdfffmflhgaaW.PrintLast Go.Proofs.YtlnmdfffmflhgaaW.PrintMore
attribute [local go_sem] max2_int min2_int max_two min_two max_three min_three max_four min_four   -- for this text's walks alone
open Go.Proofs.YtlnmdfffmflhgaaO
attribute [local go_sem] min2_str max2_str
set_option linter.unusedVariables false
set_option linter.unusedSimpArgs false
/-- A state of type 90 at block g of W; what its slices lead to came in by w0. -/
def IsS90 (w0 W : World) (g : Nat) (f0 : ByteArray) : Prop := W.heap[g]? = some (.cells #[.string f0] 90 (0, 0)) ∧ w0.heap.size ≤ g
theorem IsS90.apart {w0 W : World} {g : Nat} {f0 : ByteArray} {α : Type} {d : Kd α} {e : Nat} {base : Nat} {ok : Nat → Prop} {v : Value} {xs : List α} (h : IsS90 w0 W g f0) (ho : d.R e W base ok v xs) (ht : ∀ q, q ∈ e :: d.E → q ≠ 90) : d.R e W base (fun k => ok k ∧ k ≠ g) v xs := by
  obtain ⟨hb, hg⟩ := h
  exact Kd.R_types ho hb ht
/-! ### careenageref01_New: function 55 -/
def careenageref01_New.f (a0 : ByteArray) : Option (ByteArray) := some a0
end Go.Proofs.Ytlnmdfffmflhgaa.P

namespace Go.Proofs.Ytlnmdfffmflhgaa.P
open Go.RowKit Go.Proofs.YtlnmdfffmflhgaaW.PrintWords Go.Proofs.YtlnmdfffmflhgaaW.PrintLast Go.Proofs.YtlnmdfffmflhgaaW.PrintMore
attribute [local go_sem] max2_int min2_int max_two min_two max_three min_three max_four min_four   -- for this text's walks alone
open Go.Proofs.YtlnmdfffmflhgaaO
attribute [local go_sem] min2_str max2_str
set_option linter.unusedVariables false
set_option linter.unusedSimpArgs false
/-! ### careenageref01_Reader_Number: function 56 -/
mutual
def careenageref01_Reader_Number.j0 : Nat → Int → Bool → ByteArray → Option (Int × Int × ByteArray)
  | 0, _, _, _ => none
  | k + 1, x1, x13, x1000 => if x13 = true then (some (0, 2, x1000)) else (if (x1000.size : Int) < x1 then (some (0, 7, x1000)) else (careenageref01_Reader_Number.l0 k x1 0 0 x1000))
def careenageref01_Reader_Number.l0 : Nat → Int → Int → Int → ByteArray → Option (Int × Int × ByteArray)
  | 0, _, _, _, _ => none
  | k + 1, x1, x6, x7, x1000 => if x7 < x1 then (if 0 ≤ x7 then (if x7 < (x1000.size : Int) then (if 0 ≤ (IntKind.u64.wrap (wrap64 (8 * x7))) then (careenageref01_Reader_Number.l0 k x1 (Go.bits .or .u64 x6 (shl .u64 (IntKind.u64.wrap (bt x1000 x7)) (IntKind.u64.wrap (wrap64 (8 * x7))))) (wrap64 (x7 + 1)) x1000) else (none)) else (none)) else (none)) else (if 0 ≤ x1 then (if x1 ≤ (x1000.size : Int) then (some (x6, 0, x1000.extract (x1 : Int).toNat x1000.size)) else (none)) else (none))
end
def careenageref01_Reader_Number.f (k : Nat) (s0_0 : ByteArray) (a1 : Int) : Option (Int × Int × ByteArray) := if a1 < 1 then (careenageref01_Reader_Number.j0 k a1 true s0_0) else (careenageref01_Reader_Number.j0 k a1 (decide (a1 > 8)) s0_0)
end Go.Proofs.Ytlnmdfffmflhgaa.P

namespace Go.Proofs.Ytlnmdfffmflhgaa.Q
set_option linter.unusedVariables false
set_option linter.unusedSimpArgs false
open Go.RowKit Go.Proofs.Ytlnmdfffmflhgaa.P Go.Proofs.YtlnmdfffmflhgaaW.PrintWords Go.Proofs.YtlnmdfffmflhgaaW.PrintLast Go.Proofs.YtlnmdfffmflhgaaW.PrintMore Go.Proofs.YtlnmdfffmflhgaaO
theorem page_same (a b c d e f : Int) (g : ByteArray) (p0 cnt p2 p3 p4 : Int) (p5 : ByteArray) (h : (!(a == p0) || (!(b == cnt) || (!(c == p2) || (!(d == p3) || (!(e == p4) || (!(g.toList == p5.toList))))))) = false) : (a, b, c, d, e, g) = (p0, cnt, p2, p3, p4, p5) := by
  simp only [Bool.or_eq_false_iff, Bool.not_eq_false', beq_iff_eq, toList_eq_iff] at h
  obtain ⟨rfl, rfl, rfl, rfl, rfl, rfl⟩ := h
  rfl
theorem page_diff (a b c d e f : Int) (g : ByteArray) (p0 cnt p2 p3 p4 : Int) (p5 : ByteArray) (h : (!(a == p0) || (!(b == cnt) || (!(c == p2) || (!(d == p3) || (!(e == p4) || (!(g.toList == p5.toList))))))) = true) : ¬ (a, b, c, d, e, g) = (p0, cnt, p2, p3, p4, p5) := by
  intro hh
  simp only [Prod.mk.injEq] at hh
  obtain ⟨rfl, rfl, rfl, rfl, rfl, rfl⟩ := hh
  simp at h
theorem fin_is (x : Int × Int × Int × Int × Int × ByteArray × Int) (p0 cnt p2 p3 p4 : Int) (p5 : ByteArray) {α : Type} (u v : α) :
    (if x.2.2.2.2.2.2 = 0 then (if (!(x.1 == p0) || (!(x.2.1 == cnt) || (!(x.2.2.1 == p2) || (!(x.2.2.2.1 == p3) || (!(x.2.2.2.2.1 == p4) || (!(x.2.2.2.2.2.1.toList == p5.toList))))))) = true then v else u) else v) = if x = (p0, cnt, p2, p3, p4, p5, 0) then u else v := by
  obtain ⟨a, b, c, d, e, g, f⟩ := x
  simp only []
  by_cases hf : f = 0
  · subst hf
    rw [if_pos rfl]
    cases h : (!(a == p0) || (!(b == cnt) || (!(c == p2) || (!(d == p3) || (!(e == p4) || (!(g.toList == p5.toList))))))) with
    | true =>
      have := page_diff a b c d e 0 g p0 cnt p2 p3 p4 p5 h
      rw [if_pos rfl, if_neg]
      intro hh
      simp only [Prod.mk.injEq] at hh this
      exact this ⟨hh.1, hh.2.1, hh.2.2.1, hh.2.2.2.1, hh.2.2.2.2.1, hh.2.2.2.2.2.1⟩
    | false =>
      have := page_same a b c d e 0 g p0 cnt p2 p3 p4 p5 h
      simp only [Prod.mk.injEq] at this
      obtain ⟨rfl, rfl, rfl, rfl, rfl, rfl⟩ := this
      rw [if_neg (by decide), if_pos rfl]
  · rw [if_neg hf, if_neg]
    intro hh
    simp only [Prod.mk.injEq] at hh
    exact hf hh.2.2.2.2.2.2
theorem isB_zeros (n : Nat) : isB (List.replicate n 0) := by
  intro x hx
  have := (List.mem_replicate.1 hx).2
  omega
theorem B_padS (m : Int) {l : List Int} (h : isB l) : B (padS m l) = l ++ List.replicate (m.toNat - l.length) 0 := B_str (isB_append h (isB_zeros _))
end Go.Proofs.Ytlnmdfffmflhgaa.Q

namespace Go.Proofs.Ytlnmdfffmflhgaa.Q
set_option linter.unusedVariables false
set_option linter.unusedSimpArgs false
open Go.RowKit Go.Proofs.Ytlnmdfffmflhgaa.P Go.Proofs.YtlnmdfffmflhgaaW.PrintWords Go.Proofs.YtlnmdfffmflhgaaW.PrintLast Go.Proofs.YtlnmdfffmflhgaaW.PrintMore Go.Proofs.YtlnmdfffmflhgaaO
def magicL : List Int := [99, 97, 114, 101, 101, 110, 48, 49]
def mayM (tx sz root list pages : Int) : Bool := decide (tx ≤ 4611686018427387904) && goodS sz && decide (2 ≤ pages) && decide (pages ≤ 2147483647) && (decide (root < pages) && (root != 1)) && (decide (list < pages) && (list != 1))
theorem mmay_is (tx sz root list pages : Int) : meta_may.f tx sz root list pages = some (mayM tx sz root list pages) := by
  unfold meta_may.f mayM
  by_cases h1 : tx ≤ 4611686018427387904
  · rw [if_pos h1, good_is, bs, decide_eq_true h1]
    cases h2 : goodS sz with
    | false => simp
    | true =>
      rw [if_pos rfl]
      by_cases h3 : pages ≥ 2
      · rw [if_pos h3, decide_eq_true (show 2 ≤ pages from h3)]
        by_cases h4 : pages ≤ 2147483647
        · rw [if_pos h4, decide_eq_true h4]
          cases h5 : (decide (root < pages) && (root != 1)) with
          | true => simp
          | false => simp
        · rw [if_neg h4, decide_eq_false h4]
          simp
      · rw [if_neg h3, decide_eq_false (show ¬ 2 ≤ pages from h3)]
        simp
  · rw [if_neg h1, decide_eq_false h1]
    simp
theorem mslot_is (tx : Int) (h0 : 0 ≤ tx) (h1 : tx < 18446744073709551616) : meta_Slot.f tx = some (tx % 2) := by
  unfold meta_Slot.f
  rw [u64_and tx 1 h0 h1 (by decide) (by decide), show (1 : Int).toNat = 1 from rfl, nat_mask1]
  congr 1
  omega
def metaL (sz root list pages : Int) : List Int := magicL ++ le (IntKind.u64.wrap sz) 2 ++ (numL root ++ (numL list ++ numL pages))
theorem metaL_length (sz root list pages : Int) : (metaL sz root list pages).length = 22 := by
  simp [metaL, magicL, le_length, numL_length]
def metaS (tx sz root list pages : Int) : Int × Int × Int × Int × Int × ByteArray × Int :=
  if mayM tx sz root list pages = true then (1, 0, tx % 2, 0, tx, padS (roomS sz) (metaL sz root list pages), 0) else (0, 0, 0, 0, 0, (⟨#[]⟩ : ByteArray), 2)
theorem mayM_good {tx sz root list pages : Int} (h : mayM tx sz root list pages = true) : goodS sz = true ∧ tx ≤ 4611686018427387904 ∧ 2 ≤ pages ∧ pages ≤ 2147483647 ∧ root < pages ∧ list < pages ∧ root ≠ 1 ∧ list ≠ 1 := by
  unfold mayM at h
  simp only [Bool.and_eq_true, decide_eq_true_eq, bne_iff_ne] at h
  obtain ⟨⟨⟨⟨⟨h1, h2⟩, h3⟩, h4⟩, h5, h6⟩, h7, h8⟩ := h
  exact ⟨h2, h1, h3, h4, h5, h7, h6, h8⟩
theorem good_range {s : Int} (h : goodS s = true) : 128 ≤ s ∧ s ≤ 4096 ∧ roomS s = s - 24 := by
  have h2 := h
  unfold goodS at h2
  simp only [Bool.and_eq_true, decide_eq_true_eq, beq_iff_eq] at h2
  unfold roomS
  rw [if_pos h]
  omega
theorem put2 (l : List Int) (n : Int) : putL l n 2 = l ++ le n 2 := by
  unfold putL
  rw [if_pos (by omega)]
  rfl
theorem mpage_is (k : Nat) (hk : 20 ≤ k) (tx sz root list pages : Int) (h0 : 0 ≤ tx) (h1 : tx < 18446744073709551616) : meta_Page.f k tx sz root list pages = some (metaS tx sz root list pages) := by
  obtain ⟨k, rfl⟩ : ∃ j, k = j + 4 := ⟨k - 4, by omega⟩
  unfold meta_Page.f metaS
  rw [mmay_is, bs]
  cases hm : mayM tx sz root list pages with
  | false => rw [if_neg (by decide), if_neg (by decide)]
  | true =>
    obtain ⟨hg, _⟩ := mayM_good hm
    obtain ⟨g1, g2, g3⟩ := good_range hg
    have ht := mslot_is tx h0 h1
    have r0 : rd [root, list, pages] 0 = root := rfl
    have r1 : rd [root, list, pages] 1 = list := rfl
    have r2 : rd [root, list, pages] 2 = pages := rfl
    have e1 : wrap64 (0 + 1) = 1 := w64 (by decide) (by decide)
    have e2 : wrap64 (1 + 1) = 2 := w64 (by decide) (by decide)
    have e3 : wrap64 (2 + 1) = 3 := w64 (by decide) (by decide)
    rw [if_pos rfl, if_pos rfl, put_is _ _ _ _ (by omega) (by simp), bs, bs, put2]
    simp only [List.length_cons, List.length_nil]
    rw [meta_Page.l0, if_pos (by decide), if_pos (by decide), if_pos (by simp), r0, e1, put_is _ _ _ _ (by omega) (by simp [le_length]), bs, put4,
      meta_Page.l0, if_pos (by decide), if_pos (by decide), if_pos (by simp), r1, e2, put_is _ _ _ _ (by omega) (by simp [le_length]), bs, put4,
      meta_Page.l0, if_pos (by decide), if_pos (by decide), if_pos (by simp), r2, e3, put_is _ _ _ _ (by omega) (by simp [le_length]), bs, put4,
      meta_Page.l0, if_neg (by decide)]
    have hl : [99, 97, 114, 101, 101, 110, 48, 49] ++ le (IntKind.u64.wrap sz) 2 ++ le (IntKind.u64.wrap root) 4 ++ le (IntKind.u64.wrap list) 4 ++ le (IntKind.u64.wrap pages) 4 = metaL sz root list pages := by
      unfold metaL numL magicL
      simp only [List.append_assoc]
    rw [hl, body_is sz _ hg (by rw [metaL_length]; omega), bs, ht, bs]
/-- The reader of a meta. -/
def preS (s : ByteArray) : Bool := decide (8 ≤ s.size) && ((s.extract 0 8).toList == (⟨#[99, 97, 114, 101, 101, 110, 48, 49]⟩ : ByteArray).toList)
def restM (s : ByteArray) : ByteArray := if preS s = true then s.extract 8 s.size else s
theorem cut_is (s : ByteArray) : strings_CutPrefix.f s (⟨#[99, 97, 114, 101, 101, 110, 48, 49]⟩ : ByteArray) = some (restM s, preS s) := by
  unfold strings_CutPrefix.f stringslite_CutPrefix.f stringslite_HasPrefix.f restM preS
  have hz : ((⟨#[99, 97, 114, 101, 101, 110, 48, 49]⟩ : ByteArray).size : Int) = 8 := rfl
  rw [hz]
  by_cases h : (s.size : Int) ≥ 8
  · rw [if_pos h, if_pos (by decide), if_pos (by omega), bs, decide_eq_true (show 8 ≤ s.size by omega), Bool.true_and]
    have h8 : ((8 : Int)).toNat = 8 := rfl
    rw [h8]
    cases ((s.extract 0 8).toList == (⟨#[99, 97, 114, 101, 101, 110, 48, 49]⟩ : ByteArray).toList) with
    | true => rw [if_pos rfl, if_pos (by decide), if_pos (by omega), bs, if_pos rfl]
    | false => rw [if_neg (by decide), bs, if_neg (by decide)]
  · rw [if_neg h, bs, if_neg (by decide), bs, decide_eq_false (show ¬ 8 ≤ s.size by omega), Bool.false_and, if_neg (by decide)]
def ofM (a0 p0 p1 p2 p3 p4 : Int) (p5 : ByteArray) : Int × Int × Int × Int × Int × Int :=
  let n1 := numR (restM p5) 2
  let n2 := numR n1.2.2 4
  let n3 := numR n2.2.2 4
  let n4 := numR n3.2.2 4
  if preS p5 = true ∧ n4.2.1 = 0 ∧ metaS p4 (wrap64 n1.1) (n2.1 % 4294967296) (n3.1 % 4294967296) (n4.1 % 4294967296) = (p0, p1, p2, p3, p4, p5, 0) ∧ wrap64 n1.1 = a0 then
    (p4, wrap64 n1.1, n2.1 % 4294967296, n3.1 % 4294967296, n4.1 % 4294967296, 0) else (0, 0, 0, 0, 0, 4)
theorem mof_is (k : Nat) (hk : 20 ≤ k) (a0 p0 p1 p2 p3 p4 : Int) (p5 : ByteArray) (h0 : 0 ≤ p4) (h1 : p4 < 18446744073709551616) : meta_Of.f k a0 p0 p1 p2 p3 p4 p5 = some (ofM a0 p0 p1 p2 p3 p4 p5) := by
  unfold meta_Of.f octet_New.f ofM
  rw [cut_is, bs, bs, num_is _ _ _ (by omega), bs, num_is _ _ _ (by omega), bs, num_is _ _ _ (by omega), bs, num_is _ _ _ (by omega), bs, mpage_is _ hk _ _ _ _ _ h0 h1, bs]
  simp only []
  generalize numR (restM p5) 2 = n1
  generalize numR n1.2.2 4 = n2
  generalize numR n2.2.2 4 = n3
  generalize numR n3.2.2 4 = n4
  generalize hx : metaS p4 (wrap64 n1.1) (n2.1 % 4294967296) (n3.1 % 4294967296) (n4.1 % 4294967296) = x
  cases hp : preS p5 with
  | false => rw [if_neg (by decide), if_neg (by simp)]
  | true =>
    rw [if_pos rfl]
    by_cases he : n4.2.1 = 0
    · rw [if_pos he, fin_is]
      by_cases hq : x = (p0, p1, p2, p3, p4, p5, 0)
      · rw [if_pos hq]
        by_cases hs : wrap64 n1.1 = a0
        · rw [if_pos hs, if_pos ⟨rfl, he, hq, hs⟩]
        · rw [if_neg hs, if_neg (fun h => hs h.2.2.2)]
      · rw [if_neg hq, if_neg (fun h => hq h.2.2.1)]
    · rw [if_neg he, if_neg (fun h => he h.2.1)]
theorem metaS_err {tx sz root list pages : Int} : (metaS tx sz root list pages).2.2.2.2.2.2 = 0 ↔ mayM tx sz root list pages = true := by
  unfold metaS
  split
  · rename_i h
    exact ⟨fun _ => h, fun _ => rfl⟩
  · rename_i h
    exact ⟨fun hh => absurd hh (by decide), fun hh => absurd hh h⟩
/-- What is read is a meta whose page this is. -/
theorem ofM_ok {a0 p0 p1 p2 p3 p4 : Int} {p5 : ByteArray} (h : (ofM a0 p0 p1 p2 p3 p4 p5).2.2.2.2.2 = 0) : ∃ sz root list pages, ofM a0 p0 p1 p2 p3 p4 p5 = (p4, sz, root, list, pages, 0) ∧ metaS p4 sz root list pages = (p0, p1, p2, p3, p4, p5, 0) ∧ sz = a0 := by
  unfold ofM at h ⊢
  simp only [] at h ⊢
  split at h
  · rename_i hc
    obtain ⟨c1, c2, c3, c4⟩ := hc
    rw [if_pos ⟨c1, c2, c3, c4⟩]
    exact ⟨_, _, _, _, rfl, c3, c4⟩
  · exact absurd h (by decide)
theorem ofM_bad {a0 p0 p1 p2 p3 p4 : Int} {p5 : ByteArray} (h : ¬ (ofM a0 p0 p1 p2 p3 p4 p5).2.2.2.2.2 = 0) : ofM a0 p0 p1 p2 p3 p4 p5 = (0, 0, 0, 0, 0, 4) := by
  unfold ofM at h ⊢
  simp only [] at h ⊢
  split at h
  · exact absurd rfl h
  · rename_i hc
    rw [if_neg hc]
theorem num_back (s : ByteArray) (K : Nat) (hK : 1 ≤ K ∧ K ≤ 8) (x : Int) (rest : List Int) (h : B s = le x K ++ rest) : ∃ s', numR s (K : Int) = (x % 256 ^ K, 0, s') ∧ B s' = rest := by
  have hsz : s.size = K + rest.length := by rw [← B_length, h, List.length_append, le_length]
  refine ⟨s.extract K s.size, ?_, ?_⟩
  · unfold numR
    rw [if_neg (by omega), if_neg (by omega), Int.toNat_natCast, h, List.take_left' (le_length K x), ofLe_le]
  · rw [B_drop, h]
    exact List.drop_left' (le_length K x)
theorem isB_metaL (sz root list pages : Int) : isB (metaL sz root list pages) := by
  unfold metaL numL
  refine isB_append (isB_append ?_ (isB_le _ _)) (isB_append (isB_le _ _) (isB_append (isB_le _ _) (isB_le _ _)))
  intro x hx
  unfold magicL at hx
  simp only [List.mem_cons, List.not_mem_nil, or_false] at hx
  omega
/-- A meta's page is read again, with its own size only. -/
theorem ofM_back {tx sz root list pages : Int} (h : mayM tx sz root list pages = true) (hr : 0 ≤ root) (hl : 0 ≤ list) (a0 : Int) :
    ofM a0 1 0 (tx % 2) 0 tx (padS (roomS sz) (metaL sz root list pages)) = if sz = a0 then (tx, sz, root, list, pages, 0) else (0, 0, 0, 0, 0, 4) := by
  obtain ⟨hg, h1, h2, h3, h4, h5, h6, h7⟩ := mayM_good h
  obtain ⟨g1, g2, g3⟩ := good_range hg
  obtain ⟨z, hz⟩ : ∃ z, z = List.replicate ((roomS sz).toNat - 22) (0 : Int) := ⟨_, rfl⟩
  have hB : B (padS (roomS sz) (metaL sz root list pages)) = magicL ++ (le (IntKind.u64.wrap sz) 2 ++ (le (IntKind.u64.wrap root) 4 ++ (le (IntKind.u64.wrap list) 4 ++ (le (IntKind.u64.wrap pages) 4 ++ z)))) := by
    rw [B_padS _ (isB_metaL _ _ _ _), metaL_length, ← hz]
    unfold metaL numL
    simp only [List.append_assoc]
  generalize hs : padS (roomS sz) (metaL sz root list pages) = s at hB
  have hsz : 8 ≤ s.size := by rw [← B_length, hB, List.length_append]; simp [magicL]
  have hpre : preS s = true := by
    unfold preS
    rw [decide_eq_true hsz, Bool.true_and, beq_iff_eq, toList_eq_iff]
    refine B_inj ?_
    rw [B_take, hB]
    exact List.take_left' rfl
  have hrest : B (restM s) = le (IntKind.u64.wrap sz) 2 ++ (le (IntKind.u64.wrap root) 4 ++ (le (IntKind.u64.wrap list) 4 ++ (le (IntKind.u64.wrap pages) 4 ++ z))) := by
    unfold restM
    rw [if_pos hpre, B_drop, hB]
    exact List.drop_left' rfl
  obtain ⟨s1, e1, b1⟩ := num_back _ 2 (by omega) _ _ hrest
  obtain ⟨s2, e2, b2⟩ := num_back _ 4 (by omega) _ _ b1
  obtain ⟨s3, e3, b3⟩ := num_back _ 4 (by omega) _ _ b2
  obtain ⟨s4, e4, b4⟩ := num_back _ 4 (by omega) _ _ b3
  have w0 : IntKind.u64.wrap sz = sz := u64w (by omega) (by omega)
  have w1 : IntKind.u64.wrap root = root := u64w hr (by omega)
  have w2 : IntKind.u64.wrap list = list := u64w hl (by omega)
  have w3 : IntKind.u64.wrap pages = pages := u64w (by omega) (by omega)
  have p2 : (256 : Int) ^ 2 = 65536 := by decide
  have p4 : (256 : Int) ^ 4 = 4294967296 := by decide
  rw [w0, p2, show sz % 65536 = sz by omega] at e1
  rw [w1, p4, show root % 4294967296 = root by omega] at e2
  rw [w2, p4, show list % 4294967296 = list by omega] at e3
  rw [w3, p4, show pages % 4294967296 = pages by omega] at e4
  have hn2 : ((2 : Nat) : Int) = 2 := rfl
  have hn4 : ((4 : Nat) : Int) = 4 := rfl
  rw [hn2] at e1
  rw [hn4] at e2 e3 e4
  have hw : wrap64 sz = sz := w64 (by omega) (by omega)
  unfold ofM
  simp only [e1, e2, e3, e4]
  rw [hw, show root % 4294967296 = root by omega, show list % 4294967296 = list by omega, show pages % 4294967296 = pages by omega]
  unfold metaS
  rw [if_pos h, hs]
  by_cases ha : sz = a0
  · rw [if_pos ha, if_pos ⟨hpre, trivial, rfl, ha⟩]
  · rw [if_neg ha, if_neg (fun hh => ha hh.2.2.2)]
end Go.Proofs.Ytlnmdfffmflhgaa.Q

namespace Go.Proofs.Ytlnmdfffmflhgaa.Pure
set_option linter.unusedVariables false
set_option linter.unusedSimpArgs false
open Go.RowKit Go.Proofs.Ytlnmdfffmflhgaa.P Go.Proofs.YtlnmdfffmflhgaaW.PrintWords Go.Proofs.YtlnmdfffmflhgaaW.PrintLast Go.Proofs.YtlnmdfffmflhgaaW.PrintMore Go.Proofs.YtlnmdfffmflhgaaO Go.Proofs.Ytlnmdfffmflhgaa.Q
theorem lives5 (k : Nat) (hk : 20 ≤ k) : careenagelaw05_lives.f k = some true := by
  have hm : mayM 7 128 2 3 9 = true := by decide
  have hp : metaS 7 128 2 3 9 = (1, 0, 7 % 2, 0, 7, padS (roomS 128) (metaL 128 2 3 9), 0) := by
    unfold metaS
    rw [if_pos hm]
  unfold careenagelaw05_lives.f careenagelaw05_one.f
  rw [bs]
  simp only []
  rw [mpage_is k hk _ _ _ _ _ (by decide) (by decide), bs, hp]
  simp only []
  rw [mof_is k hk _ _ _ _ _ _ _ (by decide) (by decide), bs, ofM_back hm (by decide) (by decide), mslot_is 7 (by decide) (by decide), bs]
  rw [if_pos rfl]
  simp
theorem u64_range {x : Int} (h : (Lit.int .u64 x).wf = true) : 0 ≤ x ∧ x < 18446744073709551616 := by
  have h1 : IntKind.u64.min = 0 := rfl
  have h2 : IntKind.u64.max = 18446744073709551615 := rfl
  simp [Lit.wf, h1, h2] at h
  omega
theorem u32_range {x : Int} (h : (Lit.int .u32 x).wf = true) : 0 ≤ x ∧ x < 4294967296 := by
  have h1 : IntKind.u32.min = 0 := rfl
  have h2 : IntKind.u32.max = 4294967295 := rfl
  simp [Lit.wf, h1, h2] at h
  omega
theorem back_rest (k : Nat) (hk : 30 ≤ k) (size p0 p1 p2 p3 p4 : Int) (p5 : ByteArray) (h : 0 ≤ p4 ∧ p4 < 18446744073709551616) : careenagelaw05_MetaBack.j0 k size p0 p1 p2 p3 p4 p5 = some true := by
  obtain ⟨k, rfl⟩ : ∃ j, k = j + 1 := ⟨k - 1, by omega⟩
  rw [careenagelaw05_MetaBack.j0, mof_is k (by omega) _ _ _ _ _ _ _ h.1 h.2, bs]
  by_cases he : (ofM size p0 p1 p2 p3 p4 p5).2.2.2.2.2 = 0
  · obtain ⟨sz, root, list, pages, e1, e2, e3⟩ := ofM_ok he
    rw [e1]
    simp only [if_true]
    rw [mpage_is k (by omega) _ _ _ _ _ h.1 h.2, bs, e2]
    simp
  · rw [if_neg he, ofM_bad he]
    rfl
theorem MetaBack : careenagelaw05_MetaBack.Pure := by
  intro tx sz root list pages size p0 p1 p2 p3 p4 p5 w0 w1 w2 w3 w4 w5 w6 w7 w8 w9 w10 w11
  have ht := u64_range w0
  have hr := u32_range w2
  have hl := u32_range w3
  have hp := u64_range w10
  refine ⟨100, ?_⟩
  unfold careenagelaw05_MetaBack.f
  have hj := back_rest 100 (by omega) size p0 p1 p2 p3 p4 p5 hp
  rw [lives5 _ (by omega), bs, if_pos rfl]
  by_cases hb : (p5.size : Int) > 4200
  · rw [if_pos hb]
  · rw [if_neg hb, mpage_is _ (by omega) _ _ _ _ _ ht.1 ht.2, bs]
    cases hm : mayM tx sz root list pages with
    | false =>
      have : ¬ (metaS tx sz root list pages).2.2.2.2.2.2 = 0 := fun h => by rw [metaS_err.1 h] at hm; cases hm
      rw [if_neg this]
      exact hj
    | true =>
      have hs : metaS tx sz root list pages = (1, 0, tx % 2, 0, tx, padS (roomS sz) (metaL sz root list pages), 0) := by
        unfold metaS
        rw [if_pos hm]
      rw [hs]
      simp only [if_true]
      rw [mof_is _ (by omega) _ _ _ _ _ _ _ ht.1 ht.2, bs, mof_is _ (by omega) _ _ _ _ _ _ _ ht.1 ht.2, bs, ofM_back hm hr.1 hl.1, ofM_back hm hr.1 hl.1, if_pos rfl]
      simp only [if_true]
      rw [if_neg (by simp)]
      by_cases hz : sz = size
      · subst hz
        rw [if_pos rfl, if_neg (by simp), mslot_is tx ht.1 ht.2, bs, if_pos rfl]
        exact hj
      · have hz2 : ¬ size = sz := fun h => hz h.symm
        rw [if_neg hz, if_neg (by simp [hz2]), mslot_is tx ht.1 ht.2, bs, if_pos rfl]
        exact hj
end Go.Proofs.Ytlnmdfffmflhgaa.Pure
