/- How the checks of two strings of one length differ depends only on how the strings differ. No conditions. -/
import Derived.Test.YteackhccflojpaaPx19
import Derived.Test.YteackhccflojpaaQCrcL
import Derived.Test.YteackhccflojpaaQCrc
import Derived.Test.YteackhccflojpaaOCrcGo
import Derived.Test.YteackhccflojpaaOBytes
set_option linter.unusedVariables false
set_option linter.unusedSimpArgs false
namespace Go.Proofs.Yteackhccflojpaa.Pure
open Go.RowKit Go.Proofs.Yteackhccflojpaa.P Go.Proofs.YteackhccflojpaaW.PrintWords Go.Proofs.YteackhccflojpaaW.PrintLast Go.Proofs.YteackhccflojpaaW.PrintMore Go.Proofs.YteackhccflojpaaO Go.Proofs.Yteackhccflojpaa.Q

/-- The first m of n cells are told by f, the rest are zero. -/
def cellsOf (f : Nat → Nat) (n m : Nat) : List Int := (List.range n).map (fun j => if j < m then ((f j : Nat) : Int) else 0)
theorem cells_length (f : Nat → Nat) (n m : Nat) : (cellsOf f n m).length = n := by simp [cellsOf]
theorem cells_zero (f : Nat → Nat) (n : Nat) : cellsOf f n 0 = List.replicate n 0 := by
  apply List.ext_getElem?
  intro j
  by_cases h : j < n <;> simp [cellsOf, h, List.getElem?_replicate]
theorem cells_set (f : Nat → Nat) (n m : Nat) (h : m < n) : (cellsOf f n m).set m ((f m : Nat) : Int) = cellsOf f n (m + 1) := by
  apply List.ext_getElem?
  intro j
  rw [List.getElem?_set]
  by_cases hj : j < n
  · by_cases e : m = j
    · subst e
      simp [cellsOf, h]
    · have : (j < m) ↔ (j < m + 1) := by omega
      simp [cellsOf, e, hj, this]
  · simp [cellsOf, hj, show ¬ m = j by omega]
theorem cells_full (f : Nat → Nat) (n : Nat) : (cellsOf f n n).map Int.toNat = (List.range n).map f := by
  simp only [cellsOf, List.map_map]
  apply List.map_congr_left
  intro j hj
  simp [List.mem_range.1 hj]
theorem cells_rd (f : Nat → Nat) (n m : Nat) (h : m < n) : rd (cellsOf f n (m + 1)) (m : Int) = ((f m : Nat) : Int) := by
  rw [rd_nat]
  simp [cellsOf, h]
theorem cells_isB (f : Nat → Nat) (n m : Nat) (h : ∀ j, j < n → f j < 256) : isB (cellsOf f n m) := by
  intro x hx
  simp only [cellsOf, List.mem_map, List.mem_range] at hx
  obtain ⟨j, hj, rfl⟩ := hx
  split
  · have := h j hj
    omega
  · omega
theorem lev_cons_xor (b l : Nat) (h : b < 256) : b + l * 256 = l * 2 ^ 8 ^^^ b := by rw [join_xor 8 _ _ h]; omega
theorem lev_xor : ∀ (l m : List Nat), l.length = m.length → (∀ b ∈ l, b < 256) → (∀ b ∈ m, b < 256) → lev (List.zipWith (· ^^^ ·) l m) = lev l ^^^ lev m
  | [], [], _, _, _ => by simp [lev]
  | [], b :: m, h, _, _ => by simp at h
  | a :: l, [], h, _, _ => by simp at h
  | a :: l, b :: m, h, hl, hm => by
    have ih := lev_xor l m (by simpa using h) (fun x hx => hl x (List.mem_cons_of_mem _ hx)) (fun x hx => hm x (List.mem_cons_of_mem _ hx))
    have ha := hl a (List.mem_cons_self ..)
    have hb := hm b (List.mem_cons_self ..)
    simp only [List.zipWith_cons_cons, lev]
    rw [lev_cons_xor _ _ (Nat.xor_lt_two_pow (n := 8) ha hb), lev_cons_xor a _ ha, lev_cons_xor b _ hb, ih]
    have hmul : (lev l ^^^ lev m) * 2 ^ 8 = lev l * 2 ^ 8 ^^^ lev m * 2 ^ 8 := by
      simp only [← Nat.shiftLeft_eq]
      exact Nat.shiftLeft_xor_distrib
    rw [hmul]
    ac_rfl
theorem lev_zero (n : Nat) : lev (List.replicate n 0) = 0 := by
  induction n with
  | zero => rfl
  | succ n ih => simp [List.replicate_succ, lev, ih]
theorem linear (A B : List Nat) (n : Nat) (ha : A.length = n) (hb : B.length = n) (hA : ∀ b ∈ A, b < 256) (hB : ∀ b ∈ B, b < 256) (X : List Nat) (hx : X.length = n) (hX : ∀ b ∈ X, b < 256) (h : lev X = lev A ^^^ lev B) :
    crcN 0 A ^^^ crcN 0 B = crcN 0 X ^^^ crcN 0 (List.replicate n 0) := by
  rw [crcN_xor A B (by omega) hA hB, crcN_xor X (List.replicate n 0) (by simp [hx]) hX (fun b hb => by simp at hb; omega), h, lev_zero, Nat.xor_zero, ha, hx]
theorem loop (a b c : ByteArray) (z : ByteArray) (n : Nat) (hn : n ≤ 600) (ha : n ≤ a.size) (hb : n ≤ b.size) (hc : n ≤ c.size) (f g : Nat → Nat)
    (hf : ∀ j, j < n → Go.bits .xor .u8 (bt a j) (bt b j) = ((f j : Nat) : Int)) (hg : ∀ j, j < n → Go.bits .xor .u8 (bt c j) ((f j : Nat) : Int) = ((g j : Nat) : Int)) :
    ∀ d m k, m + d = n → careenagelaw02_CrcLinear.l0 (k + 1 + d) a b c n (cellsOf f n m) z (cellsOf g n m) m = careenagelaw02_CrcLinear.l0 (k + 1) a b c n (cellsOf f n n) z (cellsOf g n n) n
  | 0, m, k, h => by
    obtain rfl : m = n := by omega
    rfl
  | d + 1, m, k, h => by
    have hm : m < n := by omega
    rw [show k + 1 + (d + 1) = (k + 1 + d) + 1 by omega, careenagelaw02_CrcLinear.l0, if_pos (by omega), if_pos (by omega), if_pos (by omega), if_pos (by omega), if_pos (by rw [cells_length]; omega), Int.toNat_natCast, hf m hm, cells_set f n m hm, bs, if_pos (by omega), if_pos (by rw [cells_length]; omega), cells_rd f n m hm, hg m hm, cells_set g n m hm,
      show wrap64 ((m : Int) + 1) = ((m + 1 : Nat) : Int) from by unfold wrap64; omega]
    exact loop a b c z n hn ha hb hc f g hf hg d (m + 1) k (by omega)
def gt (s : ByteArray) (j : Nat) : Nat := (nb s).getD j 0
theorem gt_lt (s : ByteArray) (j : Nat) : gt s j < 256 := by
  unfold gt
  rw [List.getD_eq_getElem?_getD]
  cases h : (nb s)[j]? with
  | none => decide
  | some b => exact nb_lt s b (List.mem_of_getElem? h)
theorem bt_gt (s : ByteArray) (j : Nat) (h : j < s.size) : bt s (j : Int) = ((gt s j : Nat) : Int) := by
  rw [bt_nb s j h]
  simp [gt, List.getD_eq_getElem?_getD, List.getElem?_eq_getElem (show j < (nb s).length by rw [nb_length]; exact h)]
theorem take_gt (s : ByteArray) (n : Nat) (h : n ≤ s.size) : (nb s).take n = (List.range n).map (gt s) := by
  apply List.ext_getElem?
  intro j
  by_cases hj : j < n
  · rw [List.getElem?_take_of_lt hj, List.getElem?_map, List.getElem?_range hj, List.getElem?_eq_getElem (show j < (nb s).length by rw [nb_length]; omega)]
    simp [gt, List.getD_eq_getElem?_getD, List.getElem?_eq_getElem (show j < (nb s).length by rw [nb_length]; omega)]
  · rw [List.getElem?_eq_none (by simp; omega), List.getElem?_eq_none (by simp; omega)]
theorem zip_range (f g : Nat → Nat) (n : Nat) : List.zipWith (· ^^^ ·) ((List.range n).map f) ((List.range n).map g) = (List.range n).map (fun j => f j ^^^ g j) := by
  rw [List.zipWith_map, List.zipWith_self]
theorem nb_take (s : ByteArray) (n : Nat) : nb (s.extract 0 n) = (nb s).take n := by
  simp only [nb_data, Lib.extract_data, Nat.sub_zero, List.drop_zero, List.extract_eq_take_drop, List.map_take]
theorem nb_str {l : List Int} (h : isB l) : nb (strOfNums l) = l.map Int.toNat := by
  rw [nb_B]
  exact congrArg (List.map Int.toNat) (B_str h)
theorem crc_of {s : ByteArray} {l : List Nat} (h : nb s = l) : crcI 0 s = ((crcN 0 l : Nat) : Int) := by
  rw [← h]
  unfold crcI
  exact congrArg (fun n : Nat => ((crcN n (nb s) : Nat) : Int)) (show (0 : Int).toNat = 0 from rfl)
theorem crc_bits {l m : List Nat} (hl : ∀ b ∈ l, b < 256) (hm : ∀ b ∈ m, b < 256) : Go.bits .xor .u32 ((crcN 0 l : Nat) : Int) ((crcN 0 m : Nat) : Int) = ((crcN 0 l ^^^ crcN 0 m : Nat) : Int) :=
  u32_xor_nat _ _ (crcN_lt (by decide) hl) (crcN_lt (by decide) hm)
theorem range_lt (f : Nat → Nat) (n : Nat) (h : ∀ j, f j < 256) : ∀ b ∈ (List.range n).map f, b < 256 := by
  intro b hb
  simp only [List.mem_map] at hb
  obtain ⟨j, _, rfl⟩ := hb
  exact h j
theorem CrcLinear : careenagelaw02_CrcLinear.Pure := by
  intro a b c ha hb hc
  obtain ⟨n, hn⟩ : ∃ n : Nat, mn (mn (a.size : Int) (b.size : Int)) (c.size : Int) = (n : Int) := ⟨min (min a.size b.size) c.size, by unfold mn; split <;> split <;> omega⟩
  have h1 : n ≤ a.size ∧ n ≤ b.size ∧ n ≤ c.size := by
    unfold mn at hn
    split at hn <;> split at hn <;> omega
  refine ⟨1 + n, ?_⟩
  unfold careenagelaw02_CrcLinear.f
  rw [crc_lives, hn]
  simp only [bs, if_true]
  by_cases h6 : (n : Int) > 600
  · rw [if_pos h6]
  · obtain ⟨ha2, hb2, hc2⟩ := h1
    have hn6 : n ≤ 600 := by omega
    rw [if_neg h6, if_pos (by omega), Int.toNat_natCast, if_pos (by omega)]
    have hf : ∀ j, j < n → Go.bits .xor .u8 (bt a j) (bt b j) = ((gt a j ^^^ gt b j : Nat) : Int) := fun j hj => by
      rw [bt_gt a j (by omega), bt_gt b j (by omega), u8_xor_nat _ _ (gt_lt a j) (gt_lt b j)]
    have hfl : ∀ j, gt a j ^^^ gt b j < 256 := fun j => Nat.xor_lt_two_pow (n := 8) (gt_lt a j) (gt_lt b j)
    have hg : ∀ j, j < n → Go.bits .xor .u8 (bt c j) ((gt a j ^^^ gt b j : Nat) : Int) = ((gt c j ^^^ (gt a j ^^^ gt b j) : Nat) : Int) := fun j hj => by
      rw [bt_gt c j (by omega), u8_xor_nat _ _ (gt_lt c j) (hfl j)]
    have hgl : ∀ j, gt c j ^^^ (gt a j ^^^ gt b j) < 256 := fun j => Nat.xor_lt_two_pow (n := 8) (gt_lt c j) (hfl j)
    have hl := loop a b c (strOfNums (List.replicate n 0)) n hn6 ha2 hb2 hc2 (fun j => gt a j ^^^ gt b j) (fun j => gt c j ^^^ (gt a j ^^^ gt b j)) hf hg n 0 0 (by omega)
    rw [cells_zero, cells_zero] at hl
    rw [show (0 : Int) = ((0 : Nat) : Int) from rfl, show 1 + n = 0 + 1 + n by omega]
    refine Eq.trans hl ?_
    have hz : isB (List.replicate n (0 : Int)) := fun x hx => by
      rw [List.mem_replicate] at hx
      omega
    have n1 := crc_of ((nb_take a n).trans (take_gt a n ha2))
    have n2 := crc_of ((nb_take b n).trans (take_gt b n hb2))
    have n3 := crc_of ((nb_take c n).trans (take_gt c n hc2))
    have n4 := crc_of ((nb_str (cells_isB _ n n (fun j _ => hfl j))).trans (cells_full _ n))
    have n5 := crc_of ((nb_str (cells_isB _ n n (fun j _ => hgl j))).trans (cells_full _ n))
    have n6 := crc_of ((nb_str hz).trans (show (List.replicate n (0 : Int)).map Int.toNat = List.replicate n 0 by simp))
    have hzl : ∀ b ∈ List.replicate n (0 : Nat), b < 256 := fun b hb => by
      rw [List.mem_replicate] at hb
      omega
    have hA := range_lt (gt a) n (gt_lt a)
    have hB := range_lt (gt b) n (gt_lt b)
    have hC := range_lt (gt c) n (gt_lt c)
    have hX := range_lt _ n hfl
    have hY := range_lt _ n hgl
    have x1 : lev ((List.range n).map (fun j => gt a j ^^^ gt b j)) = lev ((List.range n).map (gt a)) ^^^ lev ((List.range n).map (gt b)) := by
      rw [← lev_xor _ _ (by simp) hA hB, zip_range]
    have x2 : lev ((List.range n).map (fun j => gt c j ^^^ (gt a j ^^^ gt b j))) = lev ((List.range n).map (gt c)) ^^^ lev ((List.range n).map (fun j => gt a j ^^^ gt b j)) := by
      rw [← lev_xor _ _ (by simp) hC hX, zip_range]
    have e1 := linear _ _ n (by simp) (by simp) hA hB _ (by simp) hX x1
    have e2 := linear _ _ n (by simp) (by simp) hC hY _ (by simp) hX (show lev ((List.range n).map (fun j => gt a j ^^^ gt b j)) = _ by rw [x2, xor_cancel])
    have s1 : ∀ s : ByteArray, n ≤ s.size → (s.extract 0 n).size < 4611686018427387904 := fun s hs => by
      rw [ByteArray.size_extract]
      omega
    have s2 : ∀ l : List Int, l.length = n → (strOfNums l).size < 4611686018427387904 := fun l hl => by
      rw [size_str]
      omega
    rw [careenagelaw02_CrcLinear.l0, if_neg (by omega), if_pos (by omega), if_pos (by omega), Int.toNat_natCast, of_is _ (s1 a ha2), bs, if_pos (by omega), of_is _ (s1 b hb2), bs, of_is _ (s2 _ (cells_length _ _ _)), bs, of_is _ (s2 _ (by simp)), bs, n1, n2, n4, n6, crc_bits hA hB, crc_bits hX hzl, if_pos (by rw [e1]), if_pos (by omega), of_is _ (s1 c hc2), bs, of_is _ (s2 _ (cells_length _ _ _)), bs, bs, bs, n3, n5, crc_bits hC hY, e2, crc_bits hX hzl]
    simp

end Go.Proofs.Yteackhccflojpaa.Pure
