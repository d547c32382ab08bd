/- Words of my own: leaves: what is written is read again. -/
import Derived.Test.YtlkfcabklaaacaaHm
set_option linter.unusedVariables false
namespace Go.Ev
open Go.RowKit
theorem ofLe_le (n : Nat) : ∀ k, ofLe (le n k) = n % 256 ^ k
  | 0 => by simp [le_zero, ofLe, Nat.mod_one]
  | k + 1 => by
    rw [le_succ, ofLe_append, ofLe_le n k, le_length]
    have e : ofLe [UInt8.ofNat (n / 2 ^ (8 * k))] = n / 256 ^ k % 256 := by
      rw [show (256 : Nat) ^ k = 2 ^ (8 * k) by rw [Nat.pow_mul]]
      simp [ofLe]
    rw [e, Nat.mod_pow_succ]
theorem takeV_app {a r : List UInt8} {k : Nat} (h : a.length = k) : takeV (a ++ r) k = a := by
  unfold takeV; rw [if_pos (by simp; omega), ← h, List.take_left]
theorem takeE_app {a r : List UInt8} {k : Nat} (h : a.length = k) : takeE (a ++ r) k = 0 := by
  unfold takeE; rw [if_pos (by simp; omega)]
theorem takeR_app {a r : List UInt8} {k : Nat} (h : a.length = k) : takeR (a ++ r) k = r := by
  unfold takeR; rw [if_pos (by simp; omega), ← h, List.drop_left]
theorem numV_app {n k : Nat} {r : List UInt8} (h : n < 256 ^ k) : numV (le n k ++ r) k = n := by
  unfold numV; rw [takeV_app (le_length n k), ofLe_le, Nat.mod_eq_of_lt h]
theorem u64_len {n : Int} (h : 0 ≤ n) (h2 : n ≤ 4096) : u64 n = n.toNat := by
  unfold u64; rw [IntWalk.u64_in _ ⟨h, by omega⟩]
theorem item_back {x : Item} (h : vmayB x = true) (r : List UInt8) : itemP (ibytes x ++ r) = (x, 0, r) := by
  have hk := (vmay_le h).1
  have hv := (vmay_le h).2
  obtain ⟨key, value, over, len, head⟩ := x
  simp only at hk hv
  unfold vmayB at h
  simp only [Bool.and_eq_true] at h
  have h := h.2
  cases over with
  | true =>
    simp only [if_true, Bool.and_eq_true, decide_eq_true_eq, numB] at h
    obtain ⟨⟨⟨rfl, l1⟩, l2⟩, n1, n2⟩ := h
    have e : ibytes ⟨key, [], true, len, head⟩ ++ r = le 1 1 ++ (le key.length 1 ++ (key ++ (le (u64 len) 4 ++ (le (u64 (head : Int)) 4 ++ r)))) := by
      simp [ibytes, vput, List.append_assoc]
    have a1 : numV (le 1 1 ++ (le key.length 1 ++ (key ++ (le (u64 len) 4 ++ (le (u64 (head : Int)) 4 ++ r))))) 1 = 1 := numV_app (by decide)
    have a2 : numV (le key.length 1 ++ (key ++ (le (u64 len) 4 ++ (le (u64 (head : Int)) 4 ++ r)))) 1 = key.length := numV_app (by omega)
    have u1 : u64 len = len.toNat := u64_len (by omega) l2
    have u2 : u64 (head : Int) = head := u64_of (by omega)
    have a3 : numV (le (u64 len) 4 ++ (le (u64 (head : Int)) 4 ++ r)) 4 = len.toNat := by rw [numV_app (by rw [u1]; omega), u1]
    have a4 : numV (le (u64 (head : Int)) 4 ++ r) 4 = head := by rw [numV_app (by rw [u2]; omega), u2]
    rw [e]
    unfold itemP
    simp only [takeR_app (le_length _ _), takeE_app (le_length _ _), a1, a2, takeR_app rfl, takeE_app rfl, takeV_app rfl, a3, a4]
    simp
    omega
  | false =>
    simp only [Bool.false_eq_true, if_false, Bool.and_eq_true, decide_eq_true_eq] at h
    obtain ⟨⟨l1, rfl⟩, rfl⟩ := h
    have e : ibytes ⟨key, value, false, 0, 0⟩ ++ r = le 0 1 ++ (le key.length 1 ++ (key ++ (le value.length 1 ++ (value ++ r)))) := by
      simp [ibytes, vput, List.append_assoc]
    have a1 : numV (le 0 1 ++ (le key.length 1 ++ (key ++ (le value.length 1 ++ (value ++ r))))) 1 = 0 := numV_app (by decide)
    have a2 : numV (le key.length 1 ++ (key ++ (le value.length 1 ++ (value ++ r)))) 1 = key.length := numV_app (by omega)
    have a3 : numV (le value.length 1 ++ (value ++ r)) 1 = value.length := numV_app (by omega)
    rw [e]
    unfold itemP
    simp only [takeR_app (le_length _ _), takeE_app (le_length _ _), a1, a2, takeR_app rfl, takeE_app rfl, takeV_app rfl, a3]
    simp
theorem each_back : ∀ (l : List Item) (r : List UInt8) (acc : List Item), (∀ x ∈ l, vmayB x = true) → eachR l.length (lbytes l ++ r) acc = (acc ++ l, 0, r)
  | [], r, acc, _ => by simp [eachR, lbytes]
  | x :: l, r, acc, h => by
    have e : lbytes (x :: l) ++ r = ibytes x ++ (lbytes l ++ r) := by simp [lbytes]
    have ib := item_back (h x List.mem_cons_self) (lbytes l ++ r)
    rw [List.length_cons, e]
    unfold eachR
    rw [ib]
    simp only [if_true]
    rw [each_back l r (acc ++ [x]) fun y hy => h y (List.mem_cons_of_mem _ hy)]
    simp
theorem lmay_all {l : List Item} (h : lmayB l = true) : ∀ x ∈ l, vmayB x = true := fun x hx => by
  obtain ⟨i, hi⟩ := List.mem_iff_getElem?.1 hx
  exact lmay_at h hi
theorem lmay_pos {l : List Item} (h : lmayB l = true) : 0 < l.length := by
  unfold lmayB at h
  simp only [Bool.and_eq_true, decide_eq_true_eq] at h
  exact h.2
theorem lsz_pos {l : List Item} (h : 0 < l.length) : 3 ≤ lsz l := by
  cases l with
  | nil => simp at h
  | cons x l => simp only [lsz, isz, vsz]; split <;> omega
theorem lpgOk_iff {s : Int} {n tx : Nat} {l : List Item} : lpgOk s n tx l = true ↔ lmayB l = true ∧ lsz l ≤ room s ∧ numB n = true ∧ tx ≤ 4611686018427387904 := by
  simp [lpgOk, Bool.and_eq_true, and_assoc]
theorem lpgOk_good {s : Int} {n tx : Nat} {l : List Item} (h : lpgOk s n tx l = true) : goodB s = true := by
  obtain ⟨h1, h2, _⟩ := lpgOk_iff.1 h
  cases hg : goodB s
  · rw [room_bad hg] at h2
    have := lsz_pos (lmay_pos h1)
    omega
  · rfl
theorem lpgE_ok {s : Int} {n tx : Nat} {l : List Item} : lpgE s n tx l = 0 ↔ lpgOk s n tx l = true := by
  unfold lpgE; split <;> simp_all
theorem room_add {s : Int} (h : goodB s = true) : ((room s + 24 : Nat) : Int) = s := by
  have := goodB_le h
  unfold room
  rw [if_pos h]
  omega
theorem lpg_body {s : Int} {n tx : Nat} {l : List Item} (h : lpgOk s n tx l = true) : (lpg s n tx l).body = lbytes l ++ List.replicate (room s - lsz l) 0 ∧ (lpg s n tx l).body.length = room s := by
  have hg := lpgOk_good h
  obtain ⟨h1, h2, _⟩ := lpgOk_iff.1 h
  rw [(lpg_ok h).1]
  have hb := (body_ok (s := s) (l := lbytes l) hg (by rw [lbytes_length]; exact h2)).1
  simp only [hb]
  exact ⟨by rw [padL, lbytes_length], padL_length (by rw [lbytes_length]; exact h2)⟩
theorem lpg_blen {s : Int} {n tx : Nat} {l : List Item} : (lpg s n tx l).body.length ≤ 4072 := by
  cases h : lpgOk s n tx l
  · rw [(lpg_bad h).1]; exact Nat.zero_le _
  · rw [(lpg_body h).2]; exact room_le s
/-- What is written is read again. -/
theorem of_lpg {s : Int} {n tx : Nat} {l : List Item} (h : lpgOk s n tx l = true) : ofP (lpg s n tx l) = (l, 0) := by
  obtain ⟨hb, hl⟩ := lpg_body h
  have hg := lpgOk_good h
  have hc : (lpg s n tx l).count = (l.length : Int) ∧ (lpg s n tx l).page = n ∧ (lpg s n tx l).tx = tx := by rw [(lpg_ok h).1]; exact ⟨rfl, rfl, rfl⟩
  have he : eachP (lpg s n tx l).count (lpg s n tx l).body = (l, 0, List.replicate (room s - lsz l) 0) := by
    rw [hc.1, hb]
    unfold eachP
    rw [Int.toNat_natCast, each_back l _ [] (lmay_all (lpgOk_iff.1 h).1), List.nil_append]
  unfold ofP
  rw [he, hl, room_add hg, hc.2.1, hc.2.2]
  rw [if_neg (by simp), if_neg]
  rintro (h1 | h1)
  · exact h1 (lpgE_ok.2 h)
  · exact h1 rfl
theorem of_bad {p : Pg} (h : ¬(ofP p).2 = 0) : (ofP p).1 = [] := by
  unfold ofP at h ⊢
  split
  · rfl
  · rename_i h1
    rw [if_neg h1] at h
    split
    · rfl
    · rename_i h2
      rw [if_neg h2] at h
      exact absurd rfl h
theorem of_ok {p : Pg} (h : (ofP p).2 = 0) : lpgE ((p.body.length + 24 : Nat) : Int) p.page p.tx (ofP p).1 = 0 ∧ lpg ((p.body.length + 24 : Nat) : Int) p.page p.tx (ofP p).1 = p := by
  unfold ofP at h ⊢
  split
  · rename_i h1
    rw [if_pos h1] at h; cases h
  · rename_i h1
    rw [if_neg h1] at h
    split
    · rename_i h2
      rw [if_pos h2] at h; cases h
    · rename_i h2
      exact ⟨Decidable.not_not.1 fun k => h2 (.inl k), Decidable.not_not.1 fun k => h2 (.inr k)⟩
theorem okAt_take {l : List Item} {i k : Nat} (hi : i < k) : okAt (l.take k) i = okAt l i := by
  unfold okAt
  rw [List.getElem?_take, if_pos hi, List.getElem?_take, if_pos (by omega)]
theorem lmay_take {l : List Item} {k : Nat} (h : lmayB l = true) (hk : 0 < k) : lmayB (l.take k) = true := by
  unfold lmayB at h ⊢
  simp only [Bool.and_eq_true, decide_eq_true_eq, List.length_take] at h ⊢
  exact ⟨fun i hi => by rw [okAt_take (by omega)]; exact h.1 i (by omega), by omega⟩
theorem lpgOk_take {s : Int} {n tx : Nat} {l : List Item} {k : Nat} (h : lpgOk s n tx l = true) (hk : 0 < k) : lpgOk s n tx (l.take k) = true := by
  obtain ⟨h1, h2, h3⟩ := lpgOk_iff.1 h
  exact lpgOk_iff.2 ⟨lmay_take h1 hk, Nat.le_trans (lsz_take_le l k) h2, h3⟩
theorem may_of {s : Int} {n tx : Nat} {l : List Item} (h : lpgE s n tx l = 0) : lmayB l = true := (lpgOk_iff.1 (lpgE_ok.1 h)).1
theorem fits_eq {s : Int} {l : List Item} (hg : goodB s = true) (h : lpgE 4096 2 0 l = 0) : (!(decide (((lpgE s 2 0 l : Nat) : Int) = 0) == decide (((lsz l : Nat) : Int) ≤ s - 24))) = false := by
  have hm := may_of h
  have hr := goodB_le hg
  by_cases hl : lsz l ≤ room s
  · have h1 : lpgE s 2 0 l = 0 := lpgE_ok.2 (lpgOk_iff.2 ⟨hm, hl, by decide, by decide⟩)
    rw [h1, decide_eq_true (show ((lsz l : Nat) : Int) ≤ s - 24 by omega)]
    rfl
  · have h1 : ¬lpgE s 2 0 l = 0 := fun h1 => hl (lpgOk_iff.1 (lpgE_ok.1 h1)).2.1
    rw [decide_eq_false (show ¬((lpgE s 2 0 l : Nat) : Int) = 0 by omega), decide_eq_false (show ¬((lsz l : Nat) : Int) ≤ s - 24 by omega)]
    rfl
theorem bad_fits {s : Int} {n tx : Nat} {l : List Item} (hg : goodB s = false) : lpgE s n tx l = 2 := by
  unfold lpgE
  rw [if_neg]
  intro h
  rw [lpgOk_good h] at hg; cases hg
def fit1 (k v : List UInt8) : Item := ⟨k, v, false, 0, 0⟩
theorem one_ok {x : Item} (h : vmayB x = true) (hl : isz x ≤ 488) : lpgOk 512 2 0 [x] = true := by
  refine lpgOk_iff.2 ⟨?_, ?_, by decide, by decide⟩
  · unfold lmayB
    simp only [Bool.and_eq_true, decide_eq_true_eq, List.length_singleton]
    refine ⟨fun i hi => ?_, by decide⟩
    obtain rfl : i = 0 := by omega
    simp [okAt, h]
  · show isz x + 0 ≤ room 512
    have : room 512 = 488 := by decide
    omega
theorem ok_plain {k v : List UInt8} (hk : k.length ≤ 40) (hv : v.length ≤ 255) : lpgOk 512 2 0 [⟨k, v, false, 0, 0⟩] = true := one_ok (by simp [vmayB, keyB, hk, hv]) (by simp [isz, vsz]; omega)
theorem ok_chain {k : List UInt8} {n : Int} {hd : Nat} (hk : k.length ≤ 40) (h1 : 1 ≤ n) (h2 : n ≤ 4096) (h3 : 2 ≤ hd) (h4 : hd ≤ 2147483647) : lpgOk 512 2 0 [⟨k, [], true, n, hd⟩] = true := one_ok (by simp [vmayB, keyB, numB, hk, h1, h2, h3, h4]) (by simp [isz, vsz]; omega)
theorem u32_add2 (n : Nat) (h : n < 1000) : IntKind.u32.wrap ((2 : Int) + ((n : Nat) : Int)) = ((2 + n : Nat) : Int) := by
  rw [IntWalk.u32_in _ ⟨by omega, by omega⟩]; omega
end Go.Ev
