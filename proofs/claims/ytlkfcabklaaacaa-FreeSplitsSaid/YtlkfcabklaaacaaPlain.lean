/- Words of my own, printed by a program of mine. -/
import Derived.Test.YtlkfcabklaaacaaDfns
import Derived.Test.YtlkfcabklaaacaaHn
section
set_option linter.unusedVariables false
set_option linter.unusedSimpArgs false
namespace Go.Ev
open Go.RowKit
theorem w64_id {n : Int} (h1 : -4611686018427387904 ≤ n) (h2 : n ≤ 4611686018427387904) : w64 n = n := w64_of (by omega) (by omega)
theorem ble_of {a b : Nat} (h : a ≤ b) : Nat.ble a b = true := Nat.ble_eq_true_of_le h
theorem bsome {α β : Type} (a : α) (f : α → Option β) : Option.bind (some a) f = f a := rfl
theorem getE {α : Type} {l : List α} {i : Nat} (h : i < l.length) : l[i]? = some l[i] := List.getElem?_eq_getElem h
theorem device_Good_is (n : Nat) (s : Int) : device_Good n s = some (goodB s) := by
  unfold device_Good device_Good_F goodB device_Good_rt
  by_cases h1 : 128 ≤ s <;> by_cases h2 : s ≤ 4096 <;> simp [h1, h2]
theorem frame_Room_is (n : Nat) (s : Int) : frame_Room n s = some (room s : Int) := by
  unfold frame_Room frame_Room_F frame_Room_rt
  rw [device_Good_is, bsome]
  cases h : goodB s
  · rw [room_bad h]; rfl
  · obtain ⟨g1, g2, g3⟩ := goodB_le h
    have g4 : ((room s : Nat) : Int) = s - 24 := by omega
    rw [g4]
    simp only [Bool.not_true, cond_false]
    rw [w64_id (by omega) (by omega)]
theorem octet_Put_loop (n : Nat) (b l : List UInt8) (a k : Nat) (hk : k ≤ 8) (hl : l.length ≤ 90000000) : ∀ (m i : Nat), k < m + i → i ≤ k → octet_Put_L6 n b m a (k : Int) (i : Int) (l ++ le a i) = some (l ++ le a k) := by
  intro m
  induction m with
  | zero => intro i h1 h2; omega
  | succ m ih =>
    intro i h1 h2
    unfold octet_Put_L6 octet_Put_L6F octet_Put_rt
    by_cases hi : i < k
    · have e1 : ((i : Int) < (k : Int)) := by omega
      rw [w64_id (n := 8 * (i : Int)) (by omega) (by omega)]
      have e2 : Int.toNat (8 * (i : Int)) = 8 * i := by omega
      rw [e2]
      have e3 : (0 : Int) ≤ 8 * (i : Int) := by omega
      have e4 : Nat.ble (8 * i) 64 = true := ble_of (by omega)
      have e5 : Nat.ble ((l ++ le a i).length + [UInt8.ofNat (a / 2 ^ (8 * i))].length) 100000000 = true := ble_of (by simp [le_length]; omega)
      simp only [e1, e3, e4, e5, decide_true, cond_true, Bool.and_self]
      rw [w64_id (by omega) (by omega), List.append_assoc, ← le_succ]
      exact ih (i + 1) (by omega) (by omega)
    · have e1 : ¬((i : Int) < (k : Int)) := by omega
      simp only [e1, decide_false, cond_false]
      rw [show i = k by omega]
theorem octet_Put_is {n : Nat} {l : List UInt8} {a k : Nat} (hn : 9 ≤ n) (hk : 1 ≤ k) (hk8 : k ≤ 8) (hl : l.length ≤ 90000000) : octet_Put n l a (k : Int) = some (l ++ le a k) := by
  unfold octet_Put octet_Put_F octet_Put_rt
  rw [w64_id (by omega) (by omega)]
  have e1 : (0 : Int) ≤ (l.length : Int) + 8 := by omega
  have e2 : Nat.ble (0) (Int.toNat ((l.length : Int) + 8)) = true := ble_of (by omega)
  have e3 : Nat.ble (Int.toNat ((l.length : Int) + 8)) 100000000 = true := ble_of (by omega)
  have e4 : Nat.ble ((List.replicate (0) (UInt8.ofNat (0))).length + l.length) 100000000 = true := ble_of (by simp; omega)
  have e5 : ¬((k : Int) < 1) := by omega
  have e6 : ¬((8 : Int) < (k : Int)) := by omega
  simp only [e1, e2, e3, e4, e5, e6, decide_true, decide_false, cond_true, cond_false, Bool.and_self, Int.le_refl]
  have := octet_Put_loop n l l a k hk8 hl n 0 (by omega) (by omega)
  simpa [octet_Put_J5, octet_Put_J5F, le] using this
theorem frame_Body_is {n : Nat} {b : List UInt8} {s : Int} (hb : b.length ≤ 80000000) : frame_Body n b s = some (bodyS s b, (bodyE s b : Int)) := by
  unfold frame_Body frame_Body_F frame_Body_rt
  rw [device_Good_is, frame_Room_is, bsome]
  cases h : goodB s
  · obtain ⟨h1, h2⟩ := body_bad (l := b) h
    rw [h1, h2]; rfl
  · have hr := room_le s
    have hr2 : 1 ≤ room s := by have := goodB_le h; omega
    simp only [Bool.not_true, cond_false, bsome, Int.toNat_natCast, Int.natCast_nonneg, decide_true, Bool.and_self, List.length_replicate, Bool.true_and]
    by_cases h2 : room s < b.length
    · obtain ⟨h3, h4⟩ := body_long h h2
      have : ((room s : Int) < (b.length : Int)) := by omega
      rw [h3, h4]; simp only [this, decide_true, cond_true]; rfl
    · have h5 : b.length ≤ room s := by omega
      obtain ⟨h3, h4⟩ := body_ok h h5
      have : ¬((room s : Int) < (b.length : Int)) := by omega
      have e1 : Nat.ble (room s) (room s) = true := ble_of (Nat.le_refl _)
      have e2 : Nat.ble (room s) 100000000 = true := ble_of (by omega)
      have e3 : Nat.ble 1 (room s) = true := ble_of hr2
      rw [h3, h4]
      simp only [this, decide_false, cond_false, e1, e2, e3, cond_true, Bool.and_self]
      have e4 : Nat.min b.length (room s) = b.length := Nat.min_eq_left h5
      rw [e4, List.take_length]
      simp [padL]
theorem take_is (n : Nat) (l : List UInt8) (k : Nat) : octet_Reader_take n l (k : Int) = some (takeV l k, (takeE l k : Int), takeR l k) := by
  unfold octet_Reader_take octet_Reader_take_F octet_Reader_take_rt takeV takeE takeR
  by_cases h : k ≤ l.length
  · have e1 : ¬((l.length : Int) < (k : Int)) := by omega
    simp [e1, h]
  · have e1 : ((l.length : Int) < (k : Int)) := by omega
    simp [e1, h]
theorem Number_loop (n : Nat) (v r : List UInt8) (e : Int) (hv : v.length ≤ 8) : ∀ (m i : Nat), v.length < m + i → i ≤ v.length → octet_Reader_Number_L8 n m (ofLe (v.take i)) e v (v.length : Int) (i : Int) r = some (ofLe v, e, r) := by
  intro m
  induction m with
  | zero => intro i h1 h2; omega
  | succ m ih =>
    intro i h1 h2
    unfold octet_Reader_Number_L8 octet_Reader_Number_L8F octet_Reader_Number_rt
    by_cases hi : i < v.length
    · have hx := getE hi
      have e1 : ((i : Int) < (v.length : Int)) := by omega
      simp only [e1, decide_true, cond_true, Int.natCast_nonneg, Int.toNat_natCast, hx, bsome]
      rw [w64_id (n := 8 * (i : Int)) (by omega) (by omega)]
      have e2 : Int.toNat (8 * (i : Int)) = 8 * i := by omega
      have e3 : (0 : Int) ≤ 8 * (i : Int) := by omega
      have e4 : Nat.ble (8 * i) 64 = true := ble_of (by omega)
      rw [e2, w64_id (by omega) (by omega)]
      simp only [e3, e4, decide_true, cond_true, Bool.and_self]
      have h5 := ofLe_or hx (by omega)
      have h6 : (ofLe (v.take i) % 18446744073709551616 ||| v[i].toNat * 2 ^ (8 * i) % 18446744073709551616 % 18446744073709551616) % 18446744073709551616 = ofLe (v.take (i + 1)) := by
        have h7 := congrArg Int.toNat h5
        rw [Int.toNat_natCast] at h7
        rw [← h7, Nat.mod_mod]
        show _ = Int.toNat (IntKind.u64.wrap _)
        rw [u64_cast]
        rw [Int.toNat_natCast]
        have h8 : ∀ q : Nat, u64 (q : Int) = q % 18446744073709551616 := fun q => by
          unfold u64
          simp [IntKind.wrap, IntKind.signed, IntKind.bits]
          omega
        rw [h8]; rfl
      rw [h6]
      exact ih (i + 1) (by omega) (by omega)
    · have e1 : ¬((i : Int) < (v.length : Int)) := by omega
      simp only [e1, decide_false, cond_false]
      rw [List.take_of_length_le (by omega)]
theorem Number_is {n : Nat} {l : List UInt8} {k : Nat} (hn : 9 ≤ n) (h1 : 1 ≤ k) (h8 : k ≤ 8) : octet_Reader_Number n l (k : Int) = some (numV l k, (takeE l k : Int), takeR l k) := by
  unfold octet_Reader_Number octet_Reader_Number_F octet_Reader_Number_rt
  have e1 : ¬((k : Int) < 1) := by omega
  have e2 : ¬((8 : Int) < (k : Int)) := by omega
  simp only [e1, e2, decide_false, cond_false, octet_Reader_Number_J6, octet_Reader_Number_J6F]
  rw [take_is, bsome]
  have hv := takeV_length (l := l) (k := k)
  exact Number_loop n (takeV l k) (takeR l k) (takeE l k : Int) (by omega) n 0 (by omega) (by omega)
end Go.Ev
end
section
set_option linter.unusedVariables false
set_option linter.unusedSimpArgs false
namespace Go.Ev
open Go.RowKit
def fbytes (l : List Nat) : List UInt8 := l.flatMap fun x => le x 4
theorem fbytes_app (a b : List Nat) : fbytes (a ++ b) = fbytes a ++ fbytes b := by simp [fbytes]
theorem fbytes_length (l : List Nat) : (fbytes l).length = 4 * l.length := by
  induction l with
  | nil => rfl
  | cons x l ih => show (le x 4 ++ fbytes l).length = _; rw [List.length_append, le_length, ih, List.length_cons]; omega
theorem free_Rises_1_is (n a b : Nat) : free_Rises_1 n a b = some (if b < a then 1 else -1) := by
  unfold free_Rises_1 free_Rises_1_F free_Rises_1_rt
  by_cases h : b < a <;> simp [h]
/-- Numbers that rise. -/
abbrev Rise (l : List Nat) : Prop := l.Pairwise (· < ·)
theorem rise_bad {l : List Nat} {i : Nat} (hi : i + 1 < l.length) (h : ¬l[i] < l[i + 1]) : ¬Rise l := fun hr => h (List.pairwise_iff_getElem.1 hr i (i + 1) (by omega) hi (by omega))
theorem rise_step {l : List Nat} {i : Nat} (hi : i + 1 < l.length) (h : l[i] < l[i + 1]) (hr : Rise (l.drop (i + 1))) : Rise (l.drop i) := by
  have e : l.drop i = l[i] :: l.drop (i + 1) := List.drop_eq_getElem_cons (by omega)
  have e2 : l.drop (i + 1) = l[i + 1] :: l.drop (i + 1 + 1) := List.drop_eq_getElem_cons hi
  rw [e]
  refine List.pairwise_cons.2 ⟨fun x hx => ?_, hr⟩
  rw [e2] at hx hr
  rcases List.mem_cons.1 hx with rfl | hx
  · exact h
  · exact Nat.lt_trans h ((List.pairwise_cons.1 hr).1 x hx)
theorem sorted_loop (n : Nat) (l : List Nat) (hl : l.length ≤ 1000000000) : ∀ (m i : Nat), i < m → i < l.length → Rise (l.drop i) → slices_IsSortedFunc_uint32_uint32_L3 n l m (i : Int) = some (decide (Rise l)) := by
  intro m
  induction m with
  | zero => intro i h; omega
  | succ m ih =>
    intro i h1 h2 hr
    unfold slices_IsSortedFunc_uint32_uint32_L3 slices_IsSortedFunc_uint32_uint32_L3F slices_IsSortedFunc_uint32_uint32_rt
    cases i with
    | zero =>
      rw [List.drop_zero] at hr
      simp [hr]
    | succ i =>
      have e1 : (0 : Int) < ((i + 1 : Nat) : Int) := by omega
      have e3 : (((i + 1 : Nat) : Int) - 1) = (i : Int) := by omega
      rw [e3, w64_id (n := (i : Int)) (by omega) (by omega)]
      have hx := getE h2
      have hy := getE (l := l) (i := i) (by omega)
      have e4 : i < l.length := by omega
      simp only [e1, h2, e4, decide_true, cond_true, Int.natCast_nonneg, Int.toNat_natCast, Bool.and_self, hx, hy, bsome]
      rw [free_Rises_1_is, bsome]
      by_cases h : l[i] < l[i + 1]
      · simp only [h, if_true]
        have := ih i (by omega) (by omega) (rise_step h2 h hr)
        simpa using this
      · simp only [h, if_false]
        have := rise_bad h2 h
        simp [this]
theorem sorted_is {n : Nat} {l : List Nat} (hl : l.length < n) (hn : n ≤ 1000000000) : slices_IsSortedFunc_uint32_uint32 n l = some (decide (Rise l)) := by
  unfold slices_IsSortedFunc_uint32_uint32 slices_IsSortedFunc_uint32_uint32_F
  cases h : l.length with
  | zero =>
    have : l = [] := List.length_eq_zero_iff.1 h
    subst this
    cases n with
    | zero => omega
    | succ n =>
      rw [w64_id (by omega) (by omega)]
      simp [slices_IsSortedFunc_uint32_uint32_L3, slices_IsSortedFunc_uint32_uint32_L3F]
  | succ k =>
    rw [show (((k + 1 : Nat) : Int) - 1) = (k : Int) by omega, w64_id (by omega) (by omega)]
    refine sorted_loop n l (by omega) n k (by omega) (by omega) ?_
    have e : l.drop k = [l[k]] := by
      rw [List.drop_eq_getElem_cons (by omega), List.drop_of_length_le (by omega)]
    rw [e]
    exact List.pairwise_singleton _ _
theorem free_Rises_is {n : Nat} {l : List Nat} (hl : l.length < n) (hn : n ≤ 1000000000) : free_Rises n l = some (decide (Rise l)) := by
  unfold free_Rises free_Rises_F free_Rises_rt
  rw [sorted_is hl hn]; rfl
theorem free_number_is (n a : Nat) : free_number n a = some (numB a) := by
  unfold free_number free_number_F numB free_number_rt
  by_cases h1 : 2 ≤ a
  · simp [h1]
  · simp [h1]
theorem free_Page_1_is (n a : Nat) : free_Page_1 n a = some (!numB a) := by
  unfold free_Page_1 free_Page_1_F free_Page_1_rt
  rw [free_number_is]; rfl
theorem index_loop (n : Nat) (l : List Nat) (hl : l.length ≤ 1000000000) (ha : ∀ x ∈ l, numB x = true) : ∀ (m i : Nat), l.length < m + i → i ≤ l.length → slices_IndexFunc_uint32_uint32_L3 n l m (l.length : Int) (i : Int) = some (-1) := by
  intro m
  induction m with
  | zero => intro i h1 h2; omega
  | succ m ih =>
    intro i h1 h2
    unfold slices_IndexFunc_uint32_uint32_L3 slices_IndexFunc_uint32_uint32_L3F slices_IndexFunc_uint32_uint32_rt
    by_cases hi : i < l.length
    · have hx := getE hi
      have e1 : ((i : Int) < (l.length : Int)) := by omega
      simp only [e1, hi, decide_true, cond_true, Int.natCast_nonneg, Int.toNat_natCast, Bool.and_self, hx, bsome]
      rw [free_Page_1_is, bsome, ha _ (List.getElem_mem hi)]
      simp only [Bool.not_true, cond_false]
      rw [w64_id (by omega) (by omega)]
      exact ih (i + 1) (by omega) (by omega)
    · have e1 : ¬((i : Int) < (l.length : Int)) := by omega
      simp only [e1, decide_false, cond_false]
theorem contains_is {n : Nat} {l : List Nat} (hl : l.length < n) (hn : n ≤ 1000000000) (ha : ∀ x ∈ l, numB x = true) : slices_ContainsFunc_uint32_uint32 n l = some false := by
  unfold slices_ContainsFunc_uint32_uint32 slices_ContainsFunc_uint32_uint32_F slices_ContainsFunc_uint32_uint32_rt
  have : slices_IndexFunc_uint32_uint32 n l = some (-1) := index_loop n l (by omega) ha n 0 (by omega) (by omega)
  rw [this]; rfl
theorem free_Most_is (n : Nat) (s : Int) : free_Most n s = some ((room s / 4 : Nat) : Int) := by
  unfold free_Most free_Most_F free_Most_rt
  rw [frame_Room_is, bsome]
  have h := room_le s
  have e : Int.tdiv (room s : Int) 4 = ((room s / 4 : Nat) : Int) := by
    rw [Int.tdiv_eq_ediv_of_nonneg (by omega)]; omega
  rw [e, w64_id (by omega) (by omega)]
/-- A free page. -/
def fpg (s : Int) (a nx tx : Nat) (l : List Nat) : Pg := ⟨6, (l.length : Int), a, nx, tx, bodyS s (fbytes l)⟩
theorem free_Page_loop {n : Nat} {l : List Nat} {s : Int} {a nx tx : Nat} {p : Pg} (hn : 9 ≤ n) (hl : l.length ≤ 10000000) (ha : ∀ x ∈ l, numB x = true) : ∀ (m i : Nat), l.length < m + i → i ≤ l.length → free_Page_L7 n l m s a nx tx (l.length : Int) (i : Int) (fbytes (l.take i)) p = some (fpg s a nx tx l, 0) := by
  intro m
  induction m with
  | zero => intro i h1 h2; omega
  | succ m ih =>
    intro i h1 h2
    unfold free_Page_L7 free_Page_L7F free_Page_rt
    by_cases hi : i < l.length
    · have hx := getE hi
      have e1 : ((i : Int) < (l.length : Int)) := by omega
      simp only [e1, hi, decide_true, cond_true, Int.natCast_nonneg, Int.toNat_natCast, Bool.and_self, hx, bsome]
      have hv := ha _ (List.getElem_mem hi)
      simp only [numB, Bool.and_eq_true, decide_eq_true_eq] at hv
      have g1 : octet_Put n (fbytes (l.take i)) (l[i] % 18446744073709551616) 4 = some (fbytes (l.take i) ++ le (l[i] % 18446744073709551616) 4) := octet_Put_is (k := 4) hn (by omega) (by omega) (by rw [fbytes_length, List.length_take]; omega)
      rw [g1, bsome, Nat.mod_eq_of_lt (by omega), w64_id (by omega) (by omega)]
      have g5 : fbytes (l.take i) ++ le l[i] 4 = fbytes (l.take (i + 1)) := by
        rw [take_succ_at hx, fbytes_app]; simp [fbytes]
      rw [g5]
      exact ih (i + 1) (by omega) (by omega)
    · have e1 : ¬((i : Int) < (l.length : Int)) := by omega
      simp only [e1, decide_false, cond_false]
      rw [List.take_of_length_le (by omega), frame_Body_is (by rw [fbytes_length]; omega), bsome]
      rfl
theorem free_Page_fit {n : Nat} {l : List Nat} {s : Int} {a nx tx : Nat} (hn : 9 ≤ n) (hl : l.length < n) (hn2 : n ≤ 10000000) (h0 : 1 ≤ room s / 4) (hm : l.length ≤ room s / 4) (hr : Rise l) (ha : ∀ x ∈ l, numB x = true) (h1 : numB a = true) (h2 : nx = 0 ∨ numB nx = true) (h3 : tx ≤ 4611686018427387904) : free_Page n l s a nx tx = some (fpg s a nx tx l, 0) := by
  unfold free_Page free_Page_F free_Page_rt
  have j : free_Page_J5 n l s a nx tx (Pg.mk 0 0 0 0 0 []) = some (fpg s a nx tx l, 0) := by
    unfold free_Page_J5 free_Page_J5F
    exact free_Page_loop hn (by omega) ha n 0 (by omega) (by omega)
  rw [free_Most_is, bsome]
  have e1 : ¬(((room s / 4 : Nat) : Int) = 0) := by omega
  have e2 : ¬(((room s / 4 : Nat) : Int) < (l.length : Int)) := by omega
  simp only [e1, e2, decide_false, cond_false, bsome]
  rw [free_Rises_is hl (by omega), bsome, decide_eq_true hr]
  simp only [Bool.not_true, cond_false]
  rw [contains_is hl (by omega) ha, bsome, free_Page_1_is, bsome, h1]
  simp only [Bool.not_true, cond_false]
  have e3 : ¬(4611686018427387904 < tx) := by omega
  rcases h2 with h2 | h2
  · subst h2
    simp only [ne_eq, not_true_eq_false, decide_false, cond_false, e3]
    exact j
  · have e4 : nx ≠ 0 := fun e => by subst e; simp [numB] at h2
    rw [free_Page_1_is, bsome, h2]
    simp only [ne_eq, e4, not_false_eq_true, decide_true, cond_true, Bool.not_true, cond_false, e3, decide_false]
    exact j
theorem free_Page_unfit {n : Nat} {l : List Nat} {s : Int} {a nx tx : Nat} (hl : l.length < n) (hn2 : n ≤ 10000000) (hr : ¬Rise l) : ∃ p, free_Page n l s a nx tx = some (p, 2) := by
  unfold free_Page free_Page_F free_Page_rt
  rw [free_Most_is, bsome, bsome]
  by_cases e1 : (((room s / 4 : Nat) : Int) = 0)
  · simp only [e1, decide_true, cond_true]; exact ⟨_, rfl⟩
  by_cases e2 : (((room s / 4 : Nat) : Int) < (l.length : Int))
  · simp only [e1, e2, decide_true, decide_false, cond_false, cond_true]; exact ⟨_, rfl⟩
  simp only [e1, e2, decide_false, cond_false]
  rw [free_Rises_is hl (by omega), bsome, decide_eq_false hr]
  exact ⟨_, rfl⟩
theorem numB_lt {x : Nat} (h : numB x = true) : x < 256 ^ 4 := by
  simp only [numB, Bool.and_eq_true, decide_eq_true_eq] at h; omega
theorem free_Of_loop {n : Nat} {l : List Nat} {s : Int} {a nx tx : Nat} {z : List UInt8} (hn : 9 ≤ n) (hl : l.length < n) (hn2 : n ≤ 10000000) (h0 : 1 ≤ room s / 4) (hm : l.length ≤ room s / 4) (hr : Rise l) (ha : ∀ x ∈ l, numB x = true) (h1 : numB a = true) (h2 : nx = 0 ∨ numB nx = true) (h3 : tx ≤ 4611686018427387904) (hg : goodB s = true) :
    ∀ (m i : Nat), l.length < m + i → i ≤ l.length → free_Of_L4 n m (l.length : Int) (i : Int) (fbytes (l.drop i) ++ z) (l.take i) (fpg s a nx tx l) = some (nx, 0, l) := by
  intro m
  induction m with
  | zero => intro i h1 h2; omega
  | succ m ih =>
    intro i q1 q2
    unfold free_Of_L4 free_Of_L4F free_Of_rt
    by_cases hi : i < l.length
    · have hx := getE hi
      have e1 : ((i : Int) < (l.length : Int)) := by omega
      simp only [e1, decide_true, cond_true]
      have hb := numB_lt (ha _ (List.getElem_mem hi))
      have ed : fbytes (l.drop i) ++ z = le l[i] 4 ++ (fbytes (l.drop (i + 1)) ++ z) := by
        rw [List.drop_eq_getElem_cons hi]
        show (le l[i] 4 ++ fbytes (l.drop (i + 1))) ++ z = _
        rw [List.append_assoc]
      have g1 : octet_Reader_Number n (fbytes (l.drop i) ++ z) 4 = some (l[i], 0, fbytes (l.drop (i + 1)) ++ z) := by
        have := Number_is (n := n) (l := fbytes (l.drop i) ++ z) (k := 4) hn (by omega) (by omega)
        rw [ed, numV_app hb, takeE_app (le_length _ _), takeR_app (le_length _ _)] at this
        rw [ed]; exact this
      rw [g1, bsome]
      have e3 : Nat.ble ((l.take i).length + [l[i] % 4294967296].length) 100000000 = true := ble_of (by simp; omega)
      simp only [e3, ne_eq, not_true_eq_false, decide_false, cond_false, cond_true]
      rw [w64_id (by omega) (by omega), Nat.mod_eq_of_lt (by omega), ← take_succ_at hx]
      exact ih (i + 1) (by omega) (by omega)
    · have e1 : ¬((i : Int) < (l.length : Int)) := by omega
      simp only [e1, decide_false, cond_false]
      rw [List.take_of_length_le (by omega)]
      have hle : (fbytes l).length ≤ room s := by rw [fbytes_length]; omega
      have hb : (fpg s a nx tx l).body.length = room s := by
        show (bodyS s (fbytes l)).length = _
        rw [(body_ok hg hle).1, padL_length hle]
      have hs : w64 (((fpg s a nx tx l).body.length : Int) + 24) = s := by
        have := room_add hg
        have := room_le s
        rw [hb, w64_id (by omega) (by omega)]; omega
      rw [hs]
      have g2 : free_Page n l s (fpg s a nx tx l).page (fpg s a nx tx l).link (fpg s a nx tx l).tx = some (fpg s a nx tx l, 0) := free_Page_fit hn hl hn2 h0 hm hr ha h1 h2 h3
      rw [g2, bsome]
      simp only [ne_eq, not_true_eq_false, decide_false, cond_false, decide_true, Bool.and_self, Bool.not_true]
      rfl
theorem free_Of_is {n : Nat} {l : List Nat} {s : Int} {a nx tx : Nat} (hn : 9 ≤ n) (hl : l.length < n) (hn2 : n ≤ 10000000) (h0 : 1 ≤ room s / 4) (hm : l.length ≤ room s / 4) (hr : Rise l) (ha : ∀ x ∈ l, numB x = true) (h1 : numB a = true) (h2 : nx = 0 ∨ numB nx = true) (h3 : tx ≤ 4611686018427387904) (hg : goodB s = true) : free_Of n (fpg s a nx tx l) = some (nx, 0, l) := by
  unfold free_Of free_Of_F
  have hle : (fbytes l).length ≤ room s := by rw [fbytes_length]; omega
  have := free_Of_loop (z := List.replicate (room s - (fbytes l).length) 0) hn hl hn2 h0 hm hr ha h1 h2 h3 hg n 0 (by omega) (by omega)
  rw [List.drop_zero] at this
  have hb : (fpg s a nx tx l).body = fbytes l ++ List.replicate (room s - (fbytes l).length) 0 := by
    show bodyS s (fbytes l) = _
    rw [(body_ok hg hle).1]; rfl
  rw [hb]
  exact this
theorem Pick_is (n : Nat) (c : Int) (m : Nat) (h : 1 ≤ m) (hm : m ≤ 1000000000) : ∃ k : Nat, k < m ∧ kit_Pick n c (m : Int) = some (k : Int) := by
  unfold kit_Pick kit_Pick_F kit_Pick_rt
  have e1 : ¬((m : Int) < 1) := by omega
  have e2 : (m : Int) ≠ 0 := by omega
  have h1 : Int.tmod c m < m := Int.tmod_lt_of_pos c (by omega)
  have h2 : -(m : Int) < Int.tmod c m := by
    have := Int.lt_tmod_of_pos c (b := (m : Int)) (by omega)
    omega
  simp only [e1, e2, decide_true, decide_false, cond_true, cond_false, ne_eq, not_false_eq_true]
  by_cases h : Int.tmod c m < 0
  · simp only [h, decide_true, cond_true]
    rw [w64_id (by omega) (by omega)]
    exact ⟨(Int.tmod c m + m).toNat, by omega, by rw [Int.toNat_of_nonneg (by omega)]⟩
  · simp only [h, decide_false, cond_false]
    exact ⟨(Int.tmod c m).toNat, by omega, by rw [Int.toNat_of_nonneg (by omega)]⟩
theorem Own_is (n : Nat) (l : List Nat) (h : l.length ≤ 1000000) : kit_Own_uint32 n l = some l := by
  unfold kit_Own_uint32 kit_Own_uint32_F kit_Own_uint32_rt
  rw [ble_of (by omega)]; rfl
theorem Same_loop (n : Nat) (l : List Nat) (hl : l.length ≤ 1000000000) : ∀ (m i : Nat), l.length < m + i → i ≤ l.length → kit_Same_uint32_L5 n l l m (i : Int) = some true := by
  intro m
  induction m with
  | zero => intro i h1 h2; omega
  | succ m ih =>
    intro i h1 h2
    unfold kit_Same_uint32_L5 kit_Same_uint32_L5F kit_Same_uint32_rt
    by_cases hi : i < l.length
    · have hx := getE hi
      have e1 : ((i : Int) < (l.length : Int)) := by omega
      simp only [e1, hi, decide_true, cond_true, Int.natCast_nonneg, Int.toNat_natCast, Bool.and_self, hx, bsome, ne_eq, not_true_eq_false, decide_false, cond_false]
      rw [w64_id (by omega) (by omega)]
      exact ih (i + 1) (by omega) (by omega)
    · have e1 : ¬((i : Int) < (l.length : Int)) := by omega
      simp only [e1, decide_false, cond_false]
theorem Same_self {n : Nat} {l : List Nat} (hl : l.length < n) (hn : n ≤ 1000000000) : kit_Same_uint32 n l l = some true := by
  unfold kit_Same_uint32 kit_Same_uint32_F
  simp only [ne_eq, not_true_eq_false, decide_false, cond_false]
  exact Same_loop n l (by omega) n 0 (by omega) (by omega)
end Go.Ev
end
section
set_option linter.unusedVariables false
set_option linter.unusedSimpArgs false
namespace Go.Ev
open Go.RowKit
theorem fs_lives : law10_lives 10000 = some true := by kernel_rfl
theorem room128 : room 128 = 104 := by decide
theorem good128 : goodB 128 = true := by decide
theorem set01 {l : List Nat} (h : 2 ≤ l.length) : ¬Rise ((l.set 0 l[1]).set 1 l[0]) ∨ ¬Rise l := by
  by_cases hr : Rise l
  · left
    intro h2
    have h3 := List.pairwise_iff_getElem.1 hr 0 1 (by omega) (by omega) (by omega)
    have h4 := List.pairwise_iff_getElem.1 h2 0 1 (by simp; omega) (by simp; omega) (by omega)
    simp at h4
    omega
  · exact .inr hr
theorem set0 {l : List Nat} (h : 2 ≤ l.length) : ¬Rise (l.set 0 l[1]) := by
  intro h2
  have h4 := List.pairwise_iff_getElem.1 h2 0 1 (by simp; omega) (by simp; omega) (by omega)
  simp at h4
theorem fs_end (sp : List UInt8) (l : List Nat) (hl : l.length ≤ 26) (hr : Rise l) : law10_FreeSplits_J20 10000 sp l = some true := by
  unfold law10_FreeSplits_J20 law10_FreeSplits_J20F law10_FreeSplits_rt
  by_cases h : l.length < 2
  · have : ((l.length : Int) < 2) := by omega
    simp only [this, decide_true, cond_true]
  · have h2 : ¬((l.length : Int) < 2) := by omega
    have c1 : (1 : Nat) < l.length := by omega
    have c0 : (0 : Nat) < l.length := by omega
    have x1 := getE c1
    have x0 := getE c0
    simp only [h2, decide_false, cond_false]
    rw [Own_is _ _ (by omega)]
    simp only [bsome, c0, c1, x0, x1, decide_true, cond_true, Int.le_refl, Bool.and_self, show (0 : Int) ≤ 1 by decide]
    have c3 : (1 : Nat) < (l.set 0 l[1]).length := by simp; omega
    have x3 := getE c3
    simp only [c3, x3, decide_true, cond_true, bsome, Bool.and_self]
    have t1 := (set01 (l := l) (by omega)).resolve_right (fun h => h hr)
    have t2 := set0 (l := l) (by omega)
    obtain ⟨p, hp⟩ := free_Page_unfit (n := 10000) (l := (l.set 0 l[1]).set 1 l[0]) (s := 128) (a := 2) (nx := 0) (tx := 7) (by simp; omega) (by omega) t1
    obtain ⟨q, hq⟩ := free_Page_unfit (n := 10000) (l := l.set 0 l[1]) (s := 128) (a := 2) (nx := 0) (tx := 7) (by simp; omega) (by omega) t2
    have d1 : (Option.bind (free_Rises 10000 ((l.set 0 l[1]).set 1 l[0])) fun z => bif !z then Option.bind (free_Rises 10000 (l.set 0 l[1])) fun z => some (!z) else some false) = some true := by
      rw [free_Rises_is (by simp; omega) (by omega), bsome, decide_eq_false t1]
      simp only [Bool.not_false, cond_true]
      rw [free_Rises_is (by simp; omega) (by omega), bsome, decide_eq_false t2]; rfl
    simp only [hp, hq, bsome, decide_true, cond_true]
    exact d1
theorem fs_fin (sp : List UInt8) (l : List Nat) (c : Int) (hs : 26 < 27) (hl : l.length ≤ 26) (hr : Rise l) (ha : ∀ x ∈ l, numB x = true) (i : Int) (hi : ¬i < (sp.length : Int)) (x1 : Nat) (m : Nat) : law10_FreeSplits_L9 10000 sp (m + 1) c x1 i l = some true := by
  unfold law10_FreeSplits_L9 law10_FreeSplits_L9F
  simp only [hi, decide_false, cond_false]
  obtain ⟨k, hk, hp⟩ := Pick_is 10000 c (l.length + 1) (by omega) (by omega)
  rw [show ((l.length : Int) + 1) = ((l.length + 1 : Nat) : Int) by omega, w64_id (by omega) (by omega), hp, bsome]
  have hk' : k ≤ l.length := by omega
  simp only [Int.natCast_nonneg, Int.toNat_natCast, hk', decide_true, Bool.and_self, cond_true]
  have r1 : Rise (l.take k) := hr.sublist (List.take_sublist _ _)
  have r2 : Rise (l.drop k) := hr.sublist (List.drop_sublist _ _)
  have a1 : ∀ x ∈ l.take k, numB x = true := fun x hx => ha x (List.mem_of_mem_take hx)
  have a2 : ∀ x ∈ l.drop k, numB x = true := fun x hx => ha x (List.mem_of_mem_drop hx)
  have l1 : (l.take k).length ≤ 26 := by rw [List.length_take]; omega
  have l2 : (l.drop k).length ≤ 26 := by rw [List.length_drop]; omega
  have m1 : (1 : Nat) ≤ room 128 / 4 := by rw [room128]; decide
  have m2 : room 128 / 4 = 26 := by rw [room128]
  rw [free_Page_fit (n := 10000) (l := l.take k) (s := 128) (a := 2) (nx := 3) (tx := 7) (by omega) (by omega) (by omega) m1 (by omega) r1 a1 (by decide) (.inr (by decide)) (by decide), bsome]
  rw [free_Page_fit (n := 10000) (l := l.drop k) (s := 128) (a := 3) (nx := 0) (tx := 7) (by omega) (by omega) (by omega) m1 (by omega) r2 a2 (by decide) (.inl rfl) (by decide), bsome]
  show (Option.bind (free_Of 10000 (fpg 128 2 3 7 (l.take k))) fun z_3 => Option.bind (free_Of 10000 (fpg 128 3 0 7 (l.drop k))) _) = _
  rw [free_Of_is (by omega) (by omega) (by omega) m1 (by omega) r1 a1 (by decide) (.inr (by decide)) (by decide) good128, bsome]
  rw [free_Of_is (by omega) (by omega) (by omega) m1 (by omega) r2 a2 (by decide) (.inl rfl) (by decide) good128, bsome]
  have b1 : Nat.ble ((l.take k).length + (l.drop k).length) 100000000 = true := ble_of (by omega)
  simp only [ne_eq, not_true_eq_false, decide_false, cond_false, b1, cond_true, List.take_append_drop]
  rw [Same_self (by omega) (by omega), bsome]
  simp only [Bool.not_true, cond_false]
  rw [free_Rises_is (by omega) (by omega), bsome, decide_eq_true hr]
  simp only [Bool.not_true, cond_false]
  exact fs_end sp l hl hr
theorem fs_loop (sp : List UInt8) (c : Int) (hs : sp.length ≤ 26) : ∀ (m i : Nat) (x : Nat) (l : List Nat), sp.length < m + i → i ≤ sp.length → l.length = i → Rise l → (∀ y ∈ l, 2 ≤ y ∧ y < x) → 2 ≤ x → x ≤ 1002 + 9 * i → law10_FreeSplits_L9 10000 sp m c x (i : Int) l = some true := by
  intro m
  induction m with
  | zero => intro i x l h1 h2; omega
  | succ m ih =>
    intro i x l h1 h2 h3 hr hy hx hx2
    by_cases hi : i < sp.length
    · unfold law10_FreeSplits_L9 law10_FreeSplits_L9F
      have e1 : ((i : Int) < (sp.length : Int)) := by omega
      have hg := getE hi
      have b1 : Nat.ble (l.length + [x].length) 100000000 = true := ble_of (by simp; omega)
      simp only [e1, hi, hg, b1, decide_true, cond_true, bsome, Int.natCast_nonneg, Int.toNat_natCast, Bool.and_self]
      rw [w64_id (by omega) (by omega)]
      have hu : (UInt8.ofNat (sp[i].toNat % (UInt8.ofNat 9).toNat)).toNat ≤ 8 := by
        have : (UInt8.ofNat 9).toNat = 9 := rfl
        rw [this, UInt8.toNat_ofNat']
        omega
      refine ih (i + 1) _ _ (by omega) (by omega) (by simp; omega) ?_ ?_ ?_ ?_
      · refine List.pairwise_append.2 ⟨hr, List.pairwise_singleton _ _, fun a ha b hb => ?_⟩
        rw [List.mem_singleton.1 hb]
        exact (hy a ha).2
      · intro y hm
        rcases List.mem_append.1 hm with hm | hm
        · have := hy y hm
          omega
        · rw [List.mem_singleton.1 hm]
          omega
      · omega
      · omega
    · refine fs_fin sp l c (by omega) (by omega) hr (fun y hm => ?_) _ (by omega) x m
      have := hy y hm
      simp [numB]; omega
theorem freeSplits_m (sp : List UInt8) (a : Nat) (c : Int) : law10_FreeSplits 10000 sp a c = some true := by
  unfold law10_FreeSplits law10_FreeSplits_F law10_FreeSplits_rt
  rw [fs_lives, bsome]
  by_cases h : sp.length ≤ 26
  · have h1 : ¬((26 : Int) < (sp.length : Int)) := by omega
    simp only [h1, Bool.not_true, decide_false, cond_false]
    have := fs_loop sp c h 10000 0 ((2 + a % 1000) % 4294967296) [] (by omega) (by omega) rfl .nil (fun y hy => by cases hy) (by omega) (by omega)
    exact this
  · have h1 : ((26 : Int) < (sp.length : Int)) := by omega
    simp only [h1, Bool.not_true, decide_true, cond_false, cond_true]
end Go.Ev
end