/- Words of my own, printed by a program of mine. -/
import Derived.Test.YtmnpchmdgobcnaaDfns
import Derived.Test.YtmnpchmdgobcnaaHn
import Derived.Test.YtmnpchmdgobcnaaHs
section
set_option linter.unusedVariables false
set_option linter.unusedSimpArgs false
namespace Go.Ev
open Go.RowKit
theorem w64_id {n : Int} (h1 : -4611686018427387904 ≤ n) (h2 : n ≤ 4611686018427387904) : w64 n = n := w64_of (by omega) (by omega)
theorem ble_of {a b : Nat} (h : a ≤ b) : Nat.ble a b = true := Nat.ble_eq_true_of_le h
theorem bsome {α β : Type} (a : α) (f : α → Option β) : Option.bind (some a) f = f a := rfl
theorem getE {α : Type} {l : List α} {i : Nat} (h : i < l.length) : l[i]? = some l[i] := List.getElem?_eq_getElem h
theorem device_Good_is (n : Nat) (s : Int) : device_Good n s = some (goodB s) := by
  unfold device_Good device_Good_F goodB device_Good_rt
  by_cases h1 : 128 ≤ s <;> by_cases h2 : s ≤ 4096 <;> simp [h1, h2]
theorem frame_Room_is (n : Nat) (s : Int) : frame_Room n s = some (room s : Int) := by
  unfold frame_Room frame_Room_F frame_Room_rt
  rw [device_Good_is, bsome]
  cases h : goodB s
  · rw [room_bad h]; rfl
  · obtain ⟨g1, g2, g3⟩ := goodB_le h
    have g4 : ((room s : Nat) : Int) = s - 24 := by omega
    rw [g4]
    simp only [Bool.not_true, cond_false]
    rw [w64_id (by omega) (by omega)]
theorem leaf_number_is (n a : Nat) : leaf_number n a = some (numB a) := by
  unfold leaf_number leaf_number_F numB leaf_number_rt
  by_cases h1 : 2 ≤ a
  · simp [h1]
  · simp [h1]
theorem branch_Key_is (n : Nat) (k : List UInt8) : branch_Key n k = some (keyB k) := by
  unfold branch_Key branch_Key_F keyB branch_Key_rt
  congr 1
  exact decide_eq_decide.2 (by omega)
theorem leaf_value_may_is (n : Nat) (x : Item) : leaf_value_may n x = some (vmayB x) := by
  unfold leaf_value_may leaf_value_may_F leaf_value_may_rt vmayB keyB
  rw [leaf_number_is]
  by_cases h1 : x.key.length ≤ 40
  · have h1' : ((x.key.length : Int) ≤ 40) := by omega
    cases hx : x.over
    · by_cases h2 : x.value.length ≤ 255
      · have h2' : ((x.value.length : Int) ≤ 255) := by omega
        by_cases h3 : x.len = 0 <;> simp [h1, h1', h2, h2', h3]
      · have h2' : ¬((x.value.length : Int) ≤ 255) := by omega
        simp [h1, h1', h2, h2']
    · by_cases h2 : x.value = [] <;> by_cases h3 : 1 ≤ x.len <;> by_cases h4 : x.len ≤ 4096 <;> simp [h1, h1', h2, h3, h4, bsome]
  · have h1' : ¬((x.key.length : Int) ≤ 40) := by omega
    simp [h1, h1']
theorem leaf_value_size_is (n : Nat) (x : Item) (h : x.value.length ≤ 4611686018427387000) : leaf_value_size n x = some (vsz x : Int) := by
  unfold leaf_value_size leaf_value_size_F leaf_value_size_rt vsz
  cases hx : x.over
  · simp; rw [w64_id (by omega) (by omega)]
  · simp
theorem leaf_Size_loop (n : Nat) (l : List Item) (hs : ∀ x ∈ l, x.key.length + x.value.length ≤ 4000000) (hl : l.length ≤ 4000000000000000000) (hz : lsz l ≤ 4000000000000000000) : ∀ (m i : Nat), l.length < m + i → i ≤ l.length → leaf_Size_L3 n l m (lsz (l.take i) : Int) (l.length : Int) (i : Int) = some (lsz l : Int) := by
  intro m
  induction m with
  | zero => intro i h1 h2; omega
  | succ m ih =>
    intro i h1 h2
    unfold leaf_Size_L3 leaf_Size_L3F leaf_Size_rt
    by_cases hi : i < l.length
    · have hx := getE hi
      have hm := hs _ (List.getElem_mem hi)
      have e1 : ((i : Int) < (l.length : Int)) := by omega
      have h5 := lsz_succ hx
      have h6 := lsz_take_le l (i + 1)
      have h7 := vsz_le l[i]
      simp only [e1, decide_true, cond_true, Int.natCast_nonneg, Int.toNat_natCast, hi, Bool.and_self, hx, bsome]
      rw [leaf_value_size_is n _ (by show l[i].value.length ≤ _; omega), bsome]
      show leaf_Size_L3 n l m (w64 ((lsz (l.take i) : Int) + w64 (w64 (2 + (l[i].key.length : Int)) + (vsz l[i] : Int)))) (l.length : Int) (w64 ((i : Int) + 1)) = _
      rw [w64_id (n := 2 + (l[i].key.length : Int)) (by omega) (by omega), w64_id (n := 2 + (l[i].key.length : Int) + (vsz l[i] : Int)) (by omega) (by omega), w64_id (by omega) (by omega), w64_id (by omega) (by omega)]
      have := ih (i + 1) (by omega) (by omega)
      rw [h5] at this
      rw [← this]
      exact congrArg (fun z => leaf_Size_L3 n l m z _ _) (by omega)
    · have e1 : ¬((i : Int) < (l.length : Int)) := by omega
      simp only [e1, decide_false, cond_false]
      rw [List.take_of_length_le (by omega)]
theorem leaf_Size_is {n : Nat} {l : List Item} (hs : ∀ x ∈ l, x.key.length + x.value.length ≤ 4000000) (hl : l.length < n) (hn : n ≤ 4000000000000000000) (hz : lsz l ≤ 4000000000000000000) : leaf_Size n l = some (lsz l : Int) := by
  have := leaf_Size_loop n l hs (by omega) hz n 0 (by omega) (by omega)
  exact this
theorem octet_Put_loop (n : Nat) (b l : List UInt8) (a k : Nat) (hk : k ≤ 8) (hl : l.length ≤ 90000000) : ∀ (m i : Nat), k < m + i → i ≤ k → octet_Put_L6 n b m a (k : Int) (i : Int) (l ++ le a i) = some (l ++ le a k) := by
  intro m
  induction m with
  | zero => intro i h1 h2; omega
  | succ m ih =>
    intro i h1 h2
    unfold octet_Put_L6 octet_Put_L6F octet_Put_rt
    by_cases hi : i < k
    · have e1 : ((i : Int) < (k : Int)) := by omega
      rw [w64_id (n := 8 * (i : Int)) (by omega) (by omega)]
      have e2 : Int.toNat (8 * (i : Int)) = 8 * i := by omega
      rw [e2]
      have e3 : (0 : Int) ≤ 8 * (i : Int) := by omega
      have e4 : Nat.ble (8 * i) 64 = true := ble_of (by omega)
      have e5 : Nat.ble ((l ++ le a i).length + [UInt8.ofNat (a / 2 ^ (8 * i))].length) 100000000 = true := ble_of (by simp [le_length]; omega)
      simp only [e1, e3, e4, e5, decide_true, cond_true, Bool.and_self]
      rw [w64_id (by omega) (by omega), List.append_assoc, ← le_succ]
      exact ih (i + 1) (by omega) (by omega)
    · have e1 : ¬((i : Int) < (k : Int)) := by omega
      simp only [e1, decide_false, cond_false]
      rw [show i = k by omega]
theorem octet_Put_is {n : Nat} {l : List UInt8} {a k : Nat} (hn : 9 ≤ n) (hk : 1 ≤ k) (hk8 : k ≤ 8) (hl : l.length ≤ 90000000) : octet_Put n l a (k : Int) = some (l ++ le a k) := by
  unfold octet_Put octet_Put_F octet_Put_rt
  rw [w64_id (by omega) (by omega)]
  have e1 : (0 : Int) ≤ (l.length : Int) + 8 := by omega
  have e2 : Nat.ble (0) (Int.toNat ((l.length : Int) + 8)) = true := ble_of (by omega)
  have e3 : Nat.ble (Int.toNat ((l.length : Int) + 8)) 100000000 = true := ble_of (by omega)
  have e4 : Nat.ble ((List.replicate (0) (UInt8.ofNat (0))).length + l.length) 100000000 = true := ble_of (by simp; omega)
  have e5 : ¬((k : Int) < 1) := by omega
  have e6 : ¬((8 : Int) < (k : Int)) := by omega
  simp only [e1, e2, e3, e4, e5, e6, decide_true, decide_false, cond_true, cond_false, Bool.and_self, Int.le_refl]
  have := octet_Put_loop n l l a k hk8 hl n 0 (by omega) (by omega)
  simpa [octet_Put_J5, octet_Put_J5F, le] using this
theorem leaf_value_put_is {n : Nat} {b : List UInt8} {x : Item} (hn : 9 ≤ n) (hb : b.length ≤ 80000000) (hv : x.value.length ≤ 1000000) (hh : x.over = true → x.head < 4294967296) : leaf_value_put n b x = some (b ++ vput x) := by
  unfold leaf_value_put leaf_value_put_F leaf_value_put_rt vput
  cases hx : x.over
  · rw [u64_of (n := x.value.length) (by omega)]
    have h1 := octet_Put_is (n := n) (l := b) (a := x.value.length) (k := 1) hn (by omega) (by omega) (by omega)
    have h1' : octet_Put n b x.value.length 1 = some (b ++ le x.value.length 1) := h1
    have e1 : Nat.ble ((b ++ le x.value.length 1).length + x.value.length) 100000000 = true := ble_of (by simp [le_length]; omega)
    simp only [cond_false, h1', bsome, e1, cond_true, List.append_assoc, Bool.false_eq_true, if_false]
  · have h1 : octet_Put n b (u64 x.len) 4 = some (b ++ le (u64 x.len) 4) := octet_Put_is (k := 4) hn (by omega) (by omega) (by omega)
    have h2 : octet_Put n (b ++ le (u64 x.len) 4) (x.head % 18446744073709551616) 4 = some ((b ++ le (u64 x.len) 4) ++ le (x.head % 18446744073709551616) 4) := octet_Put_is (k := 4) hn (by omega) (by omega) (by simp [le_length]; omega)
    simp only [cond_true, h1, h2, bsome, List.append_assoc, if_true]
    have := hh hx
    rw [Nat.mod_eq_of_lt (by omega), u64_of (n := x.head) (by omega)]
theorem frame_Body_is {n : Nat} {b : List UInt8} {s : Int} (hb : b.length ≤ 80000000) : frame_Body n b s = some (bodyS s b, (bodyE s b : Int)) := by
  unfold frame_Body frame_Body_F frame_Body_rt
  rw [device_Good_is, frame_Room_is, bsome]
  cases h : goodB s
  · obtain ⟨h1, h2⟩ := body_bad (l := b) h
    rw [h1, h2]; rfl
  · have hr := room_le s
    have hr2 : 1 ≤ room s := by have := goodB_le h; omega
    simp only [Bool.not_true, cond_false, bsome, Int.toNat_natCast, Int.natCast_nonneg, decide_true, Bool.and_self, List.length_replicate, Bool.true_and]
    by_cases h2 : room s < b.length
    · obtain ⟨h3, h4⟩ := body_long h h2
      have : ((room s : Int) < (b.length : Int)) := by omega
      rw [h3, h4]; simp only [this, decide_true, cond_true]; rfl
    · have h5 : b.length ≤ room s := by omega
      obtain ⟨h3, h4⟩ := body_ok h h5
      have : ¬((room s : Int) < (b.length : Int)) := by omega
      have e1 : Nat.ble (room s) (room s) = true := ble_of (Nat.le_refl _)
      have e2 : Nat.ble (room s) 100000000 = true := ble_of (by omega)
      have e3 : Nat.ble 1 (room s) = true := ble_of hr2
      rw [h3, h4]
      simp only [this, decide_false, cond_false, e1, e2, e3, cond_true, Bool.and_self]
      have e4 : Nat.min b.length (room s) = b.length := Nat.min_eq_left h5
      rw [e4, List.take_length]
      simp [padL]
theorem leaf_may_loop (n : Nat) (l : List Item) (hl : l.length ≤ 4000000000000000000) : ∀ (m i : Nat), l.length < m + i → i ≤ l.length → (∀ j, j < i → okAt l j = true) → leaf_may_L3 n l m (l.length : Int) (i : Int) = some (lmayB l) := by
  intro m
  induction m with
  | zero => intro i h1 h2; omega
  | succ m ih =>
    intro i h1 h2 hok
    unfold leaf_may_L3 leaf_may_L3F leaf_may_rt
    by_cases hi : i < l.length
    · have hx := getE hi
      have e1 : ((i : Int) < (l.length : Int)) := by omega
      simp only [e1, decide_true, cond_true, Int.natCast_nonneg, Int.toNat_natCast, hi, Bool.and_self, hx, bsome]
      rw [leaf_value_may_is, bsome]
      show (bif !vmayB l[i] then _ else _) = _
      cases hv : vmayB l[i]
      · simp only [Bool.not_false, cond_true]
        rw [lmay_bad hi (by unfold okAt; rw [hx]; simp [hv])]
      · simp only [Bool.not_true, cond_false]
        by_cases h0 : i = 0
        · subst h0
          simp only [Int.natCast_zero, Int.lt_irrefl, decide_false, cond_false]
          exact ih 1 (by omega) (by omega) (all_succ hok (by unfold okAt; rw [hx]; simp [hv]))
        · have e2 : (0 : Int) < (i : Int) := by omega
          have e3 : ((i : Int) - 1) = ((i - 1 : Nat) : Int) := by omega
          rw [w64_id (n := (i : Int) - 1) (by omega) (by omega), e3]
          have hy := getE (l := l) (i := i - 1) (by omega)
          have e4 : i - 1 < l.length := by omega
          simp only [e2, e4, decide_true, cond_true, Int.natCast_nonneg, Int.toNat_natCast, Bool.and_self, hy, bsome]
          cases hs : sLt l[i - 1].key l[i].key
          · simp only [Bool.not_false, cond_true]
            rw [lmay_bad hi (by unfold okAt; rw [hx]; simp [hv, h0, hy, hs])]
          · simp only [Bool.not_true, cond_false]
            rw [w64_id (by omega) (by omega)]
            exact ih (i + 1) (by omega) (by omega) (all_succ hok (by unfold okAt; rw [hx]; simp [hv, h0, hy, hs]))
    · have e1 : ¬((i : Int) < (l.length : Int)) := by omega
      simp only [e1, decide_false, cond_false]
      rw [lmay_end (fun j hj => hok j (by omega))]
      exact congrArg some (decide_eq_decide.2 (by omega))
theorem leaf_may_is {n : Nat} {l : List Item} (hl : l.length < n) (hn : n ≤ 4000000000000000000) : leaf_may n l = some (lmayB l) :=
  leaf_may_loop n l (by omega) n 0 (by omega) (by omega) (fun j hj => by omega)
theorem vmay_head {x : Item} (h : vmayB x = true) (ho : x.over = true) : x.head < 4294967296 := by
  unfold vmayB at h
  rw [if_pos ho] at h
  simp only [Bool.and_eq_true, numB, decide_eq_true_eq] at h
  omega
theorem leaf_Page_loop {n : Nat} {l : List Item} {s : Int} {a tx : Nat} {p : Pg} (hn : 9 ≤ n) (hm : lmayB l = true) (hz : lsz l ≤ 4072) (hl : l.length ≤ 4000000000000000000) : ∀ (m i : Nat), l.length < m + i → i ≤ l.length → leaf_Page_L6 n l m s a tx (l.length : Int) (i : Int) (lbytes (l.take i)) p = some (⟨4, (l.length : Int), a, 0, tx, bodyS s (lbytes l)⟩, 0) := by
  intro m
  induction m with
  | zero => intro i h1 h2; omega
  | succ m ih =>
    intro i h1 h2
    unfold leaf_Page_L6 leaf_Page_L6F leaf_Page_rt
    by_cases hi : i < l.length
    · have hx := getE hi
      have e1 : ((i : Int) < (l.length : Int)) := by omega
      have hv := lmay_at hm hx
      have hk := vmay_le hv
      have hb : (lbytes (l.take i)).length ≤ 4072 := by rw [lbytes_length]; exact Nat.le_trans (lsz_take_le l i) hz
      simp only [e1, decide_true, cond_true, Int.natCast_nonneg, Int.toNat_natCast, hi, Bool.and_self, hx, bsome]
      have key : ∀ ov : Nat, ov = (if l[i].over = true then 1 else 0) → leaf_Page_J11 n l (leaf_Page_L6 n l m) s a tx ov (l.length : Int) (i : Int) l[i] (lbytes (l.take i)) p = some (⟨4, (l.length : Int), a, 0, tx, bodyS s (lbytes l)⟩, 0) := by
        intro ov hov
        unfold leaf_Page_J11 leaf_Page_J11F
        have g1 : octet_Put n (lbytes (l.take i)) ov 1 = some (lbytes (l.take i) ++ le ov 1) := octet_Put_is (k := 1) hn (by omega) (by omega) (by omega)
        rw [g1, bsome, u64_of (n := l[i].key.length) (by omega)]
        have g2 : octet_Put n (lbytes (l.take i) ++ le ov 1) l[i].key.length 1 = some ((lbytes (l.take i) ++ le ov 1) ++ le l[i].key.length 1) := octet_Put_is (k := 1) hn (by omega) (by omega) (by simp [le_length]; omega)
        rw [g2, bsome]
        have g3 : Nat.ble (((lbytes (l.take i) ++ le ov 1) ++ le l[i].key.length 1).length + l[i].key.length) 100000000 = true := ble_of (by simp [le_length]; omega)
        rw [g3, cond_true]
        have g4 := leaf_value_put_is (n := n) (b := ((lbytes (l.take i) ++ le ov 1) ++ le l[i].key.length 1) ++ l[i].key) (x := l[i]) hn (by simp [le_length]; omega) (by omega) (vmay_head hv)
        show Option.bind (leaf_value_put n (((lbytes (l.take i) ++ le ov 1) ++ le l[i].key.length 1) ++ l[i].key) l[i]) _ = _
        rw [g4, bsome, w64_id (by omega) (by omega)]
        have g5 : ((((lbytes (l.take i) ++ le ov 1) ++ le l[i].key.length 1) ++ l[i].key) ++ vput l[i]) = lbytes (l.take (i + 1)) := by
          rw [lbytes_succ hx, hov]
          simp [ibytes]
        rw [g5]
        exact ih (i + 1) (by omega) (by omega)
      cases ho : l[i].over
      · exact key 0 (by rw [ho]; rfl)
      · exact key 1 (by rw [ho]; rfl)
    · have e1 : ¬((i : Int) < (l.length : Int)) := by omega
      simp only [e1, decide_false, cond_false]
      rw [List.take_of_length_le (by omega), frame_Body_is (by rw [lbytes_length]; omega), bsome]
theorem leaf_Page_is {n : Nat} {l : List Item} {s : Int} {a tx : Nat} (hn : 9 ≤ n) (hl : l.length < n) (hn2 : n ≤ 4000000000000000000) (hs : lmayB l = true → lsz l ≤ 4000000000000000000) : leaf_Page n l s a tx = some (lpg s a tx l, (lpgE s a tx l : Int)) := by
  unfold leaf_Page leaf_Page_F leaf_Page_rt
  rw [leaf_may_is hl hn2, bsome]
  have bad : lpgOk s a tx l = false → some ((⟨0, 0, 0, 0, 0, []⟩ : Pg), (2 : Int)) = some (lpg s a tx l, (lpgE s a tx l : Int)) := fun h => by
    rw [(lpg_bad h).1, (lpg_bad h).2]; rfl
  cases hm : lmayB l
  · exact bad (by unfold lpgOk; rw [hm]; rfl)
  · simp only [Bool.not_true, cond_false]
    rw [leaf_Size_is (fun x hx => by have := lmay_sz hm x hx; omega) hl hn2 (hs hm), bsome, frame_Room_is, bsome]
    by_cases h1 : lsz l ≤ room s
    · have e1 : ¬((room s : Int) < (lsz l : Int)) := by omega
      simp only [e1, decide_false, cond_false]
      rw [leaf_number_is, bsome]
      cases h2 : numB a
      · exact bad (by unfold lpgOk; rw [hm, h2]; simp)
      · simp only [Bool.not_true, cond_false]
        by_cases h3 : 4611686018427387904 < tx
        · have : 4611686018427387904 < tx := h3
          simp only [this, decide_true, cond_true]
          exact bad (by unfold lpgOk; rw [decide_eq_false (by omega : ¬(tx ≤ 4611686018427387904))]; simp)
        · have : ¬(4611686018427387904 < tx) := h3
          simp only [this, decide_false, cond_false]
          have hr := room_le s
          have h4 : lpgOk s a tx l = true := lpgOk_iff.2 ⟨hm, h1, h2, by omega⟩
          rw [(lpg_ok h4).1, (lpg_ok h4).2]
          exact leaf_Page_loop hn hm (by omega) (by omega) n 0 (by omega) (by omega)
    · have e1 : ((room s : Int) < (lsz l : Int)) := by omega
      simp only [e1, decide_true, cond_true]
      exact bad (by unfold lpgOk; rw [decide_eq_false h1]; simp)
theorem lsz_may {l : List Item} (h : lmayB l = true) : lsz l ≤ 305 * l.length := by
  have h2 := lmay_all h
  clear h
  induction l with
  | nil => exact Nat.le_refl _
  | cons x l ih =>
    have h3 := vmay_le (h2 x (.head _))
    have h4 := vsz_le x
    have h5 := ih (fun y hy => h2 y (.tail _ hy))
    show (2 + x.key.length + vsz x) + lsz l ≤ _
    rw [List.length_cons]
    omega
theorem light_loop (n : Nat) (l : List Item) (b : Int) (hs : (itsz l : Int) ≤ 4000000000000000000) (hl : l.length ≤ 1000000000000) : ∀ (m i : Nat), l.length < m + i → i ≤ l.length → (itsz (l.take i) : Int) ≤ b → kit_LightItems_L6 n l m b (itsz (l.take i) : Int) (i : Int) = some (decide ((itsz l : Int) ≤ b)) := by
  intro m
  induction m with
  | zero => intro i h1 h2; omega
  | succ m ih =>
    intro i h1 h2 h3
    unfold kit_LightItems_L6 kit_LightItems_L6F kit_LightItems_rt
    by_cases hi : i < l.length
    · have hx := getE hi
      have e1 : ((i : Int) < (l.length : Int)) := by omega
      have h5 := itsz_succ hx
      have h6 := itsz_le l (i + 1)
      simp only [e1, decide_true, cond_true, Int.natCast_nonneg, Int.toNat_natCast, hi, Bool.and_self, hx, bsome]
      rw [w64_id (n := (itsz (l.take i) : Int) + (l[i].key.length : Int)) (by omega) (by omega), w64_id (n := (itsz (l.take i) : Int) + (l[i].key.length : Int) + (l[i].value.length : Int)) (by omega) (by omega), w64_id (by omega) (by omega)]
      have e2 : (itsz (l.take i) : Int) + (l[i].key.length : Int) + (l[i].value.length : Int) = (itsz (l.take (i + 1)) : Int) := by omega
      rw [e2]
      by_cases h7 : b < (itsz (l.take (i + 1)) : Int)
      · simp only [h7, decide_true, cond_true]
        rw [decide_eq_false (by omega)]
      · simp only [h7, decide_false, cond_false]
        exact ih (i + 1) (by omega) (by omega) (by omega)
    · have e1 : ¬((i : Int) < (l.length : Int)) := by omega
      simp only [e1, decide_false, cond_false]
      rw [List.take_of_length_le (by omega)] at h3
      rw [decide_eq_true h3]
/-- What a law's items may be: few enough to be counted. -/
theorem itsz_le_of {l : List Item} (h : ∀ x ∈ l, x.key.length + x.value.length ≤ 300000000000000) : itsz l ≤ 300000000000000 * l.length := by
  induction l with
  | nil => exact Nat.le_refl _
  | cons x l ih =>
    have h1 := h x (.head _)
    have h2 := ih (fun y hy => h y (.tail _ hy))
    simp only [itsz, List.map_cons, List.sum_cons, List.length_cons] at h2 ⊢
    omega
theorem light_is {n : Nat} {l : List Item} (hs0 : ∀ x ∈ l, x.key.length + x.value.length ≤ 300000000000000) (hn : 200 ≤ n) : law08_light n l = some (lightB l) := by
  unfold law08_light law08_light_F law08_light_rt kit_LightItems kit_LightItems_F kit_LightItems_rt lightB
  by_cases h : l.length ≤ 100
  · have e1 : ¬((100 : Int) < (l.length : Int)) := by omega
    simp only [e1, decide_false, cond_false, h, decide_true, Bool.true_and]
    have hs : (itsz l : Int) ≤ 4000000000000000000 := by have := itsz_le_of hs0; omega
    have h2 : kit_LightItems_L6 n l n 4000 0 0 = some (decide ((itsz l : Int) ≤ 4000)) := light_loop n l 4000 hs (by omega) n 0 (by omega) (by omega) (by simp [itsz])
    rw [h2, bsome]
    exact congrArg some (decide_eq_decide.2 (by omega))
  · have e1 : ((100 : Int) < (l.length : Int)) := by omega
    simp only [e1, decide_true, cond_true, h, decide_false, Bool.false_and, bsome]
end Go.Ev
end
section
set_option linter.unusedVariables false
set_option linter.unusedSimpArgs false
namespace Go.Ev
open Go.RowKit
theorem finds_lives (k : Nat) : law08_lives (k + 10000) = some true := by kernel_rfl
/-- Keys that rise. -/
def KRise (l : List Item) : Prop := ∀ i (h : i + 1 < l.length), sLt l[i].key l[i + 1].key = true
theorem krise_lt {l : List Item} (h : KRise l) : ∀ (d i : Nat) (hd : i + d + 1 < l.length), sLt l[i].key l[i + d + 1].key = true
  | 0, i, hd => h i hd
  | d + 1, i, hd => bl_trans (krise_lt h d i (by omega)) (h (i + d + 1) hd)
theorem krise_lt' {l : List Item} (h : KRise l) {i j : Nat} (hij : i < j) (hj : j < l.length) : sLt l[i].key l[j].key = true := by
  have := krise_lt h (j - i - 1) i (by omega)
  have e : i + (j - i - 1) + 1 = j := by omega
  simp only [e] at this
  exact this
theorem krise_of {l : List Item} (h : lmayB l = true) : KRise l := by
  intro i hi
  unfold lmayB at h
  simp only [Bool.and_eq_true, decide_eq_true_eq] at h
  have := h.1 (i + 1) hi
  unfold okAt at this
  rw [getE hi] at this
  simp only [Bool.and_eq_true, Nat.add_one_sub_one, getE (show i < l.length by omega)] at this
  have h2 := this.2
  simpa using h2
/-- Where a key would be. -/
def pos (x : List UInt8) : List Item → Nat
  | [] => 0
  | y :: l => if sLt y.key x = true then pos x l + 1 else 0
theorem pos_le (x : List UInt8) : ∀ l : List Item, pos x l ≤ l.length
  | [] => Nat.le_refl _
  | y :: l => by unfold pos; split; exact Nat.succ_le_succ (pos_le x l); exact Nat.zero_le _
theorem pos_lt {x : List UInt8} : ∀ {l : List Item} {i : Nat} (h : i < l.length), i < pos x l → sLt l[i].key x = true
  | y :: l, 0, h, hi => by
    unfold pos at hi
    split at hi
    · assumption
    · omega
  | y :: l, i + 1, h, hi => by
    unfold pos at hi
    split at hi
    · exact pos_lt (l := l) (i := i) (by simpa using h) (by omega)
    · omega
theorem pos_at {x : List UInt8} : ∀ {l : List Item} (h : pos x l < l.length), sLt (l[pos x l]'h).key x = false
  | [], h => by cases h
  | y :: l, h => by
    by_cases e : sLt y.key x = true
    · have e1 : pos x (y :: l) = pos x l + 1 := by rw [pos, if_pos e]
      have := pos_at (x := x) (l := l) (by rw [e1] at h; simpa using h)
      simp only [e1, List.getElem_cons_succ]
      exact this
    · have e1 : pos x (y :: l) = 0 := by rw [pos, if_neg e]
      simp only [e1, List.getElem_cons_zero]
      simpa using e
theorem pos_ge {x : List UInt8} {l : List Item} (hr : KRise l) {i : Nat} (h : i < l.length) (hi : pos x l ≤ i) : sLt l[i].key x = false := by
  have h1 := pos_at (x := x) (l := l) (by omega)
  by_cases e : pos x l = i
  · simp only [e] at h1; exact h1
  · have h2 := krise_lt' hr (show pos x l < i by omega) h
    cases e2 : sLt l[i].key x with
    | false => rfl
    | true => rw [bl_trans h2 e2] at h1; cases h1
theorem leaf_rising_1_is {n : Nat} {l : List Item} {i j : Nat} (hi : i < l.length) (hj : j < l.length) : leaf_rising_1 n l (i : Int) (j : Int) = some (sLt l[i].key l[j].key) := by
  unfold leaf_rising_1 leaf_rising_1_F leaf_rising_1_rt
  simp only [Int.natCast_nonneg, Int.toNat_natCast, hi, hj, decide_true, Bool.and_self, cond_true, getE hi, getE hj, bsome]
theorem sliceSorted_loop (n : Nat) (l : List Item) (hr : KRise l) (hl : l.length ≤ 4000000000000000000) : ∀ (m i : Nat), i < m → i < l.length ∨ i = 0 → sort_SliceIsSorted_L5 n l m (i : Int) = some true := by
  intro m
  induction m with
  | zero => intro i h; omega
  | succ m ih =>
    intro i h1 h2
    unfold sort_SliceIsSorted_L5 sort_SliceIsSorted_L5F sort_SliceIsSorted_rt
    cases i with
    | zero => simp
    | succ i =>
      have h2 : i + 1 < l.length := by omega
      have e1 : (0 : Int) < ((i + 1 : Nat) : Int) := by omega
      have e3 : (((i + 1 : Nat) : Int) - 1) = (i : Int) := by omega
      simp only [e1, decide_true, cond_true]
      rw [e3, w64_id (n := (i : Int)) (by omega) (by omega), leaf_rising_1_is h2 (by omega), bsome, bl_asymm (hr i h2)]
      exact ih i (by omega) (by omega)
theorem leaf_rising_is {n : Nat} {l : List Item} (hr : KRise l) (hl : l.length < n) (hn : l.length ≤ 4000000000000000000) : leaf_rising n l = some true := by
  unfold leaf_rising leaf_rising_F leaf_rising_rt sort_SliceIsSorted sort_SliceIsSorted_F
  cases h : l.length with
  | zero =>
    have : l = [] := List.length_eq_zero_iff.1 h
    subst this
    cases n with
    | zero => omega
    | succ n =>
      rw [w64_id (by omega) (by omega)]
      simp [sort_SliceIsSorted_L5, sort_SliceIsSorted_L5F, bsome]
  | succ k =>
    rw [show (((k + 1 : Nat) : Int) - 1) = (k : Int) by omega, w64_id (by omega) (by omega), sliceSorted_loop n l hr hn n k (by omega) (by omega)]; rfl
theorem leaf_Find_1_is {n : Nat} {l : List Item} {i : Nat} {x : List UInt8} (hi : i < l.length) : leaf_Find_1 n l (i : Int) x = some (!sLt l[i].key x, x) := by
  unfold leaf_Find_1 leaf_Find_1_F leaf_Find_1_rt
  simp only [Int.natCast_nonneg, Int.toNat_natCast, hi, decide_true, Bool.and_self, cond_true, getE hi, bsome]
theorem mid_is {a b : Nat} (hl : a + b ≤ 4000000000000000000) : w64 ((u64 (w64 ((a : Int) + (b : Int))) / 2 ^ 1 : Nat) : Int) = (((a + b) / 2 : Nat) : Int) := by
  rw [w64_id (n := (a : Int) + (b : Int)) (by omega) (by omega), show ((a : Int) + (b : Int)) = ((a + b : Nat) : Int) by omega, u64_of (by omega), w64_id (by omega) (by omega)]
theorem search_loop (n : Nat) (l : List Item) (x : List UInt8) (hr : KRise l) (hl : l.length ≤ 1000000000000000000) : ∀ (m a b : Nat), b - a < m → a ≤ pos x l → pos x l ≤ b → b ≤ l.length → sort_Search_L3 n l m (a : Int) (b : Int) x = some ((pos x l : Int), x) := by
  intro m
  induction m with
  | zero => intro a b h; omega
  | succ m ih =>
    intro a b h1 h2 h3 h4
    unfold sort_Search_L3 sort_Search_L3F sort_Search_rt
    by_cases hab : a < b
    · have e1 : ((a : Int) < (b : Int)) := by omega
      simp only [e1, decide_true, cond_true]
      rw [mid_is (by omega)]
      have hm : (a + b) / 2 < l.length := by omega
      rw [leaf_Find_1_is hm, bsome]
      by_cases hs : sLt l[(a + b) / 2].key x = true
      · simp only [hs, Bool.not_true, Bool.not_false, cond_true]
        rw [w64_id (by omega) (by omega)]
        have hp : (a + b) / 2 < pos x l := by
          by_cases hh : (a + b) / 2 < pos x l
          · exact hh
          · rw [pos_ge hr hm (by omega)] at hs; cases hs
        exact ih ((a + b) / 2 + 1) b (by omega) (by omega) h3 h4
      · have hs : sLt l[(a + b) / 2].key x = false := by simpa using hs
        simp only [hs, Bool.not_true, Bool.not_false, cond_false]
        have hp : pos x l ≤ (a + b) / 2 := by
          by_cases hh : pos x l ≤ (a + b) / 2
          · exact hh
          · rw [pos_lt hm (by omega)] at hs; cases hs
        exact ih a ((a + b) / 2) (by omega) h2 hp (by omega)
    · have e1 : ¬((a : Int) < (b : Int)) := by omega
      simp only [e1, decide_false, cond_false]
      rw [show a = pos x l by omega]
def foundB (l : List Item) (x : List UInt8) : Bool := match l[pos x l]? with
  | some y => decide (y.key = x)
  | none => false
theorem leaf_Find_is {n : Nat} {l : List Item} {x : List UInt8} (hr : KRise l) (hl : l.length < n) (hn : l.length ≤ 1000000000000000000) : leaf_Find n l x = some ((pos x l : Int), foundB l x) := by
  unfold leaf_Find leaf_Find_F
  rw [leaf_rising_is hr hl (by omega), bsome]
  have hs : sort_Search n l (l.length : Int) x = some ((pos x l : Int), x) := by
    unfold sort_Search sort_Search_F
    exact search_loop n l x hr hn n 0 l.length (by omega) (Nat.zero_le _) (pos_le x l) (Nat.le_refl _)
  simp only [cond_true]
  rw [hs, bsome]
  unfold leaf_Find_J7 leaf_Find_J7F leaf_Find_rt foundB
  have hp := pos_le x l
  by_cases h : pos x l < l.length
  · have e1 : ((pos x l : Int) < (l.length : Int)) := by omega
    simp only [e1, h, decide_true, cond_true, Int.natCast_nonneg, Int.toNat_natCast, Bool.and_self, getE h, bsome]
  · have e1 : ¬((pos x l : Int) < (l.length : Int)) := by omega
    have e2 : l[pos x l]? = none := List.getElem?_eq_none (by omega)
    simp only [e1, e2, decide_false, cond_false]
theorem pos_self {l : List Item} (hr : KRise l) {k : Nat} (hk : k < l.length) : pos l[k].key l = k := by
  have h1 : ¬ pos l[k].key l < k := fun h => by
    have h2 := pos_at (x := l[k].key) (l := l) (by omega)
    rw [krise_lt' hr h hk] at h2; cases h2
  have h3 : ¬ k < pos l[k].key l := fun h => by
    have h2 := pos_lt hk h
    rw [bl_irrefl] at h2; cases h2
  omega
theorem found_self {l : List Item} (hr : KRise l) {k : Nat} (hk : k < l.length) : foundB l l[k].key = true := by
  unfold foundB
  rw [pos_self hr hk, getE hk]
  simp
theorem found_iff {l : List Item} (hr : KRise l) {x : List UInt8} : foundB l x = true ↔ ∃ k, ∃ h : k < l.length, l[k].key = x := by
  constructor
  · intro h
    unfold foundB at h
    by_cases hp : pos x l < l.length
    · rw [getE hp] at h
      exact ⟨pos x l, hp, by simpa using h⟩
    · rw [List.getElem?_eq_none (by omega)] at h; cases h
  · rintro ⟨k, hk, rfl⟩
    exact found_self hr hk
/-- A key among the first ones. -/
def thereB (l : List Item) (x : List UInt8) (k : Nat) : Bool := (l.take k).any fun y => decide (y.key = x)
theorem there_succ {l : List Item} {x : List UInt8} {k : Nat} (hk : k < l.length) : thereB l x (k + 1) = (thereB l x k || decide (l[k].key = x)) := by
  unfold thereB
  rw [take_succ_at (getE hk), List.any_append]; simp
theorem finds_loop (n : Nat) (l : List Item) (x : List UInt8) (hr : KRise l) (hl : l.length < n) (hn : l.length ≤ 1000000000000000000) : ∀ (m k : Nat), l.length < m + k → k ≤ l.length → law08_LeafFinds_L12 n l m x (pos x l : Int) (foundB l x) (thereB l x k) (k : Int) = some true := by
  intro m
  induction m with
  | zero => intro k h1 h2; omega
  | succ m ih =>
    intro k h1 h2
    unfold law08_LeafFinds_L12 law08_LeafFinds_L12F law08_LeafFinds_rt
    by_cases hk : k < l.length
    · have e1 : ((k : Int) < (l.length : Int)) := by omega
      simp only [e1, hk, decide_true, cond_true, Int.natCast_nonneg, Int.toNat_natCast, Bool.and_self, getE hk, bsome]
      rw [leaf_Find_is hr hl hn, bsome, pos_self hr hk, found_self hr hk]
      simp only [ne_eq, not_true_eq_false, decide_false, cond_false, Bool.not_true]
      have e2 : decide ((k : Int) < (pos x l : Int)) = sLt l[k].key x := by
        by_cases h : k < pos x l
        · rw [pos_lt hk h, decide_eq_true (by omega)]
        · rw [pos_ge hr hk (by omega), decide_eq_false (by omega)]
      have e3 : (!decide ((k : Int) < (pos x l : Int)) == sLt l[k].key x) = false := by
        rw [e2]; cases sLt l[k].key x <;> rfl
      rw [e3]
      simp only [cond_false]
      have e4 : thereB l x (k + 1) = (thereB l x k || decide (l[k].key = x)) := there_succ hk
      have := ih (k + 1) (by omega) (by omega)
      unfold law08_LeafFinds_J17 law08_LeafFinds_J17F
      rw [w64_id (by omega) (by omega)]
      cases ht : thereB l x k
      · simp only [cond_false, hk, decide_true, cond_true, Int.natCast_nonneg, Int.toNat_natCast, Bool.and_self, getE hk, bsome]
        rw [ht, Bool.false_or] at e4
        rw [← e4]
        exact this
      · rw [ht, Bool.true_or] at e4
        rw [e4] at this
        exact this
    · have e1 : ¬((k : Int) < (l.length : Int)) := by omega
      simp only [e1, decide_false, cond_false]
      have e2 : thereB l x k = foundB l x := by
        unfold thereB
        rw [List.take_of_length_le (by omega), Bool.eq_iff_iff, found_iff hr, List.any_eq_true]
        constructor
        · rintro ⟨y, hy, he⟩
          obtain ⟨i, hi, rfl⟩ := List.getElem_of_mem hy
          exact ⟨i, hi, by simpa using he⟩
        · rintro ⟨i, hi, he⟩
          exact ⟨l[i], List.getElem_mem hi, by simpa using he⟩
      rw [e2]
      simp
theorem leafFinds_m (l : List Item) (s : Int) (x : List UInt8) (hl : ∀ y ∈ l, y.key.length + y.value.length ≤ 300000000000000) (hn : l.length ≤ 140737488351232) : law08_LeafFinds (l.length + 10000) l s x = some true := by
  unfold law08_LeafFinds law08_LeafFinds_F law08_LeafFinds_rt
  rw [finds_lives, bsome]
  simp only [Bool.not_true, cond_false]
  rw [leaf_Page_is (by omega) (by omega) (by omega) (fun hm => by have := lsz_may hm; omega), bsome, light_is hl (by omega), bsome]
  cases h1 : lightB l
  · rfl
  by_cases h2 : lpgE s 2 0 l = 0
  · have hr := krise_of (may_of h2)
    have e2 : ((lpgE s 2 0 l : Nat) : Int) = 0 := by omega
    simp only [Bool.not_true, cond_false, e2, ne_eq, not_true_eq_false, decide_false]
    by_cases h3 : (200 : Int) < (x.length : Int)
    · simp only [h3, decide_true, cond_true]
    · simp only [h3, decide_false, cond_false]
      unfold law08_LeafFinds_J7 law08_LeafFinds_J7F
      rw [leaf_Find_is hr (by omega) (by omega), bsome]
      have hp := pos_le x l
      have g1 : ¬((pos x l : Int) < 0) := by omega
      have g2 : ¬((l.length : Int) < (pos x l : Int)) := by omega
      simp only [g1, g2, decide_false, cond_false, law08_LeafFinds_rt]
      unfold law08_LeafFinds_J10 law08_LeafFinds_J10F
      exact finds_loop (l.length + 10000) l x hr (by omega) (by omega) (l.length + 10000) 0 (by omega) (Nat.zero_le _)
  · have e2 : ((lpgE s 2 0 l : Nat) : Int) ≠ 0 := by omega
    simp only [Bool.not_true, cond_false, e2, ne_eq, not_false_eq_true, decide_true, cond_true]
end Go.Ev
end
section
set_option linter.unusedVariables false
set_option linter.unusedSimpArgs false
namespace Go.Ev
open Go.RowKit
theorem take_is (n : Nat) (l : List UInt8) (k : Nat) : octet_Reader_take n (k : Int) l = some (takeV l k, (takeE l k : Int), takeR l k) := by
  unfold octet_Reader_take octet_Reader_take_F octet_Reader_take_rt takeV takeE takeR
  by_cases h : k ≤ l.length
  · have e1 : ¬((l.length : Int) < (k : Int)) := by omega
    simp [e1, h]
  · have e1 : ((l.length : Int) < (k : Int)) := by omega
    simp [e1, h]
theorem Bytes_is (n : Nat) (l : List UInt8) (k : Nat) : octet_Reader_Bytes n (k : Int) l = some (takeV l k, (takeE l k : Int), takeR l k) := by
  unfold octet_Reader_Bytes octet_Reader_Bytes_F octet_Reader_Bytes_rt
  have e1 : ¬((k : Int) < 0) := by omega
  simp only [e1, decide_false, cond_false]
  rw [take_is]; rfl
theorem Number_loop (n : Nat) (v r : List UInt8) (e : Int) (hv : v.length ≤ 8) : ∀ (m i : Nat), v.length < m + i → i ≤ v.length → octet_Reader_Number_L8 n m (ofLe (v.take i)) e v (v.length : Int) (i : Int) r = some (ofLe v, e, r) := by
  intro m
  induction m with
  | zero => intro i h1 h2; omega
  | succ m ih =>
    intro i h1 h2
    unfold octet_Reader_Number_L8 octet_Reader_Number_L8F octet_Reader_Number_rt
    by_cases hi : i < v.length
    · have hx := getE hi
      have e1 : ((i : Int) < (v.length : Int)) := by omega
      simp only [e1, decide_true, cond_true, Int.natCast_nonneg, Int.toNat_natCast, hx, bsome]
      rw [w64_id (n := 8 * (i : Int)) (by omega) (by omega)]
      have e2 : Int.toNat (8 * (i : Int)) = 8 * i := by omega
      have e3 : (0 : Int) ≤ 8 * (i : Int) := by omega
      have e4 : Nat.ble (8 * i) 64 = true := ble_of (by omega)
      rw [e2, w64_id (by omega) (by omega)]
      simp only [e3, e4, decide_true, cond_true, Bool.and_self]
      have h5 := ofLe_or hx (by omega)
      have h6 : (ofLe (v.take i) % 18446744073709551616 ||| v[i].toNat * 2 ^ (8 * i) % 18446744073709551616 % 18446744073709551616) % 18446744073709551616 = ofLe (v.take (i + 1)) := by
        have h7 := congrArg Int.toNat h5
        rw [Int.toNat_natCast] at h7
        rw [← h7, Nat.mod_mod]
        show _ = Int.toNat (IntKind.u64.wrap _)
        rw [u64_cast]
        rw [Int.toNat_natCast]
        have h8 : ∀ q : Nat, u64 (q : Int) = q % 18446744073709551616 := fun q => by
          unfold u64
          simp [IntKind.wrap, IntKind.signed, IntKind.bits]
          omega
        rw [h8]; rfl
      rw [h6]
      exact ih (i + 1) (by omega) (by omega)
    · have e1 : ¬((i : Int) < (v.length : Int)) := by omega
      simp only [e1, decide_false, cond_false]
      rw [List.take_of_length_le (by omega)]
theorem Number_is {n : Nat} {l : List UInt8} {k : Nat} (hn : 9 ≤ n) (h1 : 1 ≤ k) (h8 : k ≤ 8) : octet_Reader_Number n (k : Int) l = some (numV l k, (takeE l k : Int), takeR l k) := by
  unfold octet_Reader_Number octet_Reader_Number_F octet_Reader_Number_rt
  have e1 : ¬((k : Int) < 1) := by omega
  have e2 : ¬((8 : Int) < (k : Int)) := by omega
  simp only [e1, e2, decide_false, cond_false, octet_Reader_Number_J6, octet_Reader_Number_J6F]
  rw [take_is, bsome]
  have hv := takeV_length (l := l) (k := k)
  exact Number_loop n (takeV l k) (takeR l k) (takeE l k : Int) (by omega) n 0 (by omega) (by omega)
theorem item_is {n : Nat} (hn : 9 ≤ n) (l : List UInt8) : leaf_item n l = some ((itemP l).1, ((itemP l).2.1 : Int), (itemP l).2.2) := by
  have num1 : ∀ r, octet_Reader_Number n 1 r = some (numV r 1, (takeE r 1 : Int), takeR r 1) := fun r => Number_is (k := 1) hn (by omega) (by omega)
  have num4 : ∀ r, octet_Reader_Number n 4 r = some (numV r 4, (takeE r 4 : Int), takeR r 4) := fun r => Number_is (k := 4) hn (by omega) (by omega)
  have w1 : ∀ r, w64 ((numV r 1 : Nat) : Int) = ((numV r 1 : Nat) : Int) := fun r => i64_num (k := 1) (by omega)
  have w4 : ∀ r, w64 ((numV r 4 : Nat) : Int) = ((numV r 4 : Nat) : Int) := fun r => i64_num (k := 4) (by omega)
  have u4 : ∀ r, numV r 4 % 4294967296 = numV r 4 := fun r => Nat.mod_eq_of_lt (by have := numV_lt (l := r) (k := 4); omega)
  have cz : ∀ k : Nat, decide ((k : Int) ≠ 0) = decide (k ≠ 0) := fun k => decide_eq_decide.2 (by omega)
  have t1 : Int.toNat 1 = 1 := rfl
  unfold leaf_item leaf_item_F leaf_item_rt itemP
  simp only [num1, num4, bsome, cz, t1, leaf_item_J6, leaf_item_J6F, leaf_item_rt, w1, w4, u4, Bytes_is, numV_le1]
  by_cases h1 : takeE (takeR l 1) 1 ≠ 0
  · simp only [h1, decide_true, cond_true, true_or, if_true, ne_eq, not_false_eq_true]; all_goals first | rfl | skip
  · by_cases h2 : 1 < numV l 1
    · simp only [h1, h2, decide_true, decide_false, cond_true, cond_false, or_true, if_true]; all_goals first | rfl | skip
    · simp only [h1, h2, decide_true, decide_false, cond_true, cond_false, or_self, if_false]
      by_cases h3 : takeE (takeR (takeR l 1) 1) (numV (takeR l 1) 1) ≠ 0
      · simp only [h3, decide_true, cond_true, if_true, ne_eq, not_false_eq_true]
      · simp only [h3, decide_false, cond_false, if_false]
        by_cases h4 : numV l 1 = 1
        · simp only [h4, decide_true, cond_true, if_true]; all_goals first | rfl | skip
        · simp only [h4, decide_false, cond_false, if_false]
          by_cases h5 : takeE (takeR (takeR (takeR l 1) 1) (numV (takeR l 1) 1)) 1 ≠ 0
          · simp only [h5, decide_true, cond_true, if_true, ne_eq, not_false_eq_true]; all_goals first | rfl | skip
          · simp only [h5, decide_false, cond_false, if_false]; all_goals first | rfl | skip
theorem each_loop {n : Nat} (hn : 9 ≤ n) (c : Int) : ∀ (m i : Nat) (r : List UInt8) (acc : List Item), r.length < m → acc.length = i → acc.length + r.length ≤ 90000000 → leaf_each_api_Item_L3 n m c (i : Int) acc r = some (((eachR (c.toNat - i) r acc).2.1 : Int), (eachR (c.toNat - i) r acc).1, (eachR (c.toNat - i) r acc).2.2) := by
  intro m
  induction m with
  | zero => intro i r acc h1 h2; omega
  | succ m ih =>
    intro i r acc h1 h2 h3
    unfold leaf_each_api_Item_L3 leaf_each_api_Item_L3F leaf_each_api_Item_rt
    by_cases hi : (i : Int) < c
    · have e2 : c.toNat - i = (c.toNat - (i + 1)) + 1 := by omega
      have e3 : leaf_Of_1 n r = some ((itemP r).1, ((itemP r).2.1 : Int), (itemP r).2.2) := by
        unfold leaf_Of_1 leaf_Of_1_F leaf_Of_1_rt; rw [item_is hn]; rfl
      simp only [hi, decide_true, cond_true, e3, bsome]
      rw [e2, eachR]
      by_cases h0 : (itemP r).2.1 = 0
      · have e4 := itemP_two h0
        have e5 : Nat.ble (acc.length + [(itemP r).1].length) 100000000 = true := ble_of (by simp; omega)
        rw [if_pos h0]
        have e6 : decide (((itemP r).2.1 : Int) ≠ 0) = false := decide_eq_false (by omega)
        rw [e6, cond_false]
        show (bif Nat.ble (acc.length + [(itemP r).1].length) 100000000 then _ else _) = _
        rw [e5, cond_true, w64_id (by omega) (by omega)]
        exact ih (i + 1) _ _ (by omega) (by simp; omega) (by simp; omega)
      · rw [if_neg h0]
        have e6 : decide (((itemP r).2.1 : Int) ≠ 0) = true := decide_eq_true (by omega)
        rw [e6, cond_true]
    · simp only [hi, decide_false, cond_false]
      rw [show c.toNat - i = 0 by omega, eachR]
      rfl
theorem each_is {n : Nat} {c : Int} {l : List UInt8} (hn : 9 ≤ n) (hl : l.length < n) (h2 : l.length ≤ 90000000) : leaf_each_api_Item n c l = some (((eachP c l).2.1 : Int), (eachP c l).1, (eachP c l).2.2) := by
  exact each_loop hn c n 0 l [] hl rfl (by simpa using h2)
theorem leaf_Of_is {n : Nat} {p : Pg} (hn : 9 ≤ n) (hl : p.body.length < n) (hn2 : n ≤ 80000000) : leaf_Of n p = some (((ofP p).2 : Int), (ofP p).1) := by
  unfold leaf_Of leaf_Of_F leaf_Of_rt ofP
  rw [each_is hn hl (by omega), bsome]
  by_cases h1 : (eachP p.count p.body).2.1 ≠ 0
  · have e1 : decide (((eachP p.count p.body).2.1 : Int) ≠ 0) = true := decide_eq_true (by omega)
    simp only [e1, cond_true, if_pos h1]; rfl
  · have e1 : decide (((eachP p.count p.body).2.1 : Int) ≠ 0) = false := decide_eq_false (by omega)
    have hlen := eachP_len p.count p.body
    simp only [e1, cond_false, if_neg h1]
    rw [w64_id (by omega) (by omega), leaf_Page_is hn (by omega) (by omega) (fun hm => by have := lsz_may hm; omega), bsome]
    have e9 : ((p.body.length : Int) + 24) = ((p.body.length + 24 : Nat) : Int) := by omega
    rw [e9]
    generalize hg : (eachP p.count p.body).1 = l
    by_cases h2 : lpgE ((p.body.length + 24 : Nat) : Int) p.page p.tx l ≠ 0
    · have e2 : decide ((lpgE ((p.body.length + 24 : Nat) : Int) p.page p.tx l : Int) ≠ 0) = true := decide_eq_true (by omega)
      rw [if_pos (.inl h2)]
      simp only [e2, cond_true]; rfl
    · have e2 : decide ((lpgE ((p.body.length + 24 : Nat) : Int) p.page p.tx l : Int) ≠ 0) = false := decide_eq_false (by omega)
      simp only [e2, cond_false]
      have e3 : ∀ q r : Pg, (decide (q.kind = r.kind) && (decide (q.count = r.count) && (decide (q.page = r.page) && (decide (q.link = r.link) && (decide (q.tx = r.tx) && (decide (q.body = r.body) && true)))))) = decide (q = r) := fun q r => by
        cases q; cases r
        rw [Bool.eq_iff_iff]
        simp only [Bool.and_eq_true, decide_eq_true_eq, Pg.mk.injEq, and_true]
      rw [e3]
      by_cases h3 : lpg ((p.body.length + 24 : Nat) : Int) p.page p.tx l = p
      · rw [if_neg (fun h => h.elim h2 (fun h => h h3)), decide_eq_true h3]; rfl
      · rw [if_pos (.inr h3), decide_eq_false h3]; rfl
theorem same_loop (n : Nat) (a b : List Item) (hl : a.length = b.length) (hl2 : a.length ≤ 1000000000000) : ∀ (m i : Nat), a.length < m + i → i ≤ a.length → a.take i = b.take i → kit_Same_api_Item_L5 n a b m (i : Int) = some (decide (a = b)) := by
  intro m
  induction m with
  | zero => intro i h1 h2; omega
  | succ m ih =>
    intro i h1 h2 h3
    unfold kit_Same_api_Item_L5 kit_Same_api_Item_L5F kit_Same_api_Item_rt
    by_cases hi : i < a.length
    · have hib : i < b.length := by omega
      have hx := getE hi
      have hy := getE hib
      have e1 : ((i : Int) < (a.length : Int)) := by omega
      simp only [e1, decide_true, cond_true, Int.natCast_nonneg, Int.toNat_natCast, hi, hib, Bool.and_self, hx, hy, bsome]
      have e3 : ∀ q r : Item, (decide (q.key = r.key) && (decide (q.value = r.value) && (q.over == r.over && (decide (q.len = r.len) && (decide (q.head = r.head) && true))))) = decide (q = r) := fun q r => by
        cases q; cases r
        rw [Bool.eq_iff_iff]
        simp only [Bool.and_eq_true, decide_eq_true_eq, Item.mk.injEq, and_true, beq_iff_eq]
      rw [e3]
      by_cases h4 : a[i] = b[i]
      · rw [decide_eq_true h4, Bool.not_true, cond_false, w64_id (by omega) (by omega)]
        exact ih (i + 1) (by omega) (by omega) (take_eq_succ h3 hx (by rw [hy, h4]))
      · rw [decide_eq_false h4, Bool.not_false, cond_true, same_ne hx hy h4]
    · have e1 : ¬((i : Int) < (a.length : Int)) := by omega
      simp only [e1, decide_false, cond_false]
      rw [show i = a.length by omega] at h3
      rw [same_end h3 hl]
theorem Same_is {n : Nat} {a b : List Item} (hn : a.length < n) (h2 : a.length ≤ 1000000000) : kit_Same_api_Item n a b = some (decide (a = b)) := by
  unfold kit_Same_api_Item kit_Same_api_Item_F kit_Same_api_Item_rt
  by_cases h : a.length = b.length
  · have e1 : ¬((a.length : Int) ≠ (b.length : Int)) := by omega
    simp only [e1, decide_false, cond_false]
    exact same_loop n a b h (by omega) n 0 (by omega) (by omega) rfl
  · have e1 : ((a.length : Int) ≠ (b.length : Int)) := by omega
    simp only [e1, decide_true, cond_true, ne_eq, not_false_eq_true]
    rw [same_len h]
end Go.Ev
end
section
set_option linter.unusedVariables false
set_option linter.unusedSimpArgs false
namespace Go.Ev
open Go.RowKit
theorem ref01_loop (n : Nat) (b l : List UInt8) (a k : Nat) (hk : k ≤ 8) (hl : l.length ≤ 90000000) : ∀ (m i : Nat), k < m + i → i ≤ k → ref01_Put_L6 n b m a (k : Int) (i : Int) (l ++ le a i) = some (l ++ le a k) := by
  intro m
  induction m with
  | zero => intro i h1 h2; omega
  | succ m ih =>
    intro i h1 h2
    unfold ref01_Put_L6 ref01_Put_L6F ref01_Put_rt
    by_cases hi : i < k
    · have e1 : ((i : Int) < (k : Int)) := by omega
      have e2 : u64 (w64 (8 * (i : Int))) = 8 * i := by
        rw [w64_id (by omega) (by omega), show (8 * (i : Int)) = ((8 * i : Nat) : Int) by omega, u64_of (by omega)]
      have e4 : Nat.ble (8 * i) 64 = true := ble_of (by omega)
      have e5 : Nat.ble ((l ++ le a i).length + [UInt8.ofNat (a / 2 ^ (8 * i))].length) 100000000 = true := ble_of (by simp [le_length]; omega)
      simp only [e1, e2, e4, e5, decide_true, cond_true, Bool.true_and]
      rw [w64_id (by omega) (by omega), List.append_assoc, ← le_succ]
      exact ih (i + 1) (by omega) (by omega)
    · have e1 : ¬((i : Int) < (k : Int)) := by omega
      simp only [e1, decide_false, cond_false]
      rw [show i = k by omega]
theorem ref01_Put_is {n : Nat} {l : List UInt8} {a k : Nat} (hn : 9 ≤ n) (hk : 1 ≤ k) (hk8 : k ≤ 8) (hl : l.length ≤ 90000000) : ref01_Put n l a (k : Int) = some (l ++ le a k) := by
  unfold ref01_Put ref01_Put_F ref01_Put_rt
  have e4 : Nat.ble (0 + l.length) 100000000 = true := ble_of (by omega)
  have e5 : ¬((k : Int) < 1) := by omega
  have e6 : ¬((8 : Int) < (k : Int)) := by omega
  simp only [e4, e5, e6, decide_false, cond_true, cond_false]
  have := ref01_loop n ([] ++ l) ([] ++ l) a k hk8 (by simpa using hl) n 0 (by omega) (by omega)
  simpa [ref01_Put_J5, ref01_Put_J5F, le] using this
theorem rPut4 {n : Nat} {l : List UInt8} {a : Nat} (hn : 9 ≤ n) (hl : l.length ≤ 90000000) : ref01_Put n l a 4 = some (l ++ le a 4) := ref01_Put_is (k := 4) hn (by omega) (by omega) hl
theorem rPut1 {n : Nat} {l : List UInt8} {a : Nat} (hn : 9 ≤ n) (hl : l.length ≤ 90000000) : ref01_Put n l a 1 = some (l ++ le a 1) := ref01_Put_is (k := 1) hn (by omega) (by omega) hl
theorem rPut2 {n : Nat} {l : List UInt8} {a : Nat} (hn : 9 ≤ n) (hl : l.length ≤ 90000000) : ref01_Put n l a 2 = some (l ++ le a 2) := ref01_Put_is (k := 2) hn (by omega) (by omega) hl
theorem rPut8 {n : Nat} {l : List UInt8} {a : Nat} (hn : 9 ≤ n) (hl : l.length ≤ 90000000) : ref01_Put n l a 8 = some (l ++ le a 8) := ref01_Put_is (k := 8) hn (by omega) (by omega) hl
theorem ref03_Good_is (n : Nat) (s : Int) : ref03_Good n s = some (goodB s) := by
  unfold ref03_Good ref03_Good_F goodB ref03_Good_rt
  by_cases h1 : 128 ≤ s <;> by_cases h2 : s ≤ 4096 <;> simp [h1, h2]
theorem ref04_Room_is (n : Nat) (s : Int) : ref04_Room n s = some (room s : Int) := by
  unfold ref04_Room ref04_Room_F ref04_Room_rt
  rw [ref03_Good_is, bsome]
  cases h : goodB s
  · rw [room_bad h]; rfl
  · obtain ⟨g1, g2, g3⟩ := goodB_le h
    have g4 : ((room s : Nat) : Int) = s - 24 := by omega
    rw [g4]
    simp only [Bool.not_true, cond_false]
    rw [w64_id (by omega) (by omega)]
theorem ref04_Body_is {n : Nat} {b : List UInt8} {s : Int} (hb : b.length ≤ 80000000) : ref04_Body n b s = some (bodyS s b, (bodyE s b : Int)) := by
  unfold ref04_Body ref04_Body_F ref04_Body_rt
  rw [ref03_Good_is, bsome, ref04_Room_is]
  cases h : goodB s
  · obtain ⟨h1, h2⟩ := body_bad (l := b) h
    rw [h1, h2]; rfl
  · have hr := room_le s
    simp only [Bool.not_true, cond_false, bsome]
    by_cases h2 : room s < b.length
    · obtain ⟨h3, h4⟩ := body_long h h2
      have : ((room s : Int) < (b.length : Int)) := by omega
      rw [h3, h4]; simp only [this, decide_true, cond_true]; rfl
    · have h5 : b.length ≤ room s := by omega
      obtain ⟨h3, h4⟩ := body_ok h h5
      have : ¬((room s : Int) < (b.length : Int)) := by omega
      have e0 : w64 ((room s : Int) - (b.length : Int)) = ((room s - b.length : Nat) : Int) := by rw [w64_id (by omega) (by omega)]; omega
      have e1 : Nat.ble (room s - b.length) (room s - b.length) = true := ble_of (Nat.le_refl _)
      have e2 : Nat.ble (room s - b.length) 100000000 = true := ble_of (by omega)
      have e3 : b.length + (List.replicate (room s - b.length) (UInt8.ofNat 0)).length ≤ 4611686018427387904 := by rw [List.length_replicate]; omega
      rw [h3, h4]
      simp only [this, e0, e1, e2, e3, decide_false, decide_true, cond_false, cond_true, Int.natCast_nonneg, Int.toNat_natCast, Bool.and_self]
      rfl
theorem rNum_loop (n : Nat) (l : List UInt8) (k : Nat) (hk : k ≤ 8) (hl : k ≤ l.length) : ∀ (m i : Nat), k < m + i → i ≤ k → ref01_Reader_Number_L8 n m (k : Int) (ofLe (l.take i)) (i : Int) l = some (ofLe (l.take k), 0, l.drop k) := by
  intro m
  induction m with
  | zero => intro i h1 h2; omega
  | succ m ih =>
    intro i h1 h2
    unfold ref01_Reader_Number_L8 ref01_Reader_Number_L8F ref01_Reader_Number_rt
    by_cases hi : i < k
    · have hx := getE (l := l) (i := i) (by omega)
      have e1 : ((i : Int) < (k : Int)) := by omega
      simp only [e1, decide_true, cond_true, Int.natCast_nonneg, Int.toNat_natCast, hx, bsome]
      rw [w64_id (n := 8 * (i : Int)) (by omega) (by omega)]
      have e2 : u64 (8 * (i : Int)) = 8 * i := by rw [show 8 * (i : Int) = ((8 * i : Nat) : Int) by omega, u64_of (by omega)]
      have e4 : Nat.ble (8 * i) 64 = true := ble_of (by omega)
      rw [e2, w64_id (by omega) (by omega)]
      simp only [e4, cond_true, Bool.and_self]
      have h5 := ofLe_or hx (by omega)
      have h6 : (ofLe (l.take i) % 18446744073709551616 ||| l[i].toNat * 2 ^ (8 * i) % 18446744073709551616 % 18446744073709551616) % 18446744073709551616 = ofLe (l.take (i + 1)) := by
        have h7 := congrArg Int.toNat h5
        rw [Int.toNat_natCast] at h7
        rw [← h7, Nat.mod_mod]
        show _ = Int.toNat (IntKind.u64.wrap _)
        rw [u64_cast]
        rw [Int.toNat_natCast]
        have h8 : ∀ q : Nat, u64 (q : Int) = q % 18446744073709551616 := fun q => by
          unfold u64
          simp [IntKind.wrap, IntKind.signed, IntKind.bits]
          omega
        rw [h8]; rfl
      rw [h6]
      exact ih (i + 1) (by omega) (by omega)
    · have e1 : ¬((i : Int) < (k : Int)) := by omega
      obtain rfl : i = k := by omega
      simp only [e1, decide_false, cond_false, Int.natCast_nonneg, Int.toNat_natCast, hl, decide_true, Bool.and_self, cond_true]
theorem rNumber_is {n : Nat} {l : List UInt8} {k : Nat} (hn : 9 ≤ n) (h1 : 1 ≤ k) (h8 : k ≤ 8) : ref01_Reader_Number n (k : Int) l = some (numV l k, (takeE l k : Int), takeR l k) := by
  unfold ref01_Reader_Number ref01_Reader_Number_F ref01_Reader_Number_rt
  have e1 : ¬((k : Int) < 1) := by omega
  have e2 : ¬((8 : Int) < (k : Int)) := by omega
  simp only [e1, e2, decide_false, cond_false, ref01_Reader_Number_J4, ref01_Reader_Number_J4F, ref01_Reader_Number_rt]
  unfold numV takeV takeE takeR
  by_cases h : k ≤ l.length
  · have e3 : ¬((l.length : Int) < (k : Int)) := by omega
    simp only [e3, decide_false, cond_false, h, if_true]
    exact rNum_loop n l k h8 h n 0 (by omega) (by omega)
  · have e3 : ((l.length : Int) < (k : Int)) := by omega
    simp only [e3, decide_true, cond_true, h, if_false]
    rfl
theorem ref04_Number_is (n a : Nat) : ref04_Number n a = some (numB a) := by
  unfold ref04_Number ref04_Number_F numB ref04_Number_rt
  by_cases h1 : 2 ≤ a
  · simp [h1]
  · simp [h1]
theorem ref08_may_is (n : Nat) (x : Item) : ref08_may n x = some (vmayB x) := by
  unfold ref08_may ref08_may_F ref08_may_rt vmayB keyB
  rw [ref04_Number_is]
  by_cases h1 : x.key.length ≤ 40
  · have h1' : ((x.key.length : Int) ≤ 40) := by omega
    cases hx : x.over
    · by_cases h2 : x.value.length ≤ 255
      · have h2' : ((x.value.length : Int) ≤ 255) := by omega
        by_cases h3 : x.len = 0 <;> simp [h1, h1', h2, h2', h3]
      · have h2' : ¬((x.value.length : Int) ≤ 255) := by omega
        simp [h1, h1', h2, h2']
    · by_cases h2 : x.value = [] <;> by_cases h3 : 1 ≤ x.len <;> by_cases h4 : x.len ≤ 4096 <;> simp [h1, h1', h2, h3, h4, bsome]
  · have h1' : ¬((x.key.length : Int) ≤ 40) := by omega
    cases hx : x.over <;> simp [h1, h1']
theorem ref08_One_is (n : Nat) (x : Item) (h : x.key.length + x.value.length ≤ 4000000) : ref08_One n x = some (isz x : Int) := by
  unfold ref08_One ref08_One_F ref08_One_rt isz vsz
  cases hx : x.over
  · simp only [cond_false]
    rw [w64_id (n := 3 + (x.key.length : Int)) (by omega) (by omega), w64_id (by omega) (by omega)]
    refine congrArg some ?_
    simp; show (_ : Int) = _; omega
  · simp only [cond_true]
    rw [w64_id (by omega) (by omega)]
    refine congrArg some ?_
    simp; show (_ : Int) = _; omega
theorem ref08_Size_loop (n : Nat) (l : List Item) (hs : ∀ x ∈ l, x.key.length + x.value.length ≤ 4000000) (hl : l.length ≤ 1000000000) (hz : lsz l ≤ 4000000000000000000) : ∀ (m i : Nat), l.length < m + i → i ≤ l.length → ref08_Size_L4 n l m (lsz (l.take i) : Int) (i : Int) = some (lsz l : Int) := by
  intro m
  induction m with
  | zero => intro i h1 h2; omega
  | succ m ih =>
    intro i h1 h2
    unfold ref08_Size_L4 ref08_Size_L4F ref08_Size_rt
    by_cases hi : i < l.length
    · have hx := getE hi
      have hm := hs _ (List.getElem_mem hi)
      have e1 : ((i : Int) < (l.length : Int)) := by omega
      have h5 := lsz_succ hx
      have h6 := lsz_take_le l (i + 1)
      have h7 := vsz_le l[i]
      simp only [e1, decide_true, cond_true, Int.natCast_nonneg, Int.toNat_natCast, hi, Bool.and_self, hx, bsome]
      have e0 : Item.mk l[i].key l[i].value l[i].over l[i].len l[i].head = l[i] := rfl
      rw [e0, ref08_One_is n _ hm, bsome]
      have e8 : isz l[i] = 2 + l[i].key.length + vsz l[i] := rfl
      rw [w64_id (by omega) (by omega), w64_id (by omega) (by omega)]
      have := ih (i + 1) (by omega) (by omega)
      rw [h5] at this
      rw [← this]
      exact congrArg (fun z => ref08_Size_L4 n l m z _) (by omega)
    · have e1 : ¬((i : Int) < (l.length : Int)) := by omega
      simp only [e1, decide_false, cond_false]
      rw [List.take_of_length_le (by omega)]
theorem ref08_Size_is {n : Nat} {l : List Item} (hs : ∀ x ∈ l, x.key.length + x.value.length ≤ 4000000) (hl : l.length < n) (hn : n ≤ 1000000000) (hz : lsz l ≤ 4000000000000000000) : ref08_Size n l = some (lsz l : Int) := by
  have := ref08_Size_loop n l hs (by omega) hz n 0 (by omega) (by omega)
  exact this
theorem ref08_May_loop (n : Nat) (l : List Item) (hl : l.length ≤ 1000000000) : ∀ (m i : Nat), l.length < m + i → i ≤ l.length → (∀ j, j < i → okAt l j = true) → ref08_May_L3 n l m (i : Int) = some (lmayB l) := by
  intro m
  induction m with
  | zero => intro i h1 h2; omega
  | succ m ih =>
    intro i h1 h2 hok
    unfold ref08_May_L3 ref08_May_L3F ref08_May_rt
    by_cases hi : i < l.length
    · have hx := getE hi
      have e1 : ((i : Int) < (l.length : Int)) := by omega
      have e0 : Item.mk l[i].key l[i].value l[i].over l[i].len l[i].head = l[i] := rfl
      simp only [e1, decide_true, cond_true, Int.natCast_nonneg, Int.toNat_natCast, hi, Bool.and_self, hx, bsome]
      rw [e0, ref08_may_is, bsome]
      cases hv : vmayB l[i]
      · simp only [Bool.not_false, cond_true]
        rw [lmay_bad hi (by unfold okAt; rw [hx]; simp [hv])]
      · simp only [Bool.not_true, cond_false]
        by_cases h0 : i = 0
        · subst h0
          simp only [Int.natCast_zero, Int.lt_irrefl, decide_false, cond_false]
          exact ih 1 (by omega) (by omega) (all_succ hok (by unfold okAt; rw [hx]; simp [hv]))
        · have e2 : (0 : Int) < (i : Int) := by omega
          have e3 : ((i : Int) - 1) = ((i - 1 : Nat) : Int) := by omega
          rw [w64_id (n := (i : Int) - 1) (by omega) (by omega), e3]
          have hy := getE (l := l) (i := i - 1) (by omega)
          have e4 : i - 1 < l.length := by omega
          simp only [e2, e4, decide_true, cond_true, Int.natCast_nonneg, Int.toNat_natCast, Bool.and_self, hy, bsome]
          cases hs : sLt l[i - 1].key l[i].key
          · simp only [Bool.not_false, cond_true]
            rw [lmay_bad hi (by unfold okAt; rw [hx]; simp [hv, h0, hy, hs])]
          · simp only [Bool.not_true, cond_false]
            rw [w64_id (by omega) (by omega)]
            exact ih (i + 1) (by omega) (by omega) (all_succ hok (by unfold okAt; rw [hx]; simp [hv, h0, hy, hs]))
    · have e1 : ¬((i : Int) < (l.length : Int)) := by omega
      simp only [e1, decide_false, cond_false]
      rw [lmay_end (fun j hj => hok j (by omega))]
      exact congrArg some (decide_eq_decide.2 (by omega))
theorem ref08_May_is {n : Nat} {l : List Item} (hl : l.length < n) (hn : n ≤ 1000000000) : ref08_May n l = some (lmayB l) :=
  ref08_May_loop n l (by omega) n 0 (by omega) (by omega) (fun j hj => by omega)
theorem ref08_Page_loop {n : Nat} {l : List Item} {s : Int} {a tx : Nat} {p : Pg} (hn : 9 ≤ n) (hm : lmayB l = true) (hz : lsz l ≤ 4072) (hl : l.length ≤ 1000000000) : ∀ (m i : Nat), l.length < m + i → i ≤ l.length → ref08_Page_L6 n l m s a tx (i : Int) (lbytes (l.take i)) p = some (⟨4, (l.length : Int), a, 0, tx, bodyS s (lbytes l)⟩, 0) := by
  intro m
  induction m with
  | zero => intro i h1 h2; omega
  | succ m ih =>
    intro i h1 h2
    unfold ref08_Page_L6 ref08_Page_L6F ref08_Page_rt
    by_cases hi : i < l.length
    · have hx := getE hi
      have e1 : ((i : Int) < (l.length : Int)) := by omega
      have hv := lmay_at hm hx
      have hk := vmay_le hv
      have hb : (lbytes (l.take i)).length ≤ 4072 := by rw [lbytes_length]; exact Nat.le_trans (lsz_take_le l i) hz
      simp only [e1, decide_true, cond_true, Int.natCast_nonneg, Int.toNat_natCast, hi, Bool.and_self, hx, bsome]
      have key : ∀ ov : Nat, ov = (if l[i].over = true then 1 else 0) → ref08_Page_J11 n l (ref08_Page_L6 n l m) s a tx (i : Int) ov (lbytes (l.take i)) p = some (⟨4, (l.length : Int), a, 0, tx, bodyS s (lbytes l)⟩, 0) := by
        intro ov hov
        unfold ref08_Page_J11 ref08_Page_J11F
        rw [rPut1 hn (by omega), bsome]
        simp only [Int.natCast_nonneg, Int.toNat_natCast, hi, decide_true, Bool.and_self, cond_true, hx, bsome]
        rw [u64_of (n := l[i].key.length) (by omega), rPut1 hn (by simp [le_length]; omega), bsome]
        have g3 : Nat.ble (((lbytes (l.take i) ++ le ov 1) ++ le l[i].key.length 1).length + l[i].key.length) 100000000 = true := ble_of (by simp [le_length]; omega)
        rw [g3, cond_true]
        have hw : w64 ((i : Int) + 1) = ((i + 1 : Nat) : Int) := by rw [w64_id (by omega) (by omega)]; omega
        have g5 : ((((lbytes (l.take i) ++ le ov 1) ++ le l[i].key.length 1) ++ l[i].key) ++ vput l[i]) = lbytes (l.take (i + 1)) := by
          rw [lbytes_succ hx, hov]
          simp [ibytes]
        have ih1 := ih (i + 1) (by omega) (by omega)
        rw [hw]
        cases ho : l[i].over
        · simp only [cond_false]
          rw [u64_of (n := l[i].value.length) (by omega), rPut1 hn (by simp [le_length]; omega), bsome]
          have g6 : Nat.ble (((((lbytes (l.take i) ++ le ov 1) ++ le l[i].key.length 1) ++ l[i].key) ++ le l[i].value.length 1).length + l[i].value.length) 100000000 = true := ble_of (by simp [le_length]; omega)
          rw [g6, cond_true]
          have g7 : vput l[i] = le l[i].value.length 1 ++ l[i].value := by unfold vput; rw [ho]; rfl
          rw [g7, ← List.append_assoc] at g5
          rw [g5]
          exact ih1
        · simp only [cond_true]
          have hh := vmay_head hv ho
          rw [rPut4 hn (by simp [le_length]; omega), bsome, Nat.mod_eq_of_lt (show l[i].head < 18446744073709551616 by omega), rPut4 hn (by simp [le_length]; omega), bsome]
          have g7 : vput l[i] = le (u64 l[i].len) 4 ++ le l[i].head 4 := by unfold vput; rw [ho, if_pos rfl, u64_of (n := l[i].head) (by omega)]
          rw [g7, ← List.append_assoc] at g5
          rw [g5]
          exact ih1
      cases ho : l[i].over
      · exact key 0 (by rw [ho]; rfl)
      · exact key 1 (by rw [ho]; rfl)
    · have e1 : ¬((i : Int) < (l.length : Int)) := by omega
      simp only [e1, decide_false, cond_false]
      rw [List.take_of_length_le (by omega), ref04_Body_is (by rw [lbytes_length]; omega), bsome]
theorem ref08_Page_is {n : Nat} {l : List Item} {s : Int} {a tx : Nat} (hn : 9 ≤ n) (hl : l.length < n) (hn2 : n ≤ 1000000000) (hs : lmayB l = true → lsz l ≤ 4000000000000000000) : ref08_Page n l s a tx = some (lpg s a tx l, (lpgE s a tx l : Int)) := by
  unfold ref08_Page ref08_Page_F ref08_Page_rt
  have bad : lpgOk s a tx l = false → some ((⟨0, 0, 0, 0, 0, []⟩ : Pg), (2 : Int)) = some (lpg s a tx l, (lpgE s a tx l : Int)) := fun h => by
    rw [(lpg_bad h).1, (lpg_bad h).2]; rfl
  rw [ref03_Good_is, bsome]
  cases hg : goodB s
  · refine bad ?_
    cases h : lpgOk s a tx l
    · rfl
    · rw [lpgOk_good h] at hg; cases hg
  simp only [Bool.not_true, cond_false]
  rw [ref08_May_is hl hn2, bsome]
  cases hm : lmayB l
  · exact bad (by unfold lpgOk; rw [hm]; rfl)
  · simp only [Bool.not_true, cond_false]
    rw [ref08_Size_is (fun x hx => by have := lmay_sz hm x hx; omega) hl hn2 (hs hm), bsome, ref04_Room_is, bsome]
    by_cases h1 : lsz l ≤ room s
    · have e1 : ¬((room s : Int) < (lsz l : Int)) := by omega
      simp only [e1, decide_false, cond_false]
      rw [ref04_Number_is, bsome]
      cases h2 : numB a
      · exact bad (by unfold lpgOk; rw [hm, h2]; simp)
      · simp only [Bool.not_true, cond_false]
        by_cases h3 : 4611686018427387904 < tx
        · have : 4611686018427387904 < tx := h3
          simp only [this, decide_true, cond_true]
          exact bad (by unfold lpgOk; rw [decide_eq_false (by omega : ¬(tx ≤ 4611686018427387904))]; simp)
        · have : ¬(4611686018427387904 < tx) := h3
          simp only [this, decide_false, cond_false]
          have hr := room_le s
          have h4 : lpgOk s a tx l = true := lpgOk_iff.2 ⟨hm, h1, h2, by omega⟩
          rw [(lpg_ok h4).1, (lpg_ok h4).2]
          exact ref08_Page_loop hn hm (by omega) (by omega) n 0 (by omega) (by omega)
    · have e1 : ((room s : Int) < (lsz l : Int)) := by omega
      simp only [e1, decide_true, cond_true]
      exact bad (by unfold lpgOk; rw [decide_eq_false h1]; simp)
end Go.Ev
end
section
set_option linter.unusedVariables false
set_option linter.unusedSimpArgs false
namespace Go.Ev
open Go.RowKit
def KWeak (l : List Item) : Prop := ∀ i (h : i + 1 < l.length), sLt l[i + 1].key l[i].key = false
theorem kweak_le {l : List Item} (h : KWeak l) : ∀ (d i : Nat) (hd : i + d < l.length), sLt l[i + d].key l[i].key = false
  | 0, i, hd => bl_irrefl _
  | d + 1, i, hd => by
    have h1 := kweak_le h d i (by omega)
    have h2 := h (i + d) (by omega)
    cases e : sLt (l[i + (d + 1)]'hd).key l[i].key with
    | false => rfl
    | true =>
      have h3 := bl_of_le (a := l[i + d].key) (b := (l[i + d + 1]'(by omega)).key) (c := l[i].key) h2 e
      rw [h3] at h1; cases h1
theorem weak_ge {x : List UInt8} {l : List Item} (hr : KWeak l) {i : Nat} (h : i < l.length) (hi : pos x l ≤ i) : sLt l[i].key x = false := by
  have h1 := pos_at (x := x) (l := l) (by omega)
  have h2 := kweak_le hr (i - pos x l) (pos x l) (by omega)
  have e : pos x l + (i - pos x l) = i := by omega
  simp only [e] at h2
  cases e2 : sLt l[i].key x with
  | false => rfl
  | true =>
    have h3 := bl_of_le h2 e2
    rw [h3] at h1; cases h1
theorem sorted_ex (n : Nat) (l : List Item) (hl : l.length ≤ 4000000000000000000) : ∀ (m i : Nat), i < m → i < l.length ∨ i = 0 → ∃ b, sort_SliceIsSorted_L5 n l m (i : Int) = some b ∧ (b = true → ∀ j (hj : j + 1 < l.length), j + 1 ≤ i → sLt l[j + 1].key l[j].key = false) := by
  intro m
  induction m with
  | zero => intro i h; omega
  | succ m ih =>
    intro i h1 h2
    unfold sort_SliceIsSorted_L5 sort_SliceIsSorted_L5F sort_SliceIsSorted_rt
    cases i with
    | zero => exact ⟨true, by simp, fun _ j hj h => by omega⟩
    | succ i =>
      have h2 : i + 1 < l.length := by omega
      have e1 : (0 : Int) < ((i + 1 : Nat) : Int) := by omega
      have e3 : (((i + 1 : Nat) : Int) - 1) = (i : Int) := by omega
      simp only [e1, decide_true, cond_true]
      rw [e3, w64_id (n := (i : Int)) (by omega) (by omega), leaf_rising_1_is h2 (by omega), bsome]
      cases hs : sLt l[i + 1].key l[i].key with
      | true => exact ⟨false, rfl, fun h => by cases h⟩
      | false =>
        obtain ⟨b, hb, hw⟩ := ih i (by omega) (by omega)
        refine ⟨b, hb, fun h j hj hji => ?_⟩
        by_cases e : j = i
        · subst e; exact hs
        · exact hw h j hj (by omega)
theorem rising_ex {n : Nat} {l : List Item} (hl : l.length < n) (hn : l.length ≤ 4000000000000000000) : ∃ b, leaf_rising n l = some b ∧ (b = true → KWeak l) := by
  unfold leaf_rising leaf_rising_F leaf_rising_rt sort_SliceIsSorted sort_SliceIsSorted_F
  cases h : l.length with
  | zero =>
    have : l = [] := List.length_eq_zero_iff.1 h
    subst this
    refine ⟨true, ?_, fun _ i hi => absurd hi (by simp)⟩
    cases n with
    | zero => omega
    | succ n =>
      rw [w64_id (by omega) (by omega)]
      simp [sort_SliceIsSorted_L5, sort_SliceIsSorted_L5F, bsome]
  | succ k =>
    obtain ⟨b, hb, hw⟩ := sorted_ex n l hn n k (by omega) (by omega)
    refine ⟨b, ?_, fun e i hi => hw e i hi (by omega)⟩
    rw [show (((k + 1 : Nat) : Int) - 1) = (k : Int) by omega, w64_id (by omega) (by omega), hb]; rfl
theorem wsearch_loop (n : Nat) (l : List Item) (x : List UInt8) (hr : KWeak l) (hl : l.length ≤ 1000000000000000000) : ∀ (m a b : Nat), b - a < m → a ≤ pos x l → pos x l ≤ b → b ≤ l.length → sort_Search_L3 n l m (a : Int) (b : Int) x = some ((pos x l : Int), x) := by
  intro m
  induction m with
  | zero => intro a b h; omega
  | succ m ih =>
    intro a b h1 h2 h3 h4
    unfold sort_Search_L3 sort_Search_L3F sort_Search_rt
    by_cases hab : a < b
    · have e1 : ((a : Int) < (b : Int)) := by omega
      simp only [e1, decide_true, cond_true]
      rw [mid_is (by omega)]
      have hm : (a + b) / 2 < l.length := by omega
      rw [leaf_Find_1_is hm, bsome]
      by_cases hs : sLt l[(a + b) / 2].key x = true
      · simp only [hs, Bool.not_true, Bool.not_false, cond_true]
        rw [w64_id (by omega) (by omega)]
        have hp : (a + b) / 2 < pos x l := by
          by_cases hh : (a + b) / 2 < pos x l
          · exact hh
          · rw [weak_ge hr hm (by omega)] at hs; cases hs
        exact ih ((a + b) / 2 + 1) b (by omega) (by omega) h3 h4
      · have hs : sLt l[(a + b) / 2].key x = false := by simpa using hs
        simp only [hs, Bool.not_true, Bool.not_false, cond_false]
        have hp : pos x l ≤ (a + b) / 2 := by
          by_cases hh : pos x l ≤ (a + b) / 2
          · exact hh
          · rw [pos_lt hm (by omega)] at hs; cases hs
        exact ih a ((a + b) / 2) (by omega) h2 hp (by omega)
    · have e1 : ¬((a : Int) < (b : Int)) := by omega
      simp only [e1, decide_false, cond_false]
      rw [show a = pos x l by omega]
theorem J7_is {n : Nat} {l : List Item} {x : List UInt8} : leaf_Find_J7 n l (pos x l : Int) x = some ((pos x l : Int), foundB l x) := by
  unfold leaf_Find_J7 leaf_Find_J7F leaf_Find_rt foundB
  have hp := pos_le x l
  by_cases h : pos x l < l.length
  · have e1 : ((pos x l : Int) < (l.length : Int)) := by omega
    simp only [e1, h, decide_true, cond_true, Int.natCast_nonneg, Int.toNat_natCast, Bool.and_self, getE h, bsome]
  · have e1 : ¬((pos x l : Int) < (l.length : Int)) := by omega
    have e2 : l[pos x l]? = none := List.getElem?_eq_none (by omega)
    simp only [e1, e2, decide_false, cond_false]
theorem rJ5_is {n : Nat} {l : List Item} {x : List UInt8} : ref08_Find_J5 n l x (pos x l : Int) = some ((pos x l : Int), foundB l x) := by
  unfold ref08_Find_J5 ref08_Find_J5F ref08_Find_rt foundB
  have hp := pos_le x l
  by_cases h : pos x l < l.length
  · have e1 : ((pos x l : Int) < (l.length : Int)) := by omega
    simp only [e1, h, decide_true, cond_true, Int.natCast_nonneg, Int.toNat_natCast, Bool.and_self, getE h, bsome]
  · have e1 : ¬((pos x l : Int) < (l.length : Int)) := by omega
    have e2 : l[pos x l]? = none := List.getElem?_eq_none (by omega)
    simp only [e1, e2, decide_false, cond_false]
theorem lin_loop (n : Nat) (l : List Item) (x : List UInt8) (hl : l.length ≤ 1000000000000000000) : ∀ (m i : Nat), l.length < m + i → i ≤ pos x l → leaf_Find_L5 n l m (i : Int) x = some ((pos x l : Int), foundB l x) ∧ ref08_Find_L3 n l m x (i : Int) = some ((pos x l : Int), foundB l x) := by
  have hp := pos_le x l
  intro m
  induction m with
  | zero => intro i h1 h2; omega
  | succ m ih =>
    intro i h1 h2
    unfold leaf_Find_L5 leaf_Find_L5F ref08_Find_L3 ref08_Find_L3F
    by_cases hi : i < l.length
    · have e1 : ((i : Int) < (l.length : Int)) := by omega
      simp only [e1, hi, decide_true, cond_true, Int.natCast_nonneg, Int.toNat_natCast, Bool.and_self, getE hi, bsome]
      by_cases hlt : i < pos x l
      · rw [pos_lt hi hlt, cond_true, cond_true, w64_id (by omega) (by omega)]
        exact ih (i + 1) (by omega) (by omega)
      · obtain rfl : i = pos x l := by omega
        rw [pos_at hi, cond_false, cond_false]
        exact ⟨J7_is, rJ5_is⟩
    · have e1 : ¬((i : Int) < (l.length : Int)) := by omega
      obtain rfl : i = pos x l := by omega
      simp only [e1, decide_false, cond_false]
      exact ⟨J7_is, rJ5_is⟩
theorem Find_gen {n : Nat} {l : List Item} {x : List UInt8} (hl : l.length < n) (hn : l.length ≤ 1000000000000000000) : leaf_Find n l x = some ((pos x l : Int), foundB l x) ∧ ref08_Find n l x = some ((pos x l : Int), foundB l x) := by
  have hlin := lin_loop n l x hn n 0 (by omega) (Nat.zero_le _)
  refine ⟨?_, hlin.2⟩
  obtain ⟨b, hb, hw⟩ := rising_ex hl (by omega)
  unfold leaf_Find leaf_Find_F
  rw [hb, bsome]
  cases b with
  | false => exact hlin.1
  | true =>
    have hs : sort_Search n l (l.length : Int) x = some ((pos x l : Int), x) := by
      unfold sort_Search sort_Search_F
      exact wsearch_loop n l x (hw rfl) hn n 0 l.length (by omega) (Nat.zero_le _) (pos_le x l) (Nat.le_refl _)
    simp only [cond_true]
    rw [hs, bsome]
    exact J7_is
end Go.Ev
end
section
set_option linter.unusedVariables false
set_option linter.unusedSimpArgs false
namespace Go.Ev
open Go.RowKit
theorem rBytes_is (n : Nat) (l : List UInt8) (k : Nat) : ref01_Reader_Bytes n (k : Int) l = some (takeV l k, (takeE l k : Int), takeR l k) := by
  unfold ref01_Reader_Bytes ref01_Reader_Bytes_F ref01_Reader_Bytes_rt takeV takeE takeR
  have e0 : ¬((k : Int) < 0) := by omega
  by_cases h : k ≤ l.length
  · have e1 : ¬((l.length : Int) < (k : Int)) := by omega
    simp [e0, e1, h]
  · have e1 : ((l.length : Int) < (k : Int)) := by omega
    simp [e0, e1, h]
theorem take_stick {l : List UInt8} {k : Nat} (h : takeE l k ≠ 0) : takeE (takeR l k) k ≠ 0 := by
  have h1 : ¬(k ≤ l.length) := fun e => h (takeE_iff.2 e)
  have : takeR l k = l := by unfold takeR; rw [if_neg h1]
  rw [this]; exact h
/-- One item of the reference's reading. -/
theorem rOf_step (m i : Nat) (acc : List Item) (r : List UInt8) (p : Pg) (hi : (i : Int) < p.count) (hacc : acc.length ≤ 90000000) (hi2 : i ≤ 90000000) :
    ref08_Of_L5 10000 (m + 1) (i : Int) acc r p = if (itemP r).2.1 = 0 ∧ ¬((itemP r).1.over = true ∧ 4096 < (itemP r).1.len) then ref08_Of_L5 10000 m ((i + 1 : Nat) : Int) (acc ++ [(itemP r).1]) (itemP r).2.2 p else some (4, []) := by
  have num1 : ∀ r, ref01_Reader_Number 10000 1 r = some (numV r 1, (takeE r 1 : Int), takeR r 1) := fun r => rNumber_is (k := 1) (by omega) (by omega) (by omega)
  have num4 : ∀ r, ref01_Reader_Number 10000 4 r = some (numV r 4, (takeE r 4 : Int), takeR r 4) := fun r => rNumber_is (k := 4) (by omega) (by omega) (by omega)
  have w1 : ∀ r, w64 ((numV r 1 : Nat) : Int) = ((numV r 1 : Nat) : Int) := fun r => i64_num (k := 1) (by omega)
  have w4 : ∀ r, w64 ((numV r 4 : Nat) : Int) = ((numV r 4 : Nat) : Int) := fun r => i64_num (k := 4) (by omega)
  have u4 : ∀ r, numV r 4 % 4294967296 = numV r 4 := fun r => Nat.mod_eq_of_lt (by have := numV_lt (l := r) (k := 4); omega)
  have cz : ∀ k : Nat, decide ((k : Int) ≠ 0) = decide (k ≠ 0) := fun k => decide_eq_decide.2 (by omega)
  have hw : w64 ((i : Int) + 1) = ((i + 1 : Nat) : Int) := by rw [w64_id (by omega) (by omega)]; omega
  have hb : ∀ y : Item, Nat.ble (acc.length + [y].length) 100000000 = true := fun y => ble_of (by simp; omega)
  rw [ref08_Of_L5, ref08_Of_L5F]
  simp only [hi, decide_true, cond_true, num1, bsome, w1, rBytes_is, cz]
  unfold itemP
  by_cases h0 : takeE r 1 ≠ 0
  · have h1 := take_stick h0
    simp only [h0, h1, ne_eq, not_false_eq_true, decide_true, cond_true, true_or, if_true]
    rw [if_neg (by simp)]
  by_cases h1 : takeE (takeR r 1) 1 ≠ 0
  · simp only [h0, h1, ne_eq, not_false_eq_true, decide_true, decide_false, cond_true, cond_false, true_or, if_true]
    rw [if_neg (by simp)]
  by_cases h2 : 1 < numV r 1
  · simp only [h0, h1, h2, or_true, if_true, decide_false, cond_false]
    rw [if_neg (by simp)]
    by_cases h3 : takeE (takeR (takeR r 1) 1) (numV (takeR r 1) 1) ≠ 0
    · simp only [h3, ne_eq, not_false_eq_true, decide_true, cond_true]
    · simp only [h3, decide_false, cond_false, decide_true, cond_true]
  simp only [h0, h1, h2, or_self, if_false, decide_false, cond_false]
  by_cases h3 : takeE (takeR (takeR r 1) 1) (numV (takeR r 1) 1) ≠ 0
  · simp only [h3, ne_eq, not_false_eq_true, decide_true, cond_true, if_true, false_and, if_false]
  simp only [h3, decide_false, cond_false, if_false]
  unfold ref08_Of_J13 ref08_Of_J13F
  generalize hr3 : takeR (takeR (takeR r 1) 1) (numV (takeR r 1) 1) = r3
  by_cases h4 : numV r 1 = 1
  · simp only [h4, decide_true, cond_true, if_true, num4, bsome, cz]
    by_cases h5 : takeE r3 4 ≠ 0
    · have h6 := take_stick h5
      simp only [h5, h6, ne_eq, not_false_eq_true, decide_true, cond_true, false_and, if_false]
    by_cases h6 : takeE (takeR r3 4) 4 ≠ 0
    · simp only [h5, h6, ne_eq, not_false_eq_true, decide_true, decide_false, cond_true, cond_false, false_and, if_false]
    simp only [h5, h6, decide_false, cond_false]
    have h6' : takeE (takeR r3 4) 4 = 0 := Decidable.not_not.1 h6
    by_cases h7 : 4096 < numV r3 4
    · have h7' : (4096 : Int) < (numV r3 4 : Int) := by omega
      simp only [h7, h7', decide_true, cond_true, and_self, not_true_eq_false, and_false, if_false]
    · have h7' : ¬((4096 : Int) < (numV r3 4 : Int)) := by omega
      simp only [h7, h7', h6', decide_false, cond_false, and_false, not_false_eq_true, and_self, if_true]
      unfold ref08_Of_J18 ref08_Of_J18F
      simp only [w4, u4, hb, cond_true, hw]
  · simp only [h4, decide_false, cond_false, if_false, num1, bsome, cz, w1, rBytes_is]
    by_cases h5 : takeE r3 1 ≠ 0
    · simp only [h5, ne_eq, not_false_eq_true, decide_true, cond_true, if_true, false_and, if_false]
    simp only [h5, decide_false, cond_false, if_false]
    by_cases h6 : takeE (takeR r3 1) (numV r3 1) ≠ 0
    · simp only [h6, ne_eq, not_false_eq_true, decide_true, cond_true, false_and, if_false]
    have h6' : takeE (takeR r3 1) (numV r3 1) = 0 := Decidable.not_not.1 h6
    simp only [h6', ne_eq, not_true_eq_false, decide_false, cond_false, Bool.false_eq_true, false_and, not_false_eq_true, and_self, if_true, hb, cond_true, hw]
theorem pg_dec (q r : Pg) : (decide (q.kind = r.kind) && (decide (q.count = r.count) && (decide (q.page = r.page) && (decide (q.link = r.link) && (decide (q.tx = r.tx) && (decide (q.body = r.body) && true)))))) = decide (q = r) := by
  cases q; cases r
  rw [Bool.eq_iff_iff]
  simp only [Bool.and_eq_true, decide_eq_true_eq, Pg.mk.injEq, and_true]
def readsAs (p : Pg) (l : List Item) : Prop := lpgE ((p.body.length + 24 : Nat) : Int) p.page p.tx l = 0 ∧ lpg ((p.body.length + 24 : Nat) : Int) p.page p.tx l = p
theorem rOf_end (m i : Nat) (acc : List Item) (r : List UInt8) (p : Pg) (hi : ¬(i : Int) < p.count) (hacc : acc.length < 10000) (hb : p.body.length ≤ 5000) :
    ∃ e l, ref08_Of_L5 10000 (m + 1) (i : Int) acc r p = some (e, l) ∧ ((e = 0 ∧ l = acc ∧ readsAs p acc) ∨ (e = 4 ∧ l = [] ∧ ¬readsAs p acc)) := by
  rw [ref08_Of_L5, ref08_Of_L5F]
  simp only [hi, decide_false, cond_false]
  rw [w64_id (by omega) (by omega), ref08_Page_is (by omega) hacc (by omega) (fun hm => by have := lsz_may hm; omega), bsome]
  have e9 : ((p.body.length : Int) + 24) = ((p.body.length + 24 : Nat) : Int) := by omega
  rw [e9]
  by_cases h2 : lpgE ((p.body.length + 24 : Nat) : Int) p.page p.tx acc ≠ 0
  · have e2 : decide ((lpgE ((p.body.length + 24 : Nat) : Int) p.page p.tx acc : Int) ≠ 0) = true := decide_eq_true (by omega)
    simp only [e2, cond_true]
    exact ⟨_, _, rfl, .inr ⟨rfl, rfl, fun h => h2 h.1⟩⟩
  · have e2 : decide ((lpgE ((p.body.length + 24 : Nat) : Int) p.page p.tx acc : Int) ≠ 0) = false := decide_eq_false (by omega)
    simp only [e2, cond_false, pg_dec]
    by_cases h3 : lpg ((p.body.length + 24 : Nat) : Int) p.page p.tx acc = p
    · rw [decide_eq_true h3]
      exact ⟨_, _, rfl, .inl ⟨rfl, rfl, Decidable.not_not.1 h2, h3⟩⟩
    · rw [decide_eq_false h3]
      exact ⟨_, _, rfl, .inr ⟨rfl, rfl, fun h => h3 h.2⟩⟩
theorem rOf_loop (p : Pg) (hb : p.body.length ≤ 5000) : ∀ (m i : Nat) (acc : List Item) (r : List UInt8), r.length < m → acc.length = i → acc.length + r.length ≤ 5000 → ∃ e l, ref08_Of_L5 10000 m (i : Int) acc r p = some (e, l) ∧ ((e = 0 ∧ readsAs p l) ∨ (e = 4 ∧ l = [])) := by
  intro m
  induction m with
  | zero => intro i acc r h1; omega
  | succ m ih =>
    intro i acc r h1 h2 h3
    by_cases hi : (i : Int) < p.count
    · rw [rOf_step m i acc r p hi (by omega) (by omega)]
      by_cases h : (itemP r).2.1 = 0 ∧ ¬((itemP r).1.over = true ∧ 4096 < (itemP r).1.len)
      · rw [if_pos h]
        have e4 := itemP_two h.1
        exact ih (i + 1) _ _ (by omega) (by simp; omega) (by simp; omega)
      · rw [if_neg h]
        exact ⟨_, _, rfl, .inr ⟨rfl, rfl⟩⟩
    · obtain ⟨e, l, he, ⟨h4, h5, h6⟩ | ⟨h4, h5, h6⟩⟩ := rOf_end m i acc r p hi (by omega) hb
      · exact ⟨e, l, he, .inl ⟨h4, h5 ▸ h6⟩⟩
      · exact ⟨e, l, he, .inr ⟨h4, h5⟩⟩
theorem rOf_back {p : Pg} (hb : p.body.length ≤ 5000) (z : List UInt8) : ∀ (l : List Item) (acc : List Item) (m : Nat), (∀ x ∈ l, vmayB x = true) → p.count = ((acc.length + l.length : Nat) : Int) → l.length < m → acc.length + l.length < 10000 → readsAs p (acc ++ l) → ref08_Of_L5 10000 m (acc.length : Int) acc (lbytes l ++ z) p = some (0, acc ++ l)
  | [], acc, m, _, hc, hm, hn, hok => by
    cases m with
    | zero => simp at hm
    | succ m =>
      rw [List.append_nil] at hok ⊢
      obtain ⟨e, l, he, ⟨h4, h5, h6⟩ | ⟨h4, h5, h6⟩⟩ := rOf_end m acc.length acc (lbytes [] ++ z) p (by rw [hc]; simp) (by simpa using hn) hb
      · rw [he, h4, h5]
      · exact absurd hok h6
  | x :: l, acc, m, hv, hc, hm, hn, hok => by
    cases m with
    | zero => simp at hm
    | succ m =>
      simp only [List.length_cons] at hc hm hn
      have hx := hv x (.head _)
      have e1 : lbytes (x :: l) ++ z = ibytes x ++ (lbytes l ++ z) := by
        show (ibytes x ++ lbytes l) ++ z = _
        rw [List.append_assoc]
      rw [e1, rOf_step m acc.length acc _ p (by rw [hc]; omega) (by omega) (by omega), item_back hx]
      have hlen : ¬(x.over = true ∧ 4096 < x.len) := fun h => by
        unfold vmayB at hx
        rw [if_pos h.1] at hx
        simp only [Bool.and_eq_true, decide_eq_true_eq] at hx
        omega
      rw [if_pos ⟨rfl, hlen⟩]
      have := rOf_back hb z l (acc ++ [x]) m (fun y hy => hv y (.tail _ hy)) (by rw [hc]; simp; omega) (by omega) (by simp; omega) (by simpa using hok)
      simpa using this
theorem ofP_cases (p : Pg) : ((ofP p).2 = 0 ∧ readsAs p (ofP p).1) ∨ ofP p = ([], 4) := by
  by_cases h : (ofP p).2 = 0
  · exact .inl ⟨h, of_ok h⟩
  · refine .inr ?_
    have h1 := of_bad h
    revert h h1
    unfold ofP
    split
    · intro _ _; rfl
    · split
      · intro _ _; rfl
      · intro h; exact absurd rfl h
theorem ok_count {p : Pg} {l : List Item} (h : readsAs p l) : lpgOk ((p.body.length + 24 : Nat) : Int) p.page p.tx l = true := lpgE_ok.1 h.1
theorem rOf_ok {p : Pg} {l : List Item} (hb : p.body.length ≤ 5000) (h : readsAs p l) : ref08_Of 10000 p = some (0, l) := by
  have hk := ok_count h
  have hm := (lpgOk_iff.1 hk).1
  have hz := (lpgOk_iff.1 hk).2.1
  have hr := room_le ((p.body.length + 24 : Nat) : Int)
  have hbody := (lpg_body hk).1
  rw [h.2] at hbody
  have hc : p.count = (l.length : Int) := by rw [← h.2, (lpg_ok hk).1]
  have hl3 : l.length ≤ lsz l := by
    clear hm hz hk hbody hc h
    induction l with
    | nil => exact Nat.le_refl _
    | cons x l ih => show l.length + 1 ≤ isz x + lsz l; unfold isz; omega
  unfold ref08_Of ref08_Of_F
  have := rOf_back hb (List.replicate (room ((p.body.length + 24 : Nat) : Int) - lsz l) 0) l [] 10000 (lmay_all hm) (by rw [hc]; simp) (by omega) (by simp; omega) (by simpa using h)
  rw [hbody]
  have e0 : ({ kind := p.kind, count := p.count, page := p.page, link := p.link, tx := p.tx, body := p.body } : Pg) = p := rfl
  simpa using this
theorem rOf_eq {p : Pg} (hb : p.body.length ≤ 5000) : ref08_Of 10000 p = some (((ofP p).2 : Int), (ofP p).1) := by
  rcases ofP_cases p with ⟨h, hok⟩ | h
  · rw [rOf_ok hb hok, h]; rfl
  · obtain ⟨e, l, he, ⟨_, h2⟩ | ⟨h1, h2⟩⟩ := rOf_loop p hb 10000 0 [] p.body (by omega) rfl (by simpa using hb)
    · exfalso
      have hk := ok_count h2
      have := of_lpg hk
      rw [h2.2, h] at this
      have h3 := lmay_pos (lpgOk_iff.1 hk).1
      have h4 := congrArg Prod.snd this
      cases h4
    · rw [h]
      have he' : ref08_Of 10000 p = some (e, l) := he
      rw [he', h1, h2]; rfl
theorem lc_lives : law08_lives 10000 = some true := by kernel_rfl
theorem leafCalls_m (l : List Item) (s : Int) (a tx : Nat) (p : Pg) (k : List UInt8) (j : Int) (hl : ∀ x ∈ l, x.key.length + x.value.length ≤ 300000000000000) : law08_LeafCalls 10000 l s a tx p k j = some true := by
  unfold law08_LeafCalls law08_LeafCalls_F law08_LeafCalls_rt
  rw [lc_lives, bsome, light_is hl (by omega), bsome]
  cases h1 : lightB l
  · rfl
  simp only [lightB, Bool.and_eq_true, decide_eq_true_eq] at h1
  simp only [Bool.not_true, cond_false]
  by_cases h2 : (4200 : Int) < (p.body.length : Int)
  · simp only [h2, decide_true, cond_true]
  by_cases h3 : (200 : Int) < (k.length : Int)
  · simp only [h2, h3, decide_true, decide_false, cond_true, cond_false]
  simp only [h2, h3, decide_false, cond_false]
  unfold law08_LeafCalls_J6 law08_LeafCalls_J6F law08_LeafCalls_rt
  have hsz : ∀ x ∈ l, x.key.length + x.value.length ≤ 4000000 := fun x hx => by have := itsz_mem hx; omega
  have hlz : lsz l ≤ 4000000000000000000 := by
    have : ∀ l : List Item, lsz l ≤ itsz l + 10 * l.length := fun l => by
      induction l with
      | nil => exact Nat.le_refl _
      | cons x l ih =>
        have := vsz_le x
        show 2 + x.key.length + vsz x + lsz l ≤ itsz (x :: l) + 10 * (l.length + 1)
        have e : itsz (x :: l) = x.key.length + x.value.length + itsz l := by simp [itsz]
        omega
    have := this l
    omega
  have e1 : Pg.mk p.kind p.count p.page p.link p.tx p.body = p := rfl
  have hof := ofP_len p
  simp only [e1]
  rw [leaf_Page_is (by omega) (by omega) (by omega) (fun _ => hlz), bsome, ref08_Page_is (by omega) (by omega) (by omega) (fun _ => hlz), bsome, leaf_Of_is (by omega) (by omega) (by omega), bsome, rOf_eq (by omega), bsome]
  rw [(Find_gen (x := k) (show l.length < 10000 by omega) (by omega)).1, bsome, (Find_gen (x := k) (show l.length < 10000 by omega) (by omega)).2, bsome]
  simp only [decide_true, Bool.and_self, cond_true]
  rw [Same_is (by omega) (by omega), bsome]
  simp only [decide_true, cond_true, beq_self_eq_true]
  rw [leaf_Size_is hsz (by omega) (by omega) hlz, bsome, ref08_Size_is hsz (by omega) (by omega) hlz, bsome]
  simp only [decide_true, cond_true]
  by_cases h4 : s < 0
  · simp only [h4, decide_true, cond_true]
  · simp only [h4, decide_false, cond_false]
    have hin : ∃ b, leaf_In 10000 s j = some b ∧ ref08_In 10000 s j = some b := by
      unfold leaf_In leaf_In_F leaf_In_rt ref08_In ref08_In_F ref08_In_rt
      by_cases h5 : 0 ≤ j
      · simp only [h5, decide_true, cond_true]; exact ⟨_, rfl, rfl⟩
      · simp only [h5, decide_false, cond_false]; exact ⟨_, rfl, rfl⟩
    obtain ⟨b, b1, b2⟩ := hin
    rw [b1, bsome, b2, bsome, beq_self_eq_true]
end Go.Ev
end