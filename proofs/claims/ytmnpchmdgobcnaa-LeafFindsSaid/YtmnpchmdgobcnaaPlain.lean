/- Words of my own, printed by a program of mine. -/
import Derived.Test.YtmnpchmdgobcnaaDfns
import Derived.Test.YtmnpchmdgobcnaaHn
import Derived.Test.YtmnpchmdgobcnaaHs
section
set_option linter.unusedVariables false
set_option linter.unusedSimpArgs false
namespace Go.Ev
open Go.RowKit
theorem w64_id {n : Int} (h1 : -4611686018427387904 ≤ n) (h2 : n ≤ 4611686018427387904) : w64 n = n := w64_of (by omega) (by omega)
theorem ble_of {a b : Nat} (h : a ≤ b) : Nat.ble a b = true := Nat.ble_eq_true_of_le h
theorem bsome {α β : Type} (a : α) (f : α → Option β) : Option.bind (some a) f = f a := rfl
theorem getE {α : Type} {l : List α} {i : Nat} (h : i < l.length) : l[i]? = some l[i] := List.getElem?_eq_getElem h
theorem device_Good_is (n : Nat) (s : Int) : device_Good n s = some (goodB s) := by
  unfold device_Good device_Good_F goodB device_Good_rt
  by_cases h1 : 128 ≤ s <;> by_cases h2 : s ≤ 4096 <;> simp [h1, h2]
theorem frame_Room_is (n : Nat) (s : Int) : frame_Room n s = some (room s : Int) := by
  unfold frame_Room frame_Room_F frame_Room_rt
  rw [device_Good_is, bsome]
  cases h : goodB s
  · rw [room_bad h]; rfl
  · obtain ⟨g1, g2, g3⟩ := goodB_le h
    have g4 : ((room s : Nat) : Int) = s - 24 := by omega
    rw [g4]
    simp only [Bool.not_true, cond_false]
    rw [w64_id (by omega) (by omega)]
theorem leaf_number_is (n a : Nat) : leaf_number n a = some (numB a) := by
  unfold leaf_number leaf_number_F numB leaf_number_rt
  by_cases h1 : 2 ≤ a
  · simp [h1]
  · simp [h1]
theorem branch_Key_is (n : Nat) (k : List UInt8) : branch_Key n k = some (keyB k) := by
  unfold branch_Key branch_Key_F keyB branch_Key_rt
  congr 1
  exact decide_eq_decide.2 (by omega)
theorem leaf_value_may_is (n : Nat) (x : Item) : leaf_value_may n x = some (vmayB x) := by
  unfold leaf_value_may leaf_value_may_F leaf_value_may_rt vmayB keyB
  rw [leaf_number_is]
  by_cases h1 : x.key.length ≤ 40
  · have h1' : ((x.key.length : Int) ≤ 40) := by omega
    cases hx : x.over
    · by_cases h2 : x.value.length ≤ 255
      · have h2' : ((x.value.length : Int) ≤ 255) := by omega
        by_cases h3 : x.len = 0 <;> simp [h1, h1', h2, h2', h3]
      · have h2' : ¬((x.value.length : Int) ≤ 255) := by omega
        simp [h1, h1', h2, h2']
    · by_cases h2 : x.value = [] <;> by_cases h3 : 1 ≤ x.len <;> by_cases h4 : x.len ≤ 4096 <;> simp [h1, h1', h2, h3, h4, bsome]
  · have h1' : ¬((x.key.length : Int) ≤ 40) := by omega
    simp [h1, h1']
theorem leaf_value_size_is (n : Nat) (x : Item) (h : x.value.length ≤ 4611686018427387000) : leaf_value_size n x = some (vsz x : Int) := by
  unfold leaf_value_size leaf_value_size_F leaf_value_size_rt vsz
  cases hx : x.over
  · simp; rw [w64_id (by omega) (by omega)]
  · simp
theorem leaf_Size_loop (n : Nat) (l : List Item) (hs : ∀ x ∈ l, x.key.length + x.value.length ≤ 4000000) (hl : l.length ≤ 4000000000000000000) (hz : lsz l ≤ 4000000000000000000) : ∀ (m i : Nat), l.length < m + i → i ≤ l.length → leaf_Size_L3 n l m (lsz (l.take i) : Int) (l.length : Int) (i : Int) = some (lsz l : Int) := by
  intro m
  induction m with
  | zero => intro i h1 h2; omega
  | succ m ih =>
    intro i h1 h2
    unfold leaf_Size_L3 leaf_Size_L3F leaf_Size_rt
    by_cases hi : i < l.length
    · have hx := getE hi
      have hm := hs _ (List.getElem_mem hi)
      have e1 : ((i : Int) < (l.length : Int)) := by omega
      have h5 := lsz_succ hx
      have h6 := lsz_take_le l (i + 1)
      have h7 := vsz_le l[i]
      simp only [e1, decide_true, cond_true, Int.natCast_nonneg, Int.toNat_natCast, hi, Bool.and_self, hx, bsome]
      rw [leaf_value_size_is n _ (by show l[i].value.length ≤ _; omega), bsome]
      show leaf_Size_L3 n l m (w64 ((lsz (l.take i) : Int) + w64 (w64 (2 + (l[i].key.length : Int)) + (vsz l[i] : Int)))) (l.length : Int) (w64 ((i : Int) + 1)) = _
      rw [w64_id (n := 2 + (l[i].key.length : Int)) (by omega) (by omega), w64_id (n := 2 + (l[i].key.length : Int) + (vsz l[i] : Int)) (by omega) (by omega), w64_id (by omega) (by omega), w64_id (by omega) (by omega)]
      have := ih (i + 1) (by omega) (by omega)
      rw [h5] at this
      rw [← this]
      exact congrArg (fun z => leaf_Size_L3 n l m z _ _) (by omega)
    · have e1 : ¬((i : Int) < (l.length : Int)) := by omega
      simp only [e1, decide_false, cond_false]
      rw [List.take_of_length_le (by omega)]
theorem leaf_Size_is {n : Nat} {l : List Item} (hs : ∀ x ∈ l, x.key.length + x.value.length ≤ 4000000) (hl : l.length < n) (hn : n ≤ 4000000000000000000) (hz : lsz l ≤ 4000000000000000000) : leaf_Size n l = some (lsz l : Int) := by
  have := leaf_Size_loop n l hs (by omega) hz n 0 (by omega) (by omega)
  exact this
theorem octet_Put_loop (n : Nat) (b l : List UInt8) (a k : Nat) (hk : k ≤ 8) (hl : l.length ≤ 90000000) : ∀ (m i : Nat), k < m + i → i ≤ k → octet_Put_L6 n b m a (k : Int) (i : Int) (l ++ le a i) = some (l ++ le a k) := by
  intro m
  induction m with
  | zero => intro i h1 h2; omega
  | succ m ih =>
    intro i h1 h2
    unfold octet_Put_L6 octet_Put_L6F octet_Put_rt
    by_cases hi : i < k
    · have e1 : ((i : Int) < (k : Int)) := by omega
      rw [w64_id (n := 8 * (i : Int)) (by omega) (by omega)]
      have e2 : Int.toNat (8 * (i : Int)) = 8 * i := by omega
      rw [e2]
      have e3 : (0 : Int) ≤ 8 * (i : Int) := by omega
      have e4 : Nat.ble (8 * i) 64 = true := ble_of (by omega)
      have e5 : Nat.ble ((l ++ le a i).length + [UInt8.ofNat (a / 2 ^ (8 * i))].length) 100000000 = true := ble_of (by simp [le_length]; omega)
      simp only [e1, e3, e4, e5, decide_true, cond_true, Bool.and_self]
      rw [w64_id (by omega) (by omega), List.append_assoc, ← le_succ]
      exact ih (i + 1) (by omega) (by omega)
    · have e1 : ¬((i : Int) < (k : Int)) := by omega
      simp only [e1, decide_false, cond_false]
      rw [show i = k by omega]
theorem octet_Put_is {n : Nat} {l : List UInt8} {a k : Nat} (hn : 9 ≤ n) (hk : 1 ≤ k) (hk8 : k ≤ 8) (hl : l.length ≤ 90000000) : octet_Put n l a (k : Int) = some (l ++ le a k) := by
  unfold octet_Put octet_Put_F octet_Put_rt
  rw [w64_id (by omega) (by omega)]
  have e1 : (0 : Int) ≤ (l.length : Int) + 8 := by omega
  have e2 : Nat.ble (0) (Int.toNat ((l.length : Int) + 8)) = true := ble_of (by omega)
  have e3 : Nat.ble (Int.toNat ((l.length : Int) + 8)) 100000000 = true := ble_of (by omega)
  have e4 : Nat.ble ((List.replicate (0) (UInt8.ofNat (0))).length + l.length) 100000000 = true := ble_of (by simp; omega)
  have e5 : ¬((k : Int) < 1) := by omega
  have e6 : ¬((8 : Int) < (k : Int)) := by omega
  simp only [e1, e2, e3, e4, e5, e6, decide_true, decide_false, cond_true, cond_false, Bool.and_self, Int.le_refl]
  have := octet_Put_loop n l l a k hk8 hl n 0 (by omega) (by omega)
  simpa [octet_Put_J5, octet_Put_J5F, le] using this
theorem leaf_value_put_is {n : Nat} {b : List UInt8} {x : Item} (hn : 9 ≤ n) (hb : b.length ≤ 80000000) (hv : x.value.length ≤ 1000000) (hh : x.over = true → x.head < 4294967296) : leaf_value_put n b x = some (b ++ vput x) := by
  unfold leaf_value_put leaf_value_put_F leaf_value_put_rt vput
  cases hx : x.over
  · rw [u64_of (n := x.value.length) (by omega)]
    have h1 := octet_Put_is (n := n) (l := b) (a := x.value.length) (k := 1) hn (by omega) (by omega) (by omega)
    have h1' : octet_Put n b x.value.length 1 = some (b ++ le x.value.length 1) := h1
    have e1 : Nat.ble ((b ++ le x.value.length 1).length + x.value.length) 100000000 = true := ble_of (by simp [le_length]; omega)
    simp only [cond_false, h1', bsome, e1, cond_true, List.append_assoc, Bool.false_eq_true, if_false]
  · have h1 : octet_Put n b (u64 x.len) 4 = some (b ++ le (u64 x.len) 4) := octet_Put_is (k := 4) hn (by omega) (by omega) (by omega)
    have h2 : octet_Put n (b ++ le (u64 x.len) 4) (x.head % 18446744073709551616) 4 = some ((b ++ le (u64 x.len) 4) ++ le (x.head % 18446744073709551616) 4) := octet_Put_is (k := 4) hn (by omega) (by omega) (by simp [le_length]; omega)
    simp only [cond_true, h1, h2, bsome, List.append_assoc, if_true]
    have := hh hx
    rw [Nat.mod_eq_of_lt (by omega), u64_of (n := x.head) (by omega)]
theorem frame_Body_is {n : Nat} {b : List UInt8} {s : Int} (hb : b.length ≤ 80000000) : frame_Body n b s = some (bodyS s b, (bodyE s b : Int)) := by
  unfold frame_Body frame_Body_F frame_Body_rt
  rw [device_Good_is, frame_Room_is, bsome]
  cases h : goodB s
  · obtain ⟨h1, h2⟩ := body_bad (l := b) h
    rw [h1, h2]; rfl
  · have hr := room_le s
    have hr2 : 1 ≤ room s := by have := goodB_le h; omega
    simp only [Bool.not_true, cond_false, bsome, Int.toNat_natCast, Int.natCast_nonneg, decide_true, Bool.and_self, List.length_replicate, Bool.true_and]
    by_cases h2 : room s < b.length
    · obtain ⟨h3, h4⟩ := body_long h h2
      have : ((room s : Int) < (b.length : Int)) := by omega
      rw [h3, h4]; simp only [this, decide_true, cond_true]; rfl
    · have h5 : b.length ≤ room s := by omega
      obtain ⟨h3, h4⟩ := body_ok h h5
      have : ¬((room s : Int) < (b.length : Int)) := by omega
      have e1 : Nat.ble (room s) (room s) = true := ble_of (Nat.le_refl _)
      have e2 : Nat.ble (room s) 100000000 = true := ble_of (by omega)
      have e3 : Nat.ble 1 (room s) = true := ble_of hr2
      rw [h3, h4]
      simp only [this, decide_false, cond_false, e1, e2, e3, cond_true, Bool.and_self]
      have e4 : Nat.min b.length (room s) = b.length := Nat.min_eq_left h5
      rw [e4, List.take_length]
      simp [padL]
theorem leaf_may_loop (n : Nat) (l : List Item) (hl : l.length ≤ 4000000000000000000) : ∀ (m i : Nat), l.length < m + i → i ≤ l.length → (∀ j, j < i → okAt l j = true) → leaf_may_L3 n l m (l.length : Int) (i : Int) = some (lmayB l) := by
  intro m
  induction m with
  | zero => intro i h1 h2; omega
  | succ m ih =>
    intro i h1 h2 hok
    unfold leaf_may_L3 leaf_may_L3F leaf_may_rt
    by_cases hi : i < l.length
    · have hx := getE hi
      have e1 : ((i : Int) < (l.length : Int)) := by omega
      simp only [e1, decide_true, cond_true, Int.natCast_nonneg, Int.toNat_natCast, hi, Bool.and_self, hx, bsome]
      rw [leaf_value_may_is, bsome]
      show (bif !vmayB l[i] then _ else _) = _
      cases hv : vmayB l[i]
      · simp only [Bool.not_false, cond_true]
        rw [lmay_bad hi (by unfold okAt; rw [hx]; simp [hv])]
      · simp only [Bool.not_true, cond_false]
        by_cases h0 : i = 0
        · subst h0
          simp only [Int.natCast_zero, Int.lt_irrefl, decide_false, cond_false]
          exact ih 1 (by omega) (by omega) (all_succ hok (by unfold okAt; rw [hx]; simp [hv]))
        · have e2 : (0 : Int) < (i : Int) := by omega
          have e3 : ((i : Int) - 1) = ((i - 1 : Nat) : Int) := by omega
          rw [w64_id (n := (i : Int) - 1) (by omega) (by omega), e3]
          have hy := getE (l := l) (i := i - 1) (by omega)
          have e4 : i - 1 < l.length := by omega
          simp only [e2, e4, decide_true, cond_true, Int.natCast_nonneg, Int.toNat_natCast, Bool.and_self, hy, bsome]
          cases hs : sLt l[i - 1].key l[i].key
          · simp only [Bool.not_false, cond_true]
            rw [lmay_bad hi (by unfold okAt; rw [hx]; simp [hv, h0, hy, hs])]
          · simp only [Bool.not_true, cond_false]
            rw [w64_id (by omega) (by omega)]
            exact ih (i + 1) (by omega) (by omega) (all_succ hok (by unfold okAt; rw [hx]; simp [hv, h0, hy, hs]))
    · have e1 : ¬((i : Int) < (l.length : Int)) := by omega
      simp only [e1, decide_false, cond_false]
      rw [lmay_end (fun j hj => hok j (by omega))]
      exact congrArg some (decide_eq_decide.2 (by omega))
theorem leaf_may_is {n : Nat} {l : List Item} (hl : l.length < n) (hn : n ≤ 4000000000000000000) : leaf_may n l = some (lmayB l) :=
  leaf_may_loop n l (by omega) n 0 (by omega) (by omega) (fun j hj => by omega)
theorem vmay_head {x : Item} (h : vmayB x = true) (ho : x.over = true) : x.head < 4294967296 := by
  unfold vmayB at h
  rw [if_pos ho] at h
  simp only [Bool.and_eq_true, numB, decide_eq_true_eq] at h
  omega
theorem leaf_Page_loop {n : Nat} {l : List Item} {s : Int} {a tx : Nat} {p : Pg} (hn : 9 ≤ n) (hm : lmayB l = true) (hz : lsz l ≤ 4072) (hl : l.length ≤ 4000000000000000000) : ∀ (m i : Nat), l.length < m + i → i ≤ l.length → leaf_Page_L6 n l m s a tx (l.length : Int) (i : Int) (lbytes (l.take i)) p = some (⟨4, (l.length : Int), a, 0, tx, bodyS s (lbytes l)⟩, 0) := by
  intro m
  induction m with
  | zero => intro i h1 h2; omega
  | succ m ih =>
    intro i h1 h2
    unfold leaf_Page_L6 leaf_Page_L6F leaf_Page_rt
    by_cases hi : i < l.length
    · have hx := getE hi
      have e1 : ((i : Int) < (l.length : Int)) := by omega
      have hv := lmay_at hm hx
      have hk := vmay_le hv
      have hb : (lbytes (l.take i)).length ≤ 4072 := by rw [lbytes_length]; exact Nat.le_trans (lsz_take_le l i) hz
      simp only [e1, decide_true, cond_true, Int.natCast_nonneg, Int.toNat_natCast, hi, Bool.and_self, hx, bsome]
      have key : ∀ ov : Nat, ov = (if l[i].over = true then 1 else 0) → leaf_Page_J11 n l (leaf_Page_L6 n l m) s a tx ov (l.length : Int) (i : Int) l[i] (lbytes (l.take i)) p = some (⟨4, (l.length : Int), a, 0, tx, bodyS s (lbytes l)⟩, 0) := by
        intro ov hov
        unfold leaf_Page_J11 leaf_Page_J11F
        have g1 : octet_Put n (lbytes (l.take i)) ov 1 = some (lbytes (l.take i) ++ le ov 1) := octet_Put_is (k := 1) hn (by omega) (by omega) (by omega)
        rw [g1, bsome, u64_of (n := l[i].key.length) (by omega)]
        have g2 : octet_Put n (lbytes (l.take i) ++ le ov 1) l[i].key.length 1 = some ((lbytes (l.take i) ++ le ov 1) ++ le l[i].key.length 1) := octet_Put_is (k := 1) hn (by omega) (by omega) (by simp [le_length]; omega)
        rw [g2, bsome]
        have g3 : Nat.ble (((lbytes (l.take i) ++ le ov 1) ++ le l[i].key.length 1).length + l[i].key.length) 100000000 = true := ble_of (by simp [le_length]; omega)
        rw [g3, cond_true]
        have g4 := leaf_value_put_is (n := n) (b := ((lbytes (l.take i) ++ le ov 1) ++ le l[i].key.length 1) ++ l[i].key) (x := l[i]) hn (by simp [le_length]; omega) (by omega) (vmay_head hv)
        show Option.bind (leaf_value_put n (((lbytes (l.take i) ++ le ov 1) ++ le l[i].key.length 1) ++ l[i].key) l[i]) _ = _
        rw [g4, bsome, w64_id (by omega) (by omega)]
        have g5 : ((((lbytes (l.take i) ++ le ov 1) ++ le l[i].key.length 1) ++ l[i].key) ++ vput l[i]) = lbytes (l.take (i + 1)) := by
          rw [lbytes_succ hx, hov]
          simp [ibytes]
        rw [g5]
        exact ih (i + 1) (by omega) (by omega)
      cases ho : l[i].over
      · exact key 0 (by rw [ho]; rfl)
      · exact key 1 (by rw [ho]; rfl)
    · have e1 : ¬((i : Int) < (l.length : Int)) := by omega
      simp only [e1, decide_false, cond_false]
      rw [List.take_of_length_le (by omega), frame_Body_is (by rw [lbytes_length]; omega), bsome]
theorem leaf_Page_is {n : Nat} {l : List Item} {s : Int} {a tx : Nat} (hn : 9 ≤ n) (hl : l.length < n) (hn2 : n ≤ 4000000000000000000) (hs : lmayB l = true → lsz l ≤ 4000000000000000000) : leaf_Page n l s a tx = some (lpg s a tx l, (lpgE s a tx l : Int)) := by
  unfold leaf_Page leaf_Page_F leaf_Page_rt
  rw [leaf_may_is hl hn2, bsome]
  have bad : lpgOk s a tx l = false → some ((⟨0, 0, 0, 0, 0, []⟩ : Pg), (2 : Int)) = some (lpg s a tx l, (lpgE s a tx l : Int)) := fun h => by
    rw [(lpg_bad h).1, (lpg_bad h).2]; rfl
  cases hm : lmayB l
  · exact bad (by unfold lpgOk; rw [hm]; rfl)
  · simp only [Bool.not_true, cond_false]
    rw [leaf_Size_is (fun x hx => by have := lmay_sz hm x hx; omega) hl hn2 (hs hm), bsome, frame_Room_is, bsome]
    by_cases h1 : lsz l ≤ room s
    · have e1 : ¬((room s : Int) < (lsz l : Int)) := by omega
      simp only [e1, decide_false, cond_false]
      rw [leaf_number_is, bsome]
      cases h2 : numB a
      · exact bad (by unfold lpgOk; rw [hm, h2]; simp)
      · simp only [Bool.not_true, cond_false]
        by_cases h3 : 4611686018427387904 < tx
        · have : 4611686018427387904 < tx := h3
          simp only [this, decide_true, cond_true]
          exact bad (by unfold lpgOk; rw [decide_eq_false (by omega : ¬(tx ≤ 4611686018427387904))]; simp)
        · have : ¬(4611686018427387904 < tx) := h3
          simp only [this, decide_false, cond_false]
          have hr := room_le s
          have h4 : lpgOk s a tx l = true := lpgOk_iff.2 ⟨hm, h1, h2, by omega⟩
          rw [(lpg_ok h4).1, (lpg_ok h4).2]
          exact leaf_Page_loop hn hm (by omega) (by omega) n 0 (by omega) (by omega)
    · have e1 : ((room s : Int) < (lsz l : Int)) := by omega
      simp only [e1, decide_true, cond_true]
      exact bad (by unfold lpgOk; rw [decide_eq_false h1]; simp)
theorem lsz_may {l : List Item} (h : lmayB l = true) : lsz l ≤ 305 * l.length := by
  have h2 := lmay_all h
  clear h
  induction l with
  | nil => exact Nat.le_refl _
  | cons x l ih =>
    have h3 := vmay_le (h2 x (.head _))
    have h4 := vsz_le x
    have h5 := ih (fun y hy => h2 y (.tail _ hy))
    show (2 + x.key.length + vsz x) + lsz l ≤ _
    rw [List.length_cons]
    omega
theorem light_loop (n : Nat) (l : List Item) (b : Int) (hs : (itsz l : Int) ≤ 4000000000000000000) (hl : l.length ≤ 1000000000000) : ∀ (m i : Nat), l.length < m + i → i ≤ l.length → (itsz (l.take i) : Int) ≤ b → kit_LightItems_L6 n l m b (itsz (l.take i) : Int) (i : Int) = some (decide ((itsz l : Int) ≤ b)) := by
  intro m
  induction m with
  | zero => intro i h1 h2; omega
  | succ m ih =>
    intro i h1 h2 h3
    unfold kit_LightItems_L6 kit_LightItems_L6F kit_LightItems_rt
    by_cases hi : i < l.length
    · have hx := getE hi
      have e1 : ((i : Int) < (l.length : Int)) := by omega
      have h5 := itsz_succ hx
      have h6 := itsz_le l (i + 1)
      simp only [e1, decide_true, cond_true, Int.natCast_nonneg, Int.toNat_natCast, hi, Bool.and_self, hx, bsome]
      rw [w64_id (n := (itsz (l.take i) : Int) + (l[i].key.length : Int)) (by omega) (by omega), w64_id (n := (itsz (l.take i) : Int) + (l[i].key.length : Int) + (l[i].value.length : Int)) (by omega) (by omega), w64_id (by omega) (by omega)]
      have e2 : (itsz (l.take i) : Int) + (l[i].key.length : Int) + (l[i].value.length : Int) = (itsz (l.take (i + 1)) : Int) := by omega
      rw [e2]
      by_cases h7 : b < (itsz (l.take (i + 1)) : Int)
      · simp only [h7, decide_true, cond_true]
        rw [decide_eq_false (by omega)]
      · simp only [h7, decide_false, cond_false]
        exact ih (i + 1) (by omega) (by omega) (by omega)
    · have e1 : ¬((i : Int) < (l.length : Int)) := by omega
      simp only [e1, decide_false, cond_false]
      rw [List.take_of_length_le (by omega)] at h3
      rw [decide_eq_true h3]
/-- What a law's items may be: few enough to be counted. -/
theorem itsz_le_of {l : List Item} (h : ∀ x ∈ l, x.key.length + x.value.length ≤ 300000000000000) : itsz l ≤ 300000000000000 * l.length := by
  induction l with
  | nil => exact Nat.le_refl _
  | cons x l ih =>
    have h1 := h x (.head _)
    have h2 := ih (fun y hy => h y (.tail _ hy))
    simp only [itsz, List.map_cons, List.sum_cons, List.length_cons] at h2 ⊢
    omega
theorem light_is {n : Nat} {l : List Item} (hs0 : ∀ x ∈ l, x.key.length + x.value.length ≤ 300000000000000) (hn : 200 ≤ n) : law08_light n l = some (lightB l) := by
  unfold law08_light law08_light_F law08_light_rt kit_LightItems kit_LightItems_F kit_LightItems_rt lightB
  by_cases h : l.length ≤ 100
  · have e1 : ¬((100 : Int) < (l.length : Int)) := by omega
    simp only [e1, decide_false, cond_false, h, decide_true, Bool.true_and]
    have hs : (itsz l : Int) ≤ 4000000000000000000 := by have := itsz_le_of hs0; omega
    have h2 : kit_LightItems_L6 n l n 4000 0 0 = some (decide ((itsz l : Int) ≤ 4000)) := light_loop n l 4000 hs (by omega) n 0 (by omega) (by omega) (by simp [itsz])
    rw [h2, bsome]
    exact congrArg some (decide_eq_decide.2 (by omega))
  · have e1 : ((100 : Int) < (l.length : Int)) := by omega
    simp only [e1, decide_true, cond_true, h, decide_false, Bool.false_and, bsome]
end Go.Ev
end
section
set_option linter.unusedVariables false
set_option linter.unusedSimpArgs false
namespace Go.Ev
open Go.RowKit
theorem finds_lives (k : Nat) : law08_lives (k + 10000) = some true := by kernel_rfl
/-- Keys that rise. -/
def KRise (l : List Item) : Prop := ∀ i (h : i + 1 < l.length), sLt l[i].key l[i + 1].key = true
theorem krise_lt {l : List Item} (h : KRise l) : ∀ (d i : Nat) (hd : i + d + 1 < l.length), sLt l[i].key l[i + d + 1].key = true
  | 0, i, hd => h i hd
  | d + 1, i, hd => bl_trans (krise_lt h d i (by omega)) (h (i + d + 1) hd)
theorem krise_lt' {l : List Item} (h : KRise l) {i j : Nat} (hij : i < j) (hj : j < l.length) : sLt l[i].key l[j].key = true := by
  have := krise_lt h (j - i - 1) i (by omega)
  have e : i + (j - i - 1) + 1 = j := by omega
  simp only [e] at this
  exact this
theorem krise_of {l : List Item} (h : lmayB l = true) : KRise l := by
  intro i hi
  unfold lmayB at h
  simp only [Bool.and_eq_true, decide_eq_true_eq] at h
  have := h.1 (i + 1) hi
  unfold okAt at this
  rw [getE hi] at this
  simp only [Bool.and_eq_true, Nat.add_one_sub_one, getE (show i < l.length by omega)] at this
  have h2 := this.2
  simpa using h2
/-- Where a key would be. -/
def pos (x : List UInt8) : List Item → Nat
  | [] => 0
  | y :: l => if sLt y.key x = true then pos x l + 1 else 0
theorem pos_le (x : List UInt8) : ∀ l : List Item, pos x l ≤ l.length
  | [] => Nat.le_refl _
  | y :: l => by unfold pos; split; exact Nat.succ_le_succ (pos_le x l); exact Nat.zero_le _
theorem pos_lt {x : List UInt8} : ∀ {l : List Item} {i : Nat} (h : i < l.length), i < pos x l → sLt l[i].key x = true
  | y :: l, 0, h, hi => by
    unfold pos at hi
    split at hi
    · assumption
    · omega
  | y :: l, i + 1, h, hi => by
    unfold pos at hi
    split at hi
    · exact pos_lt (l := l) (i := i) (by simpa using h) (by omega)
    · omega
theorem pos_at {x : List UInt8} : ∀ {l : List Item} (h : pos x l < l.length), sLt (l[pos x l]'h).key x = false
  | [], h => by cases h
  | y :: l, h => by
    by_cases e : sLt y.key x = true
    · have e1 : pos x (y :: l) = pos x l + 1 := by rw [pos, if_pos e]
      have := pos_at (x := x) (l := l) (by rw [e1] at h; simpa using h)
      simp only [e1, List.getElem_cons_succ]
      exact this
    · have e1 : pos x (y :: l) = 0 := by rw [pos, if_neg e]
      simp only [e1, List.getElem_cons_zero]
      simpa using e
theorem pos_ge {x : List UInt8} {l : List Item} (hr : KRise l) {i : Nat} (h : i < l.length) (hi : pos x l ≤ i) : sLt l[i].key x = false := by
  have h1 := pos_at (x := x) (l := l) (by omega)
  by_cases e : pos x l = i
  · simp only [e] at h1; exact h1
  · have h2 := krise_lt' hr (show pos x l < i by omega) h
    cases e2 : sLt l[i].key x with
    | false => rfl
    | true => rw [bl_trans h2 e2] at h1; cases h1
theorem leaf_rising_1_is {n : Nat} {l : List Item} {i j : Nat} (hi : i < l.length) (hj : j < l.length) : leaf_rising_1 n l (i : Int) (j : Int) = some (sLt l[i].key l[j].key) := by
  unfold leaf_rising_1 leaf_rising_1_F leaf_rising_1_rt
  simp only [Int.natCast_nonneg, Int.toNat_natCast, hi, hj, decide_true, Bool.and_self, cond_true, getE hi, getE hj, bsome]
theorem sliceSorted_loop (n : Nat) (l : List Item) (hr : KRise l) (hl : l.length ≤ 4000000000000000000) : ∀ (m i : Nat), i < m → i < l.length ∨ i = 0 → sort_SliceIsSorted_L5 n l m (i : Int) = some true := by
  intro m
  induction m with
  | zero => intro i h; omega
  | succ m ih =>
    intro i h1 h2
    unfold sort_SliceIsSorted_L5 sort_SliceIsSorted_L5F sort_SliceIsSorted_rt
    cases i with
    | zero => simp
    | succ i =>
      have h2 : i + 1 < l.length := by omega
      have e1 : (0 : Int) < ((i + 1 : Nat) : Int) := by omega
      have e3 : (((i + 1 : Nat) : Int) - 1) = (i : Int) := by omega
      simp only [e1, decide_true, cond_true]
      rw [e3, w64_id (n := (i : Int)) (by omega) (by omega), leaf_rising_1_is h2 (by omega), bsome, bl_asymm (hr i h2)]
      exact ih i (by omega) (by omega)
theorem leaf_rising_is {n : Nat} {l : List Item} (hr : KRise l) (hl : l.length < n) (hn : l.length ≤ 4000000000000000000) : leaf_rising n l = some true := by
  unfold leaf_rising leaf_rising_F leaf_rising_rt sort_SliceIsSorted sort_SliceIsSorted_F
  cases h : l.length with
  | zero =>
    have : l = [] := List.length_eq_zero_iff.1 h
    subst this
    cases n with
    | zero => omega
    | succ n =>
      rw [w64_id (by omega) (by omega)]
      simp [sort_SliceIsSorted_L5, sort_SliceIsSorted_L5F, bsome]
  | succ k =>
    rw [show (((k + 1 : Nat) : Int) - 1) = (k : Int) by omega, w64_id (by omega) (by omega), sliceSorted_loop n l hr hn n k (by omega) (by omega)]; rfl
theorem leaf_Find_1_is {n : Nat} {l : List Item} {i : Nat} {x : List UInt8} (hi : i < l.length) : leaf_Find_1 n l (i : Int) x = some (!sLt l[i].key x, x) := by
  unfold leaf_Find_1 leaf_Find_1_F leaf_Find_1_rt
  simp only [Int.natCast_nonneg, Int.toNat_natCast, hi, decide_true, Bool.and_self, cond_true, getE hi, bsome]
theorem mid_is {a b : Nat} (hl : a + b ≤ 4000000000000000000) : w64 ((u64 (w64 ((a : Int) + (b : Int))) / 2 ^ 1 : Nat) : Int) = (((a + b) / 2 : Nat) : Int) := by
  rw [w64_id (n := (a : Int) + (b : Int)) (by omega) (by omega), show ((a : Int) + (b : Int)) = ((a + b : Nat) : Int) by omega, u64_of (by omega), w64_id (by omega) (by omega)]
theorem search_loop (n : Nat) (l : List Item) (x : List UInt8) (hr : KRise l) (hl : l.length ≤ 1000000000000000000) : ∀ (m a b : Nat), b - a < m → a ≤ pos x l → pos x l ≤ b → b ≤ l.length → sort_Search_L3 n l m (a : Int) (b : Int) x = some ((pos x l : Int), x) := by
  intro m
  induction m with
  | zero => intro a b h; omega
  | succ m ih =>
    intro a b h1 h2 h3 h4
    unfold sort_Search_L3 sort_Search_L3F sort_Search_rt
    by_cases hab : a < b
    · have e1 : ((a : Int) < (b : Int)) := by omega
      simp only [e1, decide_true, cond_true]
      rw [mid_is (by omega)]
      have hm : (a + b) / 2 < l.length := by omega
      rw [leaf_Find_1_is hm, bsome]
      by_cases hs : sLt l[(a + b) / 2].key x = true
      · simp only [hs, Bool.not_true, Bool.not_false, cond_true]
        rw [w64_id (by omega) (by omega)]
        have hp : (a + b) / 2 < pos x l := by
          by_cases hh : (a + b) / 2 < pos x l
          · exact hh
          · rw [pos_ge hr hm (by omega)] at hs; cases hs
        exact ih ((a + b) / 2 + 1) b (by omega) (by omega) h3 h4
      · have hs : sLt l[(a + b) / 2].key x = false := by simpa using hs
        simp only [hs, Bool.not_true, Bool.not_false, cond_false]
        have hp : pos x l ≤ (a + b) / 2 := by
          by_cases hh : pos x l ≤ (a + b) / 2
          · exact hh
          · rw [pos_lt hm (by omega)] at hs; cases hs
        exact ih a ((a + b) / 2) (by omega) h2 hp (by omega)
    · have e1 : ¬((a : Int) < (b : Int)) := by omega
      simp only [e1, decide_false, cond_false]
      rw [show a = pos x l by omega]
def foundB (l : List Item) (x : List UInt8) : Bool := match l[pos x l]? with
  | some y => decide (y.key = x)
  | none => false
theorem leaf_Find_is {n : Nat} {l : List Item} {x : List UInt8} (hr : KRise l) (hl : l.length < n) (hn : l.length ≤ 1000000000000000000) : leaf_Find n l x = some ((pos x l : Int), foundB l x) := by
  unfold leaf_Find leaf_Find_F
  rw [leaf_rising_is hr hl (by omega), bsome]
  have hs : sort_Search n l (l.length : Int) x = some ((pos x l : Int), x) := by
    unfold sort_Search sort_Search_F
    exact search_loop n l x hr hn n 0 l.length (by omega) (Nat.zero_le _) (pos_le x l) (Nat.le_refl _)
  simp only [cond_true]
  rw [hs, bsome]
  unfold leaf_Find_J7 leaf_Find_J7F leaf_Find_rt foundB
  have hp := pos_le x l
  by_cases h : pos x l < l.length
  · have e1 : ((pos x l : Int) < (l.length : Int)) := by omega
    simp only [e1, h, decide_true, cond_true, Int.natCast_nonneg, Int.toNat_natCast, Bool.and_self, getE h, bsome]
  · have e1 : ¬((pos x l : Int) < (l.length : Int)) := by omega
    have e2 : l[pos x l]? = none := List.getElem?_eq_none (by omega)
    simp only [e1, e2, decide_false, cond_false]
theorem pos_self {l : List Item} (hr : KRise l) {k : Nat} (hk : k < l.length) : pos l[k].key l = k := by
  have h1 : ¬ pos l[k].key l < k := fun h => by
    have h2 := pos_at (x := l[k].key) (l := l) (by omega)
    rw [krise_lt' hr h hk] at h2; cases h2
  have h3 : ¬ k < pos l[k].key l := fun h => by
    have h2 := pos_lt hk h
    rw [bl_irrefl] at h2; cases h2
  omega
theorem found_self {l : List Item} (hr : KRise l) {k : Nat} (hk : k < l.length) : foundB l l[k].key = true := by
  unfold foundB
  rw [pos_self hr hk, getE hk]
  simp
theorem found_iff {l : List Item} (hr : KRise l) {x : List UInt8} : foundB l x = true ↔ ∃ k, ∃ h : k < l.length, l[k].key = x := by
  constructor
  · intro h
    unfold foundB at h
    by_cases hp : pos x l < l.length
    · rw [getE hp] at h
      exact ⟨pos x l, hp, by simpa using h⟩
    · rw [List.getElem?_eq_none (by omega)] at h; cases h
  · rintro ⟨k, hk, rfl⟩
    exact found_self hr hk
/-- A key among the first ones. -/
def thereB (l : List Item) (x : List UInt8) (k : Nat) : Bool := (l.take k).any fun y => decide (y.key = x)
theorem there_succ {l : List Item} {x : List UInt8} {k : Nat} (hk : k < l.length) : thereB l x (k + 1) = (thereB l x k || decide (l[k].key = x)) := by
  unfold thereB
  rw [take_succ_at (getE hk), List.any_append]; simp
theorem finds_loop (n : Nat) (l : List Item) (x : List UInt8) (hr : KRise l) (hl : l.length < n) (hn : l.length ≤ 1000000000000000000) : ∀ (m k : Nat), l.length < m + k → k ≤ l.length → law08_LeafFinds_L12 n l m x (pos x l : Int) (foundB l x) (thereB l x k) (k : Int) = some true := by
  intro m
  induction m with
  | zero => intro k h1 h2; omega
  | succ m ih =>
    intro k h1 h2
    unfold law08_LeafFinds_L12 law08_LeafFinds_L12F law08_LeafFinds_rt
    by_cases hk : k < l.length
    · have e1 : ((k : Int) < (l.length : Int)) := by omega
      simp only [e1, hk, decide_true, cond_true, Int.natCast_nonneg, Int.toNat_natCast, Bool.and_self, getE hk, bsome]
      rw [leaf_Find_is hr hl hn, bsome, pos_self hr hk, found_self hr hk]
      simp only [ne_eq, not_true_eq_false, decide_false, cond_false, Bool.not_true]
      have e2 : decide ((k : Int) < (pos x l : Int)) = sLt l[k].key x := by
        by_cases h : k < pos x l
        · rw [pos_lt hk h, decide_eq_true (by omega)]
        · rw [pos_ge hr hk (by omega), decide_eq_false (by omega)]
      have e3 : (!decide ((k : Int) < (pos x l : Int)) == sLt l[k].key x) = false := by
        rw [e2]; cases sLt l[k].key x <;> rfl
      rw [e3]
      simp only [cond_false]
      have e4 : thereB l x (k + 1) = (thereB l x k || decide (l[k].key = x)) := there_succ hk
      have := ih (k + 1) (by omega) (by omega)
      unfold law08_LeafFinds_J17 law08_LeafFinds_J17F
      rw [w64_id (by omega) (by omega)]
      cases ht : thereB l x k
      · simp only [cond_false, hk, decide_true, cond_true, Int.natCast_nonneg, Int.toNat_natCast, Bool.and_self, getE hk, bsome]
        rw [ht, Bool.false_or] at e4
        rw [← e4]
        exact this
      · rw [ht, Bool.true_or] at e4
        rw [e4] at this
        exact this
    · have e1 : ¬((k : Int) < (l.length : Int)) := by omega
      simp only [e1, decide_false, cond_false]
      have e2 : thereB l x k = foundB l x := by
        unfold thereB
        rw [List.take_of_length_le (by omega), Bool.eq_iff_iff, found_iff hr, List.any_eq_true]
        constructor
        · rintro ⟨y, hy, he⟩
          obtain ⟨i, hi, rfl⟩ := List.getElem_of_mem hy
          exact ⟨i, hi, by simpa using he⟩
        · rintro ⟨i, hi, he⟩
          exact ⟨l[i], List.getElem_mem hi, by simpa using he⟩
      rw [e2]
      simp
theorem leafFinds_m (l : List Item) (s : Int) (x : List UInt8) (hl : ∀ y ∈ l, y.key.length + y.value.length ≤ 300000000000000) (hn : l.length ≤ 140737488351232) : law08_LeafFinds (l.length + 10000) l s x = some true := by
  unfold law08_LeafFinds law08_LeafFinds_F law08_LeafFinds_rt
  rw [finds_lives, bsome]
  simp only [Bool.not_true, cond_false]
  rw [leaf_Page_is (by omega) (by omega) (by omega) (fun hm => by have := lsz_may hm; omega), bsome, light_is hl (by omega), bsome]
  cases h1 : lightB l
  · rfl
  by_cases h2 : lpgE s 2 0 l = 0
  · have hr := krise_of (may_of h2)
    have e2 : ((lpgE s 2 0 l : Nat) : Int) = 0 := by omega
    simp only [Bool.not_true, cond_false, e2, ne_eq, not_true_eq_false, decide_false]
    by_cases h3 : (200 : Int) < (x.length : Int)
    · simp only [h3, decide_true, cond_true]
    · simp only [h3, decide_false, cond_false]
      unfold law08_LeafFinds_J7 law08_LeafFinds_J7F
      rw [leaf_Find_is hr (by omega) (by omega), bsome]
      have hp := pos_le x l
      have g1 : ¬((pos x l : Int) < 0) := by omega
      have g2 : ¬((l.length : Int) < (pos x l : Int)) := by omega
      simp only [g1, g2, decide_false, cond_false, law08_LeafFinds_rt]
      unfold law08_LeafFinds_J10 law08_LeafFinds_J10F
      exact finds_loop (l.length + 10000) l x hr (by omega) (by omega) (l.length + 10000) 0 (by omega) (Nat.zero_le _)
  · have e2 : ((lpgE s 2 0 l : Nat) : Int) ≠ 0 := by omega
    simp only [Bool.not_true, cond_false, e2, ne_eq, not_false_eq_true, decide_true, cond_true]
end Go.Ev
end