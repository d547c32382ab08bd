/- Words of my own, printed by a program of mine. -/
import Derived.Test.YtmnpchmdgobcnaaDfns
import Derived.Test.YtmnpchmdgobcnaaHn
section
set_option linter.unusedVariables false
set_option linter.unusedSimpArgs false
namespace Go.Ev
open Go.RowKit
theorem w64_id {n : Int} (h1 : -4611686018427387904 ≤ n) (h2 : n ≤ 4611686018427387904) : w64 n = n := w64_of (by omega) (by omega)
theorem ble_of {a b : Nat} (h : a ≤ b) : Nat.ble a b = true := Nat.ble_eq_true_of_le h
theorem bsome {α β : Type} (a : α) (f : α → Option β) : Option.bind (some a) f = f a := rfl
theorem getE {α : Type} {l : List α} {i : Nat} (h : i < l.length) : l[i]? = some l[i] := List.getElem?_eq_getElem h
theorem device_Good_is (n : Nat) (s : Int) : device_Good n s = some (goodB s) := by
  unfold device_Good device_Good_F goodB device_Good_rt
  by_cases h1 : 128 ≤ s <;> by_cases h2 : s ≤ 4096 <;> simp [h1, h2]
theorem frame_Room_is (n : Nat) (s : Int) : frame_Room n s = some (room s : Int) := by
  unfold frame_Room frame_Room_F frame_Room_rt
  rw [device_Good_is, bsome]
  cases h : goodB s
  · rw [room_bad h]; rfl
  · obtain ⟨g1, g2, g3⟩ := goodB_le h
    have g4 : ((room s : Nat) : Int) = s - 24 := by omega
    rw [g4]
    simp only [Bool.not_true, cond_false]
    rw [w64_id (by omega) (by omega)]
theorem leaf_number_is (n a : Nat) : leaf_number n a = some (numB a) := by
  unfold leaf_number leaf_number_F numB leaf_number_rt
  by_cases h1 : 2 ≤ a
  · simp [h1]
  · simp [h1]
theorem branch_Key_is (n : Nat) (k : List UInt8) : branch_Key n k = some (keyB k) := by
  unfold branch_Key branch_Key_F keyB branch_Key_rt
  congr 1
  exact decide_eq_decide.2 (by omega)
theorem leaf_value_may_is (n : Nat) (x : Item) : leaf_value_may n x = some (vmayB x) := by
  unfold leaf_value_may leaf_value_may_F leaf_value_may_rt vmayB keyB
  rw [leaf_number_is]
  by_cases h1 : x.key.length ≤ 40
  · have h1' : ((x.key.length : Int) ≤ 40) := by omega
    cases hx : x.over
    · by_cases h2 : x.value.length ≤ 255
      · have h2' : ((x.value.length : Int) ≤ 255) := by omega
        by_cases h3 : x.len = 0 <;> simp [h1, h1', h2, h2', h3]
      · have h2' : ¬((x.value.length : Int) ≤ 255) := by omega
        simp [h1, h1', h2, h2']
    · by_cases h2 : x.value = [] <;> by_cases h3 : 1 ≤ x.len <;> by_cases h4 : x.len ≤ 4096 <;> simp [h1, h1', h2, h3, h4, bsome]
  · have h1' : ¬((x.key.length : Int) ≤ 40) := by omega
    simp [h1, h1']
theorem leaf_value_size_is (n : Nat) (x : Item) (h : x.value.length ≤ 4611686018427387000) : leaf_value_size n x = some (vsz x : Int) := by
  unfold leaf_value_size leaf_value_size_F leaf_value_size_rt vsz
  cases hx : x.over
  · simp; rw [w64_id (by omega) (by omega)]
  · simp
theorem leaf_Size_loop (n : Nat) (l : List Item) (hs : ∀ x ∈ l, x.key.length + x.value.length ≤ 4000000) (hl : l.length ≤ 1000000000) (hz : lsz l ≤ 4000000000000000000) : ∀ (m i : Nat), l.length < m + i → i ≤ l.length → leaf_Size_L3 n l m (lsz (l.take i) : Int) (l.length : Int) (i : Int) = some (lsz l : Int) := by
  intro m
  induction m with
  | zero => intro i h1 h2; omega
  | succ m ih =>
    intro i h1 h2
    unfold leaf_Size_L3 leaf_Size_L3F leaf_Size_rt
    by_cases hi : i < l.length
    · have hx := getE hi
      have hm := hs _ (List.getElem_mem hi)
      have e1 : ((i : Int) < (l.length : Int)) := by omega
      have h5 := lsz_succ hx
      have h6 := lsz_take_le l (i + 1)
      have h7 := vsz_le l[i]
      simp only [e1, decide_true, cond_true, Int.natCast_nonneg, Int.toNat_natCast, hi, Bool.and_self, hx, bsome]
      rw [leaf_value_size_is n _ (by show l[i].value.length ≤ _; omega), bsome]
      show leaf_Size_L3 n l m (w64 ((lsz (l.take i) : Int) + w64 (w64 (2 + (l[i].key.length : Int)) + (vsz l[i] : Int)))) (l.length : Int) (w64 ((i : Int) + 1)) = _
      rw [w64_id (n := 2 + (l[i].key.length : Int)) (by omega) (by omega), w64_id (n := 2 + (l[i].key.length : Int) + (vsz l[i] : Int)) (by omega) (by omega), w64_id (by omega) (by omega), w64_id (by omega) (by omega)]
      have := ih (i + 1) (by omega) (by omega)
      rw [h5] at this
      rw [← this]
      exact congrArg (fun z => leaf_Size_L3 n l m z _ _) (by omega)
    · have e1 : ¬((i : Int) < (l.length : Int)) := by omega
      simp only [e1, decide_false, cond_false]
      rw [List.take_of_length_le (by omega)]
theorem leaf_Size_is {n : Nat} {l : List Item} (hs : ∀ x ∈ l, x.key.length + x.value.length ≤ 4000000) (hl : l.length < n) (hn : n ≤ 1000000000) (hz : lsz l ≤ 4000000000000000000) : leaf_Size n l = some (lsz l : Int) := by
  have := leaf_Size_loop n l hs (by omega) hz n 0 (by omega) (by omega)
  exact this
theorem octet_Put_loop (n : Nat) (b l : List UInt8) (a k : Nat) (hk : k ≤ 8) (hl : l.length ≤ 90000000) : ∀ (m i : Nat), k < m + i → i ≤ k → octet_Put_L6 n b m a (k : Int) (i : Int) (l ++ le a i) = some (l ++ le a k) := by
  intro m
  induction m with
  | zero => intro i h1 h2; omega
  | succ m ih =>
    intro i h1 h2
    unfold octet_Put_L6 octet_Put_L6F octet_Put_rt
    by_cases hi : i < k
    · have e1 : ((i : Int) < (k : Int)) := by omega
      rw [w64_id (n := 8 * (i : Int)) (by omega) (by omega)]
      have e2 : Int.toNat (8 * (i : Int)) = 8 * i := by omega
      rw [e2]
      have e3 : (0 : Int) ≤ 8 * (i : Int) := by omega
      have e4 : Nat.ble (8 * i) 64 = true := ble_of (by omega)
      have e5 : Nat.ble ((l ++ le a i).length + [UInt8.ofNat (a / 2 ^ (8 * i))].length) 100000000 = true := ble_of (by simp [le_length]; omega)
      simp only [e1, e3, e4, e5, decide_true, cond_true, Bool.and_self]
      rw [w64_id (by omega) (by omega), List.append_assoc, ← le_succ]
      exact ih (i + 1) (by omega) (by omega)
    · have e1 : ¬((i : Int) < (k : Int)) := by omega
      simp only [e1, decide_false, cond_false]
      rw [show i = k by omega]
theorem octet_Put_is {n : Nat} {l : List UInt8} {a k : Nat} (hn : 9 ≤ n) (hk : 1 ≤ k) (hk8 : k ≤ 8) (hl : l.length ≤ 90000000) : octet_Put n l a (k : Int) = some (l ++ le a k) := by
  unfold octet_Put octet_Put_F octet_Put_rt
  rw [w64_id (by omega) (by omega)]
  have e1 : (0 : Int) ≤ (l.length : Int) + 8 := by omega
  have e2 : Nat.ble (Int.toNat 0) (Int.toNat ((l.length : Int) + 8)) = true := ble_of (by omega)
  have e3 : Nat.ble (Int.toNat ((l.length : Int) + 8)) 100000000 = true := ble_of (by omega)
  have e4 : Nat.ble ((List.replicate (Int.toNat 0) (UInt8.ofNat (Int.toNat 0))).length + l.length) 100000000 = true := ble_of (by simp; omega)
  have e5 : ¬((k : Int) < 1) := by omega
  have e6 : ¬((8 : Int) < (k : Int)) := by omega
  simp only [e1, e2, e3, e4, e5, e6, decide_true, decide_false, cond_true, cond_false, Bool.and_self, Int.le_refl]
  have := octet_Put_loop n l l a k hk8 hl n 0 (by omega) (by omega)
  simpa [octet_Put_J5, octet_Put_J5F, le] using this
theorem leaf_value_put_is {n : Nat} {b : List UInt8} {x : Item} (hn : 9 ≤ n) (hb : b.length ≤ 80000000) (hv : x.value.length ≤ 1000000) (hh : x.over = true → x.head < 4294967296) : leaf_value_put n b x = some (b ++ vput x) := by
  unfold leaf_value_put leaf_value_put_F leaf_value_put_rt vput
  cases hx : x.over
  · rw [u64_of (n := x.value.length) (by omega)]
    have h1 := octet_Put_is (n := n) (l := b) (a := x.value.length) (k := 1) hn (by omega) (by omega) (by omega)
    have h1' : octet_Put n b x.value.length 1 = some (b ++ le x.value.length 1) := h1
    have e1 : Nat.ble ((b ++ le x.value.length 1).length + x.value.length) 100000000 = true := ble_of (by simp [le_length]; omega)
    simp only [cond_false, h1', bsome, e1, cond_true, List.append_assoc, Bool.false_eq_true, if_false]
  · have h1 : octet_Put n b (u64 x.len) 4 = some (b ++ le (u64 x.len) 4) := octet_Put_is (k := 4) hn (by omega) (by omega) (by omega)
    have h2 : octet_Put n (b ++ le (u64 x.len) 4) (x.head % 18446744073709551616) 4 = some ((b ++ le (u64 x.len) 4) ++ le (x.head % 18446744073709551616) 4) := octet_Put_is (k := 4) hn (by omega) (by omega) (by simp [le_length]; omega)
    simp only [cond_true, h1, h2, bsome, List.append_assoc, if_true]
    have := hh hx
    rw [Nat.mod_eq_of_lt (by omega), u64_of (n := x.head) (by omega)]
theorem frame_Body_is {n : Nat} {b : List UInt8} {s : Int} (hb : b.length ≤ 80000000) : frame_Body n b s = some (bodyS s b, (bodyE s b : Int)) := by
  unfold frame_Body frame_Body_F frame_Body_rt
  rw [device_Good_is, frame_Room_is, bsome]
  cases h : goodB s
  · obtain ⟨h1, h2⟩ := body_bad (l := b) h
    rw [h1, h2]; rfl
  · have hr := room_le s
    have hr2 : 1 ≤ room s := by have := goodB_le h; omega
    simp only [Bool.not_true, cond_false, bsome, Int.toNat_natCast, Int.natCast_nonneg, decide_true, Bool.and_self, List.length_replicate, Bool.true_and]
    by_cases h2 : room s < b.length
    · obtain ⟨h3, h4⟩ := body_long h h2
      have : ((room s : Int) < (b.length : Int)) := by omega
      rw [h3, h4]; simp only [this, decide_true, cond_true]; rfl
    · have h5 : b.length ≤ room s := by omega
      obtain ⟨h3, h4⟩ := body_ok h h5
      have : ¬((room s : Int) < (b.length : Int)) := by omega
      have e1 : Nat.ble (room s) (room s) = true := ble_of (Nat.le_refl _)
      have e2 : Nat.ble (room s) 100000000 = true := ble_of (by omega)
      have e3 : Nat.ble 1 (room s) = true := ble_of hr2
      rw [h3, h4]
      simp only [this, decide_false, cond_false, e1, e2, e3, cond_true, Bool.and_self]
      have e4 : Nat.min b.length (room s) = b.length := Nat.min_eq_left h5
      rw [e4, List.take_length]
      simp [padL]
end Go.Ev
end
section
set_option linter.unusedVariables false
set_option linter.unusedSimpArgs false
namespace Go.Ev
open Go.RowKit
theorem leaf_may_loop (n : Nat) (l : List Item) (hl : l.length ≤ 1000000000) : ∀ (m i : Nat), l.length < m + i → i ≤ l.length → (∀ j, j < i → okAt l j = true) → leaf_may_L3 n l m (l.length : Int) (i : Int) = some (lmayB l) := by
  intro m
  induction m with
  | zero => intro i h1 h2; omega
  | succ m ih =>
    intro i h1 h2 hok
    unfold leaf_may_L3 leaf_may_L3F leaf_may_rt
    by_cases hi : i < l.length
    · have hx := getE hi
      have e1 : ((i : Int) < (l.length : Int)) := by omega
      simp only [e1, decide_true, cond_true, Int.natCast_nonneg, Int.toNat_natCast, hi, Bool.and_self, hx, bsome]
      rw [leaf_value_may_is, bsome]
      show (bif !vmayB l[i] then _ else _) = _
      cases hv : vmayB l[i]
      · simp only [Bool.not_false, cond_true]
        rw [lmay_bad hi (by unfold okAt; rw [hx]; simp [hv])]
      · simp only [Bool.not_true, cond_false]
        by_cases h0 : i = 0
        · subst h0
          simp only [Int.natCast_zero, Int.lt_irrefl, decide_false, cond_false]
          exact ih 1 (by omega) (by omega) (all_succ hok (by unfold okAt; rw [hx]; simp [hv]))
        · have e2 : (0 : Int) < (i : Int) := by omega
          have e3 : ((i : Int) - 1) = ((i - 1 : Nat) : Int) := by omega
          rw [w64_id (n := (i : Int) - 1) (by omega) (by omega), e3]
          have hy := getE (l := l) (i := i - 1) (by omega)
          have e4 : i - 1 < l.length := by omega
          simp only [e2, e4, decide_true, cond_true, Int.natCast_nonneg, Int.toNat_natCast, Bool.and_self, hy, bsome]
          cases hs : sLt l[i - 1].key l[i].key
          · simp only [Bool.not_false, cond_true]
            rw [lmay_bad hi (by unfold okAt; rw [hx]; simp [hv, h0, hy, hs])]
          · simp only [Bool.not_true, cond_false]
            rw [w64_id (by omega) (by omega)]
            exact ih (i + 1) (by omega) (by omega) (all_succ hok (by unfold okAt; rw [hx]; simp [hv, h0, hy, hs]))
    · have e1 : ¬((i : Int) < (l.length : Int)) := by omega
      simp only [e1, decide_false, cond_false]
      rw [lmay_end (fun j hj => hok j (by omega))]
      exact congrArg some (decide_eq_decide.2 (by omega))
theorem leaf_may_is {n : Nat} {l : List Item} (hl : l.length < n) (hn : n ≤ 1000000000) : leaf_may n l = some (lmayB l) :=
  leaf_may_loop n l (by omega) n 0 (by omega) (by omega) (fun j hj => by omega)
theorem vmay_head {x : Item} (h : vmayB x = true) (ho : x.over = true) : x.head < 4294967296 := by
  unfold vmayB at h
  rw [if_pos ho] at h
  simp only [Bool.and_eq_true, numB, decide_eq_true_eq] at h
  omega
theorem leaf_Page_loop {n : Nat} {l : List Item} {s : Int} {a tx : Nat} {p : Pg} (hn : 9 ≤ n) (hm : lmayB l = true) (hz : lsz l ≤ 4072) (hl : l.length ≤ 1000000000) : ∀ (m i : Nat), l.length < m + i → i ≤ l.length → leaf_Page_L6 n l m s a tx (l.length : Int) (i : Int) (lbytes (l.take i)) p = some (⟨4, (l.length : Int), a, 0, tx, bodyS s (lbytes l)⟩, 0) := by
  intro m
  induction m with
  | zero => intro i h1 h2; omega
  | succ m ih =>
    intro i h1 h2
    unfold leaf_Page_L6 leaf_Page_L6F leaf_Page_rt
    by_cases hi : i < l.length
    · have hx := getE hi
      have e1 : ((i : Int) < (l.length : Int)) := by omega
      have hv := lmay_at hm hx
      have hk := vmay_le hv
      have hb : (lbytes (l.take i)).length ≤ 4072 := by rw [lbytes_length]; exact Nat.le_trans (lsz_take_le l i) hz
      simp only [e1, decide_true, cond_true, Int.natCast_nonneg, Int.toNat_natCast, hi, Bool.and_self, hx, bsome]
      have key : ∀ ov : Nat, ov = (if l[i].over = true then 1 else 0) → leaf_Page_J11 n l (leaf_Page_L6 n l m) s a tx ov (l.length : Int) (i : Int) l[i] (lbytes (l.take i)) p = some (⟨4, (l.length : Int), a, 0, tx, bodyS s (lbytes l)⟩, 0) := by
        intro ov hov
        unfold leaf_Page_J11 leaf_Page_J11F
        have g1 : octet_Put n (lbytes (l.take i)) ov 1 = some (lbytes (l.take i) ++ le ov 1) := octet_Put_is (k := 1) hn (by omega) (by omega) (by omega)
        rw [g1, bsome, u64_of (n := l[i].key.length) (by omega)]
        have g2 : octet_Put n (lbytes (l.take i) ++ le ov 1) l[i].key.length 1 = some ((lbytes (l.take i) ++ le ov 1) ++ le l[i].key.length 1) := octet_Put_is (k := 1) hn (by omega) (by omega) (by simp [le_length]; omega)
        rw [g2, bsome]
        have g3 : Nat.ble (((lbytes (l.take i) ++ le ov 1) ++ le l[i].key.length 1).length + l[i].key.length) 100000000 = true := ble_of (by simp [le_length]; omega)
        rw [g3, cond_true]
        have g4 := leaf_value_put_is (n := n) (b := ((lbytes (l.take i) ++ le ov 1) ++ le l[i].key.length 1) ++ l[i].key) (x := l[i]) hn (by simp [le_length]; omega) (by omega) (vmay_head hv)
        show Option.bind (leaf_value_put n (((lbytes (l.take i) ++ le ov 1) ++ le l[i].key.length 1) ++ l[i].key) l[i]) _ = _
        rw [g4, bsome, w64_id (by omega) (by omega)]
        have g5 : ((((lbytes (l.take i) ++ le ov 1) ++ le l[i].key.length 1) ++ l[i].key) ++ vput l[i]) = lbytes (l.take (i + 1)) := by
          rw [lbytes_succ hx, hov]
          simp [ibytes]
        rw [g5]
        exact ih (i + 1) (by omega) (by omega)
      cases ho : l[i].over
      · exact key 0 (by rw [ho]; rfl)
      · exact key 1 (by rw [ho]; rfl)
    · have e1 : ¬((i : Int) < (l.length : Int)) := by omega
      simp only [e1, decide_false, cond_false]
      rw [List.take_of_length_le (by omega), frame_Body_is (by rw [lbytes_length]; omega), bsome]
      rfl
theorem leaf_Page_is {n : Nat} {l : List Item} {s : Int} {a tx : Nat} (hn : 9 ≤ n) (hl : l.length < n) (hn2 : n ≤ 1000000000) (hs : lmayB l = true → lsz l ≤ 4000000000000000000) : leaf_Page n l s a tx = some (lpg s a tx l, (lpgE s a tx l : Int)) := by
  unfold leaf_Page leaf_Page_F leaf_Page_rt
  rw [leaf_may_is hl hn2, bsome]
  have bad : lpgOk s a tx l = false → some ((⟨0, 0, 0, 0, 0, []⟩ : Pg), (2 : Int)) = some (lpg s a tx l, (lpgE s a tx l : Int)) := fun h => by
    rw [(lpg_bad h).1, (lpg_bad h).2]; rfl
  cases hm : lmayB l
  · exact bad (by unfold lpgOk; rw [hm]; rfl)
  · simp only [Bool.not_true, cond_false]
    rw [leaf_Size_is (fun x hx => by have := lmay_sz hm x hx; omega) hl hn2 (hs hm), bsome, frame_Room_is, bsome]
    by_cases h1 : lsz l ≤ room s
    · have e1 : ¬((room s : Int) < (lsz l : Int)) := by omega
      simp only [e1, decide_false, cond_false]
      rw [leaf_number_is, bsome]
      cases h2 : numB a
      · exact bad (by unfold lpgOk; rw [hm, h2]; simp)
      · simp only [Bool.not_true, cond_false]
        by_cases h3 : 4611686018427387904 < tx
        · have : Int.toNat 4611686018427387904 < tx := h3
          simp only [this, decide_true, cond_true]
          exact bad (by unfold lpgOk; rw [decide_eq_false (by omega : ¬(tx ≤ 4611686018427387904))]; simp)
        · have : ¬(Int.toNat 4611686018427387904 < tx) := h3
          simp only [this, decide_false, cond_false]
          have hr := room_le s
          have h4 : lpgOk s a tx l = true := lpgOk_iff.2 ⟨hm, h1, h2, by omega⟩
          rw [(lpg_ok h4).1, (lpg_ok h4).2]
          exact leaf_Page_loop hn hm (by omega) (by omega) n 0 (by omega) (by omega)
    · have e1 : ((room s : Int) < (lsz l : Int)) := by omega
      simp only [e1, decide_true, cond_true]
      exact bad (by unfold lpgOk; rw [decide_eq_false h1]; simp)
theorem take_is (n : Nat) (l : List UInt8) (k : Nat) : octet_Reader_take n l (k : Int) = some (takeV l k, (takeE l k : Int), takeR l k) := by
  unfold octet_Reader_take octet_Reader_take_F octet_Reader_take_rt takeV takeE takeR
  by_cases h : k ≤ l.length
  · have e1 : ¬((l.length : Int) < (k : Int)) := by omega
    simp [e1, h]
  · have e1 : ((l.length : Int) < (k : Int)) := by omega
    simp [e1, h]
theorem Bytes_is (n : Nat) (l : List UInt8) (k : Nat) : octet_Reader_Bytes n l (k : Int) = some (takeV l k, (takeE l k : Int), takeR l k) := by
  unfold octet_Reader_Bytes octet_Reader_Bytes_F octet_Reader_Bytes_rt
  have e1 : ¬((k : Int) < 0) := by omega
  simp only [e1, decide_false, cond_false]
  rw [take_is]; rfl
theorem Number_loop (n : Nat) (v r : List UInt8) (e : Int) (hv : v.length ≤ 8) : ∀ (m i : Nat), v.length < m + i → i ≤ v.length → octet_Reader_Number_L8 n m (ofLe (v.take i)) e v (v.length : Int) (i : Int) r = some (ofLe v, e, r) := by
  intro m
  induction m with
  | zero => intro i h1 h2; omega
  | succ m ih =>
    intro i h1 h2
    unfold octet_Reader_Number_L8 octet_Reader_Number_L8F octet_Reader_Number_rt
    by_cases hi : i < v.length
    · have hx := getE hi
      have e1 : ((i : Int) < (v.length : Int)) := by omega
      simp only [e1, decide_true, cond_true, Int.natCast_nonneg, Int.toNat_natCast, hx, bsome]
      rw [w64_id (n := 8 * (i : Int)) (by omega) (by omega)]
      have e2 : Int.toNat (8 * (i : Int)) = 8 * i := by omega
      have e3 : (0 : Int) ≤ 8 * (i : Int) := by omega
      have e4 : Nat.ble (8 * i) 64 = true := ble_of (by omega)
      rw [e2, w64_id (by omega) (by omega)]
      simp only [e3, e4, decide_true, cond_true, Bool.and_self]
      have h5 := ofLe_or hx (by omega)
      have h6 : (ofLe (v.take i) % 18446744073709551616 ||| v[i].toNat * 2 ^ (8 * i) % 18446744073709551616 % 18446744073709551616) % 18446744073709551616 = ofLe (v.take (i + 1)) := by
        have h7 := congrArg Int.toNat h5
        rw [Int.toNat_natCast] at h7
        rw [← h7, Nat.mod_mod]
        show _ = Int.toNat (IntKind.u64.wrap _)
        rw [u64_cast]
        rw [Int.toNat_natCast]
        have h8 : ∀ q : Nat, u64 (q : Int) = q % 18446744073709551616 := fun q => by
          unfold u64
          simp [IntKind.wrap, IntKind.signed, IntKind.bits]
          omega
        rw [h8]; rfl
      rw [h6]
      exact ih (i + 1) (by omega) (by omega)
    · have e1 : ¬((i : Int) < (v.length : Int)) := by omega
      simp only [e1, decide_false, cond_false]
      rw [List.take_of_length_le (by omega)]
theorem Number_is {n : Nat} {l : List UInt8} {k : Nat} (hn : 9 ≤ n) (h1 : 1 ≤ k) (h8 : k ≤ 8) : octet_Reader_Number n l (k : Int) = some (numV l k, (takeE l k : Int), takeR l k) := by
  unfold octet_Reader_Number octet_Reader_Number_F octet_Reader_Number_rt
  have e1 : ¬((k : Int) < 1) := by omega
  have e2 : ¬((8 : Int) < (k : Int)) := by omega
  simp only [e1, e2, decide_false, cond_false, octet_Reader_Number_J6, octet_Reader_Number_J6F]
  rw [take_is, bsome]
  have hv := takeV_length (l := l) (k := k)
  exact Number_loop n (takeV l k) (takeR l k) (takeE l k : Int) (by omega) n 0 (by omega) (by omega)
end Go.Ev
end
section
set_option linter.unusedVariables false
set_option linter.unusedSimpArgs false
namespace Go.Ev
open Go.RowKit
theorem item_is {n : Nat} (hn : 9 ≤ n) (l : List UInt8) : leaf_item n l = some ((itemP l).1, ((itemP l).2.1 : Int), (itemP l).2.2) := by
  have num1 : ∀ r, octet_Reader_Number n r 1 = some (numV r 1, (takeE r 1 : Int), takeR r 1) := fun r => Number_is (k := 1) hn (by omega) (by omega)
  have num4 : ∀ r, octet_Reader_Number n r 4 = some (numV r 4, (takeE r 4 : Int), takeR r 4) := fun r => Number_is (k := 4) hn (by omega) (by omega)
  have w1 : ∀ r, w64 ((numV r 1 : Nat) : Int) = ((numV r 1 : Nat) : Int) := fun r => i64_num (k := 1) (by omega)
  have w4 : ∀ r, w64 ((numV r 4 : Nat) : Int) = ((numV r 4 : Nat) : Int) := fun r => i64_num (k := 4) (by omega)
  have u4 : ∀ r, numV r 4 % 4294967296 = numV r 4 := fun r => Nat.mod_eq_of_lt (by have := numV_lt (l := r) (k := 4); omega)
  have cz : ∀ k : Nat, decide ((k : Int) ≠ 0) = decide (k ≠ 0) := fun k => decide_eq_decide.2 (by omega)
  have t1 : Int.toNat 1 = 1 := rfl
  unfold leaf_item leaf_item_F leaf_item_rt itemP
  simp only [num1, num4, bsome, cz, t1, leaf_item_J6, leaf_item_J6F, leaf_item_rt, w1, w4, u4, Bytes_is, numV_le1]
  by_cases h1 : takeE (takeR l 1) 1 ≠ 0
  · simp only [h1, decide_true, cond_true, true_or, if_true, ne_eq, not_false_eq_true]; all_goals rfl
  · by_cases h2 : 1 < numV l 1
    · simp only [h1, h2, decide_true, decide_false, cond_true, cond_false, or_true, if_true]; all_goals rfl
    · simp only [h1, h2, decide_true, decide_false, cond_true, cond_false, or_self, if_false]
      by_cases h3 : takeE (takeR (takeR l 1) 1) (numV (takeR l 1) 1) ≠ 0
      · simp only [h3, decide_true, cond_true, if_true, ne_eq, not_false_eq_true]
        rfl
      · simp only [h3, decide_false, cond_false, if_false]
        by_cases h4 : numV l 1 = 1
        · simp only [h4, decide_true, cond_true, if_true]; all_goals rfl
        · simp only [h4, decide_false, cond_false, if_false]
          by_cases h5 : takeE (takeR (takeR (takeR l 1) 1) (numV (takeR l 1) 1)) 1 ≠ 0
          · simp only [h5, decide_true, cond_true, if_true, ne_eq, not_false_eq_true]; all_goals rfl
          · simp only [h5, decide_false, cond_false, if_false]; all_goals rfl
theorem each_loop {n : Nat} (hn : 9 ≤ n) (c : Int) : ∀ (m i : Nat) (r : List UInt8) (acc : List Item), r.length < m → acc.length = i → acc.length + r.length ≤ 90000000 → leaf_each_api_Item_L3 n m c (i : Int) acc r = some (((eachR (c.toNat - i) r acc).2.1 : Int), (eachR (c.toNat - i) r acc).1, (eachR (c.toNat - i) r acc).2.2) := by
  intro m
  induction m with
  | zero => intro i r acc h1 h2; omega
  | succ m ih =>
    intro i r acc h1 h2 h3
    unfold leaf_each_api_Item_L3 leaf_each_api_Item_L3F leaf_each_api_Item_rt
    by_cases hi : (i : Int) < c
    · have e2 : c.toNat - i = (c.toNat - (i + 1)) + 1 := by omega
      have e3 : leaf_Of_1 n r = some ((itemP r).1, ((itemP r).2.1 : Int), (itemP r).2.2) := by
        unfold leaf_Of_1 leaf_Of_1_F leaf_Of_1_rt; rw [item_is hn]; rfl
      simp only [hi, decide_true, cond_true, e3, bsome]
      rw [e2, eachR]
      by_cases h0 : (itemP r).2.1 = 0
      · have e4 := itemP_two h0
        have e5 : Nat.ble (acc.length + [(itemP r).1].length) 100000000 = true := ble_of (by simp; omega)
        rw [if_pos h0]
        have e6 : decide (((itemP r).2.1 : Int) ≠ 0) = false := decide_eq_false (by omega)
        rw [e6, cond_false]
        show (bif Nat.ble (acc.length + [(itemP r).1].length) 100000000 then _ else _) = _
        rw [e5, cond_true, w64_id (by omega) (by omega)]
        exact ih (i + 1) _ _ (by omega) (by simp; omega) (by simp; omega)
      · rw [if_neg h0]
        have e6 : decide (((itemP r).2.1 : Int) ≠ 0) = true := decide_eq_true (by omega)
        rw [e6, cond_true]
    · simp only [hi, decide_false, cond_false]
      rw [show c.toNat - i = 0 by omega, eachR]
      rfl
theorem each_is {n : Nat} {c : Int} {l : List UInt8} (hn : 9 ≤ n) (hl : l.length < n) (h2 : l.length ≤ 90000000) : leaf_each_api_Item n c l = some (((eachP c l).2.1 : Int), (eachP c l).1, (eachP c l).2.2) := by
  exact each_loop hn c n 0 l [] hl rfl (by simpa using h2)
theorem lsz_may {l : List Item} (h : lmayB l = true) : lsz l ≤ 305 * l.length := by
  have h2 := lmay_all h
  clear h
  induction l with
  | nil => exact Nat.le_refl _
  | cons x l ih =>
    have h3 := vmay_le (h2 x (.head _))
    have h4 := vsz_le x
    have h5 := ih (fun y hy => h2 y (.tail _ hy))
    show (2 + x.key.length + vsz x) + lsz l ≤ _
    rw [List.length_cons]
    omega
theorem leaf_Of_is {n : Nat} {p : Pg} (hn : 9 ≤ n) (hl : p.body.length < n) (hn2 : n ≤ 80000000) : leaf_Of n p = some (((ofP p).2 : Int), (ofP p).1) := by
  unfold leaf_Of leaf_Of_F leaf_Of_rt ofP
  rw [each_is hn hl (by omega), bsome]
  by_cases h1 : (eachP p.count p.body).2.1 ≠ 0
  · have e1 : decide (((eachP p.count p.body).2.1 : Int) ≠ 0) = true := decide_eq_true (by omega)
    simp only [e1, cond_true, if_pos h1]; rfl
  · have e1 : decide (((eachP p.count p.body).2.1 : Int) ≠ 0) = false := decide_eq_false (by omega)
    have hlen := eachP_len p.count p.body
    simp only [e1, cond_false, if_neg h1]
    rw [w64_id (by omega) (by omega), leaf_Page_is hn (by omega) (by omega) (fun hm => by have := lsz_may hm; omega), bsome]
    have e9 : ((p.body.length : Int) + 24) = ((p.body.length + 24 : Nat) : Int) := by omega
    rw [e9]
    generalize hg : (eachP p.count p.body).1 = l
    by_cases h2 : lpgE ((p.body.length + 24 : Nat) : Int) p.page p.tx l ≠ 0
    · have e2 : decide ((lpgE ((p.body.length + 24 : Nat) : Int) p.page p.tx l : Int) ≠ 0) = true := decide_eq_true (by omega)
      rw [if_pos (.inl h2)]
      simp only [e2, cond_true]; rfl
    · have e2 : decide ((lpgE ((p.body.length + 24 : Nat) : Int) p.page p.tx l : Int) ≠ 0) = false := decide_eq_false (by omega)
      simp only [e2, cond_false]
      have e3 : ∀ q r : Pg, (decide (q.kind = r.kind) && (decide (q.count = r.count) && (decide (q.page = r.page) && (decide (q.link = r.link) && (decide (q.tx = r.tx) && (decide (q.body = r.body) && true)))))) = decide (q = r) := fun q r => by
        cases q; cases r
        rw [Bool.eq_iff_iff]
        simp only [Bool.and_eq_true, decide_eq_true_eq, Pg.mk.injEq, and_true]
      rw [e3]
      by_cases h3 : lpg ((p.body.length + 24 : Nat) : Int) p.page p.tx l = p
      · rw [if_neg (fun h => h.elim h2 (fun h => h h3)), decide_eq_true h3]; rfl
      · rw [if_pos (.inr h3), decide_eq_false h3]; rfl
theorem light_loop (n : Nat) (l : List Item) (b : Int) (hs : (itsz l : Int) ≤ 4000000000000000000) (hl : l.length ≤ 1000000000000) : ∀ (m i : Nat), l.length < m + i → i ≤ l.length → (itsz (l.take i) : Int) ≤ b → kit_LightItems_L6 n l m b (itsz (l.take i) : Int) (i : Int) = some (decide ((itsz l : Int) ≤ b)) := by
  intro m
  induction m with
  | zero => intro i h1 h2; omega
  | succ m ih =>
    intro i h1 h2 h3
    unfold kit_LightItems_L6 kit_LightItems_L6F kit_LightItems_rt
    by_cases hi : i < l.length
    · have hx := getE hi
      have e1 : ((i : Int) < (l.length : Int)) := by omega
      have h5 := itsz_succ hx
      have h6 := itsz_le l (i + 1)
      simp only [e1, decide_true, cond_true, Int.natCast_nonneg, Int.toNat_natCast, hi, Bool.and_self, hx, bsome]
      rw [w64_id (n := (itsz (l.take i) : Int) + (l[i].key.length : Int)) (by omega) (by omega), w64_id (n := (itsz (l.take i) : Int) + (l[i].key.length : Int) + (l[i].value.length : Int)) (by omega) (by omega), w64_id (by omega) (by omega)]
      have e2 : (itsz (l.take i) : Int) + (l[i].key.length : Int) + (l[i].value.length : Int) = (itsz (l.take (i + 1)) : Int) := by omega
      rw [e2]
      by_cases h7 : b < (itsz (l.take (i + 1)) : Int)
      · simp only [h7, decide_true, cond_true]
        rw [decide_eq_false (by omega)]
      · simp only [h7, decide_false, cond_false]
        exact ih (i + 1) (by omega) (by omega) (by omega)
    · have e1 : ¬((i : Int) < (l.length : Int)) := by omega
      simp only [e1, decide_false, cond_false]
      rw [List.take_of_length_le (by omega)] at h3
      rw [decide_eq_true h3]
/-- What a law's items may be: few enough to be counted. -/
theorem itsz_le_of {l : List Item} (h : ∀ x ∈ l, x.key.length + x.value.length ≤ 300000000000000) : itsz l ≤ 300000000000000 * l.length := by
  induction l with
  | nil => exact Nat.le_refl _
  | cons x l ih =>
    have h1 := h x (.head _)
    have h2 := ih (fun y hy => h y (.tail _ hy))
    simp only [itsz, List.map_cons, List.sum_cons, List.length_cons] at h2 ⊢
    omega
theorem light_is {n : Nat} {l : List Item} (hs0 : ∀ x ∈ l, x.key.length + x.value.length ≤ 300000000000000) (hn : 200 ≤ n) : law08_light n l = some (lightB l) := by
  unfold law08_light law08_light_F law08_light_rt kit_LightItems kit_LightItems_F kit_LightItems_rt lightB
  by_cases h : l.length ≤ 100
  · have e1 : ¬((100 : Int) < (l.length : Int)) := by omega
    simp only [e1, decide_false, cond_false, h, decide_true, Bool.true_and]
    have hs : (itsz l : Int) ≤ 4000000000000000000 := by have := itsz_le_of hs0; omega
    have h2 : kit_LightItems_L6 n l n 4000 0 0 = some (decide ((itsz l : Int) ≤ 4000)) := light_loop n l 4000 hs (by omega) n 0 (by omega) (by omega) (by simp [itsz])
    rw [h2, bsome]
    exact congrArg some (decide_eq_decide.2 (by omega))
  · have e1 : ((100 : Int) < (l.length : Int)) := by omega
    simp only [e1, decide_true, cond_true, h, decide_false, Bool.false_and, bsome]
theorem same_loop (n : Nat) (a b : List Item) (hl : a.length = b.length) (hl2 : a.length ≤ 1000000000000) : ∀ (m i : Nat), a.length < m + i → i ≤ a.length → a.take i = b.take i → kit_Same_api_Item_L5 n a b m (i : Int) = some (decide (a = b)) := by
  intro m
  induction m with
  | zero => intro i h1 h2; omega
  | succ m ih =>
    intro i h1 h2 h3
    unfold kit_Same_api_Item_L5 kit_Same_api_Item_L5F kit_Same_api_Item_rt
    by_cases hi : i < a.length
    · have hib : i < b.length := by omega
      have hx := getE hi
      have hy := getE hib
      have e1 : ((i : Int) < (a.length : Int)) := by omega
      simp only [e1, decide_true, cond_true, Int.natCast_nonneg, Int.toNat_natCast, hi, hib, Bool.and_self, hx, hy, bsome]
      have e3 : ∀ q r : Item, (decide (q.key = r.key) && (decide (q.value = r.value) && (q.over == r.over && (decide (q.len = r.len) && (decide (q.head = r.head) && true))))) = decide (q = r) := fun q r => by
        cases q; cases r
        rw [Bool.eq_iff_iff]
        simp only [Bool.and_eq_true, decide_eq_true_eq, Item.mk.injEq, and_true, beq_iff_eq]
      rw [e3]
      by_cases h4 : a[i] = b[i]
      · rw [decide_eq_true h4, Bool.not_true, cond_false, w64_id (by omega) (by omega)]
        exact ih (i + 1) (by omega) (by omega) (take_eq_succ h3 hx (by rw [hy, h4]))
      · rw [decide_eq_false h4, Bool.not_false, cond_true, same_ne hx hy h4]
    · have e1 : ¬((i : Int) < (a.length : Int)) := by omega
      simp only [e1, decide_false, cond_false]
      rw [show i = a.length by omega] at h3
      rw [same_end h3 hl]
theorem Same_is {n : Nat} {a b : List Item} (hn : a.length < n) (h2 : a.length ≤ 1000000000) : kit_Same_api_Item n a b = some (decide (a = b)) := by
  unfold kit_Same_api_Item kit_Same_api_Item_F kit_Same_api_Item_rt
  by_cases h : a.length = b.length
  · have e1 : ¬((a.length : Int) ≠ (b.length : Int)) := by omega
    simp only [e1, decide_false, cond_false]
    exact same_loop n a b h (by omega) n 0 (by omega) (by omega) rfl
  · have e1 : ((a.length : Int) ≠ (b.length : Int)) := by omega
    simp only [e1, decide_true, cond_true, ne_eq, not_false_eq_true]
    rw [same_len h]
end Go.Ev
end
section
set_option linter.unusedVariables false
set_option linter.unusedSimpArgs false
namespace Go.Ev
open Go.RowKit Go.Proofs
theorem lives_is : law08_lives 10000 = some true := by kernel_rfl
theorem leafFits_m (l : List Item) (s : Int) (k v : List UInt8) (hd : Nat) (hl : ∀ x ∈ l, x.key.length + x.value.length ≤ 300000000000000) : law08_LeafFits 10000 l s k v hd = some true := by
  unfold law08_LeafFits law08_LeafFits_F law08_LeafFits_rt
  rw [lives_is, bsome, light_is hl (by omega), bsome]
  cases h1 : lightB l
  · rfl
  simp only [lightB, Bool.and_eq_true, decide_eq_true_eq] at h1
  by_cases h2 : (40 : Int) < (k.length : Int)
  · simp only [h2, decide_true, cond_true, Bool.not_true, cond_false]
  by_cases h3 : (255 : Int) < (v.length : Int)
  · simp only [h2, h3, decide_true, decide_false, cond_true, Bool.not_true, cond_false]
  simp only [h2, h3, decide_false, Bool.not_true, cond_false]
  have hm : ∀ {l : List Item}, l.length ≤ 100 → lmayB l = true → lsz l ≤ 4000000000000000000 := fun h hm => by have := lsz_may hm; omega
  have tail : law08_LeafFits_J11 10000 l k v hd = some true := by
    have u1 : w64 (1 + (v.length : Int)) = ((1 + v.length : Nat) : Int) := by rw [w64_id (by omega) (by omega)]; omega
    have u2 : (Int.toNat 2 + hd % Int.toNat 1000) % 4294967296 = 2 + hd % 1000 := by
      show (2 + hd % 1000) % 4294967296 = _
      exact Nat.mod_eq_of_lt (by omega)
    have p1 := ok_plain (k := k) (v := v) (by omega) (by omega)
    have p2 := ok_chain (k := k) (n := ((1 + v.length : Nat) : Int)) (hd := 2 + hd % 1000) (by omega) (by omega) (by omega) (by omega) (by omega)
    have q1 : leaf_Page 10000 [⟨k, v, false, 0, 0⟩] 512 2 0 = some (lpg 512 2 0 [⟨k, v, false, 0, 0⟩], 0) := by
      rw [leaf_Page_is (by omega) (by simp) (by omega) (hm (by simp)), lpgE_ok.2 p1]; rfl
    have q2 : leaf_Page 10000 [⟨k, [], true, ((1 + v.length : Nat) : Int), 2 + hd % 1000⟩] 512 2 0 = some (lpg 512 2 0 [⟨k, [], true, ((1 + v.length : Nat) : Int), 2 + hd % 1000⟩], 0) := by
      rw [leaf_Page_is (by omega) (by simp) (by omega) (hm (by simp)), lpgE_ok.2 p2]; rfl
    have b1 := lpg_blen (s := 512) (n := 2) (tx := 0) (l := [⟨k, v, false, 0, 0⟩])
    have b2 := lpg_blen (s := 512) (n := 2) (tx := 0) (l := [⟨k, [], true, ((1 + v.length : Nat) : Int), 2 + hd % 1000⟩])
    have o1 : leaf_Of 10000 (lpg 512 2 0 [⟨k, v, false, 0, 0⟩]) = some (0, [⟨k, v, false, 0, 0⟩]) := by
      rw [leaf_Of_is (by omega) (by omega) (by omega), of_lpg p1]; rfl
    have o2 : leaf_Of 10000 (lpg 512 2 0 [⟨k, [], true, ((1 + v.length : Nat) : Int), 2 + hd % 1000⟩]) = some (0, [⟨k, [], true, ((1 + v.length : Nat) : Int), 2 + hd % 1000⟩]) := by
      rw [leaf_Of_is (by omega) (by omega) (by omega), of_lpg p2]; rfl
    unfold law08_LeafFits_J11 law08_LeafFits_J11F law08_LeafFits_rt
    rw [u1, u2]
    show (Option.bind (leaf_Page 10000 [⟨k, v, false, 0, 0⟩] 512 2 0) fun z => Option.bind (leaf_Page 10000 [⟨k, [], true, ((1 + v.length : Nat) : Int), 2 + hd % 1000⟩] 512 2 0) _) = _
    rw [q1, bsome, q2, bsome]
    show (Option.bind (leaf_Of 10000 (lpg 512 2 0 [⟨k, v, false, 0, 0⟩])) _) = _
    rw [o1, bsome]
    show (Option.bind (leaf_Of 10000 (lpg 512 2 0 [⟨k, [], true, ((1 + v.length : Nat) : Int), 2 + hd % 1000⟩])) _) = _
    rw [o2, bsome]
    simp only [decide_true, cond_true]
    rw [Same_is (by simp) (by simp), bsome]
    show (bif decide ([(⟨k, v, false, 0, 0⟩ : Item)] = [⟨k, v, false, 0, 0⟩]) then _ else _) = _
    rw [decide_eq_true rfl, cond_true]
    show (Option.bind (kit_Same_api_Item 10000 [⟨k, [], true, ((1 + v.length : Nat) : Int), 2 + hd % 1000⟩] [⟨k, [], true, ((1 + v.length : Nat) : Int), 2 + hd % 1000⟩]) _) = _
    rw [Same_is (by simp) (by simp), bsome, decide_eq_true rfl, cond_true]
    rw [leaf_Size_is (by simp; omega) (by simp) (by omega) (by simp [lsz, vsz, isz]; omega), bsome]
    rw [w64_id (n := 3 + (k.length : Int)) (by omega) (by omega), w64_id (n := 3 + (k.length : Int) + (v.length : Int)) (by omega) (by omega), w64_id (n := 10 + (k.length : Int)) (by omega) (by omega)]
    have z1 : ((lsz [⟨k, v, false, 0, 0⟩] : Nat) : Int) = 3 + (k.length : Int) + (v.length : Int) := by simp [lsz, vsz, isz]; omega
    rw [z1, decide_eq_true rfl, cond_true]
    rw [leaf_Size_is (by simp; omega) (by simp) (by omega) (by simp [lsz, vsz, isz]; omega), bsome]
    have z2 : ((lsz [⟨k, [], true, ((1 + v.length : Nat) : Int), 2 + hd % 1000⟩] : Nat) : Int) = 10 + (k.length : Int) := by simp [lsz, vsz, isz]; omega
    rw [z2, decide_eq_true rfl]
  have j9 : ∀ (g : Bool), g = goodB s → law08_LeafFits_J9 10000 l s k v hd (lpgE 4096 2 0 l : Int) (lpgE s 2 0 l : Int) g = some true := by
    intro g hg
    subst hg
    unfold law08_LeafFits_J9 law08_LeafFits_J9F law08_LeafFits_rt
    by_cases h5 : lpgE 4096 2 0 l = 0
    · have hmay := may_of h5
      cases h6 : goodB s
      · rw [bad_fits h6]
        simp [h5, tail]
      · have h7 := goodB_le h6
        rw [leaf_Size_is (fun x hx => by have := lmay_sz hmay x hx; omega) (by omega) (by omega) (hm h1.1 hmay), bsome, w64_id (by omega) (by omega)]
        have h8 := fits_eq h6 h5
        have h9 : (decide (lpgE s 2 0 l = 0) == decide ((lsz l : Int) ≤ s - 24)) = true := by
          have e0 : decide (((lpgE s 2 0 l : Nat) : Int) = 0) = decide (lpgE s 2 0 l = 0) := decide_eq_decide.2 (by omega)
          rw [e0] at h8
          cases hq : (decide (lpgE s 2 0 l = 0) == decide ((lsz l : Int) ≤ s - 24))
          · rw [hq] at h8; cases h8
          · rfl
        simp [h5, h9, tail]
    · have e5 : ¬((lpgE 4096 2 0 l : Int) = 0) := by omega
      cases h6 : goodB s
      · rw [bad_fits h6]
        simp [h5, tail]
      · simp [h5, tail]
  unfold law08_LeafFits_J6 law08_LeafFits_J6F
  show (Option.bind (leaf_Page 10000 l 4096 2 0) fun z => Option.bind (leaf_Page 10000 l s 2 0) _) = _
  rw [leaf_Page_is (by omega) (by omega) (by omega) (hm h1.1), bsome, leaf_Page_is (by omega) (by omega) (by omega) (hm h1.1), bsome]
  by_cases g1 : 128 ≤ s
  · by_cases g2 : s ≤ 4096
    · simp only [g1, g2, decide_true, cond_true]
      exact j9 _ (by unfold goodB; simp [g1, g2])
    · simp only [g1, g2, decide_true, decide_false, cond_true, cond_false]
      exact j9 _ (by unfold goodB; simp [g1, g2])
  · simp only [g1, decide_false, cond_false]
    exact j9 _ (by unfold goodB; simp [g1])
end Go.Ev
end