/- Words of my own, printed by a program of mine. -/
import Derived.Test.YtlkfcabklaaacaaDfns
import Derived.Test.YtlkfcabklaaacaaHn
section
set_option linter.unusedVariables false
set_option linter.unusedSimpArgs false
namespace Go.Ev
open Go.RowKit
theorem w64_id {n : Int} (h1 : -4611686018427387904 ≤ n) (h2 : n ≤ 4611686018427387904) : w64 n = n := w64_of (by omega) (by omega)
theorem ble_of {a b : Nat} (h : a ≤ b) : Nat.ble a b = true := Nat.ble_eq_true_of_le h
theorem bsome {α β : Type} (a : α) (f : α → Option β) : Option.bind (some a) f = f a := rfl
theorem getE {α : Type} {l : List α} {i : Nat} (h : i < l.length) : l[i]? = some l[i] := List.getElem?_eq_getElem h
end Go.Ev
end
section
set_option linter.unusedVariables false
set_option linter.unusedSimpArgs false
namespace Go.Ev
open Go.RowKit
theorem so_lives : law20_lives 10000 = some true := by kernel_rfl
def bitOf (W : List Nat) (i : Nat) : Bool := (W[i / 64]?.getD 0).testBit (i % 64)
theorem set1_is {n : Nat} {W : List Nat} {i : Nat} (h : i / 64 < W.length) (hi : i < 4294967296) : space_set_1 n W i = some (bitOf W i) := by
  unfold space_set_1 space_set_1_F space_set_1_rt bitOf
  have e1 : i / 64 % 4294967296 = i / 64 := Nat.mod_eq_of_lt (by omega)
  have e2 : Nat.ble (i % 64) 64 = true := ble_of (by omega)
  simp only [e1, h, decide_true, Bool.and_self, cond_true, getE h, bsome, e2]
  show some (decide _) = some (Nat.testBit W[i / 64] (i % 64))
  rw [Nat.testBit_eq_decide_div_mod_eq, show (1 : Nat) % 18446744073709551616 = 1 from rfl, Nat.and_one_is_mod]
  exact congrArg some (decide_eq_decide.2 (by omega))
theorem or_bit (z j k : Nat) (hj : j < 64) (hk : k < 64) : ((z % 18446744073709551616 ||| 1 * 2 ^ j % 18446744073709551616 % 18446744073709551616) % 18446744073709551616).testBit k = (z.testBit k || decide (k = j)) := by
  have e : (18446744073709551616 : Nat) = 2 ^ 64 := by decide
  rw [e, Nat.testBit_mod_two_pow, Nat.testBit_or, Nat.testBit_mod_two_pow, Nat.testBit_mod_two_pow, Nat.testBit_mod_two_pow, Nat.one_mul, Nat.testBit_two_pow]
  simp only [hk, decide_true, Bool.true_and]
  have : decide (j = k) = decide (k = j) := decide_eq_decide.2 ⟨Eq.symm, Eq.symm⟩
  rw [this]
theorem bit_set {W : List Nat} {z i : Nat} (h : z / 64 < W.length) : bitOf (W.set (z / 64) ((W[z / 64] % 18446744073709551616 ||| 1 * 2 ^ (z % 64) % 18446744073709551616 % 18446744073709551616) % 18446744073709551616)) i = (bitOf W i || decide (i = z)) := by
  unfold bitOf
  rw [List.getElem?_set]
  by_cases e : z / 64 = i / 64
  · rw [if_pos e, if_pos (by omega)]
    rw [Option.getD_some, or_bit _ _ _ (by omega) (by omega), ← e, getE h]
    show (Nat.testBit W[z / 64] (i % 64) || decide (i % 64 = z % 64)) = (Nat.testBit W[z / 64] (i % 64) || decide (i = z))
    rw [decide_eq_decide.2 (show i % 64 = z % 64 ↔ i = z by omega)]
  · rw [if_neg e, decide_eq_false (show ¬(i = z) by omega), Bool.or_false]
theorem set_loop (n : Nat) (l : List Nat) (N : Nat) (hN : N ≤ 300) (hl : l.length ≤ 1000) (hs : ∀ x ∈ l, x < 4294967296) : ∀ (m k : Nat) (W : List Nat), l.length < m + k → k ≤ l.length → W.length = N / 64 + 1 → (∀ i, i < N → bitOf W i = decide (i ∈ l.take k)) → ∃ W', space_set_L4 n l m (N : Int) (l.length : Int) (k : Int) W = some W' ∧ W'.length = N / 64 + 1 ∧ ∀ i, i < N → bitOf W' i = decide (i ∈ l) := by
  intro m
  induction m with
  | zero => intro k W h1 h2; omega
  | succ m ih =>
    intro k W h1 h2 hW hb
    unfold space_set_L4 space_set_L4F space_set_rt
    by_cases hk : k < l.length
    · have e1 : ((k : Int) < (l.length : Int)) := by omega
      have hz := hs _ (List.getElem_mem hk)
      simp only [e1, hk, decide_true, cond_true, Int.natCast_nonneg, Int.toNat_natCast, Bool.and_self, getE hk, bsome]
      rw [w64_id (n := (l[k] : Int)) (by omega) (by omega), w64_id (n := (k : Int) + 1) (by omega) (by omega)]
      have hmem : ∀ i, decide (i ∈ l.take (k + 1)) = (decide (i ∈ l.take k) || decide (i = l[k])) := fun i => by
        rw [List.take_add_one, getE hk, Bool.eq_iff_iff]
        simp only [Option.toList_some, List.mem_append, List.mem_singleton, Bool.or_eq_true, decide_eq_true_eq]
      by_cases hlt : l[k] < N
      · have e2 : ((l[k] : Int) < (N : Int)) := by omega
        have e3 : l[k] / 64 % 4294967296 = l[k] / 64 := Nat.mod_eq_of_lt (by omega)
        have e4 : l[k] / 64 < W.length := by omega
        have e5 : Nat.ble (l[k] % 64) 64 = true := ble_of (by omega)
        simp only [e2, e3, e4, e5, decide_true, Bool.and_self, cond_true, getE e4, bsome]
        refine ih (k + 1) _ (by omega) (by omega) (by rw [List.length_set]; exact hW) (fun i hi => ?_)
        rw [bit_set e4, hb i hi, hmem]
      · have e2 : ¬((l[k] : Int) < (N : Int)) := by omega
        simp only [e2, decide_false, cond_false]
        refine ih (k + 1) _ (by omega) (by omega) hW (fun i hi => ?_)
        rw [hb i hi, hmem, decide_eq_false (show ¬(i = l[k]) by omega), Bool.or_false]
    · have e1 : ¬((k : Int) < (l.length : Int)) := by omega
      simp only [e1, decide_false, cond_false]
      rw [List.take_of_length_le (by omega)] at hb
      exact ⟨W, rfl, hW, hb⟩
theorem set_is {l : List Nat} {N : Nat} (hN : N ≤ 300) (hl : l.length ≤ 1000) (hs : ∀ x ∈ l, x < 4294967296) : ∃ W, space_set 10000 l (N : Int) = some W ∧ ∀ i, i < N → space_set_1 10000 W i = some (decide (i ∈ l)) := by
  unfold space_set space_set_F
  have e0 : Int.tdiv (N : Int) 64 = ((N / 64 : Nat) : Int) := by rw [Int.tdiv_eq_ediv_of_nonneg (by omega)]; omega
  have e1 : w64 (w64 (Int.tdiv (N : Int) 64) + 1) = ((N / 64 + 1 : Nat) : Int) := by
    rw [e0, w64_id (n := ((N / 64 : Nat) : Int)) (by omega) (by omega), w64_id (by omega) (by omega)]; omega
  have e2 : Nat.ble (N / 64 + 1) (N / 64 + 1) = true := ble_of (Nat.le_refl _)
  have e3 : Nat.ble (N / 64 + 1) 100000000 = true := ble_of (by omega)
  rw [e1]
  simp only [Int.natCast_nonneg, Int.toNat_natCast, e2, e3, decide_true, Bool.and_self, cond_true]
  obtain ⟨W, h1, h2, h3⟩ := set_loop 10000 l N hN hl hs 10000 0 (List.replicate (N / 64 + 1) 0) (by omega) (by omega) (List.length_replicate ..) (fun i hi => by
    unfold bitOf
    have : (List.replicate (N / 64 + 1) 0)[i / 64]?.getD 0 = 0 := by
      rw [List.getElem?_replicate]; split <;> rfl
    rw [this]; simp)
  exact ⟨W, h1, fun i hi => by rw [set1_is (by omega) (by omega), h3 i hi]⟩
def part1 (i : Nat) (a b c : Bool) : List Fnd := match a, b, c with
  | false, false, false => [⟨16, i, 0⟩]
  | true, false, false => []
  | false, true, false => []
  | false, false, true => []
  | _, _, _ => [⟨15, i, 0⟩]
theorem part1_len (i : Nat) (a b c : Bool) : (part1 i a b c).length ≤ 1 := by cases a <;> cases b <;> cases c <;> simp [part1]
theorem part1_rot (i : Nat) (a b c : Bool) : part1 i a b c = part1 i c a b := by cases a <;> cases b <;> cases c <;> rfl
def partsV (N : Nat) (a b c : Nat → Bool) : Nat → List Fnd
  | 0 => []
  | d + 1 => part1 (N - (d + 1)) (a (N - (d + 1))) (b (N - (d + 1))) (c (N - (d + 1))) ++ partsV N a b c d
theorem parted_loop (l2 l3 l4 : List Nat) (W2 W3 W4 : List Nat) (N : Nat) (hN : N ≤ 300) (a b c : Nat → Bool)
    (h2 : ∀ i, i < N → space_set_1 10000 W2 i = some (a i)) (h3 : ∀ i, i < N → space_set_1 10000 W3 i = some (b i)) (h4 : ∀ i, i < N → space_set_1 10000 W4 i = some (c i)) :
    ∀ (d m i : Nat) (acc : List Fnd), d < m → i + d = N → acc.length ≤ i → space_Parted_L7 10000 l2 l3 l4 m (N : Int) i W4 W3 W2 acc = some (acc ++ partsV N a b c d) := by
  intro d
  induction d with
  | zero =>
    intro m i acc hm hi ha
    cases m with
    | zero => omega
    | succ m =>
      unfold space_Parted_L7 space_Parted_L7F space_Parted_rt
      rw [w64_id (by omega) (by omega)]
      have e1 : ¬((i : Int) < (N : Int)) := by omega
      simp only [e1, decide_false, cond_false]
      rw [partsV, List.append_nil]
  | succ d ih =>
    intro m i acc hm hi ha
    cases m with
    | zero => omega
    | succ m =>
      have hNi : N - (d + 1) = i := by omega
      have e2 : (i + 1) % 4294967296 = i + 1 := Nat.mod_eq_of_lt (by omega)
      have go : ∀ (x : List Fnd), x.length ≤ 1 → space_Parted_L7 10000 l2 l3 l4 m (N : Int) (i + 1) W4 W3 W2 (acc ++ x) = some (acc ++ (x ++ partsV N a b c d)) := fun x hx => by
        rw [ih m (i + 1) (acc ++ x) (by omega) (by omega) (by rw [List.length_append]; omega), List.append_assoc]
      have g0 := go [] (by decide)
      rw [List.append_nil, List.nil_append] at g0
      have g15 := go [⟨15, i, 0⟩] (by simp)
      have g16 := go [⟨16, i, 0⟩] (by simp)
      have hb : ∀ y : Fnd, Nat.ble (acc.length + [y].length) 100000000 = true := fun y => ble_of (by simp; omega)
      rw [partsV, hNi]
      unfold space_Parted_L7 space_Parted_L7F space_Parted_rt
      rw [w64_id (by omega) (by omega)]
      have e1 : ((i : Int) < (N : Int)) := by omega
      simp only [e1, decide_true, cond_true, h2 i (by omega), h3 i (by omega), h4 i (by omega), bsome, hb, e2]
      cases a i <;> cases b i <;> cases c i <;> simp only [cond_true, cond_false, part1, List.nil_append] <;> first | exact g0 | exact g15 | exact g16
theorem Parted_is {l2 l3 l4 : List Nat} {N : Nat} (hN : N ≤ 300) (k2 : l2.length ≤ 1000) (k3 : l3.length ≤ 1000) (k4 : l4.length ≤ 1000) (s2 : ∀ x ∈ l2, x < 4294967296) (s3 : ∀ x ∈ l3, x < 4294967296) (s4 : ∀ x ∈ l4, x < 4294967296) :
    space_Parted 10000 l2 l3 l4 (N : Int) = some (partsV N (fun i => decide (i ∈ l2)) (fun i => decide (i ∈ l3)) (fun i => decide (i ∈ l4)) (N - 2)) := by
  obtain ⟨W2, a2, b2⟩ := set_is hN k2 s2
  obtain ⟨W3, a3, b3⟩ := set_is hN k3 s3
  obtain ⟨W4, a4, b4⟩ := set_is hN k4 s4
  unfold space_Parted space_Parted_F space_Parted_rt space_may space_may_F space_may_rt
  have e1 : (0 : Int) ≤ (N : Int) := by omega
  have e2 : (N : Int) ≤ 1048576 := by omega
  simp only [e1, e2, decide_true, cond_true, bsome, Bool.not_true, cond_false, a2, a3, a4]
  by_cases h : 2 ≤ N
  · have := parted_loop l2 l3 l4 W2 W3 W4 N hN _ _ _ b2 b3 b4 (N - 2) 10000 2 [] (by omega) (by omega) (by simp)
    rw [this, List.nil_append]
  · rw [show N - 2 = 0 by omega, partsV, show (10000 : Nat) = 9999 + 1 from rfl, space_Parted_L7, space_Parted_L7F, w64_id (by omega) (by omega)]
    have e3 : ¬(((2 : Nat) : Int) < (N : Int)) := by omega
    simp only [e3, decide_false, cond_false]
theorem Parted_neg {l2 l3 l4 : List Nat} {n : Int} (h : n < 0) : space_Parted 10000 l2 l3 l4 n = some [] := by
  unfold space_Parted space_Parted_F space_Parted_rt space_may space_may_F space_may_rt
  have e1 : ¬((0 : Int) ≤ n) := by omega
  simp only [e1, decide_false, cond_false, bsome, Bool.not_false, cond_true]
theorem partsV_congr {N : Nat} {a b c a' b' c' : Nat → Bool} (h1 : ∀ i, a i = a' i) (h2 : ∀ i, b i = b' i) (h3 : ∀ i, c i = c' i) : ∀ d, partsV N a b c d = partsV N a' b' c' d
  | 0 => rfl
  | d + 1 => by rw [partsV, partsV, h1, h2, h3, partsV_congr h1 h2 h3 d]
theorem partsV_rot {N : Nat} {a b c : Nat → Bool} : ∀ d, partsV N a b c d = partsV N c a b d
  | 0 => rfl
  | d + 1 => by rw [partsV, partsV, part1_rot, partsV_rot d]
theorem partsV_len {N : Nat} {a b c : Nat → Bool} : ∀ d, (partsV N a b c d).length ≤ d
  | 0 => Nat.le_refl _
  | d + 1 => by
    rw [partsV, List.length_append]
    have := part1_len (N - (d + 1)) (a (N - (d + 1))) (b (N - (d + 1))) (c (N - (d + 1)))
    have := partsV_len (N := N) (a := a) (b := b) (c := c) d
    omega
def restV (N : Nat) (a : Nat → Bool) : Nat → List Nat
  | 0 => []
  | d + 1 => (if a (N - (d + 1)) = true then [] else [N - (d + 1)]) ++ restV N a d
theorem rest_loop (l : List Nat) (W : List Nat) (N : Nat) (hN : N ≤ 300) (a : Nat → Bool) (h2 : ∀ i, i < N → space_set_1 10000 W i = some (a i)) :
    ∀ (d m i : Nat) (acc : List Nat), d < m → i + d = N → acc.length ≤ i → space_Rest_L7 10000 l m (N : Int) i W acc = some (acc ++ restV N a d) := by
  intro d
  induction d with
  | zero =>
    intro m i acc hm hi ha
    cases m with
    | zero => omega
    | succ m =>
      unfold space_Rest_L7 space_Rest_L7F space_Rest_rt
      rw [w64_id (by omega) (by omega)]
      have e1 : ¬((i : Int) < (N : Int)) := by omega
      simp only [e1, decide_false, cond_false]
      rw [restV, List.append_nil]
  | succ d ih =>
    intro m i acc hm hi ha
    cases m with
    | zero => omega
    | succ m =>
      have hNi : N - (d + 1) = i := by omega
      have e2 : (i + 1) % 4294967296 = i + 1 := Nat.mod_eq_of_lt (by omega)
      have hb : Nat.ble (acc.length + [i].length) 100000000 = true := ble_of (by simp; omega)
      rw [restV, hNi]
      unfold space_Rest_L7 space_Rest_L7F space_Rest_rt
      rw [w64_id (by omega) (by omega)]
      have e1 : ((i : Int) < (N : Int)) := by omega
      simp only [e1, decide_true, cond_true, h2 i (by omega), bsome, hb, e2]
      cases a i
      · simp only [Bool.not_false, cond_true, Bool.false_eq_true, if_false]
        rw [ih m (i + 1) (acc ++ [i]) (by omega) (by omega) (by simp; omega), List.append_assoc]
      · simp only [Bool.not_true, cond_false, if_true, List.nil_append]
        exact ih m (i + 1) acc (by omega) (by omega) (by omega)
theorem Rest_is {l : List Nat} {N : Nat} (hN : N ≤ 300) (k : l.length ≤ 1000) (s : ∀ x ∈ l, x < 4294967296) : space_Rest 10000 l (N : Int) = some (restV N (fun i => decide (i ∈ l)) (N - 2)) := by
  obtain ⟨W, a2, b2⟩ := set_is hN k s
  unfold space_Rest space_Rest_F space_Rest_rt space_may space_may_F space_may_rt
  have e1 : (0 : Int) ≤ (N : Int) := by omega
  have e2 : (N : Int) ≤ 1048576 := by omega
  simp only [e1, e2, decide_true, cond_true, bsome, Bool.not_true, cond_false, a2]
  by_cases h : 2 ≤ N
  · have := rest_loop l W N hN _ b2 (N - 2) 10000 2 [] (by omega) (by omega) (by simp)
    rw [this, List.nil_append]
  · rw [show N - 2 = 0 by omega, restV, show (10000 : Nat) = 9999 + 1 from rfl, space_Rest_L7, space_Rest_L7F, w64_id (by omega) (by omega)]
    have e3 : ¬(((2 : Nat) : Int) < (N : Int)) := by omega
    simp only [e3, decide_false, cond_false]
theorem Rest_neg {l : List Nat} {n : Int} (h : n < 0) : space_Rest 10000 l n = some [] := by
  unfold space_Rest space_Rest_F space_Rest_rt space_may space_may_F space_may_rt
  have e1 : ¬((0 : Int) ≤ n) := by omega
  simp only [e1, decide_false, cond_false, bsome, Bool.not_false, cond_true]
theorem restV_congr {N : Nat} {a a' : Nat → Bool} (h : ∀ i, a i = a' i) : ∀ d, restV N a d = restV N a' d
  | 0 => rfl
  | d + 1 => by rw [restV, restV, h, restV_congr h d]
theorem restV_len {N : Nat} {a : Nat → Bool} : ∀ d, (restV N a d).length ≤ d
  | 0 => Nat.le_refl _
  | d + 1 => by
    have := restV_len (N := N) (a := a) d
    rw [restV, List.length_append]
    split <;> simp <;> omega
theorem samef_loop (l : List Fnd) (hl : l.length ≤ 1000) : ∀ (m i : Nat), l.length < m + i → i ≤ l.length → kit_Same_api_Finding_L5 10000 l l m (i : Int) = some true := by
  intro m
  induction m with
  | zero => intro i h1 h2; omega
  | succ m ih =>
    intro i h1 h2
    unfold kit_Same_api_Finding_L5 kit_Same_api_Finding_L5F kit_Same_api_Finding_rt
    by_cases hi : i < l.length
    · have e1 : ((i : Int) < (l.length : Int)) := by omega
      simp only [e1, hi, decide_true, cond_true, Int.natCast_nonneg, Int.toNat_natCast, Bool.and_self, getE hi, bsome, Bool.not_true, cond_false]
      rw [w64_id (by omega) (by omega)]
      exact ih (i + 1) (by omega) (by omega)
    · have e1 : ¬((i : Int) < (l.length : Int)) := by omega
      simp only [e1, decide_false, cond_false]
theorem samef {l : List Fnd} (hl : l.length ≤ 1000) : kit_Same_api_Finding 10000 l l = some true := by
  unfold kit_Same_api_Finding kit_Same_api_Finding_F
  simp only [ne_eq, not_true_eq_false, decide_false, cond_false]
  exact samef_loop l hl 10000 0 (by omega) (by omega)
theorem sameu_loop (l : List Nat) (hl : l.length ≤ 1000) : ∀ (m i : Nat), l.length < m + i → i ≤ l.length → kit_Same_uint32_L5 10000 l l m (i : Int) = some true := by
  intro m
  induction m with
  | zero => intro i h1 h2; omega
  | succ m ih =>
    intro i h1 h2
    unfold kit_Same_uint32_L5 kit_Same_uint32_L5F kit_Same_uint32_rt
    by_cases hi : i < l.length
    · have e1 : ((i : Int) < (l.length : Int)) := by omega
      simp only [e1, hi, decide_true, cond_true, Int.natCast_nonneg, Int.toNat_natCast, Bool.and_self, getE hi, bsome, ne_eq, not_true_eq_false, decide_false, cond_false, Bool.not_true]
      rw [w64_id (by omega) (by omega)]
      exact ih (i + 1) (by omega) (by omega)
    · have e1 : ¬((i : Int) < (l.length : Int)) := by omega
      simp only [e1, decide_false, cond_false]
theorem sameu {l : List Nat} (hl : l.length ≤ 1000) : kit_Same_uint32 10000 l l = some true := by
  unfold kit_Same_uint32 kit_Same_uint32_F
  simp only [ne_eq, not_true_eq_false, decide_false, cond_false]
  exact sameu_loop l hl 10000 0 (by omega) (by omega)
theorem pick_k (n : Nat) (c : Int) (m : Nat) (h : 1 ≤ m) (hm : m ≤ 1000000000) : ∃ k : Nat, k < m ∧ kit_Pick n c (m : Int) = some (k : Int) := by
  unfold kit_Pick kit_Pick_F kit_Pick_rt
  have e1 : ¬((m : Int) < 1) := by omega
  have e2 : ¬((m : Int) = 0) := by omega
  have h1 := Int.tmod_lt_of_pos c (show (0 : Int) < (m : Int) by omega)
  have h2 := Int.lt_tmod_of_pos c (show (0 : Int) < (m : Int) by omega)
  simp only [e1, e2, decide_false, cond_false, ne_eq, not_false_eq_true, decide_true, cond_true]
  by_cases h3 : Int.tmod c (m : Int) < 0
  · simp only [h3, decide_true, cond_true]
    refine ⟨(Int.tmod c (m : Int) + (m : Int)).toNat, by omega, ?_⟩
    rw [w64_id (by omega) (by omega), Int.toNat_of_nonneg (by omega)]
  · simp only [h3, decide_false, cond_false]
    exact ⟨(Int.tmod c (m : Int)).toNat, by omega, by rw [Int.toNat_of_nonneg (by omega)]⟩
theorem turned_is (l : List Nat) (c : Int) (hl : l.length ≤ 100) : ∃ t, law20_SpaceOrder_1 10000 l c = some (t, c) ∧ t.length ≤ 1000 ∧ ∀ x, x ∈ t ↔ x ∈ l := by
  obtain ⟨k, hk, hp⟩ := pick_k 10000 c (l.length + 1) (by omega) (by omega)
  unfold law20_SpaceOrder_1 law20_SpaceOrder_1_F law20_SpaceOrder_1_rt kit_Own_uint32 kit_Own_uint32_F kit_Own_uint32_rt
  have e1 : w64 ((l.length : Int) + 1) = ((l.length + 1 : Nat) : Int) := by rw [w64_id (by omega) (by omega)]; omega
  have hk2 : k ≤ l.length := by omega
  have b1 : Nat.ble (0 + (List.drop k l).length) 100000000 = true := ble_of (by rw [List.length_drop]; omega)
  have b2 : Nat.ble (([] ++ List.drop k l).length + (List.take k l).length) 100000000 = true := ble_of (by simp; omega)
  have b3 : Nat.ble (([] ++ List.drop k l ++ List.take k l).length + (List.drop k l).length) 100000000 = true := ble_of (by simp; omega)
  rw [e1, hp, bsome]
  simp only [Int.natCast_nonneg, Int.toNat_natCast, hk2, decide_true, Bool.and_self, cond_true, b1, bsome, b2, b3]
  refine ⟨_, rfl, by simp; omega, fun x => ?_⟩
  have h := List.take_append_drop k l
  constructor
  · intro hx
    simp only [List.nil_append, List.mem_append] at hx
    rcases hx with (hx | hx) | hx
    · exact List.mem_of_mem_drop hx
    · exact List.mem_of_mem_take hx
    · exact List.mem_of_mem_drop hx
  · intro hx
    rw [← h, List.mem_append] at hx
    simp only [List.nil_append, List.mem_append]
    rcases hx with hx | hx
    · exact .inl (.inr hx)
    · exact .inr hx
theorem spaceOrder_m (n : Int) (l2 l3 l4 : List Nat) (turn : Int) (s2 : ∀ x ∈ l2, x < 4294967296) (s3 : ∀ x ∈ l3, x < 4294967296) (s4 : ∀ x ∈ l4, x < 4294967296) : law20_SpaceOrder 10000 l2 l3 l4 n turn = some true := by
  unfold law20_SpaceOrder law20_SpaceOrder_F law20_SpaceOrder_rt
  rw [so_lives, bsome]
  simp only [Bool.not_true, cond_false]
  by_cases h1 : 300 < n
  · simp only [h1, decide_true, cond_true]
  by_cases h2 : (100 : Int) < (l2.length : Int)
  · simp only [h1, h2, decide_true, decide_false, cond_true, cond_false]
  by_cases h3 : (100 : Int) < (l3.length : Int)
  · simp only [h1, h2, h3, decide_true, decide_false, cond_true, cond_false]
  by_cases h4 : (100 : Int) < (l4.length : Int)
  · simp only [h1, h2, h3, h4, decide_true, decide_false, cond_true, cond_false]
  simp only [h1, h2, h3, h4, decide_false, cond_false]
  unfold law20_SpaceOrder_J6 law20_SpaceOrder_J6F law20_SpaceOrder_rt
  obtain ⟨t2, p2, q2, r2⟩ := turned_is l2 turn (by omega)
  obtain ⟨t3, p3, q3, r3⟩ := turned_is l3 turn (by omega)
  obtain ⟨t4, p4, q4, r4⟩ := turned_is l4 turn (by omega)
  by_cases h0 : n < 0
  · simp only [Parted_neg h0, Rest_neg h0, bsome, p2, p3, p4, samef (l := []) (by simp), sameu (l := []) (by simp), cond_true]
  · obtain ⟨N, rfl⟩ : ∃ N : Nat, n = (N : Int) := ⟨n.toNat, by omega⟩
    have hN : N ≤ 300 := by omega
    have u2 : ∀ x ∈ t2, x < 4294967296 := fun x hx => s2 x ((r2 x).1 hx)
    have u3 : ∀ x ∈ t3, x < 4294967296 := fun x hx => s3 x ((r3 x).1 hx)
    have u4 : ∀ x ∈ t4, x < 4294967296 := fun x hx => s4 x ((r4 x).1 hx)
    have A := Parted_is hN (show l2.length ≤ 1000 by omega) (show l3.length ≤ 1000 by omega) (show l4.length ≤ 1000 by omega) s2 s3 s4
    have B := Parted_is hN q2 q3 q4 u2 u3 u4
    have C := Parted_is hN (show l4.length ≤ 1000 by omega) (show l2.length ≤ 1000 by omega) (show l3.length ≤ 1000 by omega) s4 s2 s3
    have D := Rest_is hN (show l2.length ≤ 1000 by omega) s2
    have E := Rest_is hN q2 u2
    have f2 : ∀ i, decide (i ∈ t2) = decide (i ∈ l2) := fun i => decide_eq_decide.2 (r2 i)
    have f3 : ∀ i, decide (i ∈ t3) = decide (i ∈ l3) := fun i => decide_eq_decide.2 (r3 i)
    have f4 : ∀ i, decide (i ∈ t4) = decide (i ∈ l4) := fun i => decide_eq_decide.2 (r4 i)
    rw [partsV_congr f2 f3 f4] at B
    rw [← partsV_rot] at C
    rw [restV_congr f2] at E
    have hlen := partsV_len (N := N) (a := fun i => decide (i ∈ l2)) (b := fun i => decide (i ∈ l3)) (c := fun i => decide (i ∈ l4)) (N - 2)
    have hlen2 := restV_len (N := N) (a := fun i => decide (i ∈ l2)) (N - 2)
    generalize partsV N (fun i => decide (i ∈ l2)) (fun i => decide (i ∈ l3)) (fun i => decide (i ∈ l4)) (N - 2) = P at A B C hlen
    generalize restV N (fun i => decide (i ∈ l2)) (N - 2) = R at D E hlen2
    have SA := samef (l := P) (by omega)
    have SU := sameu (l := R) (by omega)
    simp only [A, B, C, D, E, bsome, p2, p3, p4, SA, SU, cond_true]
end Go.Ev
end