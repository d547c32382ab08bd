/- Words of my own, printed by a program of mine. -/
import Derived.Test.YtlkfcabklaaacaaDfns
import Derived.Test.YtlkfcabklaaacaaHn
section
set_option linter.unusedVariables false
set_option linter.unusedSimpArgs false
namespace Go.Ev
open Go.RowKit
theorem w64_id {n : Int} (h1 : -4611686018427387904 ≤ n) (h2 : n ≤ 4611686018427387904) : w64 n = n := w64_of (by omega) (by omega)
theorem ble_of {a b : Nat} (h : a ≤ b) : Nat.ble a b = true := Nat.ble_eq_true_of_le h
theorem bsome {α β : Type} (a : α) (f : α → Option β) : Option.bind (some a) f = f a := rfl
theorem getE {α : Type} {l : List α} {i : Nat} (h : i < l.length) : l[i]? = some l[i] := List.getElem?_eq_getElem h
end Go.Ev
end
section
set_option linter.unusedVariables false
set_option linter.unusedSimpArgs false
namespace Go.Ev
open Go.RowKit
theorem so_lives : law20_lives 10000 = some true := by kernel_rfl
def bitOf (W : List Nat) (i : Nat) : Bool := (W[i / 64]?.getD 0).testBit (i % 64)
theorem set1_is {n : Nat} {W : List Nat} {i : Nat} (h : i / 64 < W.length) (hi : i < 4294967296) : space_set_1 n W i = some (bitOf W i) := by
  unfold space_set_1 space_set_1_F space_set_1_rt bitOf
  have e1 : i / 64 % 4294967296 = i / 64 := Nat.mod_eq_of_lt (by omega)
  have e2 : Nat.ble (i % 64) 64 = true := ble_of (by omega)
  simp only [e1, h, decide_true, Bool.and_self, cond_true, getE h, bsome, e2]
  show some (decide _) = some (Nat.testBit W[i / 64] (i % 64))
  rw [Nat.testBit_eq_decide_div_mod_eq, show (1 : Nat) % 18446744073709551616 = 1 from rfl, Nat.and_one_is_mod]
  exact congrArg some (decide_eq_decide.2 (by omega))
theorem or_bit (z j k : Nat) (hj : j < 64) (hk : k < 64) : ((z % 18446744073709551616 ||| 1 * 2 ^ j % 18446744073709551616 % 18446744073709551616) % 18446744073709551616).testBit k = (z.testBit k || decide (k = j)) := by
  have e : (18446744073709551616 : Nat) = 2 ^ 64 := by decide
  rw [e, Nat.testBit_mod_two_pow, Nat.testBit_or, Nat.testBit_mod_two_pow, Nat.testBit_mod_two_pow, Nat.testBit_mod_two_pow, Nat.one_mul, Nat.testBit_two_pow]
  simp only [hk, decide_true, Bool.true_and]
  have : decide (j = k) = decide (k = j) := decide_eq_decide.2 ⟨Eq.symm, Eq.symm⟩
  rw [this]
theorem bit_set {W : List Nat} {z i : Nat} (h : z / 64 < W.length) : bitOf (W.set (z / 64) ((W[z / 64] % 18446744073709551616 ||| 1 * 2 ^ (z % 64) % 18446744073709551616 % 18446744073709551616) % 18446744073709551616)) i = (bitOf W i || decide (i = z)) := by
  unfold bitOf
  rw [List.getElem?_set]
  by_cases e : z / 64 = i / 64
  · rw [if_pos e, if_pos (by omega)]
    rw [Option.getD_some, or_bit _ _ _ (by omega) (by omega), ← e, getE h]
    show (Nat.testBit W[z / 64] (i % 64) || decide (i % 64 = z % 64)) = (Nat.testBit W[z / 64] (i % 64) || decide (i = z))
    rw [decide_eq_decide.2 (show i % 64 = z % 64 ↔ i = z by omega)]
  · rw [if_neg e, decide_eq_false (show ¬(i = z) by omega), Bool.or_false]
theorem set_loop (n : Nat) (l : List Nat) (N : Nat) (hN : N ≤ 500) (hl : l.length ≤ 1000) (hs : ∀ x ∈ l, x < 4294967296) : ∀ (m k : Nat) (W : List Nat), l.length < m + k → k ≤ l.length → W.length = N / 64 + 1 → (∀ i, i < N → bitOf W i = decide (i ∈ l.take k)) → ∃ W', space_set_L4 n l m (N : Int) (l.length : Int) (k : Int) W = some W' ∧ W'.length = N / 64 + 1 ∧ ∀ i, i < N → bitOf W' i = decide (i ∈ l) := by
  intro m
  induction m with
  | zero => intro k W h1 h2; omega
  | succ m ih =>
    intro k W h1 h2 hW hb
    unfold space_set_L4 space_set_L4F space_set_rt
    by_cases hk : k < l.length
    · have e1 : ((k : Int) < (l.length : Int)) := by omega
      have hz := hs _ (List.getElem_mem hk)
      simp only [e1, hk, decide_true, cond_true, Int.natCast_nonneg, Int.toNat_natCast, Bool.and_self, getE hk, bsome]
      rw [w64_id (n := (l[k] : Int)) (by omega) (by omega), w64_id (n := (k : Int) + 1) (by omega) (by omega)]
      have hmem : ∀ i, decide (i ∈ l.take (k + 1)) = (decide (i ∈ l.take k) || decide (i = l[k])) := fun i => by
        rw [List.take_add_one, getE hk, Bool.eq_iff_iff]
        simp only [Option.toList_some, List.mem_append, List.mem_singleton, Bool.or_eq_true, decide_eq_true_eq]
      by_cases hlt : l[k] < N
      · have e2 : ((l[k] : Int) < (N : Int)) := by omega
        have e3 : l[k] / 64 % 4294967296 = l[k] / 64 := Nat.mod_eq_of_lt (by omega)
        have e4 : l[k] / 64 < W.length := by omega
        have e5 : Nat.ble (l[k] % 64) 64 = true := ble_of (by omega)
        simp only [e2, e3, e4, e5, decide_true, Bool.and_self, cond_true, getE e4, bsome]
        refine ih (k + 1) _ (by omega) (by omega) (by rw [List.length_set]; exact hW) (fun i hi => ?_)
        rw [bit_set e4, hb i hi, hmem]
      · have e2 : ¬((l[k] : Int) < (N : Int)) := by omega
        simp only [e2, decide_false, cond_false]
        refine ih (k + 1) _ (by omega) (by omega) hW (fun i hi => ?_)
        rw [hb i hi, hmem, decide_eq_false (show ¬(i = l[k]) by omega), Bool.or_false]
    · have e1 : ¬((k : Int) < (l.length : Int)) := by omega
      simp only [e1, decide_false, cond_false]
      rw [List.take_of_length_le (by omega)] at hb
      exact ⟨W, rfl, hW, hb⟩
theorem set_is {l : List Nat} {N : Nat} (hN : N ≤ 500) (hl : l.length ≤ 1000) (hs : ∀ x ∈ l, x < 4294967296) : ∃ W, space_set 10000 l (N : Int) = some W ∧ ∀ i, i < N → space_set_1 10000 W i = some (decide (i ∈ l)) := by
  unfold space_set space_set_F
  have e0 : Int.tdiv (N : Int) 64 = ((N / 64 : Nat) : Int) := by rw [Int.tdiv_eq_ediv_of_nonneg (by omega)]; omega
  have e1 : w64 (w64 (Int.tdiv (N : Int) 64) + 1) = ((N / 64 + 1 : Nat) : Int) := by
    rw [e0, w64_id (n := ((N / 64 : Nat) : Int)) (by omega) (by omega), w64_id (by omega) (by omega)]; omega
  have e2 : Nat.ble (N / 64 + 1) (N / 64 + 1) = true := ble_of (Nat.le_refl _)
  have e3 : Nat.ble (N / 64 + 1) 100000000 = true := ble_of (by omega)
  rw [e1]
  simp only [Int.natCast_nonneg, Int.toNat_natCast, e2, e3, decide_true, Bool.and_self, cond_true]
  obtain ⟨W, h1, h2, h3⟩ := set_loop 10000 l N hN hl hs 10000 0 (List.replicate (N / 64 + 1) 0) (by omega) (by omega) (List.length_replicate ..) (fun i hi => by
    unfold bitOf
    have : (List.replicate (N / 64 + 1) 0)[i / 64]?.getD 0 = 0 := by
      rw [List.getElem?_replicate]; split <;> rfl
    rw [this]; simp)
  exact ⟨W, h1, fun i hi => by rw [set1_is (by omega) (by omega), h3 i hi]⟩
def part1 (i : Nat) (a b c : Bool) : List Fnd := match a, b, c with
  | false, false, false => [⟨16, i, 0⟩]
  | true, false, false => []
  | false, true, false => []
  | false, false, true => []
  | _, _, _ => [⟨15, i, 0⟩]
theorem part1_len (i : Nat) (a b c : Bool) : (part1 i a b c).length ≤ 1 := by cases a <;> cases b <;> cases c <;> simp [part1]
theorem part1_rot (i : Nat) (a b c : Bool) : part1 i a b c = part1 i c a b := by cases a <;> cases b <;> cases c <;> rfl
def partsV (N : Nat) (a b c : Nat → Bool) : Nat → List Fnd
  | 0 => []
  | d + 1 => part1 (N - (d + 1)) (a (N - (d + 1))) (b (N - (d + 1))) (c (N - (d + 1))) ++ partsV N a b c d
theorem parted_loop (l2 l3 l4 : List Nat) (W2 W3 W4 : List Nat) (N : Nat) (hN : N ≤ 500) (a b c : Nat → Bool)
    (h2 : ∀ i, i < N → space_set_1 10000 W2 i = some (a i)) (h3 : ∀ i, i < N → space_set_1 10000 W3 i = some (b i)) (h4 : ∀ i, i < N → space_set_1 10000 W4 i = some (c i)) :
    ∀ (d m i : Nat) (acc : List Fnd), d < m → i + d = N → acc.length ≤ i → space_Parted_L7 10000 l2 l3 l4 m (N : Int) i W4 W3 W2 acc = some (acc ++ partsV N a b c d) := by
  intro d
  induction d with
  | zero =>
    intro m i acc hm hi ha
    cases m with
    | zero => omega
    | succ m =>
      unfold space_Parted_L7 space_Parted_L7F space_Parted_rt
      rw [w64_id (by omega) (by omega)]
      have e1 : ¬((i : Int) < (N : Int)) := by omega
      simp only [e1, decide_false, cond_false]
      rw [partsV, List.append_nil]
  | succ d ih =>
    intro m i acc hm hi ha
    cases m with
    | zero => omega
    | succ m =>
      have hNi : N - (d + 1) = i := by omega
      have e2 : (i + 1) % 4294967296 = i + 1 := Nat.mod_eq_of_lt (by omega)
      have go : ∀ (x : List Fnd), x.length ≤ 1 → space_Parted_L7 10000 l2 l3 l4 m (N : Int) (i + 1) W4 W3 W2 (acc ++ x) = some (acc ++ (x ++ partsV N a b c d)) := fun x hx => by
        rw [ih m (i + 1) (acc ++ x) (by omega) (by omega) (by rw [List.length_append]; omega), List.append_assoc]
      have g0 := go [] (by decide)
      rw [List.append_nil, List.nil_append] at g0
      have g15 := go [⟨15, i, 0⟩] (by simp)
      have g16 := go [⟨16, i, 0⟩] (by simp)
      have hb : ∀ y : Fnd, Nat.ble (acc.length + [y].length) 100000000 = true := fun y => ble_of (by simp; omega)
      rw [partsV, hNi]
      unfold space_Parted_L7 space_Parted_L7F space_Parted_rt
      rw [w64_id (by omega) (by omega)]
      have e1 : ((i : Int) < (N : Int)) := by omega
      simp only [e1, decide_true, cond_true, h2 i (by omega), h3 i (by omega), h4 i (by omega), bsome, hb, e2]
      cases a i <;> cases b i <;> cases c i <;> simp only [cond_true, cond_false, part1, List.nil_append] <;> first | exact g0 | exact g15 | exact g16
theorem Parted_is {l2 l3 l4 : List Nat} {N : Nat} (hN : N ≤ 500) (k2 : l2.length ≤ 1000) (k3 : l3.length ≤ 1000) (k4 : l4.length ≤ 1000) (s2 : ∀ x ∈ l2, x < 4294967296) (s3 : ∀ x ∈ l3, x < 4294967296) (s4 : ∀ x ∈ l4, x < 4294967296) :
    space_Parted 10000 l2 l3 l4 (N : Int) = some (partsV N (fun i => decide (i ∈ l2)) (fun i => decide (i ∈ l3)) (fun i => decide (i ∈ l4)) (N - 2)) := by
  obtain ⟨W2, a2, b2⟩ := set_is hN k2 s2
  obtain ⟨W3, a3, b3⟩ := set_is hN k3 s3
  obtain ⟨W4, a4, b4⟩ := set_is hN k4 s4
  unfold space_Parted space_Parted_F space_Parted_rt space_may space_may_F space_may_rt
  have e1 : (0 : Int) ≤ (N : Int) := by omega
  have e2 : (N : Int) ≤ 1048576 := by omega
  simp only [e1, e2, decide_true, cond_true, bsome, Bool.not_true, cond_false, a2, a3, a4]
  by_cases h : 2 ≤ N
  · have := parted_loop l2 l3 l4 W2 W3 W4 N hN _ _ _ b2 b3 b4 (N - 2) 10000 2 [] (by omega) (by omega) (by simp)
    rw [this, List.nil_append]
  · rw [show N - 2 = 0 by omega, partsV, show (10000 : Nat) = 9999 + 1 from rfl, space_Parted_L7, space_Parted_L7F, w64_id (by omega) (by omega)]
    have e3 : ¬(((2 : Nat) : Int) < (N : Int)) := by omega
    simp only [e3, decide_false, cond_false]
theorem Parted_neg {l2 l3 l4 : List Nat} {n : Int} (h : n < 0) : space_Parted 10000 l2 l3 l4 n = some [] := by
  unfold space_Parted space_Parted_F space_Parted_rt space_may space_may_F space_may_rt
  have e1 : ¬((0 : Int) ≤ n) := by omega
  simp only [e1, decide_false, cond_false, bsome, Bool.not_false, cond_true]
theorem partsV_congr {N : Nat} {a b c a' b' c' : Nat → Bool} (h1 : ∀ i, a i = a' i) (h2 : ∀ i, b i = b' i) (h3 : ∀ i, c i = c' i) : ∀ d, partsV N a b c d = partsV N a' b' c' d
  | 0 => rfl
  | d + 1 => by rw [partsV, partsV, h1, h2, h3, partsV_congr h1 h2 h3 d]
theorem partsV_rot {N : Nat} {a b c : Nat → Bool} : ∀ d, partsV N a b c d = partsV N c a b d
  | 0 => rfl
  | d + 1 => by rw [partsV, partsV, part1_rot, partsV_rot d]
theorem partsV_len {N : Nat} {a b c : Nat → Bool} : ∀ d, (partsV N a b c d).length ≤ d
  | 0 => Nat.le_refl _
  | d + 1 => by
    rw [partsV, List.length_append]
    have := part1_len (N - (d + 1)) (a (N - (d + 1))) (b (N - (d + 1))) (c (N - (d + 1)))
    have := partsV_len (N := N) (a := a) (b := b) (c := c) d
    omega
def restV (N : Nat) (a : Nat → Bool) : Nat → List Nat
  | 0 => []
  | d + 1 => (if a (N - (d + 1)) = true then [] else [N - (d + 1)]) ++ restV N a d
theorem rest_loop (l : List Nat) (W : List Nat) (N : Nat) (hN : N ≤ 500) (a : Nat → Bool) (h2 : ∀ i, i < N → space_set_1 10000 W i = some (a i)) :
    ∀ (d m i : Nat) (acc : List Nat), d < m → i + d = N → acc.length ≤ i → space_Rest_L7 10000 l m (N : Int) i W acc = some (acc ++ restV N a d) := by
  intro d
  induction d with
  | zero =>
    intro m i acc hm hi ha
    cases m with
    | zero => omega
    | succ m =>
      unfold space_Rest_L7 space_Rest_L7F space_Rest_rt
      rw [w64_id (by omega) (by omega)]
      have e1 : ¬((i : Int) < (N : Int)) := by omega
      simp only [e1, decide_false, cond_false]
      rw [restV, List.append_nil]
  | succ d ih =>
    intro m i acc hm hi ha
    cases m with
    | zero => omega
    | succ m =>
      have hNi : N - (d + 1) = i := by omega
      have e2 : (i + 1) % 4294967296 = i + 1 := Nat.mod_eq_of_lt (by omega)
      have hb : Nat.ble (acc.length + [i].length) 100000000 = true := ble_of (by simp; omega)
      rw [restV, hNi]
      unfold space_Rest_L7 space_Rest_L7F space_Rest_rt
      rw [w64_id (by omega) (by omega)]
      have e1 : ((i : Int) < (N : Int)) := by omega
      simp only [e1, decide_true, cond_true, h2 i (by omega), bsome, hb, e2]
      cases a i
      · simp only [Bool.not_false, cond_true, Bool.false_eq_true, if_false]
        rw [ih m (i + 1) (acc ++ [i]) (by omega) (by omega) (by simp; omega), List.append_assoc]
      · simp only [Bool.not_true, cond_false, if_true, List.nil_append]
        exact ih m (i + 1) acc (by omega) (by omega) (by omega)
theorem Rest_is {l : List Nat} {N : Nat} (hN : N ≤ 500) (k : l.length ≤ 1000) (s : ∀ x ∈ l, x < 4294967296) : space_Rest 10000 l (N : Int) = some (restV N (fun i => decide (i ∈ l)) (N - 2)) := by
  obtain ⟨W, a2, b2⟩ := set_is hN k s
  unfold space_Rest space_Rest_F space_Rest_rt space_may space_may_F space_may_rt
  have e1 : (0 : Int) ≤ (N : Int) := by omega
  have e2 : (N : Int) ≤ 1048576 := by omega
  simp only [e1, e2, decide_true, cond_true, bsome, Bool.not_true, cond_false, a2]
  by_cases h : 2 ≤ N
  · have := rest_loop l W N hN _ b2 (N - 2) 10000 2 [] (by omega) (by omega) (by simp)
    rw [this, List.nil_append]
  · rw [show N - 2 = 0 by omega, restV, show (10000 : Nat) = 9999 + 1 from rfl, space_Rest_L7, space_Rest_L7F, w64_id (by omega) (by omega)]
    have e3 : ¬(((2 : Nat) : Int) < (N : Int)) := by omega
    simp only [e3, decide_false, cond_false]
theorem Rest_neg {l : List Nat} {n : Int} (h : n < 0) : space_Rest 10000 l n = some [] := by
  unfold space_Rest space_Rest_F space_Rest_rt space_may space_may_F space_may_rt
  have e1 : ¬((0 : Int) ≤ n) := by omega
  simp only [e1, decide_false, cond_false, bsome, Bool.not_false, cond_true]
theorem restV_congr {N : Nat} {a a' : Nat → Bool} (h : ∀ i, a i = a' i) : ∀ d, restV N a d = restV N a' d
  | 0 => rfl
  | d + 1 => by rw [restV, restV, h, restV_congr h d]
theorem restV_len {N : Nat} {a : Nat → Bool} : ∀ d, (restV N a d).length ≤ d
  | 0 => Nat.le_refl _
  | d + 1 => by
    have := restV_len (N := N) (a := a) d
    rw [restV, List.length_append]
    split <;> simp <;> omega
theorem samef_loop (l : List Fnd) (hl : l.length ≤ 1000) : ∀ (m i : Nat), l.length < m + i → i ≤ l.length → kit_Same_api_Finding_L5 10000 l l m (i : Int) = some true := by
  intro m
  induction m with
  | zero => intro i h1 h2; omega
  | succ m ih =>
    intro i h1 h2
    unfold kit_Same_api_Finding_L5 kit_Same_api_Finding_L5F kit_Same_api_Finding_rt
    by_cases hi : i < l.length
    · have e1 : ((i : Int) < (l.length : Int)) := by omega
      simp only [e1, hi, decide_true, cond_true, Int.natCast_nonneg, Int.toNat_natCast, Bool.and_self, getE hi, bsome, Bool.not_true, cond_false]
      rw [w64_id (by omega) (by omega)]
      exact ih (i + 1) (by omega) (by omega)
    · have e1 : ¬((i : Int) < (l.length : Int)) := by omega
      simp only [e1, decide_false, cond_false]
theorem samef {l : List Fnd} (hl : l.length ≤ 1000) : kit_Same_api_Finding 10000 l l = some true := by
  unfold kit_Same_api_Finding kit_Same_api_Finding_F
  simp only [ne_eq, not_true_eq_false, decide_false, cond_false]
  exact samef_loop l hl 10000 0 (by omega) (by omega)
theorem sameu_loop (l : List Nat) (hl : l.length ≤ 1000) : ∀ (m i : Nat), l.length < m + i → i ≤ l.length → kit_Same_uint32_L5 10000 l l m (i : Int) = some true := by
  intro m
  induction m with
  | zero => intro i h1 h2; omega
  | succ m ih =>
    intro i h1 h2
    unfold kit_Same_uint32_L5 kit_Same_uint32_L5F kit_Same_uint32_rt
    by_cases hi : i < l.length
    · have e1 : ((i : Int) < (l.length : Int)) := by omega
      simp only [e1, hi, decide_true, cond_true, Int.natCast_nonneg, Int.toNat_natCast, Bool.and_self, getE hi, bsome, ne_eq, not_true_eq_false, decide_false, cond_false, Bool.not_true]
      rw [w64_id (by omega) (by omega)]
      exact ih (i + 1) (by omega) (by omega)
    · have e1 : ¬((i : Int) < (l.length : Int)) := by omega
      simp only [e1, decide_false, cond_false]
theorem sameu {l : List Nat} (hl : l.length ≤ 1000) : kit_Same_uint32 10000 l l = some true := by
  unfold kit_Same_uint32 kit_Same_uint32_F
  simp only [ne_eq, not_true_eq_false, decide_false, cond_false]
  exact sameu_loop l hl 10000 0 (by omega) (by omega)
theorem pick_k (n : Nat) (c : Int) (m : Nat) (h : 1 ≤ m) (hm : m ≤ 1000000000) : ∃ k : Nat, k < m ∧ kit_Pick n c (m : Int) = some (k : Int) := by
  unfold kit_Pick kit_Pick_F kit_Pick_rt
  have e1 : ¬((m : Int) < 1) := by omega
  have e2 : ¬((m : Int) = 0) := by omega
  have h1 := Int.tmod_lt_of_pos c (show (0 : Int) < (m : Int) by omega)
  have h2 := Int.lt_tmod_of_pos c (show (0 : Int) < (m : Int) by omega)
  simp only [e1, e2, decide_false, cond_false, ne_eq, not_false_eq_true, decide_true, cond_true]
  by_cases h3 : Int.tmod c (m : Int) < 0
  · simp only [h3, decide_true, cond_true]
    refine ⟨(Int.tmod c (m : Int) + (m : Int)).toNat, by omega, ?_⟩
    rw [w64_id (by omega) (by omega), Int.toNat_of_nonneg (by omega)]
  · simp only [h3, decide_false, cond_false]
    exact ⟨(Int.tmod c (m : Int)).toNat, by omega, by rw [Int.toNat_of_nonneg (by omega)]⟩
theorem mem_restV {N : Nat} {a : Nat → Bool} {x : Nat} : ∀ d, d ≤ N → (x ∈ restV N a d ↔ N - d ≤ x ∧ x < N ∧ a x = false)
  | 0, _ => by simp [restV]; omega
  | d + 1, h => by
    have ih := mem_restV (N := N) (a := a) (x := x) d (by omega)
    rw [restV, List.mem_append, ih]
    by_cases e : x = N - (d + 1)
    · subst e
      cases a (N - (d + 1)) <;> simp <;> omega
    · have : x ∈ (if a (N - (d + 1)) = true then [] else [N - (d + 1)]) ↔ False := by
        split <;> simp [e]
      rw [this, false_or]
      constructor
      · rintro ⟨h1, h2, h3⟩; exact ⟨by omega, h2, h3⟩
      · rintro ⟨h1, h2, h3⟩; exact ⟨by omega, h2, h3⟩
theorem restV_rise {N : Nat} {a : Nat → Bool} : ∀ d, d ≤ N → (restV N a d).Pairwise (· < ·)
  | 0, _ => List.Pairwise.nil
  | d + 1, h => by
    have ih := restV_rise (N := N) (a := a) d (by omega)
    rw [restV]
    split
    · exact ih
    · exact List.Pairwise.cons (fun y hy => by have := (mem_restV d (by omega)).1 hy; omega) ih
theorem partsV_none {N : Nat} {a b c : Nat → Bool} : ∀ d, d ≤ N → (∀ i, N - d ≤ i → i < N → part1 i (a i) (b i) (c i) = []) → partsV N a b c d = []
  | 0, _, _ => rfl
  | d + 1, h, hp => by
    rw [partsV, hp _ (Nat.le_refl _) (by omega), partsV_none d (by omega) (fun i h1 h2 => hp i (by omega) h2)]; rfl
theorem partsV_one {N p : Nat} {y : Fnd} {a b c : Nat → Bool} : ∀ d, d ≤ N → N - d ≤ p → p < N → (∀ i, N - d ≤ i → i < N → part1 i (a i) (b i) (c i) = if i = p then [y] else []) → partsV N a b c d = [y]
  | 0, _, h1, h2, _ => by omega
  | d + 1, h, h1, h2, hp => by
    rw [partsV, hp _ (Nat.le_refl _) (by omega)]
    by_cases e : N - (d + 1) = p
    · rw [if_pos e, partsV_none d (by omega) (fun i g1 g2 => by rw [hp i (by omega) g2, if_neg (by omega)])]; rfl
    · rw [if_neg e, List.nil_append]
      exact partsV_one d (by omega) (by omega) h2 (fun i g1 g2 => hp i (by omega) g2)
theorem mem_less {R : List Nat} (hR : R.Pairwise (· < ·)) {k : Nat} (hk : k < R.length) (x : Nat) : x ∈ R.take k ++ R.drop (k + 1) ↔ x ∈ R ∧ x ≠ R[k] := by
  have e : R = R.take k ++ R[k] :: R.drop (k + 1) := by rw [← List.drop_eq_getElem_cons hk, List.take_append_drop]
  have h := hR
  rw [e, List.pairwise_append] at h
  obtain ⟨_, h2, h3⟩ := h
  have h4 := (List.pairwise_cons.1 h2).1
  constructor
  · intro hx
    rw [List.mem_append] at hx
    rcases hx with hx | hx
    · have := h3 x hx R[k] (.head _); exact ⟨List.mem_of_mem_take hx, by omega⟩
    · have := h4 x hx; exact ⟨List.mem_of_mem_drop hx, by omega⟩
  · rintro ⟨hx, hne⟩
    have hx' : x ∈ R.take k ++ R[k] :: R.drop (k + 1) := e ▸ hx
    rw [List.mem_append, List.mem_cons] at hx'
    rw [List.mem_append]
    rcases hx' with h | h | h
    · exact .inl h
    · exact absurd h hne
    · exact .inr h
theorem sr_L15 (l R : List Nat) (N : Nat) (hN : N ≤ 500) (hlen : R.length ≤ 500) (hR : R.Pairwise (· < ·)) (hm : ∀ x ∈ R, 2 ≤ x ∧ x < N) : ∀ (m i : Nat), R.length < m + i → i ≤ R.length → law20_SpaceRest_L15 10000 l m (N : Int) (i : Int) R = some true := by
  intro m
  induction m with
  | zero => intro i h1 h2; omega
  | succ m ih =>
    intro i h1 h2
    unfold law20_SpaceRest_L15 law20_SpaceRest_L15F law20_SpaceRest_rt
    by_cases hi : i < R.length
    · have e1 : ((i : Int) < (R.length : Int)) := by omega
      obtain ⟨m1, m2⟩ := hm _ (List.getElem_mem hi)
      have e2 : ¬(R[i] < 2) := by omega
      have e3 : ¬((N : Int) ≤ (R[i] : Int)) := by omega
      simp only [e1, hi, decide_true, cond_true, Int.natCast_nonneg, Int.toNat_natCast, Bool.and_self, getE hi, bsome, e2, decide_false, cond_false]
      rw [w64_id (n := (R[i] : Int)) (by omega) (by omega)]
      simp only [e3, decide_false, cond_false]
      rw [w64_id (n := (i : Int) + 1) (by omega) (by omega)]
      by_cases h0 : i = 0
      · subst h0
        simp only [Int.natCast_zero, Int.lt_irrefl, decide_false, cond_false]
        exact ih 1 (by omega) (by omega)
      · have e4 : (0 : Int) < (i : Int) := by omega
        have e5 : w64 ((i : Int) - 1) = ((i - 1 : Nat) : Int) := by rw [w64_id (by omega) (by omega)]; omega
        have e6 : i - 1 < R.length := by omega
        have e7 := List.pairwise_iff_getElem.1 hR (i - 1) i e6 hi (by omega)
        have e8 : ¬(R[i] ≤ R[i - 1]) := by omega
        simp only [e4, e5, e6, e8, decide_true, decide_false, cond_true, cond_false, Int.natCast_nonneg, Int.toNat_natCast, Bool.and_self, getE e6, bsome]
        exact ih (i + 1) (by omega) (by omega)
    · have e1 : ¬((i : Int) < (R.length : Int)) := by omega
      simp only [e1, decide_false, cond_false]
theorem own_is (l : List Nat) (h : l.length ≤ 1000) : kit_Own_uint32 10000 l = some l := by
  unfold kit_Own_uint32 kit_Own_uint32_F kit_Own_uint32_rt
  rw [ble_of (show 0 + l.length ≤ 100000000 by omega)]; rfl
theorem spaceRest_m (n : Int) (l : List Nat) (w : Int) (s : ∀ x ∈ l, x < 4294967296) : law20_SpaceRest 10000 l n w = some true := by
  unfold law20_SpaceRest law20_SpaceRest_F law20_SpaceRest_rt
  rw [so_lives, bsome]
  simp only [Bool.not_true, cond_false]
  by_cases h0 : n < 0
  · simp only [h0, decide_true, cond_true]
  by_cases h1 : 500 < n
  · simp only [h0, h1, decide_true, decide_false, cond_true, cond_false]
  by_cases h2 : (200 : Int) < (l.length : Int)
  · simp only [h0, h1, h2, decide_true, decide_false, cond_true, cond_false]
  simp only [h0, h1, h2, decide_false, cond_false]
  obtain ⟨N, rfl⟩ : ∃ N : Nat, n = (N : Int) := ⟨n.toNat, by omega⟩
  have hN : N ≤ 500 := by omega
  unfold law20_SpaceRest_J6 law20_SpaceRest_J6F law20_SpaceRest_rt
  have hl : l.length ≤ 1000 := by omega
  have D := Rest_is hN hl s
  have hlen := restV_len (N := N) (a := fun i => decide (i ∈ l)) (N - 2)
  have hrise := restV_rise (N := N) (a := fun i => decide (i ∈ l)) (N - 2) (by omega)
  have hmem := fun x => mem_restV (N := N) (a := fun i => decide (i ∈ l)) (x := x) (N - 2) (by omega)
  generalize restV N (fun i => decide (i ∈ l)) (N - 2) = R at D hlen hrise hmem
  have hm2 : ∀ x ∈ R, 2 ≤ x ∧ x < N := fun x hx => by
    have := (hmem x).1 hx
    omega
  have hRs : ∀ x ∈ R, x < 4294967296 := fun x hx => by have := hm2 x hx; omega
  have hc : ∀ i, N - (N - 2) ≤ i → i < N → decide (i ∈ R) = !decide (i ∈ l) := fun i g1 g2 => by
    have := hmem i
    by_cases hi : i ∈ l
    · have : ¬(i ∈ R) := fun h => by have := (this.1 h).2.2; simp [hi] at this
      simp [hi, this]
    · have : i ∈ R := this.2 ⟨g1, g2, by simp [hi]⟩
      simp [hi, this]
  have A := Parted_is (l2 := l) (l3 := []) (l4 := R) hN hl (by simp) (by omega) s (by simp) hRs
  rw [partsV_none (N - 2) (by omega) (fun i g1 g2 => by rw [hc i g1 g2]; cases decide (i ∈ l) <;> rfl)] at A
  have B := Parted_is (l2 := []) (l3 := l) (l4 := R) hN (by simp) hl (by omega) (by simp) s hRs
  rw [partsV_none (N - 2) (by omega) (fun i g1 g2 => by rw [hc i g1 g2]; cases decide (i ∈ l) <;> rfl)] at B
  have fin : law20_SpaceRest_J14 10000 l (N : Int) R = some true := by
    unfold law20_SpaceRest_J14 law20_SpaceRest_J14F
    exact sr_L15 l R N hN (by omega) hrise hm2 10000 0 (by omega) (by omega)
  have e0 : ¬(((([] : List Fnd).length : Nat) : Int) ≠ 0) := by simp
  simp only [D, A, B, own_is l hl, bsome, e0, decide_false, cond_false]
  unfold law20_SpaceRest_J9 law20_SpaceRest_J9F law20_SpaceRest_rt
  by_cases h3 : (0 : Int) < (R.length : Int)
  · obtain ⟨k, hk, hp⟩ := pick_k 10000 w R.length (by omega) (by omega)
    have e1 : w64 ((k : Int) + 1) = ((k + 1 : Nat) : Int) := by rw [w64_id (by omega) (by omega)]; omega
    have e2 : k ≤ R.length := by omega
    have e3 : k + 1 ≤ R.length := by omega
    have e4 : Nat.ble ((R.take k).length + (R.drop (k + 1)).length) 100000000 = true := ble_of (by simp; omega)
    have e5 : Nat.ble (l.length + [R[k]].length) 100000000 = true := ble_of (by simp; omega)
    have hkm := (hmem R[k]).1 (List.getElem_mem hk)
    have hkl : ¬(R[k] ∈ l) := by have := hkm.2.2; simpa using this
    have P := Parted_is (l2 := l) (l3 := []) (l4 := R.take k ++ R.drop (k + 1)) hN hl (by simp) (by simp; omega) s (by simp) (fun x hx => hRs x ((mem_less hrise hk x).1 hx).1)
    rw [partsV_one (p := R[k]) (y := ⟨16, R[k], 0⟩) (N - 2) (by omega) hkm.1 hkm.2.1 (fun i g1 g2 => by
      have h := hc i g1 g2
      have g : decide (i ∈ R.take k ++ R.drop (k + 1)) = (decide (i ∈ R) && !decide (i = R[k])) := by
        rw [Bool.eq_iff_iff]
        simp only [Bool.and_eq_true, decide_eq_true_eq, Bool.not_eq_true', decide_eq_false_iff_not]
        exact mem_less hrise hk i
      rw [g, h]
      by_cases e : i = R[k]
      · subst e; simp [hkl, part1]
      · simp only [e, decide_false, Bool.not_false, Bool.and_true, if_false]
        cases decide (i ∈ l) <;> rfl)] at P
    have Q := Parted_is (l2 := l ++ [R[k]]) (l3 := []) (l4 := R) hN (by simp; omega) (by simp) (by omega) (fun x hx => by
      rcases List.mem_append.1 hx with h | h
      · exact s x h
      · rw [List.mem_singleton.1 h]; exact hRs _ (List.getElem_mem hk)) (by simp) hRs
    rw [partsV_one (p := R[k]) (y := ⟨15, R[k], 0⟩) (N - 2) (by omega) hkm.1 hkm.2.1 (fun i g1 g2 => by
      have h := hc i g1 g2
      have g : decide (i ∈ l ++ [R[k]]) = (decide (i ∈ l) || decide (i = R[k])) := by
        rw [Bool.eq_iff_iff]
        simp only [Bool.or_eq_true, decide_eq_true_eq, List.mem_append, List.mem_singleton]
      rw [g, h]
      by_cases e : i = R[k]
      · subst e; simp [hkl, part1]
      · simp only [e, decide_false, Bool.or_false, if_false]
        cases decide (i ∈ l) <;> rfl)] at Q
    have S := fun x : Fnd => samef (l := [x]) (by simp)
    simp only [h3, hp, bsome, e1, e2, e3, e4, e5, decide_true, cond_true, Int.natCast_nonneg, Int.toNat_natCast, Bool.and_self, own_is (R.take k) (by simp; omega), P, Q, hk, getE hk, S, Bool.not_true, cond_false, own_is l hl, fin]
  · simp only [h3, decide_false, cond_false]
    exact fin
end Go.Ev
end