/- Words of my own, printed by a program of mine. -/
import Derived.Test.YtlnmdfffmflhgaaDfns
import Derived.Test.YtlnmdfffmflhgaaHn
section
set_option linter.unusedVariables false
set_option linter.unusedSimpArgs false
namespace Go.Ev
open Go.RowKit
theorem w64_id {n : Int} (h1 : -4611686018427387904 ≤ n) (h2 : n ≤ 4611686018427387904) : w64 n = n := w64_of (by omega) (by omega)
theorem ble_of {a b : Nat} (h : a ≤ b) : Nat.ble a b = true := Nat.ble_eq_true_of_le h
theorem bsome {α β : Type} (a : α) (f : α → Option β) : Option.bind (some a) f = f a := rfl
theorem getE {α : Type} {l : List α} {i : Nat} (h : i < l.length) : l[i]? = some l[i] := List.getElem?_eq_getElem h
theorem device_Good_is (n : Nat) (s : Int) : device_Good n s = some (goodB s) := by
  unfold device_Good device_Good_F goodB device_Good_rt
  by_cases h1 : 128 ≤ s <;> by_cases h2 : s ≤ 4096 <;> simp [h1, h2]
theorem frame_Room_is (n : Nat) (s : Int) : frame_Room n s = some (room s : Int) := by
  unfold frame_Room frame_Room_F frame_Room_rt
  rw [device_Good_is, bsome]
  cases h : goodB s
  · rw [room_bad h]; rfl
  · obtain ⟨g1, g2, g3⟩ := goodB_le h
    have g4 : ((room s : Nat) : Int) = s - 24 := by omega
    rw [g4]
    simp only [Bool.not_true, cond_false]
    rw [w64_id (by omega) (by omega)]
theorem octet_Put_loop (n : Nat) (b l : List UInt8) (a k : Nat) (hk : k ≤ 8) (hl : l.length ≤ 90000000) : ∀ (m i : Nat), k < m + i → i ≤ k → octet_Put_L6 n b m a (k : Int) (i : Int) (l ++ le a i) = some (l ++ le a k) := by
  intro m
  induction m with
  | zero => intro i h1 h2; omega
  | succ m ih =>
    intro i h1 h2
    unfold octet_Put_L6 octet_Put_L6F octet_Put_rt
    by_cases hi : i < k
    · have e1 : ((i : Int) < (k : Int)) := by omega
      rw [w64_id (n := 8 * (i : Int)) (by omega) (by omega)]
      have e2 : Int.toNat (8 * (i : Int)) = 8 * i := by omega
      rw [e2]
      have e3 : (0 : Int) ≤ 8 * (i : Int) := by omega
      have e4 : Nat.ble (8 * i) 64 = true := ble_of (by omega)
      have e5 : Nat.ble ((l ++ le a i).length + [UInt8.ofNat (a / 2 ^ (8 * i))].length) 100000000 = true := ble_of (by simp [le_length]; omega)
      simp only [e1, e3, e4, e5, decide_true, cond_true, Bool.and_self]
      rw [w64_id (by omega) (by omega), List.append_assoc, ← le_succ]
      exact ih (i + 1) (by omega) (by omega)
    · have e1 : ¬((i : Int) < (k : Int)) := by omega
      simp only [e1, decide_false, cond_false]
      rw [show i = k by omega]
theorem octet_Put_is {n : Nat} {l : List UInt8} {a k : Nat} (hn : 9 ≤ n) (hk : 1 ≤ k) (hk8 : k ≤ 8) (hl : l.length ≤ 90000000) : octet_Put n l a (k : Int) = some (l ++ le a k) := by
  unfold octet_Put octet_Put_F octet_Put_rt
  rw [w64_id (by omega) (by omega)]
  have e1 : (0 : Int) ≤ (l.length : Int) + 8 := by omega
  have e2 : Nat.ble (0) (Int.toNat ((l.length : Int) + 8)) = true := ble_of (by omega)
  have e3 : Nat.ble (Int.toNat ((l.length : Int) + 8)) 100000000 = true := ble_of (by omega)
  have e4 : Nat.ble ((List.replicate (0) (UInt8.ofNat (0))).length + l.length) 100000000 = true := ble_of (by simp; omega)
  have e5 : ¬((k : Int) < 1) := by omega
  have e6 : ¬((8 : Int) < (k : Int)) := by omega
  simp only [e1, e2, e3, e4, e5, e6, decide_true, decide_false, cond_true, cond_false, Bool.and_self, Int.le_refl]
  have := octet_Put_loop n l l a k hk8 hl n 0 (by omega) (by omega)
  simpa [octet_Put_J5, octet_Put_J5F, le] using this
theorem frame_Body_is {n : Nat} {b : List UInt8} {s : Int} (hb : b.length ≤ 80000000) : frame_Body n b s = some (bodyS s b, (bodyE s b : Int)) := by
  unfold frame_Body frame_Body_F frame_Body_rt
  rw [device_Good_is, frame_Room_is, bsome]
  cases h : goodB s
  · obtain ⟨h1, h2⟩ := body_bad (l := b) h
    rw [h1, h2]; rfl
  · have hr := room_le s
    have hr2 : 1 ≤ room s := by have := goodB_le h; omega
    simp only [Bool.not_true, cond_false, bsome, Int.toNat_natCast, Int.natCast_nonneg, decide_true, Bool.and_self, List.length_replicate, Bool.true_and]
    by_cases h2 : room s < b.length
    · obtain ⟨h3, h4⟩ := body_long h h2
      have : ((room s : Int) < (b.length : Int)) := by omega
      rw [h3, h4]; simp only [this, decide_true, cond_true]; rfl
    · have h5 : b.length ≤ room s := by omega
      obtain ⟨h3, h4⟩ := body_ok h h5
      have : ¬((room s : Int) < (b.length : Int)) := by omega
      have e1 : Nat.ble (room s) (room s) = true := ble_of (Nat.le_refl _)
      have e2 : Nat.ble (room s) 100000000 = true := ble_of (by omega)
      have e3 : Nat.ble 1 (room s) = true := ble_of hr2
      rw [h3, h4]
      simp only [this, decide_false, cond_false, e1, e2, e3, cond_true, Bool.and_self]
      have e4 : Nat.min b.length (room s) = b.length := Nat.min_eq_left h5
      rw [e4, List.take_length]
      simp [padL]
theorem take_is (n : Nat) (l : List UInt8) (k : Nat) : octet_Reader_take n (k : Int) l = some (takeV l k, (takeE l k : Int), takeR l k) := by
  unfold octet_Reader_take octet_Reader_take_F octet_Reader_take_rt takeV takeE takeR
  by_cases h : k ≤ l.length
  · have e1 : ¬((l.length : Int) < (k : Int)) := by omega
    simp [e1, h]
  · have e1 : ((l.length : Int) < (k : Int)) := by omega
    simp [e1, h]
theorem Number_loop (n : Nat) (v r : List UInt8) (e : Int) (hv : v.length ≤ 8) : ∀ (m i : Nat), v.length < m + i → i ≤ v.length → octet_Reader_Number_L8 n m (ofLe (v.take i)) e v (v.length : Int) (i : Int) r = some (ofLe v, e, r) := by
  intro m
  induction m with
  | zero => intro i h1 h2; omega
  | succ m ih =>
    intro i h1 h2
    unfold octet_Reader_Number_L8 octet_Reader_Number_L8F octet_Reader_Number_rt
    by_cases hi : i < v.length
    · have hx := getE hi
      have e1 : ((i : Int) < (v.length : Int)) := by omega
      simp only [e1, decide_true, cond_true, Int.natCast_nonneg, Int.toNat_natCast, hx, bsome]
      rw [w64_id (n := 8 * (i : Int)) (by omega) (by omega)]
      have e2 : Int.toNat (8 * (i : Int)) = 8 * i := by omega
      have e3 : (0 : Int) ≤ 8 * (i : Int) := by omega
      have e4 : Nat.ble (8 * i) 64 = true := ble_of (by omega)
      rw [e2, w64_id (by omega) (by omega)]
      simp only [e3, e4, decide_true, cond_true, Bool.and_self]
      have h5 := ofLe_or hx (by omega)
      have h6 : (ofLe (v.take i) % 18446744073709551616 ||| v[i].toNat * 2 ^ (8 * i) % 18446744073709551616 % 18446744073709551616) % 18446744073709551616 = ofLe (v.take (i + 1)) := by
        have h7 := congrArg Int.toNat h5
        rw [Int.toNat_natCast] at h7
        rw [← h7, Nat.mod_mod]
        show _ = Int.toNat (IntKind.u64.wrap _)
        rw [u64_cast]
        rw [Int.toNat_natCast]
        have h8 : ∀ q : Nat, u64 (q : Int) = q % 18446744073709551616 := fun q => by
          unfold u64
          simp [IntKind.wrap, IntKind.signed, IntKind.bits]
          omega
        rw [h8]; rfl
      rw [h6]
      exact ih (i + 1) (by omega) (by omega)
    · have e1 : ¬((i : Int) < (v.length : Int)) := by omega
      simp only [e1, decide_false, cond_false]
      rw [List.take_of_length_le (by omega)]
theorem Number_is {n : Nat} {l : List UInt8} {k : Nat} (hn : 9 ≤ n) (h1 : 1 ≤ k) (h8 : k ≤ 8) : octet_Reader_Number n (k : Int) l = some (numV l k, (takeE l k : Int), takeR l k) := by
  unfold octet_Reader_Number octet_Reader_Number_F octet_Reader_Number_rt
  have e1 : ¬((k : Int) < 1) := by omega
  have e2 : ¬((8 : Int) < (k : Int)) := by omega
  simp only [e1, e2, decide_false, cond_false, octet_Reader_Number_J6, octet_Reader_Number_J6F]
  rw [take_is, bsome]
  have hv := takeV_length (l := l) (k := k)
  exact Number_loop n (takeV l k) (takeR l k) (takeE l k : Int) (by omega) n 0 (by omega) (by omega)
end Go.Ev
end
section
set_option linter.unusedVariables false
set_option linter.unusedSimpArgs false
namespace Go.Ev
open Go.RowKit
/-- The checks' table. -/
noncomputable def tbl : List Nat := (crc_Table 10000).getD []
theorem tbl_is : crc_Table 10000 = some tbl := by
  have h : (crc_Table 10000).isSome = true := by kernel_rfl
  unfold tbl
  cases e : crc_Table 10000 with
  | none => rw [e] at h; cases h
  | some t => rfl
theorem tbl_len : tbl.length = 256 := by kernel_rfl
theorem tbl_lt : ∀ x ∈ tbl, x < 4294967296 := by
  have h : tbl.all (fun x => Nat.blt x 4294967296) = true := by kernel_rfl
  intro x hx
  have := List.all_eq_true.1 h x hx
  simpa [Nat.blt_eq] using this
theorem crc_loop (n : Nat) (b : List UInt8) (hb : b.length ≤ 1000000) : ∀ (m i c : Nat), b.length < m + i → i ≤ b.length → c < 4294967296 → ∃ d, d < 4294967296 ∧ crc_with_L4 n m c b (b.length : Int) (i : Int) tbl = some d := by
  intro m
  induction m with
  | zero => intro i c h1 h2; omega
  | succ m ih =>
    intro i c h1 h2 hc
    unfold crc_with_L4 crc_with_L4F crc_with_rt
    by_cases hi : i < b.length
    · have e1 : ((i : Int) < (b.length : Int)) := by omega
      simp only [e1, decide_true, cond_true, Int.natCast_nonneg, Int.toNat_natCast, getE hi, bsome, Bool.true_and]
      have hk : ∀ u : UInt8, u.toNat < 256 := fun u => u.toNat_lt
      have hj := hk (UInt8.ofNat ((UInt8.ofNat c).toNat % 256 ^^^ b[i].toNat % 256))
      have hjl : (UInt8.ofNat ((UInt8.ofNat c).toNat % 256 ^^^ b[i].toNat % 256)).toNat < tbl.length := by rw [tbl_len]; exact hj
      rw [ble_of (show Nat.succ (UInt8.ofNat ((UInt8.ofNat c).toNat % 256 ^^^ b[i].toNat % 256)).toNat ≤ 256 from hj), cond_true, getE hjl, bsome, w64_id (by omega) (by omega)]
      exact ih (i + 1) _ (by omega) (by omega) (Nat.mod_lt _ (by omega))
    · have e1 : ¬((i : Int) < (b.length : Int)) := by omega
      simp only [e1, decide_false, cond_false]
      exact ⟨_, Nat.mod_lt _ (by omega), rfl⟩
theorem crc_ex {b : List UInt8} (hb : b.length ≤ 9000) : ∃ c, c < 4294967296 ∧ crc_Of 10000 b = some c := by
  unfold crc_Of crc_Of_F crc_Of_rt crc_More crc_More_F crc_More_rt
  rw [tbl_is, bsome]
  unfold crc_with crc_with_F
  obtain ⟨d, h1, h2⟩ := crc_loop 10000 b (by omega) 10000 0 (Nat.xor (4294967296 - 1) (0 % 4294967296) % 4294967296) (by omega) (by omega) (Nat.mod_lt _ (by omega))
  exact ⟨d, h1, by
    have h2' : crc_with_L4 10000 10000 (Nat.xor (4294967296 - 1) (0 % 4294967296) % 4294967296) b (b.length : Int) 0 tbl = some d := h2
    rw [h2']; rfl⟩
/-- A text's check. -/
noncomputable def crcV (b : List UInt8) : Nat := (crc_Of 10000 b).getD 0
theorem crc_is {b : List UInt8} (hb : b.length ≤ 9000) : crc_Of 10000 b = some (crcV b) := by
  obtain ⟨c, _, h⟩ := crc_ex hb
  unfold crcV; rw [h]; rfl
theorem crcV_lt (b : List UInt8) (hb : b.length ≤ 9000) : crcV b < 4294967296 := by
  obtain ⟨c, h1, h⟩ := crc_ex hb
  unfold crcV; rw [h]; exact h1
/-- A page that may be. -/
def pmayB (s : Int) (p : Pg) : Bool := goodB s && (decide (1 ≤ p.kind) && (decide (p.kind ≤ 6) && (decide (0 ≤ p.count) && (decide (p.count ≤ 65535) && (decide (p.page ≤ 2147483647) && (decide (p.link ≤ 2147483647) && (decide (p.tx ≤ 4611686018427387904) && decide (p.body.length = room s))))))))
theorem frame_may_is (n : Nat) (s : Int) (p : Pg) : frame_may n s p = some (pmayB s p) := by
  unfold frame_may frame_may_F frame_may_rt pmayB
  rw [device_Good_is, frame_Room_is]
  cases goodB s
  · rfl
  have e : decide ((p.body.length : Int) = (room s : Int)) = decide (p.body.length = room s) := decide_eq_decide.2 (by omega)
  simp only [bsome, cond_true, Bool.true_and, e]
  by_cases h1 : 1 ≤ p.kind <;> simp only [h1, decide_true, decide_false, cond_true, cond_false, Bool.true_and, Bool.false_and]
  by_cases h2 : p.kind ≤ 6 <;> simp only [h2, decide_true, decide_false, cond_true, cond_false, Bool.true_and, Bool.false_and]
  by_cases h3 : 0 ≤ p.count <;> simp only [h3, decide_true, decide_false, cond_true, cond_false, Bool.true_and, Bool.false_and]
  by_cases h4 : p.count ≤ 65535 <;> simp only [h4, decide_true, decide_false, cond_true, cond_false, Bool.true_and, Bool.false_and]
  by_cases h5 : p.page ≤ 2147483647 <;> simp only [h5, decide_true, decide_false, cond_true, cond_false, Bool.true_and, Bool.false_and]
  by_cases h6 : p.link ≤ 2147483647 <;> simp only [h6, decide_true, decide_false, cond_true, cond_false, Bool.true_and, Bool.false_and]
  by_cases h7 : p.tx ≤ 4611686018427387904 <;> simp only [h7, decide_true, decide_false, cond_true, cond_false, Bool.true_and, Bool.false_and]
structure PMay (s : Int) (p : Pg) : Prop where
  good : goodB s = true
  k1 : 1 ≤ p.kind
  k2 : p.kind ≤ 6
  c1 : 0 ≤ p.count
  c2 : p.count ≤ 65535
  pg : p.page ≤ 2147483647
  lk : p.link ≤ 2147483647
  tx : p.tx ≤ 4611686018427387904
  bd : p.body.length = room s
theorem pmay_iff {s : Int} {p : Pg} : pmayB s p = true ↔ PMay s p := by
  unfold pmayB
  simp only [Bool.and_eq_true, decide_eq_true_eq]
  exact ⟨fun ⟨a, b, c, d, e, f, g, h, i⟩ => ⟨a, b, c, d, e, f, g, h, i⟩, fun ⟨a, b, c, d, e, f, g, h, i⟩ => ⟨a, b, c, d, e, f, g, h, i⟩⟩
/-- What is behind a page's check. -/
def restP (p : Pg) : List UInt8 := le (u64 p.kind) 1 ++ (le 1 1 ++ (le (u64 p.count) 2 ++ (le p.page 4 ++ (le p.link 4 ++ (le p.tx 8 ++ p.body)))))
theorem restP_length (p : Pg) : (restP p).length = 20 + p.body.length := by simp [restP, le_length]; omega
noncomputable def blk (p : Pg) : List UInt8 := le (crcV (restP p)) 4 ++ restP p
theorem blk_length (p : Pg) : (blk p).length = 24 + p.body.length := by simp [blk, le_length, restP_length]; omega
theorem Put4 {n : Nat} {l : List UInt8} {a : Nat} (hn : 9 ≤ n) (hl : l.length ≤ 90000000) : octet_Put n l a 4 = some (l ++ le a 4) := octet_Put_is (k := 4) hn (by omega) (by omega) hl
theorem Put1 {n : Nat} {l : List UInt8} {a : Nat} (hn : 9 ≤ n) (hl : l.length ≤ 90000000) : octet_Put n l a 1 = some (l ++ le a 1) := octet_Put_is (k := 1) hn (by omega) (by omega) hl
theorem Put2 {n : Nat} {l : List UInt8} {a : Nat} (hn : 9 ≤ n) (hl : l.length ≤ 90000000) : octet_Put n l a 2 = some (l ++ le a 2) := octet_Put_is (k := 2) hn (by omega) (by omega) hl
theorem Put8 {n : Nat} {l : List UInt8} {a : Nat} (hn : 9 ≤ n) (hl : l.length ≤ 90000000) : octet_Put n l a 8 = some (l ++ le a 8) := octet_Put_is (k := 8) hn (by omega) (by omega) hl
theorem frame_Put_fit {s : Int} {p : Pg} (h : PMay s p) : frame_Put 10000 s p = some (blk p, 0) := by
  have hm := pmay_iff.2 h
  have hr := room_le s
  have hb := h.bd
  unfold frame_Put frame_Put_F frame_Put_rt
  have e0 : Pg.mk p.kind p.count p.page p.link p.tx p.body = p := rfl
  rw [e0, frame_may_is, hm, bsome]
  simp only [Bool.not_true, cond_false]
  rw [Put4 (by omega) (by simp), bsome, Put1 (by omega) (by simp [le_length]), bsome, Put1 (by omega) (by simp [le_length]), bsome, Put2 (by omega) (by simp [le_length]), bsome, Put4 (by omega) (by simp [le_length]), bsome, Put4 (by omega) (by simp [le_length]), bsome, Put8 (by omega) (by simp [le_length]), bsome]
  have hp := h.pg
  have hl := h.lk
  rw [Nat.mod_eq_of_lt (show p.page < 18446744073709551616 by omega), Nat.mod_eq_of_lt (show p.link < 18446744073709551616 by omega)]
  have e1 : ([] : List UInt8) ++ le 0 4 ++ le (u64 p.kind) 1 ++ le 1 1 ++ le (u64 p.count) 2 ++ le p.page 4 ++ le p.link 4 ++ le p.tx 8 = le 0 4 ++ (le (u64 p.kind) 1 ++ (le 1 1 ++ (le (u64 p.count) 2 ++ (le p.page 4 ++ (le p.link 4 ++ le p.tx 8))))) := by simp [List.append_assoc]
  rw [e1]
  have e2 : List.drop 4 (le 0 4 ++ (le (u64 p.kind) 1 ++ (le 1 1 ++ (le (u64 p.count) 2 ++ (le p.page 4 ++ (le p.link 4 ++ le p.tx 8)))))) = le (u64 p.kind) 1 ++ (le 1 1 ++ (le (u64 p.count) 2 ++ (le p.page 4 ++ (le p.link 4 ++ le p.tx 8)))) := List.drop_left' (le_length _ _)
  rw [e2]
  have e3 : (le (u64 p.kind) 1 ++ (le 1 1 ++ (le (u64 p.count) 2 ++ (le p.page 4 ++ (le p.link 4 ++ le p.tx 8))))) ++ p.body = restP p := by simp [restP, List.append_assoc]
  rw [e3]
  have c1 : (4 : Nat) ≤ (le 0 4 ++ (le (u64 p.kind) 1 ++ (le 1 1 ++ (le (u64 p.count) 2 ++ (le p.page 4 ++ (le p.link 4 ++ le p.tx 8)))))).length := by simp [le_length]
  have c2 : (le (u64 p.kind) 1 ++ (le 1 1 ++ (le (u64 p.count) 2 ++ (le p.page 4 ++ (le p.link 4 ++ le p.tx 8))))).length + p.body.length ≤ 4611686018427387904 := by simp [le_length]; omega
  have hrl : (restP p).length ≤ 9000 := by rw [restP_length]; omega
  have hcl := crcV_lt _ hrl
  simp only [c1, c2, Nat.zero_le, show (0 : Int) ≤ 4 by decide, decide_true, Bool.and_self, cond_true]
  rw [crc_is hrl, bsome, Nat.mod_eq_of_lt (show crcV (restP p) < 18446744073709551616 by omega), Put4 (by omega) (by simp), bsome]
  have c3 : (le (crcV (restP p)) 4).length + (restP p).length ≤ 4611686018427387904 := by rw [le_length]; omega
  rw [List.nil_append, decide_eq_true c3, cond_true]
  rfl
theorem frame_Put_unfit {s : Int} {p : Pg} (h : pmayB s p = false) : frame_Put 10000 s p = some ([], 2) := by
  unfold frame_Put frame_Put_F frame_Put_rt
  have e0 : Pg.mk p.kind p.count p.page p.link p.tx p.body = p := rfl
  rw [e0, frame_may_is, h, bsome]; rfl
theorem Num {n k a : Nat} {r : List UInt8} (hn : 9 ≤ n) (h1 : 1 ≤ k) (h8 : k ≤ 8) (ha : a < 256 ^ k) : octet_Reader_Number n (k : Int) (le a k ++ r) = some (a, 0, r) := by
  have := Number_is (n := n) (l := le a k ++ r) (k := k) hn h1 h8
  rw [numV_app ha, takeE_app (le_length _ _), takeR_app (le_length _ _)] at this
  exact this
theorem u64_nat {x : Int} (h0 : 0 ≤ x) (h : x ≤ 4000000000) : u64 x = x.toNat := by
  have : x = ((x.toNat : Nat) : Int) := by omega
  rw [this, u64_of (by omega)]; omega
theorem Num4 {n a : Nat} {r : List UInt8} (hn : 9 ≤ n) (ha : a < 4294967296) : octet_Reader_Number n 4 (le a 4 ++ r) = some (a, 0, r) := Num (k := 4) hn (by omega) (by omega) (by omega)
theorem Num1 {n a : Nat} {r : List UInt8} (hn : 9 ≤ n) (ha : a < 256) : octet_Reader_Number n 1 (le a 1 ++ r) = some (a, 0, r) := Num (k := 1) hn (by omega) (by omega) (by omega)
theorem Num2 {n a : Nat} {r : List UInt8} (hn : 9 ≤ n) (ha : a < 65536) : octet_Reader_Number n 2 (le a 2 ++ r) = some (a, 0, r) := Num (k := 2) hn (by omega) (by omega) (by omega)
theorem Num8 {n a : Nat} {r : List UInt8} (hn : 9 ≤ n) (ha : a < 18446744073709551616) : octet_Reader_Number n 8 (le a 8 ++ r) = some (a, 0, r) := Num (k := 8) hn (by omega) (by omega) (by omega)
theorem frame_head_blk {n c : Nat} {p : Pg} (hn : 9 ≤ n) (hc : c < 4294967296) (h1 : 1 ≤ p.kind) (h2 : p.kind ≤ 6) (h3 : 0 ≤ p.count) (h4 : p.count ≤ 65535) (h5 : p.page ≤ 2147483647) (h6 : p.link ≤ 2147483647) (h7 : p.tx ≤ 4611686018427387904) : frame_head n (le c 4 ++ restP p) = some (.inl (c, p.kind.toNat, 1, p.count.toNat, p.page, p.link, p.tx, p.body)) := by
  unfold frame_head frame_head_F frame_head_rt restP
  rw [u64_nat (by omega) (by omega), u64_nat h3 (by omega)]
  rw [Num4 hn hc, bsome]
  simp only [ne_eq, not_true_eq_false, decide_false, cond_false]
  rw [Num1 hn (by omega), bsome]
  simp only [ne_eq, not_true_eq_false, decide_false, cond_false]
  rw [Num1 hn (by omega), bsome]
  simp only [ne_eq, not_true_eq_false, decide_false, cond_false]
  rw [Num2 hn (by omega), bsome]
  simp only [ne_eq, not_true_eq_false, decide_false, cond_false]
  rw [Num4 hn (by omega), bsome]
  simp only [ne_eq, not_true_eq_false, decide_false, cond_false]
  rw [Num4 hn (by omega), bsome]
  simp only [ne_eq, not_true_eq_false, decide_false, cond_false]
  rw [Num8 hn (by omega), bsome]
  simp only [ne_eq, not_true_eq_false, decide_false, cond_false]
theorem blk_drop (p : Pg) : List.drop 4 (blk p) = restP p := List.drop_left' (le_length _ _)
end Go.Ev
end
section
set_option linter.unusedVariables false
set_option linter.unusedSimpArgs false
namespace Go.Ev
open Go.RowKit
theorem frame_Get_fit {s : Int} {p : Pg} (h : PMay s p) : frame_Get 10000 s p.page (blk p) = some (p, 0) := by
  have hr := room_le s
  have hb := h.bd
  have hrl : (restP p).length ≤ 9000 := by rw [restP_length]; omega
  have hcl := crcV_lt _ hrl
  have hs : ((blk p).length : Int) = s := by
    have := room_add h.good
    rw [blk_length, hb]; omega
  unfold frame_Get frame_Get_F frame_Get_rt
  rw [device_Good_is, h.good, bsome]
  simp only [Bool.not_true, cond_false, hs, ne_eq, not_true_eq_false, decide_false]
  unfold frame_Get_J7 frame_Get_J7F
  have e1 : frame_head 10000 (blk p) = some (.inl (crcV (restP p), p.kind.toNat, 1, p.count.toNat, p.page, p.link, p.tx, p.body)) := frame_head_blk (by omega) hcl h.k1 h.k2 h.c1 h.c2 h.pg h.lk h.tx
  rw [e1, bsome]
  dsimp only [sumE]
  show Option.bind (frame_may 10000 s (Pg.mk (w64 ((p.kind.toNat : Nat) : Int)) (w64 ((p.count.toNat : Nat) : Int)) (p.page % 4294967296) (p.link % 4294967296) p.tx p.body)) _ = _
  have k1 := h.k1
  have c1 := h.c1
  have k2 := h.k2
  have c2 := h.c2
  have hp := h.pg
  have hl := h.lk
  have e2 : Pg.mk (w64 ((p.kind.toNat : Nat) : Int)) (w64 ((p.count.toNat : Nat) : Int)) (p.page % 4294967296) (p.link % 4294967296) p.tx p.body = p := by
    rw [Int.toNat_of_nonneg (by omega), Int.toNat_of_nonneg c1, w64_id (by omega) (by omega), w64_id (by omega) (by omega), Nat.mod_eq_of_lt (by omega), Nat.mod_eq_of_lt (by omega)]
  simp only [e2]
  simp only [frame_may_is, pmay_iff.2 h, bsome]
  have e3 : p.page % 4294967296 = p.page := Nat.mod_eq_of_lt (by omega)
  have e4 : (4 : Nat) ≤ (blk p).length := by rw [blk_length]; omega
  simp only [Bool.not_true, cond_false, ne_eq, not_true_eq_false, decide_false, e3, e4, Nat.zero_le, show (0 : Int) ≤ 4 by decide, decide_true, Bool.and_self, cond_true]
  have e5 : crcV (restP p) % 18446744073709551616 = crcV (restP p) := Nat.mod_eq_of_lt (by omega)
  simp only [blk_drop, crc_is hrl, bsome, e5, not_true_eq_false, decide_false, cond_false]
end Go.Ev
end
section
set_option linter.unusedVariables false
set_option linter.unusedSimpArgs false
namespace Go.Ev
open Go.RowKit
theorem fr_lives : law04_lives 10000 = some true := by kernel_rfl
theorem room128 : room 128 = 104 := by decide
theorem good128 : goodB 128 = true := by decide
theorem Pages128 {n : Nat} {img : List UInt8} (h : img.length ≤ 1000000) : frame_Pages n 128 img = some ((img.length / 128 : Nat) : Int) := by
  unfold frame_Pages frame_Pages_F frame_Pages_rt
  rw [device_Good_is, good128, bsome]
  have e : Int.tdiv (img.length : Int) 128 = ((img.length / 128 : Nat) : Int) := by
    rw [Int.tdiv_eq_ediv_of_nonneg (by omega)]; omega
  simp only [Bool.not_true, cond_false, ne_eq, show ¬((128 : Int) = 0) by decide, not_false_eq_true, decide_true, cond_true]
  rw [e, w64_id (by omega) (by omega)]
theorem At128 {n a : Nat} {img : List UInt8} (h : img.length ≤ 1000000) (ha : a < 4294967296) : frame_At n 128 img a = some (if a < img.length / 128 then ((img.drop (128 * a)).take 128, true) else ([], false)) := by
  unfold frame_At frame_At_F frame_At_rt
  rw [Pages128 h, bsome, u64_of (by omega), Nat.mod_eq_of_lt (show a < 18446744073709551616 by omega)]
  by_cases hp : a < img.length / 128
  · have e1 : ¬(img.length / 128 ≤ a) := by omega
    rw [if_pos hp]
    have e2 : w64 (w64 (a : Int) * 128) = ((128 * a : Nat) : Int) := by
      rw [w64_id (n := (a : Int)) (by omega) (by omega), w64_id (by omega) (by omega)]; omega
    have e3 : w64 (((128 * a : Nat) : Int) + 128) = ((128 * a + 128 : Nat) : Int) := by
      rw [w64_id (by omega) (by omega)]; omega
    rw [e2, e3]
    have e4 : 128 * a ≤ 128 * a + 128 := by omega
    have e5 : 128 * a + 128 ≤ img.length := by omega
    have e6 : 128 * a + 128 - 128 * a = 128 := by omega
    simp only [e1, decide_false, cond_false, Int.natCast_nonneg, Int.toNat_natCast, e4, e5, e6, decide_true, Bool.and_self, cond_true]
  · have e1 : img.length / 128 ≤ a := by omega
    rw [if_neg hp]
    simp only [e1, decide_true, cond_true]
/-- Pages, one after the other. -/
noncomputable def imgP (l : List Pg) : List UInt8 := l.flatMap blk
structure Laid (l : List Pg) : Prop where
  may : ∀ j (h : j < l.length), PMay 128 l[j]
  pg : ∀ j (h : j < l.length), l[j].page = j
theorem blk128 {p : Pg} (h : PMay 128 p) : (blk p).length = 128 := by rw [blk_length, h.bd, room128]
theorem img_length : ∀ {l : List Pg}, (∀ p ∈ l, PMay 128 p) → (imgP l).length = 128 * l.length
  | [], _ => rfl
  | p :: l, h => by
    show (blk p ++ imgP l).length = _
    rw [List.length_append, blk128 (h p (.head _)), img_length (fun q hq => h q (.tail _ hq)), List.length_cons]; omega
theorem img_at {r : List UInt8} : ∀ {l : List Pg}, (∀ p ∈ l, PMay 128 p) → ∀ j (h : j < l.length), ((imgP l ++ r).drop (128 * j)).take 128 = blk l[j]
  | p :: l, hm, 0, _ => by
    show (((blk p ++ imgP l) ++ r).drop 0).take 128 = blk p
    rw [List.drop_zero, List.append_assoc, List.take_left' (blk128 (hm p (.head _)))]
  | p :: l, hm, j + 1, h => by
    show (((blk p ++ imgP l) ++ r).drop (128 * (j + 1))).take 128 = _
    rw [show 128 * (j + 1) = 128 + 128 * j by omega, List.append_assoc, ← List.drop_drop, List.drop_left' (blk128 (hm p (.head _)))]
    exact img_at (fun q hq => hm q (.tail _ hq)) j (by simpa using h)
theorem Laid.all {l : List Pg} (h : Laid l) : ∀ p ∈ l, PMay 128 p := fun p hp => by
  obtain ⟨i, hi, rfl⟩ := List.getElem_of_mem hp
  exact h.may i hi
theorem Read128 {a : Nat} {l : List Pg} {r : List UInt8} (hl : Laid l) (h10 : l.length ≤ 10) (hr : r.length ≤ 127) (ha : a < 4294967296) : frame_Read 10000 128 (imgP l ++ r) a = some (if h : a < l.length then (l[a], 0) else (⟨0, 0, 0, 0, 0, []⟩, 5)) := by
  have hi := img_length hl.all
  have hlen : (imgP l ++ r).length ≤ 1000000 := by rw [List.length_append]; omega
  have hd : (imgP l ++ r).length / 128 = l.length := by rw [List.length_append]; omega
  unfold frame_Read frame_Read_F frame_Read_rt
  rw [device_Good_is, good128, bsome]
  simp only [Bool.not_true, cond_false]
  rw [At128 hlen ha, bsome, hd]
  by_cases h : a < l.length
  · rw [if_pos h, dif_pos h, img_at hl.all a h]
    simp only [Bool.not_true, cond_false]
    have hg := frame_Get_fit (hl.may a h)
    rw [hl.pg a h] at hg
    rw [hg, bsome]
  · rw [if_neg h, dif_neg h]
    simp only [Bool.not_false, cond_true]
theorem light_ex (l : List (List UInt8)) (hl : l.length ≤ 10) (hs : ∀ x ∈ l, x.length ≤ 140737488351232) : ∃ b, kit_LightTexts 10000 l 10 1040 = some b := by
  unfold kit_LightTexts kit_LightTexts_F
  have e0 : ¬((10 : Int) < (l.length : Int)) := by omega
  simp only [e0, decide_false, cond_false]
  have key : ∀ (m i : Nat) (s : Int), l.length < m + i → i ≤ l.length → 0 ≤ s → s ≤ 1040 → ∃ b, kit_LightTexts_L6 10000 l m 1040 s (i : Int) = some b := by
    intro m
    induction m with
    | zero => intro i s h1 h2; omega
    | succ m ih =>
      intro i s h1 h2 h3 h4
      unfold kit_LightTexts_L6 kit_LightTexts_L6F kit_LightTexts_rt
      by_cases hi : i < l.length
      · have e1 : ((i : Int) < (l.length : Int)) := by omega
        have hx := hs _ (List.getElem_mem hi)
        simp only [e1, hi, decide_true, cond_true, Int.natCast_nonneg, Int.toNat_natCast, Bool.and_self, getE hi, bsome]
        rw [w64_id (n := s + (l[i].length : Int)) (by omega) (by omega), w64_id (by omega) (by omega)]
        by_cases h5 : 1040 < s + (l[i].length : Int)
        · simp only [h5, decide_true, cond_true]; exact ⟨_, rfl⟩
        · simp only [h5, decide_false, cond_false]
          exact ih (i + 1) _ (by omega) (by omega) (by omega) (by omega)
      · have e1 : ¬((i : Int) < (l.length : Int)) := by omega
        simp only [e1, decide_false, cond_false]; exact ⟨_, rfl⟩
  exact key 10000 0 0 (by omega) (by omega) (by omega) (by omega)
theorem pg_eq (p q : Pg) : (decide (p.kind = q.kind) && (decide (p.count = q.count) && (decide (p.page = q.page) && (decide (p.link = q.link) && (decide (p.tx = q.tx) && (decide (p.body = q.body) && true)))))) = decide (p = q) := by
  cases p; cases q
  rw [Bool.eq_iff_iff]
  simp only [Bool.and_eq_true, decide_eq_true_eq, Pg.mk.injEq, and_true]
theorem fr_end (bs : List (List UInt8)) (a : Nat) (r : List UInt8) (l : List Pg) (hl : Laid l) (h10 : l.length ≤ 10) (hr : r.length ≤ 127) (ha : a < 4294967296) (x2 : Int) (x3 : List UInt8) (x5 : Pg) (h : (a < l.length ∧ ∃ hh : a < l.length, x5 = l[a] ∧ x2 = 0 ∧ x3 = blk l[a]) ∨ (¬a < l.length ∧ x2 = 5 ∧ x3 = [])) :
    law04_FrameReads_J22 10000 bs a (imgP l ++ r) x2 x3 (decide (a < l.length)) x5 l = some true := by
  unfold law04_FrameReads_J22 law04_FrameReads_J22F law04_FrameReads_rt
  rcases h with ⟨h, _, rfl, rfl, rfl⟩ | ⟨h, rfl, rfl⟩
  · simp only [h, decide_true, Bool.not_true, cond_false, Bool.true_and, cond_true]
    have hg := frame_Get_fit (hl.may a h)
    rw [hl.pg a h] at hg
    rw [hg, bsome, getE h, bsome]
    simp only [pg_eq, decide_true, cond_true]
    have hi := img_length hl.all
    have e1 : 128 * a % 4294967296 = 128 * a := Nat.mod_eq_of_lt (by omega)
    have e2 : (128 * a + 128) % 4294967296 = 128 * a + 128 := Nat.mod_eq_of_lt (by omega)
    have e3 : 128 * a ≤ 128 * a + 128 := by omega
    have e4 : 128 * a + 128 ≤ (imgP l ++ r).length := by rw [List.length_append]; omega
    have e5 : 128 * a + 128 - 128 * a = 128 := by omega
    simp only [e1, e2, e3, e4, e5, decide_true, Bool.and_self, cond_true]
    rw [img_at hl.all a h, decide_eq_true rfl]
  · simp only [h, decide_false, Bool.not_false, cond_true, decide_true]
theorem fr_loop (bs : List (List UInt8)) (tx a : Nat) (r : List UInt8) (h10 : bs.length ≤ 10) (htx : tx ≤ 4611686018427387904) (hr : r.length ≤ 127) (ha : a < 4294967296) : ∀ (m i : Nat) (l : List Pg), bs.length < m + i → i ≤ bs.length → l.length = i → Laid l → law04_FrameReads_L9 10000 bs m tx a r (imgP l) (i : Int) l = some true := by
  intro m
  induction m with
  | zero => intro i l h1 h2; omega
  | succ m ih =>
    intro i l h1 h2 h3 hl
    have hi0 := img_length hl.all
    unfold law04_FrameReads_L9 law04_FrameReads_L9F law04_FrameReads_rt
    by_cases hi : i < bs.length
    · have e1 : ((i : Int) < (bs.length : Int)) := by omega
      simp only [e1, hi, decide_true, cond_true, Int.natCast_nonneg, Int.toNat_natCast, Bool.and_self, getE hi, bsome]
      obtain ⟨k, hk, hk2, hk3⟩ : ∃ k : Nat, (if (104 : Int) < (bs[i].length : Int) then 104 else (bs[i].length : Int)) = (k : Int) ∧ k ≤ 104 ∧ k ≤ bs[i].length := by
        by_cases h : (104 : Int) < (bs[i].length : Int)
        · rw [if_pos h]; exact ⟨104, rfl, by omega, by omega⟩
        · rw [if_neg h]; exact ⟨_, rfl, by omega, by omega⟩
      rw [hk]
      simp only [Int.natCast_nonneg, Int.toNat_natCast, hk3, decide_true, Bool.and_self, cond_true]
      have hbl : (List.take k bs[i]).length ≤ room 128 := by rw [List.length_take, room128]; omega
      obtain ⟨b1, b2⟩ := body_ok good128 hbl
      rw [frame_Body_is (by rw [room128] at hbl; omega), bsome, b1, b2]
      have hu : u32 (i : Int) = i := by
        unfold u32
        simp [IntKind.wrap, IntKind.signed, IntKind.bits]
        omega
      rw [hu]
      have hmay : PMay 128 (Pg.mk 4 (i : Int) i 0 tx (padL 128 (List.take k bs[i]))) := ⟨good128, by show (1 : Int) ≤ 4; omega, by show (4 : Int) ≤ 6; omega, by show (0 : Int) ≤ (i : Int); omega, by show (i : Int) ≤ 65535; omega, by show i ≤ 2147483647; omega, by show (0 : Nat) ≤ 2147483647; omega, htx, padL_length hbl⟩
      rw [frame_Put_fit hmay, bsome]
      simp only [show ((0 : Nat) : Int) = 0 from rfl, ne_eq, not_true_eq_false, decide_false, cond_false]
      unfold law04_FrameReads_J16 law04_FrameReads_J16F
      have hb2 := blk128 hmay
      have c1 : Nat.ble (l.length + [Pg.mk 4 (i : Int) i 0 tx (padL 128 (List.take k bs[i]))].length) 100000000 = true := ble_of (by simp; omega)
      have c2 : (imgP l).length + (blk (Pg.mk 4 (i : Int) i 0 tx (padL 128 (List.take k bs[i])))).length ≤ 4611686018427387904 := by omega
      simp only [c1, c2, cond_true, decide_true]
      rw [w64_id (by omega) (by omega)]
      have e3 : imgP l ++ blk (Pg.mk 4 (i : Int) i 0 tx (padL 128 (List.take k bs[i]))) = imgP (l ++ [Pg.mk 4 (i : Int) i 0 tx (padL 128 (List.take k bs[i]))]) := by simp [imgP]
      rw [e3]
      refine ih (i + 1) _ (by omega) (by omega) (by simp; omega) ⟨fun j hj => ?_, fun j hj => ?_⟩
      · by_cases h : j < l.length
        · rw [List.getElem_append_left h]; exact hl.may j h
        · simp at hj
          have : j = l.length := by omega
          subst this
          rw [List.getElem_append_right (Nat.le_refl _)]
          simpa using hmay
      · by_cases h : j < l.length
        · rw [List.getElem_append_left h]; exact hl.pg j h
        · simp at hj
          have : j = l.length := by omega
          subst this
          rw [List.getElem_append_right (Nat.le_refl _)]
          simp; omega
    · have e1 : ¬((i : Int) < (bs.length : Int)) := by omega
      have hl10 : l.length ≤ 10 := by omega
      have hlen : (imgP l ++ r).length ≤ 1000000 := by rw [List.length_append]; omega
      have hd : (imgP l ++ r).length / 128 = l.length := by rw [List.length_append]; omega
      have c1 : (imgP l).length + r.length ≤ 4611686018427387904 := by omega
      simp only [e1, decide_false, cond_false, c1, decide_true, cond_true]
      rw [Read128 hl hl10 hr ha, bsome, At128 hlen ha, bsome, hd]
      have e2 : w64 (Int.tdiv ((imgP l ++ r).length : Int) 128) = (l.length : Int) := by
        rw [Int.tdiv_eq_ediv_of_nonneg (by omega), w64_id (by omega) (by omega)]; omega
      rw [e2, u64_of (by omega), Nat.mod_eq_of_lt (show a < 18446744073709551616 by omega)]
      simp only [ne_eq, not_true_eq_false, decide_false, cond_false]
      by_cases h : a < l.length
      · rw [if_pos h, dif_pos h]
        simp only [h, decide_true, Bool.not_true, beq_true, cond_false, beq_false]
        have := fr_end bs a r l hl hl10 hr ha 0 (blk l[a]) l[a] (.inl ⟨h, h, rfl, rfl, rfl⟩)
        rw [decide_eq_true h] at this
        rw [img_at hl.all a h]
        simpa using this
      · rw [if_neg h, dif_neg h]
        have := fr_end bs a r l hl hl10 hr ha 5 [] ⟨0, 0, 0, 0, 0, []⟩ (.inr ⟨h, rfl, rfl⟩)
        rw [decide_eq_false h] at this
        simpa [h] using this
theorem frameReads_m (bs : List (List UInt8)) (tx a : Nat) (r : List UInt8) (hs : ∀ x ∈ bs, x.length ≤ 140737488351232) (ha : a < 4294967296) : law04_FrameReads 10000 bs tx a r = some true := by
  unfold law04_FrameReads law04_FrameReads_F law04_FrameReads_rt
  rw [fr_lives, bsome]
  simp only [Bool.not_true, cond_false]
  by_cases h1 : (10 : Int) < (bs.length : Int)
  · simp only [h1, decide_true, cond_true]
  by_cases h2 : (127 : Int) < (r.length : Int)
  · simp only [h1, h2, decide_true, decide_false, cond_true, cond_false]
  by_cases h3 : 4611686018427387904 < tx
  · simp only [h1, h2, h3, decide_true, decide_false, cond_true, cond_false]
  simp only [h1, h2, h3, decide_false, cond_false]
  obtain ⟨b, hb⟩ := light_ex bs (by omega) hs
  rw [hb, bsome]
  cases b
  · rfl
  simp only [Bool.not_true, cond_false]
  unfold law04_FrameReads_J6 law04_FrameReads_J6F
  exact fr_loop bs tx a r (by omega) (by omega) (by omega) ha 10000 0 [] (by omega) (by omega) rfl ⟨fun j h => absurd h (Nat.not_lt_zero _), fun j h => absurd h (Nat.not_lt_zero _)⟩
end Go.Ev
end