/- Words of my own, printed by a program of mine. -/
import Derived.Test.YtlnmdfffmflhgaaDfns
import Derived.Test.YtlnmdfffmflhgaaHn
section
set_option linter.unusedVariables false
set_option linter.unusedSimpArgs false
namespace Go.Ev
open Go.RowKit
theorem w64_id {n : Int} (h1 : -4611686018427387904 ≤ n) (h2 : n ≤ 4611686018427387904) : w64 n = n := w64_of (by omega) (by omega)
theorem ble_of {a b : Nat} (h : a ≤ b) : Nat.ble a b = true := Nat.ble_eq_true_of_le h
theorem bsome {α β : Type} (a : α) (f : α → Option β) : Option.bind (some a) f = f a := rfl
theorem getE {α : Type} {l : List α} {i : Nat} (h : i < l.length) : l[i]? = some l[i] := List.getElem?_eq_getElem h
theorem device_Good_is (n : Nat) (s : Int) : device_Good n s = some (goodB s) := by
  unfold device_Good device_Good_F goodB device_Good_rt
  by_cases h1 : 128 ≤ s <;> by_cases h2 : s ≤ 4096 <;> simp [h1, h2]
theorem frame_Room_is (n : Nat) (s : Int) : frame_Room n s = some (room s : Int) := by
  unfold frame_Room frame_Room_F frame_Room_rt
  rw [device_Good_is, bsome]
  cases h : goodB s
  · rw [room_bad h]; rfl
  · obtain ⟨g1, g2, g3⟩ := goodB_le h
    have g4 : ((room s : Nat) : Int) = s - 24 := by omega
    rw [g4]
    simp only [Bool.not_true, cond_false]
    rw [w64_id (by omega) (by omega)]
theorem octet_Put_loop (n : Nat) (b l : List UInt8) (a k : Nat) (hk : k ≤ 8) (hl : l.length ≤ 90000000) : ∀ (m i : Nat), k < m + i → i ≤ k → octet_Put_L6 n b m a (k : Int) (i : Int) (l ++ le a i) = some (l ++ le a k) := by
  intro m
  induction m with
  | zero => intro i h1 h2; omega
  | succ m ih =>
    intro i h1 h2
    unfold octet_Put_L6 octet_Put_L6F octet_Put_rt
    by_cases hi : i < k
    · have e1 : ((i : Int) < (k : Int)) := by omega
      rw [w64_id (n := 8 * (i : Int)) (by omega) (by omega)]
      have e2 : Int.toNat (8 * (i : Int)) = 8 * i := by omega
      rw [e2]
      have e3 : (0 : Int) ≤ 8 * (i : Int) := by omega
      have e4 : Nat.ble (8 * i) 64 = true := ble_of (by omega)
      have e5 : Nat.ble ((l ++ le a i).length + [UInt8.ofNat (a / 2 ^ (8 * i))].length) 100000000 = true := ble_of (by simp [le_length]; omega)
      simp only [e1, e3, e4, e5, decide_true, cond_true, Bool.and_self]
      rw [w64_id (by omega) (by omega), List.append_assoc, ← le_succ]
      exact ih (i + 1) (by omega) (by omega)
    · have e1 : ¬((i : Int) < (k : Int)) := by omega
      simp only [e1, decide_false, cond_false]
      rw [show i = k by omega]
theorem octet_Put_is {n : Nat} {l : List UInt8} {a k : Nat} (hn : 9 ≤ n) (hk : 1 ≤ k) (hk8 : k ≤ 8) (hl : l.length ≤ 90000000) : octet_Put n l a (k : Int) = some (l ++ le a k) := by
  unfold octet_Put octet_Put_F octet_Put_rt
  rw [w64_id (by omega) (by omega)]
  have e1 : (0 : Int) ≤ (l.length : Int) + 8 := by omega
  have e2 : Nat.ble (0) (Int.toNat ((l.length : Int) + 8)) = true := ble_of (by omega)
  have e3 : Nat.ble (Int.toNat ((l.length : Int) + 8)) 100000000 = true := ble_of (by omega)
  have e4 : Nat.ble ((List.replicate (0) (UInt8.ofNat (0))).length + l.length) 100000000 = true := ble_of (by simp; omega)
  have e5 : ¬((k : Int) < 1) := by omega
  have e6 : ¬((8 : Int) < (k : Int)) := by omega
  simp only [e1, e2, e3, e4, e5, e6, decide_true, decide_false, cond_true, cond_false, Bool.and_self, Int.le_refl]
  have := octet_Put_loop n l l a k hk8 hl n 0 (by omega) (by omega)
  simpa [octet_Put_J5, octet_Put_J5F, le] using this
theorem frame_Body_is {n : Nat} {b : List UInt8} {s : Int} (hb : b.length ≤ 80000000) : frame_Body n b s = some (bodyS s b, (bodyE s b : Int)) := by
  unfold frame_Body frame_Body_F frame_Body_rt
  rw [device_Good_is, frame_Room_is, bsome]
  cases h : goodB s
  · obtain ⟨h1, h2⟩ := body_bad (l := b) h
    rw [h1, h2]; rfl
  · have hr := room_le s
    have hr2 : 1 ≤ room s := by have := goodB_le h; omega
    simp only [Bool.not_true, cond_false, bsome, Int.toNat_natCast, Int.natCast_nonneg, decide_true, Bool.and_self, List.length_replicate, Bool.true_and]
    by_cases h2 : room s < b.length
    · obtain ⟨h3, h4⟩ := body_long h h2
      have : ((room s : Int) < (b.length : Int)) := by omega
      rw [h3, h4]; simp only [this, decide_true, cond_true]; rfl
    · have h5 : b.length ≤ room s := by omega
      obtain ⟨h3, h4⟩ := body_ok h h5
      have : ¬((room s : Int) < (b.length : Int)) := by omega
      have e1 : Nat.ble (room s) (room s) = true := ble_of (Nat.le_refl _)
      have e2 : Nat.ble (room s) 100000000 = true := ble_of (by omega)
      have e3 : Nat.ble 1 (room s) = true := ble_of hr2
      rw [h3, h4]
      simp only [this, decide_false, cond_false, e1, e2, e3, cond_true, Bool.and_self]
      have e4 : Nat.min b.length (room s) = b.length := Nat.min_eq_left h5
      rw [e4, List.take_length]
      simp [padL]
theorem take_is (n : Nat) (l : List UInt8) (k : Nat) : octet_Reader_take n (k : Int) l = some (takeV l k, (takeE l k : Int), takeR l k) := by
  unfold octet_Reader_take octet_Reader_take_F octet_Reader_take_rt takeV takeE takeR
  by_cases h : k ≤ l.length
  · have e1 : ¬((l.length : Int) < (k : Int)) := by omega
    simp [e1, h]
  · have e1 : ((l.length : Int) < (k : Int)) := by omega
    simp [e1, h]
theorem Number_loop (n : Nat) (v r : List UInt8) (e : Int) (hv : v.length ≤ 8) : ∀ (m i : Nat), v.length < m + i → i ≤ v.length → octet_Reader_Number_L8 n m (ofLe (v.take i)) e v (v.length : Int) (i : Int) r = some (ofLe v, e, r) := by
  intro m
  induction m with
  | zero => intro i h1 h2; omega
  | succ m ih =>
    intro i h1 h2
    unfold octet_Reader_Number_L8 octet_Reader_Number_L8F octet_Reader_Number_rt
    by_cases hi : i < v.length
    · have hx := getE hi
      have e1 : ((i : Int) < (v.length : Int)) := by omega
      simp only [e1, decide_true, cond_true, Int.natCast_nonneg, Int.toNat_natCast, hx, bsome]
      rw [w64_id (n := 8 * (i : Int)) (by omega) (by omega)]
      have e2 : Int.toNat (8 * (i : Int)) = 8 * i := by omega
      have e3 : (0 : Int) ≤ 8 * (i : Int) := by omega
      have e4 : Nat.ble (8 * i) 64 = true := ble_of (by omega)
      rw [e2, w64_id (by omega) (by omega)]
      simp only [e3, e4, decide_true, cond_true, Bool.and_self]
      have h5 := ofLe_or hx (by omega)
      have h6 : (ofLe (v.take i) % 18446744073709551616 ||| v[i].toNat * 2 ^ (8 * i) % 18446744073709551616 % 18446744073709551616) % 18446744073709551616 = ofLe (v.take (i + 1)) := by
        have h7 := congrArg Int.toNat h5
        rw [Int.toNat_natCast] at h7
        rw [← h7, Nat.mod_mod]
        show _ = Int.toNat (IntKind.u64.wrap _)
        rw [u64_cast]
        rw [Int.toNat_natCast]
        have h8 : ∀ q : Nat, u64 (q : Int) = q % 18446744073709551616 := fun q => by
          unfold u64
          simp [IntKind.wrap, IntKind.signed, IntKind.bits]
          omega
        rw [h8]; rfl
      rw [h6]
      exact ih (i + 1) (by omega) (by omega)
    · have e1 : ¬((i : Int) < (v.length : Int)) := by omega
      simp only [e1, decide_false, cond_false]
      rw [List.take_of_length_le (by omega)]
theorem Number_is {n : Nat} {l : List UInt8} {k : Nat} (hn : 9 ≤ n) (h1 : 1 ≤ k) (h8 : k ≤ 8) : octet_Reader_Number n (k : Int) l = some (numV l k, (takeE l k : Int), takeR l k) := by
  unfold octet_Reader_Number octet_Reader_Number_F octet_Reader_Number_rt
  have e1 : ¬((k : Int) < 1) := by omega
  have e2 : ¬((8 : Int) < (k : Int)) := by omega
  simp only [e1, e2, decide_false, cond_false, octet_Reader_Number_J6, octet_Reader_Number_J6F]
  rw [take_is, bsome]
  have hv := takeV_length (l := l) (k := k)
  exact Number_loop n (takeV l k) (takeR l k) (takeE l k : Int) (by omega) n 0 (by omega) (by omega)
end Go.Ev
end
section
set_option linter.unusedVariables false
set_option linter.unusedSimpArgs false
namespace Go.Ev
open Go.RowKit
/-- The checks' table. -/
noncomputable def tbl : List Nat := (crc_Table 10000).getD []
theorem tbl_is : crc_Table 10000 = some tbl := by
  have h : (crc_Table 10000).isSome = true := by kernel_rfl
  unfold tbl
  cases e : crc_Table 10000 with
  | none => rw [e] at h; cases h
  | some t => rfl
theorem tbl_len : tbl.length = 256 := by kernel_rfl
theorem tbl_lt : ∀ x ∈ tbl, x < 4294967296 := by
  have h : tbl.all (fun x => Nat.blt x 4294967296) = true := by kernel_rfl
  intro x hx
  have := List.all_eq_true.1 h x hx
  simpa [Nat.blt_eq] using this
theorem crc_loop (n : Nat) (b : List UInt8) (hb : b.length ≤ 1000000) : ∀ (m i c : Nat), b.length < m + i → i ≤ b.length → c < 4294967296 → ∃ d, d < 4294967296 ∧ crc_with_L4 n m c b (b.length : Int) (i : Int) tbl = some d := by
  intro m
  induction m with
  | zero => intro i c h1 h2; omega
  | succ m ih =>
    intro i c h1 h2 hc
    unfold crc_with_L4 crc_with_L4F crc_with_rt
    by_cases hi : i < b.length
    · have e1 : ((i : Int) < (b.length : Int)) := by omega
      simp only [e1, decide_true, cond_true, Int.natCast_nonneg, Int.toNat_natCast, getE hi, bsome, Bool.true_and]
      have hk : ∀ u : UInt8, u.toNat < 256 := fun u => u.toNat_lt
      have hj := hk (UInt8.ofNat ((UInt8.ofNat c).toNat % 256 ^^^ b[i].toNat % 256))
      have hjl : (UInt8.ofNat ((UInt8.ofNat c).toNat % 256 ^^^ b[i].toNat % 256)).toNat < tbl.length := by rw [tbl_len]; exact hj
      rw [ble_of (show Nat.succ (UInt8.ofNat ((UInt8.ofNat c).toNat % 256 ^^^ b[i].toNat % 256)).toNat ≤ 256 from hj), cond_true, getE hjl, bsome, w64_id (by omega) (by omega)]
      exact ih (i + 1) _ (by omega) (by omega) (Nat.mod_lt _ (by omega))
    · have e1 : ¬((i : Int) < (b.length : Int)) := by omega
      simp only [e1, decide_false, cond_false]
      exact ⟨_, Nat.mod_lt _ (by omega), rfl⟩
theorem crc_ex {b : List UInt8} (hb : b.length ≤ 9000) : ∃ c, c < 4294967296 ∧ crc_Of 10000 b = some c := by
  unfold crc_Of crc_Of_F crc_Of_rt crc_More crc_More_F crc_More_rt
  rw [tbl_is, bsome]
  unfold crc_with crc_with_F
  obtain ⟨d, h1, h2⟩ := crc_loop 10000 b (by omega) 10000 0 (Nat.xor (4294967296 - 1) (0 % 4294967296) % 4294967296) (by omega) (by omega) (Nat.mod_lt _ (by omega))
  exact ⟨d, h1, by
    have h2' : crc_with_L4 10000 10000 (Nat.xor (4294967296 - 1) (0 % 4294967296) % 4294967296) b (b.length : Int) 0 tbl = some d := h2
    rw [h2']; rfl⟩
/-- A text's check. -/
noncomputable def crcV (b : List UInt8) : Nat := (crc_Of 10000 b).getD 0
theorem crc_is {b : List UInt8} (hb : b.length ≤ 9000) : crc_Of 10000 b = some (crcV b) := by
  obtain ⟨c, _, h⟩ := crc_ex hb
  unfold crcV; rw [h]; rfl
theorem crcV_lt (b : List UInt8) (hb : b.length ≤ 9000) : crcV b < 4294967296 := by
  obtain ⟨c, h1, h⟩ := crc_ex hb
  unfold crcV; rw [h]; exact h1
/-- A page that may be. -/
def pmayB (s : Int) (p : Pg) : Bool := goodB s && (decide (1 ≤ p.kind) && (decide (p.kind ≤ 6) && (decide (0 ≤ p.count) && (decide (p.count ≤ 65535) && (decide (p.page ≤ 2147483647) && (decide (p.link ≤ 2147483647) && (decide (p.tx ≤ 4611686018427387904) && decide (p.body.length = room s))))))))
theorem frame_may_is (n : Nat) (s : Int) (p : Pg) : frame_may n s p = some (pmayB s p) := by
  unfold frame_may frame_may_F frame_may_rt pmayB
  rw [device_Good_is, frame_Room_is]
  cases goodB s
  · rfl
  have e : decide ((p.body.length : Int) = (room s : Int)) = decide (p.body.length = room s) := decide_eq_decide.2 (by omega)
  simp only [bsome, cond_true, Bool.true_and, e]
  by_cases h1 : 1 ≤ p.kind <;> simp only [h1, decide_true, decide_false, cond_true, cond_false, Bool.true_and, Bool.false_and]
  by_cases h2 : p.kind ≤ 6 <;> simp only [h2, decide_true, decide_false, cond_true, cond_false, Bool.true_and, Bool.false_and]
  by_cases h3 : 0 ≤ p.count <;> simp only [h3, decide_true, decide_false, cond_true, cond_false, Bool.true_and, Bool.false_and]
  by_cases h4 : p.count ≤ 65535 <;> simp only [h4, decide_true, decide_false, cond_true, cond_false, Bool.true_and, Bool.false_and]
  by_cases h5 : p.page ≤ 2147483647 <;> simp only [h5, decide_true, decide_false, cond_true, cond_false, Bool.true_and, Bool.false_and]
  by_cases h6 : p.link ≤ 2147483647 <;> simp only [h6, decide_true, decide_false, cond_true, cond_false, Bool.true_and, Bool.false_and]
  by_cases h7 : p.tx ≤ 4611686018427387904 <;> simp only [h7, decide_true, decide_false, cond_true, cond_false, Bool.true_and, Bool.false_and]
structure PMay (s : Int) (p : Pg) : Prop where
  good : goodB s = true
  k1 : 1 ≤ p.kind
  k2 : p.kind ≤ 6
  c1 : 0 ≤ p.count
  c2 : p.count ≤ 65535
  pg : p.page ≤ 2147483647
  lk : p.link ≤ 2147483647
  tx : p.tx ≤ 4611686018427387904
  bd : p.body.length = room s
theorem pmay_iff {s : Int} {p : Pg} : pmayB s p = true ↔ PMay s p := by
  unfold pmayB
  simp only [Bool.and_eq_true, decide_eq_true_eq]
  exact ⟨fun ⟨a, b, c, d, e, f, g, h, i⟩ => ⟨a, b, c, d, e, f, g, h, i⟩, fun ⟨a, b, c, d, e, f, g, h, i⟩ => ⟨a, b, c, d, e, f, g, h, i⟩⟩
/-- What is behind a page's check. -/
def restP (p : Pg) : List UInt8 := le (u64 p.kind) 1 ++ (le 1 1 ++ (le (u64 p.count) 2 ++ (le p.page 4 ++ (le p.link 4 ++ (le p.tx 8 ++ p.body)))))
theorem restP_length (p : Pg) : (restP p).length = 20 + p.body.length := by simp [restP, le_length]; omega
noncomputable def blk (p : Pg) : List UInt8 := le (crcV (restP p)) 4 ++ restP p
theorem blk_length (p : Pg) : (blk p).length = 24 + p.body.length := by simp [blk, le_length, restP_length]; omega
theorem Put4 {n : Nat} {l : List UInt8} {a : Nat} (hn : 9 ≤ n) (hl : l.length ≤ 90000000) : octet_Put n l a 4 = some (l ++ le a 4) := octet_Put_is (k := 4) hn (by omega) (by omega) hl
theorem Put1 {n : Nat} {l : List UInt8} {a : Nat} (hn : 9 ≤ n) (hl : l.length ≤ 90000000) : octet_Put n l a 1 = some (l ++ le a 1) := octet_Put_is (k := 1) hn (by omega) (by omega) hl
theorem Put2 {n : Nat} {l : List UInt8} {a : Nat} (hn : 9 ≤ n) (hl : l.length ≤ 90000000) : octet_Put n l a 2 = some (l ++ le a 2) := octet_Put_is (k := 2) hn (by omega) (by omega) hl
theorem Put8 {n : Nat} {l : List UInt8} {a : Nat} (hn : 9 ≤ n) (hl : l.length ≤ 90000000) : octet_Put n l a 8 = some (l ++ le a 8) := octet_Put_is (k := 8) hn (by omega) (by omega) hl
theorem frame_Put_fit {s : Int} {p : Pg} (h : PMay s p) : frame_Put 10000 s p = some (blk p, 0) := by
  have hm := pmay_iff.2 h
  have hr := room_le s
  have hb := h.bd
  unfold frame_Put frame_Put_F frame_Put_rt
  have e0 : Pg.mk p.kind p.count p.page p.link p.tx p.body = p := rfl
  rw [e0, frame_may_is, hm, bsome]
  simp only [Bool.not_true, cond_false]
  rw [Put4 (by omega) (by simp), bsome, Put1 (by omega) (by simp [le_length]), bsome, Put1 (by omega) (by simp [le_length]), bsome, Put2 (by omega) (by simp [le_length]), bsome, Put4 (by omega) (by simp [le_length]), bsome, Put4 (by omega) (by simp [le_length]), bsome, Put8 (by omega) (by simp [le_length]), bsome]
  have hp := h.pg
  have hl := h.lk
  rw [Nat.mod_eq_of_lt (show p.page < 18446744073709551616 by omega), Nat.mod_eq_of_lt (show p.link < 18446744073709551616 by omega)]
  have e1 : ([] : List UInt8) ++ le 0 4 ++ le (u64 p.kind) 1 ++ le 1 1 ++ le (u64 p.count) 2 ++ le p.page 4 ++ le p.link 4 ++ le p.tx 8 = le 0 4 ++ (le (u64 p.kind) 1 ++ (le 1 1 ++ (le (u64 p.count) 2 ++ (le p.page 4 ++ (le p.link 4 ++ le p.tx 8))))) := by simp [List.append_assoc]
  rw [e1]
  have e2 : List.drop 4 (le 0 4 ++ (le (u64 p.kind) 1 ++ (le 1 1 ++ (le (u64 p.count) 2 ++ (le p.page 4 ++ (le p.link 4 ++ le p.tx 8)))))) = le (u64 p.kind) 1 ++ (le 1 1 ++ (le (u64 p.count) 2 ++ (le p.page 4 ++ (le p.link 4 ++ le p.tx 8)))) := List.drop_left' (le_length _ _)
  rw [e2]
  have e3 : (le (u64 p.kind) 1 ++ (le 1 1 ++ (le (u64 p.count) 2 ++ (le p.page 4 ++ (le p.link 4 ++ le p.tx 8))))) ++ p.body = restP p := by simp [restP, List.append_assoc]
  rw [e3]
  have c1 : (4 : Nat) ≤ (le 0 4 ++ (le (u64 p.kind) 1 ++ (le 1 1 ++ (le (u64 p.count) 2 ++ (le p.page 4 ++ (le p.link 4 ++ le p.tx 8)))))).length := by simp [le_length]
  have c2 : (le (u64 p.kind) 1 ++ (le 1 1 ++ (le (u64 p.count) 2 ++ (le p.page 4 ++ (le p.link 4 ++ le p.tx 8))))).length + p.body.length ≤ 4611686018427387904 := by simp [le_length]; omega
  have hrl : (restP p).length ≤ 9000 := by rw [restP_length]; omega
  have hcl := crcV_lt _ hrl
  simp only [c1, c2, Nat.zero_le, show (0 : Int) ≤ 4 by decide, decide_true, Bool.and_self, cond_true]
  rw [crc_is hrl, bsome, Nat.mod_eq_of_lt (show crcV (restP p) < 18446744073709551616 by omega), Put4 (by omega) (by simp), bsome]
  have c3 : (le (crcV (restP p)) 4).length + (restP p).length ≤ 4611686018427387904 := by rw [le_length]; omega
  rw [List.nil_append, decide_eq_true c3, cond_true]
  rfl
theorem frame_Put_unfit {s : Int} {p : Pg} (h : pmayB s p = false) : frame_Put 10000 s p = some ([], 2) := by
  unfold frame_Put frame_Put_F frame_Put_rt
  have e0 : Pg.mk p.kind p.count p.page p.link p.tx p.body = p := rfl
  rw [e0, frame_may_is, h, bsome]; rfl
theorem Num {n k a : Nat} {r : List UInt8} (hn : 9 ≤ n) (h1 : 1 ≤ k) (h8 : k ≤ 8) (ha : a < 256 ^ k) : octet_Reader_Number n (k : Int) (le a k ++ r) = some (a, 0, r) := by
  have := Number_is (n := n) (l := le a k ++ r) (k := k) hn h1 h8
  rw [numV_app ha, takeE_app (le_length _ _), takeR_app (le_length _ _)] at this
  exact this
theorem u64_nat {x : Int} (h0 : 0 ≤ x) (h : x ≤ 4000000000) : u64 x = x.toNat := by
  have : x = ((x.toNat : Nat) : Int) := by omega
  rw [this, u64_of (by omega)]; omega
theorem Num4 {n a : Nat} {r : List UInt8} (hn : 9 ≤ n) (ha : a < 4294967296) : octet_Reader_Number n 4 (le a 4 ++ r) = some (a, 0, r) := Num (k := 4) hn (by omega) (by omega) (by omega)
theorem Num1 {n a : Nat} {r : List UInt8} (hn : 9 ≤ n) (ha : a < 256) : octet_Reader_Number n 1 (le a 1 ++ r) = some (a, 0, r) := Num (k := 1) hn (by omega) (by omega) (by omega)
theorem Num2 {n a : Nat} {r : List UInt8} (hn : 9 ≤ n) (ha : a < 65536) : octet_Reader_Number n 2 (le a 2 ++ r) = some (a, 0, r) := Num (k := 2) hn (by omega) (by omega) (by omega)
theorem Num8 {n a : Nat} {r : List UInt8} (hn : 9 ≤ n) (ha : a < 18446744073709551616) : octet_Reader_Number n 8 (le a 8 ++ r) = some (a, 0, r) := Num (k := 8) hn (by omega) (by omega) (by omega)
theorem frame_head_blk {n c : Nat} {p : Pg} (hn : 9 ≤ n) (hc : c < 4294967296) (h1 : 1 ≤ p.kind) (h2 : p.kind ≤ 6) (h3 : 0 ≤ p.count) (h4 : p.count ≤ 65535) (h5 : p.page ≤ 2147483647) (h6 : p.link ≤ 2147483647) (h7 : p.tx ≤ 4611686018427387904) : frame_head n (le c 4 ++ restP p) = some (.inl (c, p.kind.toNat, 1, p.count.toNat, p.page, p.link, p.tx, p.body)) := by
  unfold frame_head frame_head_F frame_head_rt restP
  rw [u64_nat (by omega) (by omega), u64_nat h3 (by omega)]
  rw [Num4 hn hc, bsome]
  simp only [ne_eq, not_true_eq_false, decide_false, cond_false]
  rw [Num1 hn (by omega), bsome]
  simp only [ne_eq, not_true_eq_false, decide_false, cond_false]
  rw [Num1 hn (by omega), bsome]
  simp only [ne_eq, not_true_eq_false, decide_false, cond_false]
  rw [Num2 hn (by omega), bsome]
  simp only [ne_eq, not_true_eq_false, decide_false, cond_false]
  rw [Num4 hn (by omega), bsome]
  simp only [ne_eq, not_true_eq_false, decide_false, cond_false]
  rw [Num4 hn (by omega), bsome]
  simp only [ne_eq, not_true_eq_false, decide_false, cond_false]
  rw [Num8 hn (by omega), bsome]
  simp only [ne_eq, not_true_eq_false, decide_false, cond_false]
theorem blk_drop (p : Pg) : List.drop 4 (blk p) = restP p := List.drop_left' (le_length _ _)
end Go.Ev
end
section
set_option linter.unusedVariables false
set_option linter.unusedSimpArgs false
namespace Go.Ev
open Go.RowKit
theorem frame_Get_fit {s : Int} {p : Pg} (h : PMay s p) : frame_Get 10000 s p.page (blk p) = some (p, 0) := by
  have hr := room_le s
  have hb := h.bd
  have hrl : (restP p).length ≤ 9000 := by rw [restP_length]; omega
  have hcl := crcV_lt _ hrl
  have hs : ((blk p).length : Int) = s := by
    have := room_add h.good
    rw [blk_length, hb]; omega
  unfold frame_Get frame_Get_F frame_Get_rt
  rw [device_Good_is, h.good, bsome]
  simp only [Bool.not_true, cond_false, hs, ne_eq, not_true_eq_false, decide_false]
  unfold frame_Get_J7 frame_Get_J7F
  have e1 : frame_head 10000 (blk p) = some (.inl (crcV (restP p), p.kind.toNat, 1, p.count.toNat, p.page, p.link, p.tx, p.body)) := frame_head_blk (by omega) hcl h.k1 h.k2 h.c1 h.c2 h.pg h.lk h.tx
  rw [e1, bsome]
  dsimp only [sumE]
  show Option.bind (frame_may 10000 s (Pg.mk (w64 ((p.kind.toNat : Nat) : Int)) (w64 ((p.count.toNat : Nat) : Int)) (p.page % 4294967296) (p.link % 4294967296) p.tx p.body)) _ = _
  have k1 := h.k1
  have c1 := h.c1
  have k2 := h.k2
  have c2 := h.c2
  have hp := h.pg
  have hl := h.lk
  have e2 : Pg.mk (w64 ((p.kind.toNat : Nat) : Int)) (w64 ((p.count.toNat : Nat) : Int)) (p.page % 4294967296) (p.link % 4294967296) p.tx p.body = p := by
    rw [Int.toNat_of_nonneg (by omega), Int.toNat_of_nonneg c1, w64_id (by omega) (by omega), w64_id (by omega) (by omega), Nat.mod_eq_of_lt (by omega), Nat.mod_eq_of_lt (by omega)]
  simp only [e2]
  simp only [frame_may_is, pmay_iff.2 h, bsome]
  have e3 : p.page % 4294967296 = p.page := Nat.mod_eq_of_lt (by omega)
  have e4 : (4 : Nat) ≤ (blk p).length := by rw [blk_length]; omega
  simp only [Bool.not_true, cond_false, ne_eq, not_true_eq_false, decide_false, e3, e4, Nat.zero_le, show (0 : Int) ≤ 4 by decide, decide_true, Bool.and_self, cond_true]
  have e5 : crcV (restP p) % 18446744073709551616 = crcV (restP p) := Nat.mod_eq_of_lt (by omega)
  simp only [blk_drop, crc_is hrl, bsome, e5, not_true_eq_false, decide_false, cond_false]
theorem pg_eq (p q : Pg) : (decide (p.kind = q.kind) && (decide (p.count = q.count) && (decide (p.page = q.page) && (decide (p.link = q.link) && (decide (p.tx = q.tx) && (decide (p.body = q.body) && true)))))) = decide (p = q) := by
  cases p; cases q
  rw [Bool.eq_iff_iff]
  simp only [Bool.and_eq_true, decide_eq_true_eq, Pg.mk.injEq, and_true]
end Go.Ev
end
section
set_option linter.unusedVariables false
set_option linter.unusedSimpArgs false
namespace Go.Ev.Cr
open Go.RowKit
/-- One step. -/
def T (c : Nat) : Nat := if c % 2 = 1 then (c / 2) ^^^ 2197175160 else c / 2
/-- So many steps. -/
def Tn : Nat → Nat → Nat
  | 0, c => c
  | n + 1, c => Tn n (T c)
theorem xor_div (a b n : Nat) : (a ^^^ b) / 2 ^ n = a / 2 ^ n ^^^ b / 2 ^ n := Nat.xor_div_two_pow
theorem xor_mod (a b n : Nat) : (a ^^^ b) % 2 ^ n = a % 2 ^ n ^^^ b % 2 ^ n := Nat.xor_mod_two_pow
theorem xor_zero_eq {a b : Nat} (h : a ^^^ b = 0) : a = b := by
  have h2 := congrArg (· ^^^ b) h
  simpa [Nat.xor_assoc] using h2
theorem T_xor (a b : Nat) : T (a ^^^ b) = T a ^^^ T b := by
  have hd : (a ^^^ b) / 2 = a / 2 ^^^ b / 2 := by simpa using xor_div a b 1
  have hm : (a ^^^ b) % 2 = a % 2 ^^^ b % 2 := by simpa using xor_mod a b 1
  unfold T
  rw [hd, hm]
  rcases Nat.mod_two_eq_zero_or_one a with ha | ha <;> rcases Nat.mod_two_eq_zero_or_one b with hb | hb <;> rw [ha, hb]
  · simp
  · simp [Nat.xor_assoc]
  · simp only [Nat.xor_zero, if_true]
    rw [if_neg (by decide), Nat.xor_assoc, Nat.xor_comm (b / 2), ← Nat.xor_assoc]
  · simp only [Nat.xor_self, if_true]
    rw [if_neg (by decide)]
    calc a / 2 ^^^ b / 2 = a / 2 ^^^ b / 2 ^^^ (2197175160 ^^^ 2197175160) := by rw [Nat.xor_self, Nat.xor_zero]
      _ = (a / 2 ^^^ 2197175160) ^^^ (b / 2 ^^^ 2197175160) := by ac_rfl
theorem T_lt {c : Nat} (h : c < 2 ^ 32) : T c < 2 ^ 32 := by
  unfold T
  split
  · exact Nat.xor_lt_two_pow (by omega) (by decide)
  · omega
theorem T_zero {c : Nat} (h : c < 2 ^ 32) (h0 : T c = 0) : c = 0 := by
  unfold T at h0
  split at h0
  · exfalso
    have : c / 2 = 2197175160 := xor_zero_eq h0
    omega
  · omega
theorem T_even (x : Nat) : T (x * 2) = x := by
  unfold T
  rw [if_neg (by omega)]
  omega
theorem Tn_xor (n : Nat) : ∀ a b, Tn n (a ^^^ b) = Tn n a ^^^ Tn n b := by
  induction n with
  | zero => intro a b; rfl
  | succ n ih => intro a b; simp only [Tn, T_xor, ih]
theorem Tn_lt (n : Nat) : ∀ {c}, c < 2 ^ 32 → Tn n c < 2 ^ 32 := by
  induction n with
  | zero => intro c h; exact h
  | succ n ih => intro c h; exact ih (T_lt h)
theorem Tn_zero (n : Nat) : ∀ {c}, c < 2 ^ 32 → Tn n c = 0 → c = 0 := by
  induction n with
  | zero => intro c _ h; exact h
  | succ n ih => intro c h h0; exact T_zero h (ih (T_lt h) h0)
theorem Tn_shift (n : Nat) : ∀ x, Tn n (x * 2 ^ n) = x := by
  induction n with
  | zero => intro x; simp [Tn]
  | succ n ih =>
    intro x
    simp only [Tn]
    rw [Nat.pow_succ, ← Nat.mul_assoc, T_even, ih]
theorem Tn_add (m : Nat) : ∀ n c, Tn (m + n) c = Tn n (Tn m c) := by
  induction m with
  | zero => intro n c; simp [Tn]
  | succ m ih => intro n c; rw [Nat.add_right_comm]; simp only [Tn]; exact ih n (T c)
/-- A number is its high part and its low part. -/
theorem join_xor (k a r : Nat) (h : r < 2 ^ k) : a * 2 ^ k ^^^ r = a * 2 ^ k + r := by
  have h1 : (a * 2 ^ k ^^^ r) / 2 ^ k = a := by
    rw [xor_div, Nat.mul_div_cancel _ (Nat.two_pow_pos k), Nat.div_eq_of_lt h, Nat.xor_zero]
  have h2 : (a * 2 ^ k ^^^ r) % 2 ^ k = r := by
    rw [xor_mod, Nat.mul_mod_left, Nat.mod_eq_of_lt h, Nat.zero_xor]
  have h3 := Nat.div_add_mod (a * 2 ^ k ^^^ r) (2 ^ k)
  rw [h1, h2] at h3
  rw [← h3, Nat.mul_comm]
/-- A byte goes into the register. -/
def cb (c b : Nat) : Nat := Tn 8 (c ^^^ b)
theorem cb_table (c b : Nat) (hb : b < 256) : Tn 8 (c % 256 ^^^ b) ^^^ c / 256 = cb c b := by
  have h1 : c = c / 256 * 2 ^ 8 ^^^ c % 256 := by rw [join_xor 8 _ _ (Nat.mod_lt _ (by decide))]; have := Nat.div_add_mod c 256; omega
  have h2 : cb c b = Tn 8 (c / 256 * 2 ^ 8 ^^^ (c % 256 ^^^ b)) := by
    unfold cb
    rw [← Nat.xor_assoc, ← h1]
  rw [h2, Tn_xor 8 (c / 256 * 2 ^ 8), Tn_shift, Nat.xor_comm]
theorem cb_lt {c b : Nat} (hc : c < 2 ^ 32) (hb : b < 256) : cb c b < 2 ^ 32 := Tn_lt 8 (Nat.xor_lt_two_pow hc (by omega))
/-- Bytes as one number, the first the least. -/
def lev : List Nat → Nat
  | [] => 0
  | b :: l => b + lev l * 256
theorem fold_cb : ∀ (l : List Nat) (c : Nat), (∀ b ∈ l, b < 256) → l.foldl cb c = Tn (8 * l.length) (c ^^^ lev l)
  | [], c, _ => by simp [lev, Tn]
  | b :: l, c, h => by
    have hb : b < 256 := h b (List.mem_cons_self ..)
    have e : lev (b :: l) = b ^^^ lev l * 2 ^ 8 := by
      rw [Nat.xor_comm, join_xor 8 _ _ hb]; simp only [lev]; omega
    rw [List.foldl_cons, fold_cb l _ (fun x hx => h x (List.mem_cons_of_mem _ hx)), e, ← Nat.xor_assoc, show 8 * (b :: l).length = 8 + 8 * l.length by simp; omega, Tn_add, Tn_xor 8, Tn_shift]
    rfl
theorem fold_lt : ∀ (l : List Nat) (c : Nat), c < 2 ^ 32 → (∀ b ∈ l, b < 256) → l.foldl cb c < 2 ^ 32
  | [], c, hc, _ => hc
  | b :: l, c, hc, h => fold_lt l _ (cb_lt hc (h b (List.mem_cons_self ..))) (fun x hx => h x (List.mem_cons_of_mem _ hx))
/-- The check, continued. -/
def crcN (c : Nat) (l : List Nat) : Nat := 4294967295 ^^^ l.foldl cb (4294967295 ^^^ c)
theorem crcN_lt {c : Nat} {l : List Nat} (hc : c < 2 ^ 32) (h : ∀ b ∈ l, b < 256) : crcN c l < 2 ^ 32 :=
  Nat.xor_lt_two_pow (by decide) (fold_lt _ _ (Nat.xor_lt_two_pow (by decide) hc) h)
theorem xor_cancel (a b : Nat) : a ^^^ (a ^^^ b) = b := by rw [← Nat.xor_assoc, Nat.xor_self, Nat.zero_xor]
theorem crcN_nil (c : Nat) : crcN c [] = c := by simp [crcN, xor_cancel]
theorem crcN_append (c : Nat) (l m : List Nat) : crcN (crcN c l) m = crcN c (l ++ m) := by
  simp [crcN, List.foldl_append, xor_cancel]
/-- How two checks of bytes of one length differ. -/
theorem crcN_xor (l m : List Nat) (hlen : l.length = m.length) (hl : ∀ b ∈ l, b < 256) (hm : ∀ b ∈ m, b < 256) : crcN 0 l ^^^ crcN 0 m = Tn (8 * l.length) (lev l ^^^ lev m) := by
  unfold crcN
  rw [fold_cb l _ hl, fold_cb m _ hm, ← hlen, Tn_xor, Tn_xor _ _ (lev m), Tn_xor _ (lev l)]
  generalize Tn (8 * l.length) (4294967295 ^^^ 0) = x
  generalize Tn (8 * l.length) (lev l) = y
  generalize Tn (8 * l.length) (lev m) = z
  calc 4294967295 ^^^ (x ^^^ y) ^^^ (4294967295 ^^^ (x ^^^ z)) = (4294967295 ^^^ 4294967295) ^^^ ((x ^^^ x) ^^^ (y ^^^ z)) := by ac_rfl
    _ = y ^^^ z := by simp [Nat.xor_self]
/-- A burst of changed bits changes the check. -/
theorem crcN_burst (l m : List Nat) (hlen : l.length = m.length) (hl : ∀ b ∈ l, b < 256) (hm : ∀ b ∈ m, b < 256) (bits at_ : Nat) (hb : bits < 2 ^ 32) (h0 : bits ≠ 0) (hat : at_ ≤ 8 * l.length)
    (h : lev l ^^^ lev m = bits * 2 ^ at_) : crcN 0 l ≠ crcN 0 m := by
  intro e
  have h1 := crcN_xor l m hlen hl hm
  rw [e, Nat.xor_self, h, show 8 * l.length = at_ + (8 * l.length - at_) by omega, Tn_add, Tn_shift] at h1
  exact h0 (Tn_zero _ hb h1.symm)
theorem lev_append : ∀ (a b : List Nat), lev (a ++ b) = lev a + lev b * 2 ^ (8 * a.length)
  | [], b => by simp [lev]
  | x :: a, b => by
    have e8 : 2 ^ (8 * (x :: a).length) = 2 ^ (8 * a.length) * 256 := by rw [List.length_cons, show 8 * (a.length + 1) = 8 * a.length + 8 by omega, Nat.pow_add]
    rw [List.cons_append, lev, lev, lev_append a b, e8, Nat.add_mul, Nat.mul_assoc, Nat.add_assoc]
theorem lev_lt : ∀ (a : List Nat), (∀ b ∈ a, b < 256) → lev a < 2 ^ (8 * a.length)
  | [], _ => by simp [lev]
  | x :: a, h => by
    have h1 := h x (List.mem_cons_self ..)
    have h2 := lev_lt a (fun b hb => h b (List.mem_cons_of_mem _ hb))
    have e8 : 2 ^ (8 * (x :: a).length) = 2 ^ (8 * a.length) * 256 := by rw [List.length_cons, show 8 * (a.length + 1) = 8 * a.length + 8 by omega, Nat.pow_add]
    rw [lev, e8]
    omega
end Go.Ev.Cr
namespace Go.Ev
open Go.RowKit Go.Ev.Cr
theorem tbl_Tn (i : Nat) (h : i < 256) : tbl[i]? = some (Tn 8 i) := by
  have hz : (List.range 256).all (fun i => tbl[i]? == some (Tn 8 i)) = true := by kernel_rfl
  exact LawfulBEq.eq_of_beq (List.all_eq_true.1 hz i (List.mem_range.2 h))
def nums (l : List UInt8) : List Nat := l.map UInt8.toNat
theorem nums_lt (l : List UInt8) : ∀ b ∈ nums l, b < 256 := fun b hb => by
  obtain ⟨x, _, rfl⟩ := List.mem_map.1 hb
  exact x.toNat_lt
theorem nums_length (l : List UInt8) : (nums l).length = l.length := List.length_map _
theorem crc_loop_is (n : Nat) (b : List UInt8) (hb : b.length ≤ 1000000) : ∀ (m i c : Nat), b.length < m + i → i ≤ b.length → c < 4294967296 → crc_with_L4 n m c b (b.length : Int) (i : Int) tbl = some (4294967295 ^^^ (nums (b.drop i)).foldl cb c) := by
  intro m
  induction m with
  | zero => intro i c h1 h2; omega
  | succ m ih =>
    intro i c h1 h2 hc
    unfold crc_with_L4 crc_with_L4F crc_with_rt
    by_cases hi : i < b.length
    · have e1 : ((i : Int) < (b.length : Int)) := by omega
      simp only [e1, decide_true, cond_true, Int.natCast_nonneg, Int.toNat_natCast, getE hi, bsome]
      have hbi := b[i].toNat_lt
      have e2 : (UInt8.ofNat ((UInt8.ofNat c).toNat % 256 ^^^ b[i].toNat % 256)).toNat = c % 256 ^^^ b[i].toNat := by
        rw [UInt8.toNat_ofNat', UInt8.toNat_ofNat', Nat.mod_mod, Nat.mod_eq_of_lt (show b[i].toNat < 256 by omega)]
        exact Nat.mod_eq_of_lt (Nat.xor_lt_two_pow (n := 8) (Nat.mod_lt _ (by decide)) (by omega))
      have e3 : c % 256 ^^^ b[i].toNat < 256 := Nat.xor_lt_two_pow (n := 8) (Nat.mod_lt _ (by decide)) (by omega)
      rw [e2, ble_of (show Nat.succ (c % 256 ^^^ b[i].toNat) ≤ 256 from e3)]
      simp only [Bool.and_self, cond_true]
      rw [tbl_Tn _ e3, bsome, w64_id (by omega) (by omega)]
      have e4 : Tn 8 (c % 256 ^^^ b[i].toNat) < 4294967296 := Tn_lt 8 (by omega)
      have e5 : (Tn 8 (c % 256 ^^^ b[i].toNat) % 4294967296 ^^^ c / 2 ^ 8 % 4294967296) % 4294967296 = cb c b[i].toNat := by
        have h1 : c / 2 ^ 8 < 4294967296 := by omega
        have h2 := cb_table c b[i].toNat (by omega)
        have h3 : cb c b[i].toNat < 4294967296 := cb_lt (by omega) (by omega)
        rw [Nat.mod_eq_of_lt e4, Nat.mod_eq_of_lt h1]
        show (Tn 8 (c % 256 ^^^ b[i].toNat) ^^^ c / 256) % 4294967296 = _
        rw [h2, Nat.mod_eq_of_lt h3]
      rw [e5]
      have e6 : nums (b.drop i) = b[i].toNat :: nums (b.drop (i + 1)) := by
        rw [List.drop_eq_getElem_cons hi]; rfl
      rw [e6, List.foldl_cons]
      exact ih (i + 1) _ (by omega) (by omega) (cb_lt (by omega) (by omega))
    · have e1 : ¬((i : Int) < (b.length : Int)) := by omega
      simp only [e1, decide_false, cond_false]
      rw [List.drop_of_length_le (by omega), Nat.mod_eq_of_lt hc]
      have h2 : 4294967295 ^^^ c < 4294967296 := Nat.xor_lt_two_pow (n := 32) (by decide) (by omega)
      show some ((4294967295 ^^^ c) % 4294967296) = _
      rw [Nat.mod_eq_of_lt h2]; rfl
theorem crcV_is {b : List UInt8} (hb : b.length ≤ 9000) : crcV b = crcN 0 (nums b) := by
  have h := crc_is hb
  unfold crc_Of crc_Of_F crc_Of_rt crc_More crc_More_F crc_More_rt at h
  rw [tbl_is, bsome] at h
  unfold crc_with crc_with_F at h
  have h2 := crc_loop_is 10000 b (by omega) 10000 0 4294967295 (by omega) (by omega) (by omega)
  have h2' : crc_with_L4 10000 10000 (Nat.xor (4294967296 - 1) (0 % 4294967296) % 4294967296) b (b.length : Int) 0 tbl = _ := h2
  rw [h2'] at h
  have h : some (4294967295 ^^^ (nums (b.drop 0)).foldl cb 4294967295) = some (crcV b) := h
  rw [← Option.some.inj h]
  rfl
end Go.Ev
end
section
set_option linter.unusedVariables false
set_option linter.unusedSimpArgs false
namespace Go.Ev
open Go.RowKit
theorem slot_is (t : Nat) : (t % 18446744073709551616 &&& 1 % 18446744073709551616) % 18446744073709551616 % 4294967296 = t % 2 := by
  rw [show (1 : Nat) % 18446744073709551616 = 1 from rfl, Nat.and_one_is_mod]; omega
/-- A meta that may be. -/
def mmayB (m : Mta) : Bool := decide (m.tx ≤ 4611686018427387904) && (goodB m.size && (decide (2 ≤ m.pages) && (decide (m.pages ≤ 2147483647) && ((decide (m.root < m.pages) && decide (m.root ≠ 1)) && (decide (m.free < m.pages) && decide (m.free ≠ 1))))))
structure MMay (m : Mta) : Prop where
  tx : m.tx ≤ 4611686018427387904
  good : goodB m.size = true
  p1 : 2 ≤ m.pages
  p2 : m.pages ≤ 2147483647
  r1 : m.root < m.pages
  r2 : m.root ≠ 1
  f1 : m.free < m.pages
  f2 : m.free ≠ 1
theorem mmay_iff {m : Mta} : mmayB m = true ↔ MMay m := by
  unfold mmayB
  simp only [Bool.and_eq_true, decide_eq_true_eq]
  exact ⟨fun ⟨a, b, c, d, ⟨e, f⟩, g, h⟩ => ⟨a, b, c, d, e, f, g, h⟩, fun ⟨a, b, c, d, e, f, g, h⟩ => ⟨a, b, c, d, ⟨e, f⟩, g, h⟩⟩
theorem may1_is (n a : Nat) (m : Mta) : meta_may_1 n a m = some (decide (a < m.pages) && decide (a ≠ 1), m) := by
  unfold meta_may_1 meta_may_1_F meta_may_1_rt
  by_cases h : a < m.pages
  · simp only [h, decide_true, cond_true, Bool.true_and]
  · simp only [h, decide_false, cond_false, Bool.false_and]
theorem meta_may_is (n : Nat) (m : Mta) : meta_may n m = some (mmayB m) := by
  unfold meta_may meta_may_F meta_may_rt mmayB
  rw [device_Good_is]
  by_cases h1 : m.tx ≤ 4611686018427387904 <;> simp only [h1, decide_true, decide_false, cond_true, cond_false, Bool.true_and, Bool.false_and, bsome]
  cases goodB m.size <;> simp only [cond_true, cond_false, Bool.true_and, Bool.false_and]
  by_cases h2 : 2 ≤ m.pages <;> simp only [h2, decide_true, decide_false, cond_true, cond_false, Bool.true_and, Bool.false_and]
  by_cases h3 : m.pages ≤ 2147483647 <;> simp only [h3, decide_true, decide_false, cond_true, cond_false, Bool.true_and, Bool.false_and]
  rw [may1_is, bsome]
  show (bif (decide (m.root < m.pages) && decide (m.root ≠ 1)) then _ else _) = _
  cases (decide (m.root < m.pages) && decide (m.root ≠ 1)) <;> simp only [cond_true, cond_false, Bool.true_and, Bool.false_and]
  rw [may1_is, bsome]
def magic : List UInt8 := [99, 97, 114, 101, 101, 110, 48, 49]
def mbytes (m : Mta) : List UInt8 := magic ++ (le (u64 m.size) 2 ++ (le m.root 4 ++ (le m.free 4 ++ le m.pages 4)))
theorem mbytes_length (m : Mta) : (mbytes m).length = 22 := by simp [mbytes, magic, le_length]
def mpg (m : Mta) : Pg := ⟨1, 0, m.tx % 2, 0, m.tx, bodyS m.size (mbytes m)⟩
def pgz : Pg := ⟨0, 0, 0, 0, 0, []⟩
def mz : Mta := ⟨0, 0, 0, 0, 0⟩
theorem mroom {s : Int} (h : goodB s = true) : 104 ≤ room s := by have := goodB_le h; omega
theorem mpg_may {m : Mta} (h : MMay m) : PMay m.size (mpg m) := by
  refine ⟨h.good, by show (1 : Int) ≤ 1; omega, by show (1 : Int) ≤ 6; omega, by show (0 : Int) ≤ 0; omega, by show (0 : Int) ≤ 65535; omega, by show m.tx % 2 ≤ 2147483647; omega, by show 0 ≤ 2147483647; omega, h.tx, ?_⟩
  have hr := mroom h.good
  have hl : (mbytes m).length ≤ room m.size := by rw [mbytes_length]; omega
  show (bodyS m.size (mbytes m)).length = _
  rw [(body_ok h.good hl).1, padL_length hl]
theorem meta_Page_L (n m : Nat) (hn : 9 ≤ n) (r f p : Nat) (b : List UInt8) (pg : Pg) (x : Mta) (hr : r < 18446744073709551616) (hf : f < 18446744073709551616) (hp : p < 18446744073709551616) (hb : b.length ≤ 1000) : meta_Page_L6 n (m + 4) 3 0 [r, f, p] b pg x = some (⟨1, 0, x.tx % 2, 0, x.tx, bodyS x.size (b ++ (le r 4 ++ (le f 4 ++ le p 4)))⟩, 0) := by
  have e : ∀ (k : Nat) (i : Nat) (c : List UInt8) (hk : i < 3) (hc : c.length ≤ 2000), meta_Page_L6 n (k + 1) 3 (i : Int) [r, f, p] c pg x = meta_Page_L6 n k 3 ((i + 1 : Nat) : Int) [r, f, p] (c ++ le ([r, f, p][i]'(by simpa using hk)) 4) pg x := fun k i c hk hc => by
    have hx : [r, f, p][i]? = some ([r, f, p][i]'(by simpa using hk)) := getE (by simpa using hk)
    have hlt : ([r, f, p][i]'(by simpa using hk)) < 18446744073709551616 := by
      match i, hk with
      | 0, _ => exact hr
      | 1, _ => exact hf
      | 2, _ => exact hp
    rw [meta_Page_L6, meta_Page_L6F]
    have e1 : ((i : Int) < 3) := by omega
    have e2 : i < [r, f, p].length := by simpa using hk
    simp only [e1, e2, decide_true, cond_true, Int.natCast_nonneg, Int.toNat_natCast, Bool.and_self, hx, bsome]
    rw [Nat.mod_eq_of_lt hlt, Put4 hn (by omega), bsome, w64_id (by omega) (by omega)]
    rfl
  have h0 := e (m + 3) 0 b (by omega) (by omega)
  have h1 := e (m + 2) 1 (b ++ le r 4) (by omega) (by simp [le_length]; omega)
  have h2 := e (m + 1) 2 (b ++ le r 4 ++ le f 4) (by omega) (by simp [le_length]; omega)
  have h3 : meta_Page_L6 n (m + 1) 3 ((3 : Nat) : Int) [r, f, p] (b ++ le r 4 ++ le f 4 ++ le p 4) pg x = some (⟨1, 0, x.tx % 2, 0, x.tx, bodyS x.size (b ++ (le r 4 ++ (le f 4 ++ le p 4)))⟩, 0) := by
    rw [meta_Page_L6, meta_Page_L6F]
    have e1 : ¬(((3 : Nat) : Int) < 3) := by omega
    simp only [e1, decide_false, cond_false]
    rw [frame_Body_is (by simp [le_length]; omega), bsome, slot_is]
    unfold meta_Page_rt
    simp [List.append_assoc]
  exact h0.trans (h1.trans (h2.trans h3))
theorem meta_Page_is (m : Mta) : meta_Page 10000 m = some (if mmayB m = true then (mpg m, 0) else (pgz, 2)) := by
  unfold meta_Page meta_Page_F
  have e0 : Mta.mk m.tx m.size m.root m.free m.pages = m := rfl
  rw [e0, meta_may_is, bsome]
  cases h : mmayB m
  · rw [if_neg (by simp)]; rfl
  · have h' := mmay_iff.1 h
    have q1 := h'.p2
    have q2 := h'.r1
    have q3 := h'.f1
    rw [if_pos rfl]
    simp only [Bool.not_true, cond_false]
    rw [Put2 (by omega) (by simp), bsome]
    exact meta_Page_L 10000 9996 (by omega) m.root m.free m.pages (magic ++ le (u64 m.size) 2) ⟨0, 0, 0, 0, 0, []⟩ m (by omega) (by omega) (by omega) (by simp [magic, le_length]) |>.trans (by simp [mpg, mbytes, List.append_assoc])
theorem cut_is (n : Nat) (a b : List UInt8) : strings_CutPrefix n a b = some (if a.take b.length = b then (a.drop b.length, true) else (a, false)) := by
  unfold strings_CutPrefix strings_CutPrefix_F strings_CutPrefix_rt internal_stringslite_CutPrefix internal_stringslite_CutPrefix_F internal_stringslite_CutPrefix_rt internal_stringslite_HasPrefix internal_stringslite_HasPrefix_F internal_stringslite_HasPrefix_rt
  by_cases h : b.length ≤ a.length
  · have e1 : ((b.length : Int) ≤ (a.length : Int)) := by omega
    simp only [e1, h, decide_true, cond_true, Int.natCast_nonneg, Int.toNat_natCast, Bool.and_self, bsome]
    by_cases h2 : a.take b.length = b
    · rw [if_pos h2]
      simp only [h2, decide_true, Bool.not_true, cond_false, bsome]
    · rw [if_neg h2]
      simp only [h2, decide_false, Bool.not_false, cond_true, bsome]
  · have e1 : ¬((b.length : Int) ≤ (a.length : Int)) := by omega
    have h2 : ¬a.take b.length = b := fun e => by
      have := congrArg List.length e
      rw [List.length_take] at this; omega
    rw [if_neg h2]
    simp only [e1, decide_false, cond_false, bsome, Bool.not_false, cond_true]
theorem mta_eq (p q : Mta) : (decide (p.tx = q.tx) && (decide (p.size = q.size) && (decide (p.root = q.root) && (decide (p.free = q.free) && (decide (p.pages = q.pages) && true))))) = decide (p = q) := by
  cases p; cases q
  rw [Bool.eq_iff_iff]
  simp only [Bool.and_eq_true, decide_eq_true_eq, Mta.mk.injEq, and_true]
/-- What a page is read as. -/
theorem meta_Of_cases (s : Int) (p : Pg) : ∃ x e, meta_Of 10000 s p = some (x, e) ∧ ((e = 0 ∧ mmayB x = true ∧ mpg x = p ∧ x.size = s) ∨ (e = 4 ∧ x = mz)) := by
  unfold meta_Of meta_Of_F meta_Of_rt
  obtain ⟨r0, c, hcut⟩ : ∃ r c, strings_CutPrefix 10000 p.body #[99, 97, 114, 101, 101, 110, 48, 49].toList = some (r, c) := by
    rw [cut_is]
    split
    · exact ⟨_, _, rfl⟩
    · exact ⟨_, _, rfl⟩
  rw [hcut, bsome]
  have N := fun (l : List UInt8) (k : Nat) (h1 : 1 ≤ k) (h8 : k ≤ 8) => Number_is (n := 10000) (l := l) (k := k) (by omega) h1 h8
  have n2 : ∀ l, octet_Reader_Number 10000 2 l = some (numV l 2, (takeE l 2 : Int), takeR l 2) := fun l => N l 2 (by omega) (by omega)
  have n4 : ∀ l, octet_Reader_Number 10000 4 l = some (numV l 4, (takeE l 4 : Int), takeR l 4) := fun l => N l 4 (by omega) (by omega)
  rw [n2, bsome, n4, bsome, n4, bsome, n4, bsome, meta_Page_is, bsome]
  generalize hx : Mta.mk p.tx _ _ _ _ = x
  dsimp only
  generalize takeE (takeR (takeR (takeR r0 2) 4) 4) 4 = e4
  cases c
  · exact ⟨_, _, rfl, .inr ⟨rfl, rfl⟩⟩
  by_cases h1 : ((e4 : Nat) : Int) = 0
  · simp only [Bool.not_true, cond_false, h1, ne_eq, not_true_eq_false, decide_false]
    cases hm : mmayB x
    · rw [if_neg (by simp)]
      simp only [show ¬((2 : Int) = 0) by decide, not_false_eq_true, decide_true, cond_true]
      exact ⟨_, _, rfl, .inr ⟨rfl, rfl⟩⟩
    · rw [if_pos rfl]
      simp only [not_true_eq_false, decide_false, cond_false, pg_eq]
      by_cases h2 : mpg x = p
      · simp only [h2, decide_true, Bool.not_true, cond_false]
        by_cases h3 : x.size = s
        · have h3' := h3
          rw [← hx] at h3'
          have h3' : _ = s := h3'
          dsimp only at h3'
          simp only [h3', not_true_eq_false, decide_false, cond_false]
          exact ⟨_, _, rfl, .inl ⟨rfl, hm, h2, h3⟩⟩
        · have h3' := h3
          rw [← hx] at h3'
          dsimp only at h3'
          simp only [h3', not_false_eq_true, decide_true, cond_true]
          exact ⟨_, _, rfl, .inr ⟨rfl, rfl⟩⟩
      · simp only [h2, decide_false, Bool.not_false, cond_true]
        exact ⟨_, _, rfl, .inr ⟨rfl, rfl⟩⟩
  · simp only [Bool.not_true, cond_false, h1, ne_eq, not_false_eq_true, decide_true, cond_true]
    exact ⟨_, _, rfl, .inr ⟨rfl, rfl⟩⟩
end Go.Ev
end
section
set_option linter.unusedVariables false
set_option linter.unusedSimpArgs false
namespace Go.Ev
open Go.RowKit
theorem mpg_body {m : Mta} (h : MMay m) : ∃ z, (mpg m).body = magic ++ (le (u64 m.size) 2 ++ (le m.root 4 ++ (le m.free 4 ++ (le m.pages 4 ++ z)))) := by
  have hr := mroom h.good
  have hl : (mbytes m).length ≤ room m.size := by rw [mbytes_length]; omega
  refine ⟨List.replicate (room m.size - (mbytes m).length) 0, ?_⟩
  show bodyS m.size (mbytes m) = _
  rw [(body_ok h.good hl).1]
  simp [padL, mbytes, List.append_assoc]
theorem meta_Of_mpg {m : Mta} {s : Int} (h : MMay m) : meta_Of 10000 s (mpg m) = some (if m.size = s then (m, 0) else (mz, 4)) := by
  obtain ⟨z, hz⟩ := mpg_body h
  have hg := goodB_le h.good
  have p2 := h.p2
  have r1 := h.r1
  have f1 := h.f1
  unfold meta_Of meta_Of_F meta_Of_rt
  have hcut : strings_CutPrefix 10000 (mpg m).body #[99, 97, 114, 101, 101, 110, 48, 49].toList = some (le (u64 m.size) 2 ++ (le m.root 4 ++ (le m.free 4 ++ (le m.pages 4 ++ z))), true) := by
    rw [cut_is, hz]
    have e1 : (magic ++ (le (u64 m.size) 2 ++ (le m.root 4 ++ (le m.free 4 ++ (le m.pages 4 ++ z))))).take (#[99, 97, 114, 101, 101, 110, 48, 49].toList : List UInt8).length = #[99, 97, 114, 101, 101, 110, 48, 49].toList := List.take_left' rfl
    have e2 : (magic ++ (le (u64 m.size) 2 ++ (le m.root 4 ++ (le m.free 4 ++ (le m.pages 4 ++ z))))).drop (#[99, 97, 114, 101, 101, 110, 48, 49].toList : List UInt8).length = _ := List.drop_left' rfl
    rw [if_pos e1, e2]
  have hu := u64_nat (x := m.size) (by omega) (by omega)
  rw [hcut, bsome]
  dsimp only
  rw [hu, Num2 (by omega) (by omega), bsome]
  dsimp only
  rw [Num4 (by omega) (by omega), bsome]
  dsimp only
  rw [Num4 (by omega) (by omega), bsome]
  dsimp only
  rw [Num4 (by omega) (by omega), bsome]
  dsimp only
  have ew : w64 ((m.size.toNat : Nat) : Int) = m.size := by rw [Int.toNat_of_nonneg (by omega), w64_id (by omega) (by omega)]
  have e1 : m.root % 4294967296 = m.root := Nat.mod_eq_of_lt (by omega)
  have e2 : m.free % 4294967296 = m.free := Nat.mod_eq_of_lt (by omega)
  have e3 : m.pages % 4294967296 = m.pages := Nat.mod_eq_of_lt (by omega)
  simp only [ew, e1, e2, e3]
  have e4 : Mta.mk (mpg m).tx m.size m.root m.free m.pages = m := rfl
  simp only [e4]
  rw [meta_Page_is, if_pos (mmay_iff.2 h), bsome]
  simp only [Bool.not_true, cond_false, ne_eq, not_true_eq_false, decide_false, pg_eq, decide_true]
  by_cases h3 : m.size = s
  · simp only [h3, not_true_eq_false, decide_false, cond_false, if_true, Bool.and_self, Bool.not_true]
  · simp only [h3, not_false_eq_true, decide_true, cond_true, if_false, Bool.and_self, Bool.not_true, cond_false]
    rfl
/-- What is in a slot of an image. -/
inductive SlotIs (s : Int) (img : List UInt8) (i : Nat) : Option Mta → Prop
  | err {p : Pg} {e : Int} (h : frame_Read 10000 s img i = some (p, e)) (he : e ≠ 0) : SlotIs s img i none
  | bad {p : Pg} {x : Mta} {e : Int} (h : frame_Read 10000 s img i = some (p, 0)) (h2 : meta_Of 10000 s p = some (x, e)) (he : e ≠ 0) : SlotIs s img i none
  | ok {p : Pg} {x : Mta} (h : frame_Read 10000 s img i = some (p, 0)) (h2 : meta_Of 10000 s p = some (x, 0)) : SlotIs s img i (some x)
def bothT (a b : Option Mta) : meta_Both_R := ((a.getD mz).tx, (a.getD mz).size, (a.getD mz).root, (a.getD mz).free, (a.getD mz).pages, (b.getD mz).tx, (b.getD mz).size, (b.getD mz).root, (b.getD mz).free, (b.getD mz).pages, a.isSome, b.isSome)
theorem u32_small {i : Nat} (h : i < 4294967296) : u32 (i : Int) = i := by
  unfold u32
  simp [IntKind.wrap, IntKind.signed, IntKind.bits]
  omega
theorem both_step (s : Int) (img : List UInt8) (m i : Nat) (hi : i < 2) (bs : List Bool) (ms : List Mta) (hb : bs.length = 2) (hm : ms.length = 2) {a : Option Mta} (h : SlotIs s img i a) (b0 : bs[i]? = some false) (m0 : ms[i]? = some mz) :
    meta_Both_L3 10000 (m + 1) s img (i : Int) bs ms = meta_Both_L3 10000 m s img ((i + 1 : Nat) : Int) (bs.set i a.isSome) (ms.set i (a.getD mz)) := by
  rw [meta_Both_L3, meta_Both_L3F]
  have e1 : ((i : Int) < 2) := by omega
  have hw : w64 ((i : Int) + 1) = ((i + 1 : Nat) : Int) := by rw [w64_id (by omega) (by omega)]; omega
  have hbs : bs.set i false = bs := by
    apply List.ext_getElem?
    intro j
    rw [List.getElem?_set]
    by_cases h : i = j
    · subst h; rw [if_pos rfl, if_pos (by omega), b0]
    · rw [if_neg h]
  have hms : ms.set i mz = ms := by
    apply List.ext_getElem?
    intro j
    rw [List.getElem?_set]
    by_cases h : i = j
    · subst h; rw [if_pos rfl, if_pos (by omega), m0]
    · rw [if_neg h]
  simp only [e1, decide_true, cond_true, hw]
  rw [u32_small (by omega)]
  cases h with
  | err h he =>
    rw [h, bsome]
    simp only [he, ne_eq, not_false_eq_true, decide_true, cond_true]
    show _ = meta_Both_L3 10000 m s img _ (bs.set i false) (ms.set i mz)
    rw [hbs, hms]
  | bad h h2 he =>
    rw [h, bsome]
    simp only [ne_eq, not_true_eq_false, decide_false, cond_false]
    rename_i p x e
    show Option.bind (meta_Of 10000 s p) _ = _
    rw [h2, bsome]
    simp only [he, decide_false, cond_false]
    show _ = meta_Both_L3 10000 m s img _ (bs.set i false) (ms.set i mz)
    rw [hbs, hms]
  | ok h h2 =>
    rw [h, bsome]
    simp only [ne_eq, not_true_eq_false, decide_false, cond_false]
    rename_i p x
    show Option.bind (meta_Of 10000 s p) _ = _
    rw [h2, bsome]
    have e2 : Nat.ble (Nat.succ i) 2 = true := ble_of (by omega)
    simp only [decide_true, cond_true, Int.natCast_nonneg, Int.toNat_natCast, e2, Bool.and_self, m0, b0, bsome]
    rfl
theorem both_is {s : Int} {img : List UInt8} {a b : Option Mta} (h0 : SlotIs s img 0 a) (h1 : SlotIs s img 1 b) : meta_Both 10000 s img = some (bothT a b) := by
  unfold meta_Both meta_Both_F
  have s1 := both_step s img 9999 0 (by omega) [false, false] [mz, mz] rfl rfl h0 rfl rfl
  have s2 := both_step s img 9998 1 (by omega) ([false, false].set 0 a.isSome) ([mz, mz].set 0 (a.getD mz)) rfl rfl h1 rfl rfl
  refine s1.trans (s2.trans ?_)
  show meta_Both_L3 10000 9998 s img ((2 : Nat) : Int) [a.isSome, b.isSome] [a.getD mz, b.getD mz] = _
  rw [show (9998 : Nat) = 9997 + 1 from rfl, meta_Both_L3, meta_Both_L3F]
  have e1 : ¬(((2 : Nat) : Int) < 2) := by omega
  simp only [e1, decide_false, cond_false]
  rfl
/-- The newest of two. -/
def newT (a b : Option Mta) : Mta × Int := match a, b with
  | none, none => (mz, 5)
  | some x, none => (x, 0)
  | none, some y => (y, 0)
  | some x, some y => if x.tx < y.tx then (y, 0) else (x, 0)
theorem newest_is {s : Int} {img : List UInt8} {a b : Option Mta} (hg : goodB s = true) (h0 : SlotIs s img 0 a) (h1 : SlotIs s img 1 b) : meta_Newest 10000 s img = some (newT a b) := by
  unfold meta_Newest meta_Newest_F meta_Newest_rt
  rw [device_Good_is, hg, bsome]
  simp only [Bool.not_true, cond_false]
  rw [both_is h0 h1, bsome]
  cases a with
  | none =>
    cases b with
    | none => rfl
    | some y => rfl
  | some x =>
    cases b with
    | none => rfl
    | some y =>
      show (bif decide (x.tx < y.tx) then some (y, (0 : Int)) else some (x, 0)) = _
      unfold newT
      by_cases h : x.tx < y.tx
      · simp only [h, decide_true, cond_true, if_true]
      · simp only [h, decide_false, cond_false, if_false]
end Go.Ev
end
section
set_option linter.unusedVariables false
set_option linter.unusedSimpArgs false
namespace Go.Ev
open Go.RowKit
theorem ref01_loop (n : Nat) (b l : List UInt8) (a k : Nat) (hk : k ≤ 8) (hl : l.length ≤ 90000000) : ∀ (m i : Nat), k < m + i → i ≤ k → ref01_Put_L6 n b m a (k : Int) (i : Int) (l ++ le a i) = some (l ++ le a k) := by
  intro m
  induction m with
  | zero => intro i h1 h2; omega
  | succ m ih =>
    intro i h1 h2
    unfold ref01_Put_L6 ref01_Put_L6F ref01_Put_rt
    by_cases hi : i < k
    · have e1 : ((i : Int) < (k : Int)) := by omega
      have e2 : u64 (w64 (8 * (i : Int))) = 8 * i := by
        rw [w64_id (by omega) (by omega), show (8 * (i : Int)) = ((8 * i : Nat) : Int) by omega, u64_of (by omega)]
      have e4 : Nat.ble (8 * i) 64 = true := ble_of (by omega)
      have e5 : Nat.ble ((l ++ le a i).length + [UInt8.ofNat (a / 2 ^ (8 * i))].length) 100000000 = true := ble_of (by simp [le_length]; omega)
      simp only [e1, e2, e4, e5, decide_true, cond_true, Bool.true_and]
      rw [w64_id (by omega) (by omega), List.append_assoc, ← le_succ]
      exact ih (i + 1) (by omega) (by omega)
    · have e1 : ¬((i : Int) < (k : Int)) := by omega
      simp only [e1, decide_false, cond_false]
      rw [show i = k by omega]
theorem ref01_Put_is {n : Nat} {l : List UInt8} {a k : Nat} (hn : 9 ≤ n) (hk : 1 ≤ k) (hk8 : k ≤ 8) (hl : l.length ≤ 90000000) : ref01_Put n l a (k : Int) = some (l ++ le a k) := by
  unfold ref01_Put ref01_Put_F ref01_Put_rt
  have e4 : Nat.ble (0 + l.length) 100000000 = true := ble_of (by omega)
  have e5 : ¬((k : Int) < 1) := by omega
  have e6 : ¬((8 : Int) < (k : Int)) := by omega
  simp only [e4, e5, e6, decide_false, cond_true, cond_false]
  have := ref01_loop n ([] ++ l) ([] ++ l) a k hk8 (by simpa using hl) n 0 (by omega) (by omega)
  simpa [ref01_Put_J5, ref01_Put_J5F, le] using this
theorem rPut4 {n : Nat} {l : List UInt8} {a : Nat} (hn : 9 ≤ n) (hl : l.length ≤ 90000000) : ref01_Put n l a 4 = some (l ++ le a 4) := ref01_Put_is (k := 4) hn (by omega) (by omega) hl
theorem rPut1 {n : Nat} {l : List UInt8} {a : Nat} (hn : 9 ≤ n) (hl : l.length ≤ 90000000) : ref01_Put n l a 1 = some (l ++ le a 1) := ref01_Put_is (k := 1) hn (by omega) (by omega) hl
theorem rPut2 {n : Nat} {l : List UInt8} {a : Nat} (hn : 9 ≤ n) (hl : l.length ≤ 90000000) : ref01_Put n l a 2 = some (l ++ le a 2) := ref01_Put_is (k := 2) hn (by omega) (by omega) hl
theorem rPut8 {n : Nat} {l : List UInt8} {a : Nat} (hn : 9 ≤ n) (hl : l.length ≤ 90000000) : ref01_Put n l a 8 = some (l ++ le a 8) := ref01_Put_is (k := 8) hn (by omega) (by omega) hl
theorem ref03_Good_is (n : Nat) (s : Int) : ref03_Good n s = some (goodB s) := by
  unfold ref03_Good ref03_Good_F goodB ref03_Good_rt
  by_cases h1 : 128 ≤ s <;> by_cases h2 : s ≤ 4096 <;> simp [h1, h2]
theorem ref04_Room_is (n : Nat) (s : Int) : ref04_Room n s = some (room s : Int) := by
  unfold ref04_Room ref04_Room_F ref04_Room_rt
  rw [ref03_Good_is, bsome]
  cases h : goodB s
  · rw [room_bad h]; rfl
  · obtain ⟨g1, g2, g3⟩ := goodB_le h
    have g4 : ((room s : Nat) : Int) = s - 24 := by omega
    rw [g4]
    simp only [Bool.not_true, cond_false]
    rw [w64_id (by omega) (by omega)]
theorem ref04_Body_is {n : Nat} {b : List UInt8} {s : Int} (hb : b.length ≤ 80000000) : ref04_Body n b s = some (bodyS s b, (bodyE s b : Int)) := by
  unfold ref04_Body ref04_Body_F ref04_Body_rt
  rw [ref03_Good_is, bsome, ref04_Room_is]
  cases h : goodB s
  · obtain ⟨h1, h2⟩ := body_bad (l := b) h
    rw [h1, h2]; rfl
  · have hr := room_le s
    simp only [Bool.not_true, cond_false, bsome]
    by_cases h2 : room s < b.length
    · obtain ⟨h3, h4⟩ := body_long h h2
      have : ((room s : Int) < (b.length : Int)) := by omega
      rw [h3, h4]; simp only [this, decide_true, cond_true]; rfl
    · have h5 : b.length ≤ room s := by omega
      obtain ⟨h3, h4⟩ := body_ok h h5
      have : ¬((room s : Int) < (b.length : Int)) := by omega
      have e0 : w64 ((room s : Int) - (b.length : Int)) = ((room s - b.length : Nat) : Int) := by rw [w64_id (by omega) (by omega)]; omega
      have e1 : Nat.ble (room s - b.length) (room s - b.length) = true := ble_of (Nat.le_refl _)
      have e2 : Nat.ble (room s - b.length) 100000000 = true := ble_of (by omega)
      have e3 : b.length + (List.replicate (room s - b.length) (UInt8.ofNat 0)).length ≤ 4611686018427387904 := by rw [List.length_replicate]; omega
      rw [h3, h4]
      simp only [this, e0, e1, e2, e3, decide_false, decide_true, cond_false, cond_true, Int.natCast_nonneg, Int.toNat_natCast, Bool.and_self]
      rfl
theorem ref05_may_is (n : Nat) (m : Mta) : ref05_may n m = some (mmayB m) := by
  unfold ref05_may ref05_may_F ref05_may_rt mmayB
  rw [ref03_Good_is]
  by_cases h1 : m.tx ≤ 4611686018427387904 <;> simp only [h1, decide_true, decide_false, cond_true, cond_false, Bool.true_and, Bool.false_and, bsome]
  cases goodB m.size <;> simp only [cond_true, cond_false, Bool.true_and, Bool.false_and]
  by_cases h2 : 2 ≤ m.pages <;> simp only [h2, decide_true, decide_false, cond_true, cond_false, Bool.true_and, Bool.false_and]
  by_cases h3 : m.pages ≤ 2147483647 <;> simp only [h3, decide_true, decide_false, cond_true, cond_false, Bool.true_and, Bool.false_and]
  by_cases h4 : m.root < m.pages <;> simp only [h4, decide_true, decide_false, cond_true, cond_false, Bool.true_and, Bool.false_and]
  by_cases h5 : m.root = 1 <;> simp only [h5, ne_eq, not_true_eq_false, not_false_eq_true, decide_true, decide_false, cond_true, cond_false, Bool.true_and, Bool.false_and]
  by_cases h6 : m.free < m.pages <;> simp only [h6, decide_true, decide_false, cond_true, cond_false, Bool.true_and, Bool.false_and]
theorem ref05_Page_is (m : Mta) : ref05_Page 10000 m = some (if mmayB m = true then (mpg m, 0) else (pgz, 2)) := by
  unfold ref05_Page ref05_Page_F ref05_Page_rt
  have e0 : Mta.mk m.tx m.size m.root m.free m.pages = m := rfl
  rw [e0, ref05_may_is, bsome]
  cases h : mmayB m
  · rw [if_neg (by simp)]; rfl
  · have h' := mmay_iff.1 h
    have q1 := h'.p2
    have q2 := h'.r1
    have q3 := h'.f1
    rw [if_pos rfl]
    simp only [Bool.not_true, cond_false]
    rw [Nat.mod_eq_of_lt (show m.root < 18446744073709551616 by omega), Nat.mod_eq_of_lt (show m.free < 18446744073709551616 by omega), Nat.mod_eq_of_lt (show m.pages < 18446744073709551616 by omega)]
    rw [rPut2 (by omega) (by simp), bsome, rPut4 (by omega) (by simp [le_length]), bsome, rPut4 (by omega) (by simp [le_length]), bsome, rPut4 (by omega) (by simp [le_length]), bsome, ref04_Body_is (by simp [le_length]), bsome]
    have e1 : m.tx % 2 % 4294967296 = m.tx % 2 := by omega
    have e2 : [] ++ #[99, 97, 114, 101, 101, 110, 48, 49].toList ++ le (u64 m.size) 2 ++ le m.root 4 ++ le m.free 4 ++ le m.pages 4 = mbytes m := by
      simp [mbytes, magic, List.append_assoc]
    rw [e1, e2]
    rfl
theorem ref04_May_is (n : Nat) (s : Int) (p : Pg) : ref04_May n s p = some (pmayB s p) := by
  unfold ref04_May ref04_May_F ref04_May_rt pmayB
  rw [ref03_Good_is, ref04_Room_is]
  cases goodB s
  · rfl
  have e : decide ((p.body.length : Int) = (room s : Int)) = decide (p.body.length = room s) := decide_eq_decide.2 (by omega)
  simp only [bsome, cond_true, Bool.true_and, e]
  by_cases h1 : 1 ≤ p.kind <;> simp only [h1, decide_true, decide_false, cond_true, cond_false, Bool.true_and, Bool.false_and]
  by_cases h2 : p.kind ≤ 6 <;> simp only [h2, decide_true, decide_false, cond_true, cond_false, Bool.true_and, Bool.false_and]
  by_cases h3 : 0 ≤ p.count <;> simp only [h3, decide_true, decide_false, cond_true, cond_false, Bool.true_and, Bool.false_and]
  by_cases h4 : p.count ≤ 65535 <;> simp only [h4, decide_true, decide_false, cond_true, cond_false, Bool.true_and, Bool.false_and]
  by_cases h5 : p.page ≤ 2147483647 <;> simp only [h5, decide_true, decide_false, cond_true, cond_false, Bool.true_and, Bool.false_and]
  by_cases h6 : p.link ≤ 2147483647 <;> simp only [h6, decide_true, decide_false, cond_true, cond_false, Bool.true_and, Bool.false_and]
  by_cases h7 : p.tx ≤ 4611686018427387904 <;> simp only [h7, decide_true, decide_false, cond_true, cond_false, Bool.true_and, Bool.false_and]
theorem ref02_tblE : (ref02_Table 10000 == crc_Table 10000) = true := by kernel_rfl
theorem ref02_tbl : ref02_Table 10000 = some tbl := (LawfulBEq.eq_of_beq ref02_tblE).trans tbl_is
theorem ref02_loop (n : Nat) (b : List UInt8) (hb0 : b.length ≤ 1000000) : ∀ (m i c : Nat), ref02_More_L5 n m b c (i : Int) tbl = crc_with_L4 n m c b (b.length : Int) (i : Int) tbl := by
  intro m
  induction m with
  | zero => intro i c; rfl
  | succ m ih =>
    intro i c
    unfold ref02_More_L5 ref02_More_L5F crc_with_L4 crc_with_L4F ref02_More_rt crc_with_rt
    by_cases hi : ((i : Int) < (b.length : Int))
    · have hb : i < b.length := by omega
      simp only [hi, decide_true, cond_true, Int.natCast_nonneg, Int.toNat_natCast, getE hb, bsome]
      cases (true && Nat.ble (Nat.succ (UInt8.toNat (UInt8.ofNat (UInt8.toNat (UInt8.ofNat c) % 256 ^^^ UInt8.toNat b[i] % 256)))) 256)
      · simp only [cond_false]
      · simp only [cond_true]
        cases tbl[UInt8.toNat (UInt8.ofNat (UInt8.toNat (UInt8.ofNat c) % 256 ^^^ UInt8.toNat b[i] % 256))]? with
        | none => rfl
        | some z =>
          simp only [bsome]
          have e : w64 ((i : Int) + 1) = ((i + 1 : Nat) : Int) := by rw [w64_id (by omega) (by omega)]; omega
          rw [e, ih, Nat.xor_comm]
    · simp only [hi, decide_false, cond_false]
theorem ref02_Of_is {b : List UInt8} (hb : b.length ≤ 9000) : ref02_Of 10000 b = some (crcV b) := by
  have h := crc_is hb
  unfold crc_Of crc_Of_F crc_Of_rt crc_More crc_More_F crc_More_rt at h
  rw [tbl_is, bsome] at h
  unfold ref02_Of ref02_Of_F ref02_Of_rt ref02_More ref02_More_F
  rw [ref02_tbl, bsome]
  have e1 : (decide (List.length tbl = (Proofs.Try.t99, Proofs.Try.t99.desc).fst.size) && decide (List.length tbl = List.length (List.replicate 256 (0 : Nat)))) = true := by
    rw [tbl_len, List.length_replicate]; rfl
  rw [e1, cond_true]
  unfold crc_with crc_with_F at h
  have := ref02_loop 10000 b (by omega) 10000 0 (Nat.xor (4294967296 - 1) (0 % 4294967296) % 4294967296)
  have this' : ref02_More_L5 10000 10000 b (Nat.xor (4294967296 - 1) (0 % 4294967296) % 4294967296) 0 tbl = crc_with_L4 10000 10000 (Nat.xor (4294967296 - 1) (0 % 4294967296) % 4294967296) b (b.length : Int) 0 tbl := this
  rw [this']
  revert h
  cases crc_with_L4 10000 10000 (Nat.xor (4294967296 - 1) (0 % 4294967296) % 4294967296) b (b.length : Int) 0 tbl with
  | none => intro h; cases h
  | some c => exact fun h => h
theorem ref04_rest_is {p : Pg} (h5 : p.page < 18446744073709551616) (h6 : p.link < 18446744073709551616) (hb : p.body.length ≤ 80000000) : ref04_rest 10000 p = some (restP p) := by
  unfold ref04_rest ref04_rest_F ref04_rest_rt
  rw [Nat.mod_eq_of_lt h5, Nat.mod_eq_of_lt h6]
  rw [rPut1 (by omega) (by simp), bsome, rPut1 (by omega) (by simp [le_length]), bsome, rPut2 (by omega) (by simp [le_length]), bsome, rPut4 (by omega) (by simp [le_length]), bsome, rPut4 (by omega) (by simp [le_length]), bsome, rPut8 (by omega) (by simp [le_length]), bsome]
  have c : ([] ++ le (u64 p.kind) 1 ++ le 1 1 ++ le (u64 p.count) 2 ++ le p.page 4 ++ le p.link 4 ++ le p.tx 8).length + p.body.length ≤ 4611686018427387904 := by simp [le_length]; omega
  rw [decide_eq_true c, cond_true]
  simp [restP, List.append_assoc]
theorem ref04_Put_fit {s : Int} {p : Pg} (h : PMay s p) : ref04_Put 10000 s p = some (blk p, 0) := by
  have hr := room_le s
  have hb := h.bd
  have h5 := h.pg
  have h6 := h.lk
  have hrl : (restP p).length ≤ 9000 := by rw [restP_length]; omega
  have hcl := crcV_lt _ hrl
  unfold ref04_Put ref04_Put_F ref04_Put_rt
  have e0 : Pg.mk p.kind p.count p.page p.link p.tx p.body = p := rfl
  simp only [e0]
  rw [ref04_May_is, pmay_iff.2 h, bsome]
  simp only [Bool.not_true, cond_false]
  rw [ref04_rest_is (by omega) (by omega) (by omega), bsome, ref02_Of_is hrl, bsome, Nat.mod_eq_of_lt (show crcV (restP p) < 18446744073709551616 by omega), rPut4 (by omega) (by simp), bsome]
  have c3 : (le (crcV (restP p)) 4).length + (restP p).length ≤ 4611686018427387904 := by rw [le_length]; omega
  rw [List.nil_append, decide_eq_true c3, cond_true]
  rfl
/-- A meta's block. -/
theorem block_is {m : Mta} (h : MMay m) : law05_block 10000 m = some (blk (mpg m)) := by
  unfold law05_block law05_block_F law05_block_rt
  have e0 : Mta.mk m.tx m.size m.root m.free m.pages = m := rfl
  simp only [e0]
  rw [ref05_Page_is, if_pos (mmay_iff.2 h), bsome]
  show Option.bind (ref04_Put 10000 m.size (mpg m)) _ = _
  rw [ref04_Put_fit (mpg_may h), bsome]
end Go.Ev
end
section
set_option linter.unusedVariables false
set_option linter.unusedSimpArgs false
namespace Go.Ev
open Go.RowKit
theorem rNum_loop (n : Nat) (l : List UInt8) (k : Nat) (hk : k ≤ 8) (hl : k ≤ l.length) : ∀ (m i : Nat), k < m + i → i ≤ k → ref01_Reader_Number_L8 n m (k : Int) (ofLe (l.take i)) (i : Int) l = some (ofLe (l.take k), 0, l.drop k) := by
  intro m
  induction m with
  | zero => intro i h1 h2; omega
  | succ m ih =>
    intro i h1 h2
    unfold ref01_Reader_Number_L8 ref01_Reader_Number_L8F ref01_Reader_Number_rt
    by_cases hi : i < k
    · have hx := getE (l := l) (i := i) (by omega)
      have e1 : ((i : Int) < (k : Int)) := by omega
      simp only [e1, decide_true, cond_true, Int.natCast_nonneg, Int.toNat_natCast, hx, bsome]
      rw [w64_id (n := 8 * (i : Int)) (by omega) (by omega)]
      have e2 : u64 (8 * (i : Int)) = 8 * i := by rw [show 8 * (i : Int) = ((8 * i : Nat) : Int) by omega, u64_of (by omega)]
      have e4 : Nat.ble (8 * i) 64 = true := ble_of (by omega)
      rw [e2, w64_id (by omega) (by omega)]
      simp only [e4, cond_true, Bool.and_self]
      have h5 := ofLe_or hx (by omega)
      have h6 : (ofLe (l.take i) % 18446744073709551616 ||| l[i].toNat * 2 ^ (8 * i) % 18446744073709551616 % 18446744073709551616) % 18446744073709551616 = ofLe (l.take (i + 1)) := by
        have h7 := congrArg Int.toNat h5
        rw [Int.toNat_natCast] at h7
        rw [← h7, Nat.mod_mod]
        show _ = Int.toNat (IntKind.u64.wrap _)
        rw [u64_cast]
        rw [Int.toNat_natCast]
        have h8 : ∀ q : Nat, u64 (q : Int) = q % 18446744073709551616 := fun q => by
          unfold u64
          simp [IntKind.wrap, IntKind.signed, IntKind.bits]
          omega
        rw [h8]; rfl
      rw [h6]
      exact ih (i + 1) (by omega) (by omega)
    · have e1 : ¬((i : Int) < (k : Int)) := by omega
      obtain rfl : i = k := by omega
      simp only [e1, decide_false, cond_false, Int.natCast_nonneg, Int.toNat_natCast, hl, decide_true, Bool.and_self, cond_true]
theorem rNumber_is {n : Nat} {l : List UInt8} {k : Nat} (hn : 9 ≤ n) (h1 : 1 ≤ k) (h8 : k ≤ 8) : ref01_Reader_Number n (k : Int) l = some (numV l k, (takeE l k : Int), takeR l k) := by
  unfold ref01_Reader_Number ref01_Reader_Number_F ref01_Reader_Number_rt
  have e1 : ¬((k : Int) < 1) := by omega
  have e2 : ¬((8 : Int) < (k : Int)) := by omega
  simp only [e1, e2, decide_false, cond_false, ref01_Reader_Number_J4, ref01_Reader_Number_J4F, ref01_Reader_Number_rt]
  unfold numV takeV takeE takeR
  by_cases h : k ≤ l.length
  · have e3 : ¬((l.length : Int) < (k : Int)) := by omega
    simp only [e3, decide_false, cond_false, h, if_true]
    exact rNum_loop n l k h8 h n 0 (by omega) (by omega)
  · have e3 : ((l.length : Int) < (k : Int)) := by omega
    simp only [e3, decide_true, cond_true, h, if_false]
    rfl
theorem rNum_eq {n k : Nat} {l : List UInt8} (hn : 9 ≤ n) (h1 : 1 ≤ k) (h8 : k ≤ 8) : ref01_Reader_Number n (k : Int) l = octet_Reader_Number n (k : Int) l := (rNumber_is hn h1 h8).trans (Number_is hn h1 h8).symm
theorem rN1 {n : Nat} {l : List UInt8} (hn : 9 ≤ n) : ref01_Reader_Number n 1 l = octet_Reader_Number n 1 l := rNum_eq (k := 1) hn (by omega) (by omega)
theorem rN2 {n : Nat} {l : List UInt8} (hn : 9 ≤ n) : ref01_Reader_Number n 2 l = octet_Reader_Number n 2 l := rNum_eq (k := 2) hn (by omega) (by omega)
theorem rN4 {n : Nat} {l : List UInt8} (hn : 9 ≤ n) : ref01_Reader_Number n 4 l = octet_Reader_Number n 4 l := rNum_eq (k := 4) hn (by omega) (by omega)
theorem rN8 {n : Nat} {l : List UInt8} (hn : 9 ≤ n) : ref01_Reader_Number n 8 l = octet_Reader_Number n 8 l := rNum_eq (k := 8) hn (by omega) (by omega)
theorem ofLe_inj : ∀ {a b : List UInt8}, a.length = b.length → ofLe a = ofLe b → a = b
  | [], [], _, _ => rfl
  | x :: a, y :: b, hl, h => by
    simp only [ofLe] at h
    have hx := x.toNat_lt
    have hy := y.toNat_lt
    have e1 : x.toNat = y.toNat := by omega
    have e2 : ofLe a = ofLe b := by omega
    rw [UInt8.toNat_inj.1 e1, ofLe_inj (by simpa using hl) e2]
theorem le_ofLe (x : List UInt8) : le (ofLe x) x.length = x := by
  refine ofLe_inj (le_length _ _) ?_
  rw [ofLe_le, Nat.mod_eq_of_lt (ofLe_lt x)]
theorem split_le {l : List UInt8} {k : Nat} (h : k ≤ l.length) : ∃ a r, a < 256 ^ k ∧ l = le a k ++ r ∧ r.length = l.length - k := by
  have hk : (l.take k).length = k := by rw [List.length_take]; omega
  refine ⟨ofLe (l.take k), l.drop k, ?_, ?_, by rw [List.length_drop]⟩
  · have := ofLe_lt (l.take k)
    rwa [hk] at this
  · have := le_ofLe (l.take k)
    rw [hk] at this
    rw [this, List.take_append_drop]
theorem head_split {l : List UInt8} (h : 24 ≤ l.length) : ∃ c k v n p q t b, c < 4294967296 ∧ k < 256 ∧ v < 256 ∧ n < 65536 ∧ p < 4294967296 ∧ q < 4294967296 ∧ t < 18446744073709551616 ∧ l = le c 4 ++ (le k 1 ++ (le v 1 ++ (le n 2 ++ (le p 4 ++ (le q 4 ++ (le t 8 ++ b)))))) := by
  obtain ⟨c, r, hc, e1, h1⟩ := split_le (l := l) (k := 4) (by omega)
  obtain ⟨k, r2, hk, e2, h2⟩ := split_le (l := r) (k := 1) (by omega)
  obtain ⟨v, r3, hv, e3, h3⟩ := split_le (l := r2) (k := 1) (by omega)
  obtain ⟨n, r4, hn, e4, h4⟩ := split_le (l := r3) (k := 2) (by omega)
  obtain ⟨p, r5, hp, e5, h5⟩ := split_le (l := r4) (k := 4) (by omega)
  obtain ⟨q, r6, hq, e6, h6⟩ := split_le (l := r5) (k := 4) (by omega)
  obtain ⟨t, r7, ht, e7, h7⟩ := split_le (l := r6) (k := 8) (by omega)
  exact ⟨c, k, v, n, p, q, t, r7, by omega, by omega, by omega, by omega, by omega, by omega, by omega, by rw [e1, e2, e3, e4, e5, e6, e7]⟩
/-- What a block is read as. -/
theorem Get_is {s : Int} {a : Nat} {l : List UInt8} (hg : goodB s = true) (hs : (l.length : Int) = s) : ∃ r, frame_Get 10000 s a l = some r ∧ ref04_Get 10000 s a l = some r ∧ ((∃ p, PMay s p ∧ p.page = a ∧ l = blk p ∧ r = (p, 0)) ∨ r = (⟨0, 0, 0, 0, 0, []⟩, 4)) := by
  have hsz := goodB_le hg
  obtain ⟨c, k, v, n, p, q, t, b, hc, hk, hv, hn, hp, hq, ht, hl⟩ := head_split (l := l) (by omega)
  have hd : l.drop 4 = le k 1 ++ (le v 1 ++ (le n 2 ++ (le p 4 ++ (le q 4 ++ (le t 8 ++ b))))) := by rw [hl]; exact List.drop_left' (le_length _ _)
  have hdl : (l.drop 4).length ≤ 9000 := by rw [List.length_drop]; omega
  have hbl : b.length ≤ 9000 := by
    have := congrArg List.length hl
    simp [le_length] at this; omega
  have hcl := crcV_lt _ hdl
  generalize hP : Pg.mk (k : Int) (n : Int) p q t b = P
  have hrest : restP P = le k 1 ++ (le 1 1 ++ (le n 2 ++ (le p 4 ++ (le q 4 ++ (le t 8 ++ b))))) := by
    rw [← hP]
    unfold restP
    dsimp only
    rw [u64_of (by omega), u64_of (by omega)]
  have h4 : 4 ≤ l.length := by omega
  have hPe : Pg.mk (w64 (k : Int)) (w64 (n : Int)) (p % 4294967296) (q % 4294967296) t b = P := by
    rw [w64_id (by omega) (by omega), w64_id (by omega) (by omega), Nat.mod_eq_of_lt hp, Nat.mod_eq_of_lt hq, hP]
  have hv1 : (restP P = l.drop 4) ↔ v = 1 := by
    rw [hrest, hd]
    constructor
    · intro h
      have h := List.append_cancel_left h
      have h := (List.append_inj h (by rw [le_length, le_length])).1
      have h := congrArg ofLe h
      rw [ofLe_le, ofLe_le] at h
      omega
    · rintro rfl; rfl
  have hF : frame_Get 10000 s a l = some (if pmayB s P = true ∧ v = 1 ∧ p = a ∧ c = crcV (l.drop 4) then (P, 0) else (⟨0, 0, 0, 0, 0, []⟩, 4)) := by
    unfold frame_Get frame_Get_F frame_Get_rt
    rw [device_Good_is, hg, bsome]
    simp only [Bool.not_true, cond_false, hs, ne_eq, not_true_eq_false, decide_false]
    unfold frame_Get_J7 frame_Get_J7F
    have e1 : frame_head 10000 l = some (.inl (c, k, v, n, p, q, t, b)) := by
      unfold frame_head frame_head_F frame_head_rt
      rw [hl]
      rw [Num4 (by omega) hc, bsome]
      simp only [ne_eq, not_true_eq_false, decide_false, cond_false]
      rw [Num1 (by omega) (by omega), bsome]
      simp only [ne_eq, not_true_eq_false, decide_false, cond_false]
      rw [Num1 (by omega) (by omega), bsome]
      simp only [ne_eq, not_true_eq_false, decide_false, cond_false]
      rw [Num2 (by omega) (by omega), bsome]
      simp only [ne_eq, not_true_eq_false, decide_false, cond_false]
      rw [Num4 (by omega) (by omega), bsome]
      simp only [ne_eq, not_true_eq_false, decide_false, cond_false]
      rw [Num4 (by omega) (by omega), bsome]
      simp only [ne_eq, not_true_eq_false, decide_false, cond_false]
      rw [Num8 (by omega) (by omega), bsome]
      simp only [ne_eq, not_true_eq_false, decide_false, cond_false]
    rw [e1, bsome]
    dsimp only [sumE]
    show Option.bind (frame_may 10000 s (Pg.mk (w64 (k : Int)) (w64 (n : Int)) (p % 4294967296) (q % 4294967296) t b)) _ = _
    simp only [hPe]
    rw [frame_may_is, bsome]
    cases hm : pmayB s P
    · rw [if_neg (by simp)]; rfl
    simp only [Bool.not_true, cond_false, true_and, frame_Get_rt]
    by_cases h1 : v = 1
    · by_cases h2 : p = a
      · simp only [h1, h2, Nat.mod_eq_of_lt (h2 ▸ hp), ne_eq, not_true_eq_false, decide_false, cond_false, true_and, h4, Nat.zero_le, show (0 : Int) ≤ 4 by decide, decide_true, Bool.and_self, cond_true, crc_is hdl, bsome, Nat.mod_eq_of_lt (show crcV (l.drop 4) < 18446744073709551616 by omega)]
        by_cases h3 : c = crcV (l.drop 4)
        · simp only [h3, not_true_eq_false, decide_false, cond_false, if_true]
        · simp only [h3, not_false_eq_true, decide_true, cond_true, if_false]
      · simp only [h1, h2, Nat.mod_eq_of_lt hp, ne_eq, not_true_eq_false, decide_false, cond_false, not_false_eq_true, decide_true, cond_true, true_and, false_and, if_false]
    · simp only [h1, ne_eq, not_false_eq_true, decide_true, cond_true, false_and, if_false]
  have hR : ref04_Get 10000 s a l = some (if pmayB s P = true ∧ v = 1 ∧ p = a ∧ c = crcV (l.drop 4) then (P, 0) else (⟨0, 0, 0, 0, 0, []⟩, 4)) := by
    unfold ref04_Get ref04_Get_F ref04_Get_rt
    rw [ref03_Good_is, hg, bsome]
    simp only [Bool.not_true, cond_false, hs, ne_eq, not_true_eq_false, decide_false]
    have g1 : ref01_Reader_Number 10000 4 l = some (c, 0, le k 1 ++ (le v 1 ++ (le n 2 ++ (le p 4 ++ (le q 4 ++ (le t 8 ++ b)))))) := by rw [rN4 (by omega), hl, Num4 (by omega) hc]
    rw [g1, bsome]
    dsimp only
    rw [rN1 (by omega), Num1 (by omega) (by omega), bsome]
    dsimp only
    rw [rN1 (by omega), Num1 (by omega) (by omega), bsome]
    dsimp only
    rw [rN2 (by omega), Num2 (by omega) (by omega), bsome]
    dsimp only
    rw [rN4 (by omega), Num4 (by omega) (by omega), bsome]
    dsimp only
    rw [rN4 (by omega), Num4 (by omega) (by omega), bsome]
    dsimp only
    rw [rN8 (by omega), Num8 (by omega) (by omega), bsome]
    dsimp only
    simp only [hPe]
    rw [ref04_May_is, bsome]
    cases hm : pmayB s P
    · rw [if_neg (by simp)]; rfl
    have hPp : P.page = p := by rw [← hP]
    have hPq : P.link = q := by rw [← hP]
    have hPb : P.body = b := by rw [← hP]
    simp only [Bool.not_true, cond_false, true_and, Nat.mod_eq_of_lt hp]
    by_cases h2 : p = a
    · rw [ref04_rest_is (by omega) (by omega) (by rw [hPb]; omega), bsome]
      by_cases h1 : v = 1
      · simp only [hv1.2 h1, h1, h2, ne_eq, not_true_eq_false, decide_false, cond_false, true_and, h4, Nat.zero_le, show (0 : Int) ≤ 4 by decide, decide_true, Bool.and_self, cond_true, ref02_Of_is hdl, bsome, Nat.mod_eq_of_lt (show crcV (l.drop 4) < 18446744073709551616 by omega)]
        by_cases h3 : c = crcV (l.drop 4)
        · simp only [h3, not_true_eq_false, decide_false, cond_false, if_true]
        · simp only [h3, Ne.symm h3, not_false_eq_true, decide_true, cond_true, if_false]
      · have hv2 : ¬(restP P = l.drop 4) := fun h => h1 (hv1.1 h)
        simp only [hv2, h1, h2, ne_eq, not_true_eq_false, decide_false, cond_false, true_and, false_and, if_false, h4, Nat.zero_le, show (0 : Int) ≤ 4 by decide, decide_true, Bool.and_self, cond_true, not_false_eq_true]
    · simp only [h2, ne_eq, not_false_eq_true, decide_true, cond_true, false_and, and_false, if_false]
  refine ⟨_, hF, hR, ?_⟩
  by_cases h : pmayB s P = true ∧ v = 1 ∧ p = a ∧ c = crcV (l.drop 4)
  · rw [if_pos h]
    refine .inl ⟨P, pmay_iff.1 h.1, by rw [← hP]; exact h.2.2.1, ?_, rfl⟩
    unfold blk
    rw [hv1.2 h.2.1, ← h.2.2.2, hd, hl]
  · rw [if_neg h]; exact .inr rfl
end Go.Ev
end
section
set_option linter.unusedVariables false
set_option linter.unusedSimpArgs false
namespace Go.Ev
open Go.RowKit
theorem good_64 {s : Int} (h : goodB s = true) : ∃ k : Nat, k < 65 ∧ s = 64 * (k : Int) := by
  have h1 := goodB_le h
  simp only [goodB, Bool.and_eq_true, decide_eq_true_eq] at h
  have h2 := h.2
  rw [Int.tmod_eq_emod_of_nonneg (by omega)] at h2
  exact ⟨(s / 64).toNat, by omega, by omega⟩
theorem times_good {s : Int} (h : goodB s = true) : ∃ z, kit_Times 10000 #[0].toList s = some z ∧ (z.length : Int) = s := by
  obtain ⟨k, hk, rfl⟩ := good_64 h
  have hz : (List.range 65).all (fun k => match kit_Times 10000 #[0].toList (64 * (k : Int)) with | some z => z.length == 64 * k | none => false) = true := by kernel_rfl
  have h2 := List.all_eq_true.1 hz k (List.mem_range.2 hk)
  revert h2
  cases kit_Times 10000 #[0].toList (64 * (k : Int)) with
  | none => intro h2; cases h2
  | some z => intro h2; exact ⟨z, rfl, by have := LawfulBEq.eq_of_beq h2; omega⟩
theorem Pages_is {n : Nat} {s : Int} {img : List UInt8} (hg : goodB s = true) (h : img.length ≤ 1000000) : frame_Pages n s img = some ((img.length / s.toNat : Nat) : Int) ∧ ref04_Pages n s img = some ((img.length / s.toNat : Nat) : Int) := by
  have hs := goodB_le hg
  have e : Int.tdiv (img.length : Int) s = ((img.length / s.toNat : Nat) : Int) := by
    rw [Int.tdiv_eq_ediv_of_nonneg (by omega), Int.natCast_ediv, Int.toNat_of_nonneg (by omega)]
  have h3 := Nat.div_le_self img.length s.toNat
  have h0 : ¬(s = 0) := by omega
  have ew0 : ∀ d : Nat, d ≤ img.length → w64 (d : Int) = d := fun d hd => w64_id (by omega) (by omega)
  have ew := ew0 _ h3
  constructor
  · unfold frame_Pages frame_Pages_F frame_Pages_rt
    rw [device_Good_is, hg, bsome]
    simp only [Bool.not_true, cond_false, ne_eq, h0, not_false_eq_true, decide_true, cond_true]
    rw [e, ew]
  · unfold ref04_Pages ref04_Pages_F ref04_Pages_rt
    rw [ref03_Good_is, hg, bsome]
    simp only [Bool.not_true, cond_false, ne_eq, h0, not_false_eq_true, decide_true, cond_true]
    rw [e, ew]
def atV (s : Int) (img : List UInt8) (a : Nat) : List UInt8 × Bool := if a < img.length / s.toNat then ((img.drop (s.toNat * a)).take s.toNat, true) else ([], false)
theorem At_is {n a : Nat} {s : Int} {img : List UInt8} (hg : goodB s = true) (h : img.length ≤ 1000000) (ha : a < 4294967296) : frame_At n s img a = some (atV s img a) ∧ ref04_At n s img a = some (atV s img a) := by
  have hs := goodB_le hg
  have hs2 : s = ((s.toNat : Nat) : Int) := (Int.toNat_of_nonneg (by omega)).symm
  obtain ⟨S, hS⟩ : ∃ S : Nat, s = (S : Int) := ⟨s.toNat, hs2⟩
  have hSl : S ≤ 4096 := by omega
  have hSa : S * a ≤ 4096 * 4294967296 := Nat.mul_le_mul hSl (by omega)
  have e2 : w64 (w64 (a : Int) * s) = ((S * a : Nat) : Int) := by
    rw [w64_id (n := (a : Int)) (by omega) (by omega), hS, Int.mul_comm, ← Int.natCast_mul, w64_id (by omega) (by omega)]
  have e3 : w64 (((S * a : Nat) : Int) + s) = ((S * a + S : Nat) : Int) := by
    rw [hS, w64_id (by omega) (by omega)]; omega
  have e6 : S * a + S - S * a = S := by omega
  have eT : s.toNat = S := by omega
  have hq := Nat.div_le_self img.length S
  unfold atV
  rw [eT]
  by_cases hp : a < img.length / S
  · have e5 : S * a + S ≤ img.length := by
      have := (Nat.le_div_iff_mul_le (show 0 < S by omega)).1 (show a + 1 ≤ img.length / S from hp)
      rw [Nat.add_mul, Nat.one_mul, Nat.mul_comm a S] at this
      exact this
    have e4 : S * a ≤ S * a + S := by omega
    rw [if_pos hp]
    constructor
    · unfold frame_At frame_At_F frame_At_rt
      rw [(Pages_is hg h).1, bsome, eT, u64_of (by omega), Nat.mod_eq_of_lt (show a < 18446744073709551616 by omega), e2, e3]
      have e1 : ¬(img.length / S ≤ a) := by omega
      simp only [e1, decide_false, cond_false, Int.natCast_nonneg, Int.toNat_natCast, e4, e5, e6, decide_true, Bool.and_self, cond_true]
    · unfold ref04_At ref04_At_F ref04_At_rt
      rw [(Pages_is hg h).2, bsome, eT, e2, e3, w64_id (n := (a : Int)) (by omega) (by omega)]
      have e1 : ¬(((img.length / S : Nat) : Int) ≤ (a : Int)) := by omega
      simp only [e1, decide_false, cond_false, Int.natCast_nonneg, Int.toNat_natCast, e4, e5, e6, decide_true, Bool.and_self, cond_true]
  · rw [if_neg hp]
    constructor
    · unfold frame_At frame_At_F frame_At_rt
      rw [(Pages_is hg h).1, bsome, eT, u64_of (by omega), Nat.mod_eq_of_lt (show a < 18446744073709551616 by omega)]
      have e1 : img.length / S ≤ a := by omega
      simp only [e1, decide_true, cond_true]
    · unfold ref04_At ref04_At_F ref04_At_rt
      rw [(Pages_is hg h).2, bsome, eT, w64_id (n := (a : Int)) (by omega) (by omega)]
      have e1 : ((img.length / S : Nat) : Int) ≤ (a : Int) := by omega
      simp only [e1, decide_true, cond_true]
theorem Read_good {a : Nat} {s : Int} {img : List UInt8} (hg : goodB s = true) (h : img.length ≤ 1000000) (ha : a < 4294967296) : frame_Read 10000 s img a = (if (atV s img a).2 = true then frame_Get 10000 s a (atV s img a).1 else some (⟨0, 0, 0, 0, 0, []⟩, 5)) ∧ ref04_Read 10000 s img a = (if (atV s img a).2 = true then ref04_Get 10000 s a (atV s img a).1 else some (⟨0, 0, 0, 0, 0, []⟩, 5)) := by
  constructor
  · unfold frame_Read frame_Read_F frame_Read_rt
    rw [device_Good_is, hg, bsome]
    simp only [Bool.not_true, cond_false]
    rw [(At_is hg h ha).1, bsome]
    cases hx : (atV s img a).2
    · simp only [hx, Bool.not_false, cond_true]; rfl
    · simp only [hx, Bool.not_true, cond_false, if_true]
      cases frame_Get 10000 s a (atV s img a).1 <;> rfl
  · unfold ref04_Read ref04_Read_F ref04_Read_rt
    rw [ref03_Good_is, hg, bsome]
    simp only [Bool.not_true, cond_false]
    rw [(At_is hg h ha).2, bsome]
    cases hx : (atV s img a).2
    · simp only [hx, Bool.not_false, cond_true]; rfl
    · simp only [hx, Bool.not_true, cond_false, if_true]
      cases ref04_Get 10000 s a (atV s img a).1 <;> rfl
theorem atV_len {s : Int} {img : List UInt8} {a : Nat} (hg : goodB s = true) (h : (atV s img a).2 = true) : ((atV s img a).1.length : Int) = s := by
  have hs := goodB_le hg
  unfold atV at h ⊢
  by_cases hp : a < img.length / s.toNat
  · rw [if_pos hp]
    have := (Nat.le_div_iff_mul_le (show 0 < s.toNat by omega)).1 (show a + 1 ≤ img.length / s.toNat from hp)
    rw [Nat.add_mul, Nat.one_mul, Nat.mul_comm a] at this
    show ((List.take s.toNat (List.drop (s.toNat * a) img)).length : Int) = s
    rw [List.length_take, List.length_drop]; omega
  · rw [if_neg hp] at h; cases h
/-- A page of an image, read by both. -/
theorem Read_is (s : Int) (img : List UInt8) (a : Nat) (h : img.length ≤ 1000000) (ha : a < 4294967296) : ∃ p e, frame_Read 10000 s img a = some (p, e) ∧ ref04_Read 10000 s img a = some (p, e) := by
  cases hg : goodB s
  · refine ⟨⟨0, 0, 0, 0, 0, []⟩, 2, ?_, ?_⟩
    · unfold frame_Read frame_Read_F frame_Read_rt
      rw [device_Good_is, hg, bsome]; rfl
    · unfold ref04_Read ref04_Read_F ref04_Read_rt
      rw [ref03_Good_is, hg, bsome]; rfl
  · obtain ⟨h1, h2⟩ := Read_good hg h ha
    cases hx : (atV s img a).2
    · rw [hx, if_neg (by decide)] at h1 h2
      exact ⟨_, _, h1, h2⟩
    · rw [hx, if_pos rfl] at h1 h2
      obtain ⟨⟨p, e⟩, g1, g2, _⟩ := Get_is (a := a) hg (atV_len hg hx)
      exact ⟨p, e, h1.trans g1, h2.trans g2⟩
theorem slot_ex (s : Int) (img : List UInt8) (a : Nat) (h : img.length ≤ 1000000) (ha : a < 4294967296) : ∃ o, SlotIs s img a o := by
  obtain ⟨p, e, h1, _⟩ := Read_is s img a h ha
  by_cases he : e = 0
  · subst he
    obtain ⟨x, e2, h2, h3 | h3⟩ := meta_Of_cases s p
    · obtain ⟨rfl, _⟩ := h3
      exact ⟨_, .ok h1 h2⟩
    · obtain ⟨rfl, _⟩ := h3
      exact ⟨_, .bad h1 h2 (by decide)⟩
  · exact ⟨_, .err h1 he⟩
theorem Read_two {s : Int} {q0 q1 : List UInt8} (hg : goodB s = true) (h0 : (q0.length : Int) = s) (h1 : (q1.length : Int) = s) (i : Nat) (hi : i < 2) : frame_Read 10000 s (q0 ++ q1) i = frame_Get 10000 s i (if i = 0 then q0 else q1) := by
  have hs := goodB_le hg
  have hl : (q0 ++ q1).length = 2 * s.toNat := by rw [List.length_append]; omega
  rw [(Read_good hg (by omega) (by omega)).1]
  have hd : (q0 ++ q1).length / s.toNat = 2 := by rw [hl]; exact Nat.mul_div_cancel _ (by omega)
  have e : atV s (q0 ++ q1) i = (if i = 0 then q0 else q1, true) := by
    unfold atV
    rw [hd, if_pos hi]
    match i, hi with
    | 0, _ => rw [if_pos rfl, Nat.mul_zero, List.drop_zero, List.take_left' (by omega)]
    | 1, _ => rw [if_neg (by decide), Nat.mul_one, List.drop_left' (by omega), List.take_of_length_le (by omega)]
  rw [e, if_pos rfl]
theorem blk_page {s t : Int} {p q : Pg} (hp : PMay s p) (hq : PMay t q) (h : blk p = blk q) : p.page = q.page := by
  have h1 := hp.bd
  have h2 := hq.bd
  have r1 := room_le s
  have r2 := room_le t
  have c1 := crcV_lt (restP p) (by rw [restP_length]; omega)
  have c2 := crcV_lt (restP q) (by rw [restP_length]; omega)
  have a := frame_head_blk (n := 10000) (by omega) c1 hp.k1 hp.k2 hp.c1 hp.c2 hp.pg hp.lk hp.tx
  have b := frame_head_blk (n := 10000) (by omega) c2 hq.k1 hq.k2 hq.c1 hq.c2 hq.pg hq.lk hq.tx
  have e : (le (crcV (restP p)) 4 ++ restP p) = (le (crcV (restP q)) 4 ++ restP q) := h
  rw [e, b] at a
  have := Option.some.inj a
  have := Sum.inl.inj this
  simp only [Prod.mk.injEq] at this
  exact this.2.2.2.2.1.symm
/-- A block read by another number is an error. -/
theorem Get_wrong {s : Int} {p : Pg} {a : Nat} (hp : PMay s p) (ha : p.page ≠ a) : frame_Get 10000 s a (blk p) = some (⟨0, 0, 0, 0, 0, []⟩, 4) := by
  have hs : ((blk p).length : Int) = s := by
    have := room_add hp.good
    rw [blk_length, hp.bd]; omega
  obtain ⟨r, h1, _, ⟨q, hq, hqa, he, hr⟩ | hr⟩ := Get_is (a := a) hp.good hs
  · exact absurd ((blk_page hp hq he).trans hqa) ha
  · rw [h1, hr]
end Go.Ev
end
section
set_option linter.unusedVariables false
set_option linter.unusedSimpArgs false
namespace Go.Ev
open Go.RowKit Go.Ev.Cr
theorem xor_mul (a b n : Nat) : (a ^^^ b) * 2 ^ n = a * 2 ^ n ^^^ b * 2 ^ n := by
  rw [← Nat.shiftLeft_eq, ← Nat.shiftLeft_eq, ← Nat.shiftLeft_eq, Nat.shiftLeft_xor_distrib]
theorem lev_set : ∀ {l : List UInt8} {j : Nat} (h : j < l.length) (d : Nat) (hd : d < 256), lev (nums (l.set j (UInt8.ofNat (l[j].toNat ^^^ d)))) = lev (nums l) ^^^ d * 2 ^ (8 * j)
  | x :: C, 0, h, d, hd => by
    have hx := x.toNat_lt
    have hxd : x.toNat ^^^ d < 256 := Nat.xor_lt_two_pow (n := 8) (by omega) (by omega)
    show (UInt8.ofNat (x.toNat ^^^ d)).toNat + lev (nums C) * 256 = (x.toNat + lev (nums C) * 256) ^^^ d * 2 ^ (8 * 0)
    rw [UInt8.toNat_ofNat', Nat.mod_eq_of_lt hxd, Nat.mul_zero, Nat.pow_zero, Nat.mul_one]
    have a := join_xor 8 (lev (nums C)) (x.toNat ^^^ d) (by omega)
    have b := join_xor 8 (lev (nums C)) x.toNat (by omega)
    rw [show (2 : Nat) ^ 8 = 256 by decide] at a b
    rw [Nat.add_comm, ← a, Nat.add_comm x.toNat, ← b, Nat.xor_assoc]
  | x :: C, j + 1, h, d, hd => by
    have hx := x.toNat_lt
    have ih := lev_set (l := C) (j := j) (by simpa using h) d hd
    have hj : j < C.length := by simpa using h
    show x.toNat + lev (nums (C.set j (UInt8.ofNat (C[j].toNat ^^^ d)))) * 256 = (x.toNat + lev (nums C) * 256) ^^^ d * 2 ^ (8 * (j + 1))
    rw [ih]
    have a := join_xor 8 (lev (nums C) ^^^ d * 2 ^ (8 * j)) x.toNat (by omega)
    have b := join_xor 8 (lev (nums C)) x.toNat (by omega)
    have c : d * 2 ^ (8 * (j + 1)) = (d * 2 ^ (8 * j)) * 2 ^ 8 := by rw [show 8 * (j + 1) = 8 * j + 8 by omega, Nat.pow_add, Nat.mul_assoc]
    rw [c, Nat.add_comm, show (256 : Nat) = 2 ^ 8 by decide, ← a, Nat.add_comm x.toNat, ← b, xor_mul]
    simp only [Nat.xor_assoc]
    rw [Nat.xor_comm (d * 2 ^ (8 * j) * 2 ^ 8)]
/-- So many bytes turned. -/
def tv (l : List UInt8) (o m : Nat) : Nat → List UInt8
  | 0 => l
  | i + 1 => (tv l o m i).set (o + i) (UInt8.ofNat (((tv l o m i)[o + i]?.getD 0).toNat ^^^ m / 2 ^ (8 * i) % 256))
theorem tv_length (l : List UInt8) (o m : Nat) : ∀ i, (tv l o m i).length = l.length
  | 0 => rfl
  | i + 1 => by rw [tv, List.length_set, tv_length l o m i]
theorem tv_take (l : List UInt8) (o m k : Nat) (h : k ≤ o) : ∀ i, (tv l o m i).take k = l.take k
  | 0 => rfl
  | i + 1 => by
    rw [tv, List.take_set_of_le (by omega), tv_take l o m k h i]
theorem tv_drop (l : List UInt8) (o m k : Nat) (h : k ≤ o) : ∀ i, (tv l o m i).drop k = tv (l.drop k) (o - k) m i
  | 0 => rfl
  | i + 1 => by
    have e : o + i - k = o - k + i := by omega
    have g : ((tv l o m i).drop k)[o - k + i]? = (tv l o m i)[o + i]? := by rw [List.getElem?_drop]; congr 1; omega
    rw [tv, tv, List.drop_set, if_neg (by omega), e, tv_drop l o m k h i, ← tv_drop l o m k h i, g]
theorem tv_lev (l : List UInt8) (o m : Nat) : ∀ i, o + i ≤ l.length → lev (nums (tv l o m i)) = lev (nums l) ^^^ ((List.range i).foldl (fun s j => s ^^^ m / 2 ^ (8 * j) % 256 * 2 ^ (8 * (o + j))) 0)
  | 0, _ => by simp [tv]
  | i + 1, h => by
    have hj : o + i < (tv l o m i).length := by rw [tv_length]; omega
    rw [List.range_succ, List.foldl_append]
    show lev (nums ((tv l o m i).set (o + i) (UInt8.ofNat (((tv l o m i)[o + i]?.getD 0).toNat ^^^ m / 2 ^ (8 * i) % 256)))) = lev (nums l) ^^^ ((List.range i).foldl (fun s j => s ^^^ m / 2 ^ (8 * j) % 256 * 2 ^ (8 * (o + j))) 0 ^^^ m / 2 ^ (8 * i) % 256 * 2 ^ (8 * (o + i)))
    rw [getE hj]
    show lev (nums ((tv l o m i).set (o + i) (UInt8.ofNat ((tv l o m i)[o + i].toNat ^^^ m / 2 ^ (8 * i) % 256)))) = _
    rw [lev_set hj _ (Nat.mod_lt _ (by decide)), tv_lev l o m i (by omega), Nat.xor_assoc]
theorem mask_sum (o m : Nat) (hm : m < 4294967296) : (List.range 4).foldl (fun s j => s ^^^ m / 2 ^ (8 * j) % 256 * 2 ^ (8 * (o + j))) 0 = m * 2 ^ (8 * o) := by
  have p1 : ∀ x j, x * 2 ^ (8 * (o + j)) = x * 2 ^ (8 * j) * 2 ^ (8 * o) := fun x j => by
    rw [show 8 * (o + j) = 8 * j + 8 * o by omega, Nat.pow_add, Nat.mul_assoc]
  show (((0 ^^^ m / 2 ^ (8 * 0) % 256 * 2 ^ (8 * (o + 0))) ^^^ m / 2 ^ (8 * 1) % 256 * 2 ^ (8 * (o + 1))) ^^^ m / 2 ^ (8 * 2) % 256 * 2 ^ (8 * (o + 2))) ^^^ m / 2 ^ (8 * 3) % 256 * 2 ^ (8 * (o + 3)) = _
  rw [p1, p1, p1, p1, Nat.zero_xor, ← xor_mul, ← xor_mul, ← xor_mul]
  congr 1
  generalize h0 : m / 2 ^ (8 * 0) % 256 = d0
  generalize h1 : m / 2 ^ (8 * 1) % 256 = d1
  generalize h2 : m / 2 ^ (8 * 2) % 256 = d2
  generalize h3 : m / 2 ^ (8 * 3) % 256 = d3
  have b0 : d0 < 2 ^ 8 := by rw [← h0]; exact Nat.mod_lt _ (by decide)
  have b1 : d1 < 2 ^ 8 := by rw [← h1]; exact Nat.mod_lt _ (by decide)
  have b2 : d2 < 2 ^ 8 := by rw [← h2]; exact Nat.mod_lt _ (by decide)
  have a3 := join_xor 8 d1 d0 b0
  have a2 := join_xor 16 d2 (d1 * 2 ^ 8 + d0) (by omega)
  have a1 := join_xor 24 d3 (d2 * 2 ^ 16 + (d1 * 2 ^ 8 + d0)) (by omega)
  rw [Nat.mul_zero, Nat.pow_zero, Nat.mul_one, Nat.mul_one, Nat.xor_comm d0, a3, Nat.xor_comm _ (d2 * 2 ^ (8 * 2)), a2, Nat.xor_comm _ (d3 * 2 ^ (8 * 3)), a1]
  omega
theorem Pick_k (n : Nat) (c : Int) (m : Nat) (h : 1 ≤ m) (hm : m ≤ 1000000000) : ∃ k : Nat, k < m ∧ kit_Pick n c (m : Int) = some (k : Int) := by
  unfold kit_Pick kit_Pick_F kit_Pick_rt
  have e1 : ¬((m : Int) < 1) := by omega
  have e2 : ¬((m : Int) = 0) := by omega
  have h1 := Int.tmod_lt_of_pos c (show (0 : Int) < (m : Int) by omega)
  have h2 := Int.lt_tmod_of_pos c (show (0 : Int) < (m : Int) by omega)
  simp only [e1, e2, decide_false, cond_false, ne_eq, not_false_eq_true, decide_true, cond_true]
  by_cases h3 : Int.tmod c (m : Int) < 0
  · simp only [h3, decide_true, cond_true]
    refine ⟨(Int.tmod c (m : Int) + (m : Int)).toNat, by omega, ?_⟩
    rw [w64_id (by omega) (by omega), Int.toNat_of_nonneg (by omega)]
  · simp only [h3, decide_false, cond_false]
    exact ⟨(Int.tmod c (m : Int)).toNat, by omega, by rw [Int.toNat_of_nonneg (by omega)]⟩
theorem Turned_loop (n : Nat) (l : List UInt8) (o m : Nat) (hl : l.length ≤ 9000) (ho : o + 4 ≤ l.length) (hm : m < 4294967296) : ∀ (k i : Nat), 4 < k + i → i ≤ 4 → kit_Turned_L7 n k (o : Int) m (i : Int) (tv l o m i) = some (tv l o m 4) := by
  intro k
  induction k with
  | zero => intro i h1 h2; omega
  | succ k ih =>
    intro i h1 h2
    unfold kit_Turned_L7 kit_Turned_L7F kit_Turned_rt
    by_cases hi : i < 4
    · have e1 : ((i : Int) < 4) := by omega
      have e2 : w64 ((o : Int) + (i : Int)) = ((o + i : Nat) : Int) := by rw [w64_id (by omega) (by omega)]; omega
      have e3 : o + i < (tv l o m i).length := by rw [tv_length]; omega
      have e4 : u64 (w64 (8 * (i : Int))) = 8 * i := by rw [w64_id (by omega) (by omega), show 8 * (i : Int) = ((8 * i : Nat) : Int) by omega, u64_of (by omega)]
      have e5 : Nat.ble (8 * i) 32 = true := ble_of (by omega)
      simp only [e1, decide_true, cond_true, e2, Int.natCast_nonneg, Int.toNat_natCast, e3, Bool.and_self, getE e3, bsome, e4, e5]
      rw [w64_id (by omega) (by omega)]
      have e6 : UInt8.ofNat ((tv l o m i)[o + i].toNat % 256 ^^^ (UInt8.ofNat (m / 2 ^ (8 * i))).toNat % 256) = UInt8.ofNat (((tv l o m i)[o + i]?.getD 0).toNat ^^^ m / 2 ^ (8 * i) % 256) := by
        rw [getE e3]
        have := (tv l o m i)[o + i].toNat_lt
        rw [UInt8.toNat_ofNat', Nat.mod_eq_of_lt (show (tv l o m i)[o + i].toNat < 256 by omega), Nat.mod_mod]
        rfl
      rw [e6]
      exact ih (i + 1) (by omega) (by omega)
    · have e1 : ¬((i : Int) < 4) := by omega
      obtain rfl : i = 4 := by omega
      simp only [e1, decide_false, cond_false]
theorem Turned_is {l : List UInt8} (c : Int) {m : Nat} (h8 : 8 ≤ l.length) (hl : l.length ≤ 9000) (hm : m < 4294967296) : ∃ o, 4 ≤ o ∧ o + 4 ≤ l.length ∧ kit_Turned 10000 l c m = some (tv l o m 4) := by
  obtain ⟨k, hk, he⟩ := Pick_k 10000 c (l.length - 7) (by omega) (by omega)
  refine ⟨4 + k, by omega, by omega, ?_⟩
  unfold kit_Turned kit_Turned_F
  have e1 : ¬((l.length : Int) < 8) := by omega
  simp only [e1, decide_false, cond_false]
  have e2 : w64 ((l.length : Int) - 7) = ((l.length - 7 : Nat) : Int) := by rw [w64_id (by omega) (by omega)]; omega
  rw [e2, he, bsome]
  have e3 : w64 (4 + (k : Int)) = ((4 + k : Nat) : Int) := by rw [w64_id (by omega) (by omega)]; omega
  rw [e3]
  exact Turned_loop 10000 l (4 + k) m hl (by omega) hm 10000 0 (by omega) (by omega)
theorem le4_inj {a b : Nat} {x y : List UInt8} (ha : a < 4294967296) (hb : b < 4294967296) (h : le a 4 ++ x = le b 4 ++ y) : a = b ∧ x = y := by
  obtain ⟨h1, h2⟩ := List.append_inj h (by rw [le_length, le_length])
  have h1 := congrArg ofLe h1
  rw [ofLe_le, ofLe_le] at h1
  exact ⟨by omega, h2⟩
/-- A turned block is not read. -/
theorem Get_turned {p : Pg} {s : Int} (hp : PMay s p) {o m : Nat} (ho : 4 ≤ o) (ho2 : o + 4 ≤ (blk p).length) (hm : m < 4294967296) (h0 : m ≠ 0) (a : Nat) : frame_Get 10000 s a (tv (blk p) o m 4) = some (⟨0, 0, 0, 0, 0, []⟩, 4) := by
  have hbl : ((blk p).length : Int) = s := by
    have := room_add hp.good
    rw [blk_length, hp.bd]; omega
  have hgs := goodB_le hp.good
  have hrl : (restP p).length = (blk p).length - 4 := by rw [restP_length, blk_length]; omega
  obtain ⟨r, h1, _, ⟨q, hq, hqa, he, hr⟩ | hr⟩ := Get_is (a := a) (l := tv (blk p) o m 4) hp.good (by rw [tv_length]; exact hbl)
  · exfalso
    have hbq : (blk q).length = (blk p).length := by rw [← he, tv_length]
    have hrq : (restP q).length = (restP p).length := by
      have h1 := hbq
      rw [blk_length, blk_length] at h1
      rw [restP_length, restP_length]; omega
    have hd : restP q = tv (restP p) (o - 4) m 4 := by
      rw [← blk_drop q, ← he, tv_drop _ _ _ _ ho, blk_drop]
    have ht : (tv (blk p) o m 4).take 4 = (blk p).take 4 := tv_take _ _ _ _ ho 4
    rw [he] at ht
    have e1 : (blk q).take 4 = le (crcV (restP q)) 4 := List.take_left' (le_length _ _)
    have e2 : (blk p).take 4 = le (crcV (restP p)) 4 := List.take_left' (le_length _ _)
    rw [e1, e2] at ht
    have hc : crcV (restP q) = crcV (restP p) := (le4_inj (x := []) (y := []) (crcV_lt _ (by omega)) (crcV_lt _ (by omega)) (by rw [ht])).1
    rw [crcV_is (by omega), crcV_is (by omega), hd] at hc
    refine crcN_burst (nums (restP p)) (nums (tv (restP p) (o - 4) m 4)) (by rw [nums_length, nums_length, tv_length]) (nums_lt _) (nums_lt _) m (8 * (o - 4)) (by omega) h0 (by rw [nums_length]; omega) ?_ hc.symm
    rw [tv_lev _ _ _ 4 (by omega), mask_sum _ _ hm, ← Nat.xor_assoc, Nat.xor_self, Nat.zero_xor]
  · rw [h1, hr]
end Go.Ev
end
section
set_option linter.unusedVariables false
set_option linter.unusedSimpArgs false
namespace Go.Ev
open Go.RowKit
theorem nw_lives : law05_lives 10000 = some true := by kernel_rfl
theorem ngood : goodB 128 = true := by decide
inductive NH : List UInt8 → Nat → Option Mta → Prop
  | ok {i : Nat} {m : Mta} (h : MMay m) (hs : m.size = 128) (hi : m.tx % 2 = i) : NH (blk (mpg m)) i (some m)
  | bad {i : Nat} {q : List UInt8} (hl : q.length = 128) (h : frame_Get 10000 128 i q = some (⟨0, 0, 0, 0, 0, []⟩, 4)) : NH q i none
theorem nblk {m : Mta} (h : MMay m) (hs : m.size = 128) : (blk (mpg m)).length = 128 := by
  have := room_add h.good
  have h2 := (mpg_may h).bd
  rw [blk_length, h2]; omega
theorem NH.len {q : List UInt8} {i : Nat} {o : Option Mta} (h : NH q i o) : q.length = 128 := by
  cases h with
  | ok h hs hi => exact nblk h hs
  | bad hl h => exact hl
theorem NH.slots {q0 q1 : List UInt8} {a b : Option Mta} (h0 : NH q0 0 a) (h1 : NH q1 1 b) : SlotIs 128 (q0 ++ q1) 0 a ∧ SlotIs 128 (q0 ++ q1) 1 b := by
  have l0 := h0.len
  have l1 := h1.len
  have key : ∀ (i : Nat) (hi : i < 2) (q : List UInt8) (o : Option Mta), q = (if i = 0 then q0 else q1) → NH q i o → SlotIs 128 (q0 ++ q1) i o := by
    intro i hi q o hq h
    have hR := Read_two ngood (q0 := q0) (q1 := q1) (by omega) (by omega) i hi
    rw [← hq] at hR
    cases h with
    | bad hl h => exact .err (hR.trans h) (by decide)
    | ok h hs hx =>
      rename_i m
      have hg := frame_Get_fit (mpg_may h)
      have hp : (mpg m).page = i := hx
      rw [hs, hp] at hg
      refine .ok (hR.trans hg) ?_
      rw [meta_Of_mpg h, if_pos hs]
  exact ⟨key 0 (by omega) _ _ (by rw [if_pos rfl]) h0, key 1 (by omega) _ _ (by rw [if_neg (by decide)]) h1⟩
theorem turn_bad {m : Mta} (h : MMay m) (hs : m.size = 128) (c : Int) {mask : Nat} (hm : mask < 4294967296) (h0 : mask ≠ 0) (i : Nat) : ∃ t, kit_Turned 10000 (blk (mpg m)) c mask = some t ∧ NH t i none := by
  have hl := nblk h hs
  obtain ⟨o, o1, o2, he⟩ := Turned_is (l := blk (mpg m)) c (by omega) (by omega) hm
  have hp := mpg_may h
  rw [hs] at hp
  exact ⟨_, he, .bad (by rw [tv_length]; exact hl) (Get_turned hp o1 o2 hm h0 i)⟩
theorem nx0 (a b : List UInt8) : [a, b][(0 : Nat)]? = some a := rfl
theorem nx1 (a b : List UInt8) : [a, b][(1 : Nat)]? = some b := rfl
theorem ns0 (a b c : List UInt8) : List.set [a, b] 0 c = [c, b] := rfl
theorem ns1 (a b c : List UInt8) : List.set [a, b] 1 c = [a, c] := rfl
theorem nw0 : w64 (1 - ((0 : Nat) : Int)) = ((1 : Nat) : Int) := by decide
theorem nw1 : w64 (1 - ((1 : Nat) : Int)) = ((0 : Nat) : Int) := by decide
theorem nb0 : Nat.ble (Nat.succ 0) 2 = true := rfl
theorem nb1 : Nat.ble (Nat.succ 1) 2 = true := rfl
theorem nw_fin {t0 t1 : List UInt8} (h0 : NH t0 0 none) (h1 : NH t1 1 none) : meta_Newest 10000 128 (t0 ++ t1) = some (mz, 5) := by
  obtain ⟨s0, s1⟩ := NH.slots h0 h1
  rw [newest_is ngood s0 s1]; rfl
theorem nw_cat {a b : List UInt8} (h0 : a.length = 128) (h1 : b.length = 128) : a.length + b.length ≤ 4611686018427387904 := by omega
theorem nw_J20a {m : Mta} (h : MMay m) (hs : m.size = 128) (c : Int) {mask : Nat} (hm : mask < 4294967296) (h0 : mask ≠ 0) {t : List UInt8} (ht : NH t 0 none) (x y : Mta) :
    law05_MetaNewer_J20 10000 ((0 : Nat) : Int) c mask 0 0 x x y [t, blk (mpg m)] y = some true := by
  obtain ⟨u, hu, hn⟩ := turn_bad h hs c hm h0 1
  have hc := nw_cat ht.len hn.len
  unfold law05_MetaNewer_J20 law05_MetaNewer_J20F law05_MetaNewer_rt
  simp only [nw0, Int.toNat_natCast, Int.natCast_nonneg, nb1, decide_true, Bool.and_self, cond_true, nx1, bsome, hu, ns1, nx0, hc, nw_fin ht hn, mta_eq]
theorem nw_J20b {m : Mta} (h : MMay m) (hs : m.size = 128) (c : Int) {mask : Nat} (hm : mask < 4294967296) (h0 : mask ≠ 0) {t : List UInt8} (ht : NH t 1 none) (x y : Mta) :
    law05_MetaNewer_J20 10000 ((1 : Nat) : Int) c mask 0 0 x x y [blk (mpg m), t] y = some true := by
  obtain ⟨u, hu, hn⟩ := turn_bad h hs c hm h0 0
  have hc := nw_cat hn.len ht.len
  unfold law05_MetaNewer_J20 law05_MetaNewer_J20F law05_MetaNewer_rt
  simp only [nw1, Int.toNat_natCast, Int.natCast_nonneg, nb0, decide_true, Bool.and_self, cond_true, nx0, bsome, hu, ns0, nx1, hc, nw_fin hn ht, mta_eq]
theorem nw_J11 {m1 m2 : Mta} (h1 : MMay m1) (h2 : MMay m2) (s1 : m1.size = 128) (s2 : m2.size = 128) (ht : m2.tx = m1.tx + 1) (pk c : Int) {mask : Nat} (hm : mask < 4294967296) (h0 : mask ≠ 0) :
    law05_MetaNewer_J11 10000 pk c mask m2 m1 = some true := by
  have e1 : Mta.mk m1.tx m1.size m1.root m1.free m1.pages = m1 := rfl
  have e2 : Mta.mk m2.tx m2.size m2.root m2.free m2.pages = m2 := rfl
  have l1 := nblk h1 s1
  have l2 := nblk h2 s2
  have c12 := nw_cat l1 l2
  have c21 := nw_cat l2 l1
  obtain ⟨k, hk, hp⟩ := Pick_k 10000 pk 2 (by omega) (by omega)
  have hp : kit_Pick 10000 pk 2 = some (k : Int) := hp
  unfold law05_MetaNewer_J11 law05_MetaNewer_J11F
  rw [e1, e2, block_is h1, bsome, block_is h2, bsome]
  rcases Nat.mod_two_eq_zero_or_one m1.tx with hz | hz
  · have hz2 : m2.tx % 2 = 1 := by omega
    obtain ⟨sa, sb⟩ := NH.slots (.ok h1 s1 hz) (.ok h2 s2 hz2)
    have hn := newest_is ngood sa sb
    have hT : newT (some m1) (some m2) = (m2, 0) := by
      show (if m1.tx < m2.tx then (m2, (0 : Int)) else (m1, 0)) = _
      rw [if_pos (by omega)]
    rw [hT] at hn
    simp only [slot_is, hz, hz2, nb0, nb1, Bool.and_self, cond_true, nx0, nx1, ns0, ns1, bsome, c12, decide_true, hn, hp]
    match k, hk with
    | 0, _ =>
      obtain ⟨u, hu, hb⟩ := turn_bad h1 s1 c hm h0 0
      have cu := nw_cat hb.len l2
      obtain ⟨ta, tb⟩ := NH.slots hb (.ok h2 s2 hz2)
      have hn2 := newest_is ngood ta tb
      have hT2 : newT none (some m2) = (m2, 0) := rfl
      rw [hT2] at hn2
      have hne : (1 : Nat) ≠ u32 (((0 : Nat)) : Int) := by rw [u32_small (by omega)]; decide
      simp only [Int.toNat_natCast, Int.natCast_nonneg, nb0, nb1, Bool.and_self, cond_true, nx0, nx1, ns0, ns1, bsome, hu, cu, decide_true, hn2, hne, ne_eq, not_false_eq_true]
      exact nw_J20a h2 s2 c hm h0 hb m2 m2
    | 1, _ =>
      obtain ⟨u, hu, hb⟩ := turn_bad h2 s2 c hm h0 1
      have cu := nw_cat l1 hb.len
      obtain ⟨ta, tb⟩ := NH.slots (.ok h1 s1 hz) hb
      have hn2 := newest_is ngood ta tb
      have hT2 : newT (some m1) none = (m1, 0) := rfl
      rw [hT2] at hn2
      have hne : u32 (((1 : Nat)) : Int) = 1 := by rw [u32_small (by omega)]
      simp only [Int.toNat_natCast, Int.natCast_nonneg, nb0, nb1, Bool.and_self, cond_true, nx0, nx1, ns0, ns1, bsome, hu, cu, decide_true, hn2, hne, ne_eq, not_true_eq_false, decide_false, cond_false]
      exact nw_J20b h1 s1 c hm h0 hb m1 m2
  · have hz2 : m2.tx % 2 = 0 := by omega
    obtain ⟨sa, sb⟩ := NH.slots (.ok h2 s2 hz2) (.ok h1 s1 hz)
    have hn := newest_is ngood sa sb
    have hT : newT (some m2) (some m1) = (m2, 0) := by
      show (if m2.tx < m1.tx then (m1, (0 : Int)) else (m2, 0)) = _
      rw [if_neg (by omega)]
    rw [hT] at hn
    simp only [slot_is, hz, hz2, nb0, nb1, Bool.and_self, cond_true, nx0, nx1, ns0, ns1, bsome, c21, decide_true, hn, hp]
    match k, hk with
    | 0, _ =>
      obtain ⟨u, hu, hb⟩ := turn_bad h2 s2 c hm h0 0
      have cu := nw_cat hb.len l1
      obtain ⟨ta, tb⟩ := NH.slots hb (.ok h1 s1 hz)
      have hn2 := newest_is ngood ta tb
      have hT2 : newT none (some m1) = (m1, 0) := rfl
      rw [hT2] at hn2
      have hne : u32 (((0 : Nat)) : Int) = 0 := by rw [u32_small (by omega)]
      simp only [Int.toNat_natCast, Int.natCast_nonneg, nb0, nb1, Bool.and_self, cond_true, nx0, nx1, ns0, ns1, bsome, hu, cu, decide_true, hn2, hne, ne_eq, not_true_eq_false, decide_false, cond_false]
      exact nw_J20a h1 s1 c hm h0 hb m1 m2
    | 1, _ =>
      obtain ⟨u, hu, hb⟩ := turn_bad h1 s1 c hm h0 1
      have cu := nw_cat l2 hb.len
      obtain ⟨ta, tb⟩ := NH.slots (.ok h2 s2 hz2) hb
      have hn2 := newest_is ngood ta tb
      have hT2 : newT (some m2) none = (m2, 0) := rfl
      rw [hT2] at hn2
      have hne : (0 : Nat) ≠ u32 (((1 : Nat)) : Int) := by rw [u32_small (by omega)]; decide
      simp only [Int.toNat_natCast, Int.natCast_nonneg, nb0, nb1, Bool.and_self, cond_true, nx0, nx1, ns0, ns1, bsome, hu, cu, decide_true, hn2, hne, ne_eq, not_false_eq_true]
      exact nw_J20b h2 s2 c hm h0 hb m2 m2
theorem metaNewer_m (m : Mta) (r f : Nat) (pk c : Int) (mask : Nat) (hm : mask < 4294967296) : law05_MetaNewer 10000 m r f pk c mask = some true := by
  unfold law05_MetaNewer law05_MetaNewer_F law05_MetaNewer_rt
  rw [nw_lives, bsome]
  simp only [Bool.not_true, cond_false]
  rw [meta_Page_is, bsome, meta_Page_is, bsome]
  by_cases h1 : mmayB (Mta.mk m.tx 128 m.root m.free m.pages) = true
  · rw [if_pos h1]
    by_cases h2 : mmayB (Mta.mk ((m.tx + 1) % 18446744073709551616) 128 r f m.pages) = true
    · rw [if_pos h2]
      simp only [ne_eq, not_true_eq_false, decide_false, cond_false]
      by_cases h3 : mask = 0
      · simp only [h3, decide_true, cond_true]
      simp only [h3, decide_false, cond_false]
      have k1 := mmay_iff.1 h1
      have k2 := mmay_iff.1 h2
      have ht := k1.tx
      have ht : m.tx ≤ 4611686018427387904 := ht
      exact nw_J11 k1 k2 rfl rfl (by show (m.tx + 1) % 18446744073709551616 = m.tx + 1; omega) pk c hm h3
    · rw [if_neg h2]
      simp only [ne_eq, not_true_eq_false, decide_false, cond_false, show ¬((2 : Int) = 0) by decide, not_false_eq_true, decide_true, cond_true]
  · rw [if_neg h1]
    simp only [ne_eq, show ¬((2 : Int) = 0) by decide, not_false_eq_true, decide_true, cond_true]
end Go.Ev
end