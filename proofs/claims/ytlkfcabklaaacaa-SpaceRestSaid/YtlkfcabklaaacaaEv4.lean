/- Words of my own: operations of the evaluator over numbers and strings, short, each proved right. -/
import Derived.Test.YtlkfcabklaaacaaEv3
import Derived.Lib.Strings
import Derived.IntWalk
set_option linter.unusedVariables false
set_option linter.unusedSimpArgs false
namespace Go.Ev
open Go.RowKit
theorem ble_iff {a b : Nat} : Nat.ble a b = true ↔ a ≤ b := ⟨Nat.le_of_ble_eq_true, Nat.ble_eq_true_of_le⟩
noncomputable def fits (k : IntKind) (n : Int) : Bool :=
  Int.rec (motive := fun _ => Bool) (fun m => Nat.ble m (IntKind.rec (motive := fun _ => Nat) 127 32767 2147483647 9223372036854775807 255 65535 4294967295 18446744073709551615 k))
    (fun m => Nat.ble (Nat.succ m) (IntKind.rec (motive := fun _ => Nat) 128 32768 2147483648 9223372036854775808 0 0 0 0 k)) n
theorem fits_wrap {k : IntKind} {n : Int} (h : fits k n = true) : k.wrap n = n := by
  cases n with
  | ofNat m =>
    have h1 : Nat.ble m (IntKind.rec (motive := fun _ => Nat) 127 32767 2147483647 9223372036854775807 255 65535 4294967295 18446744073709551615 k) = true := h
    rw [ble_iff] at h1
    show k.wrap ((m : Nat) : Int) = ((m : Nat) : Int)
    cases k
    · exact IntWalk.i8_in _ ⟨by omega, by exact Int.ofNat_le.2 h1⟩
    · exact IntWalk.i16_in _ ⟨by omega, by exact Int.ofNat_le.2 h1⟩
    · exact IntWalk.i32_in _ ⟨by omega, by exact Int.ofNat_le.2 h1⟩
    · exact IntWalk.i64_in _ ⟨by omega, by exact Int.ofNat_le.2 h1⟩
    · exact IntWalk.u8_in _ ⟨by omega, by exact Int.ofNat_le.2 h1⟩
    · exact IntWalk.u16_in _ ⟨by omega, by exact Int.ofNat_le.2 h1⟩
    · exact IntWalk.u32_in _ ⟨by omega, by exact Int.ofNat_le.2 h1⟩
    · exact IntWalk.u64_in _ ⟨by omega, by exact Int.ofNat_le.2 h1⟩
  | negSucc m =>
    have h1 : Nat.ble (Nat.succ m) (IntKind.rec (motive := fun _ => Nat) 128 32768 2147483648 9223372036854775808 0 0 0 0 k) = true := h
    rw [ble_iff] at h1
    rw [Int.negSucc_eq]
    cases k
    · have h2 : m + 1 ≤ 128 := h1; exact IntWalk.i8_in _ ⟨by omega, by omega⟩
    · have h2 : m + 1 ≤ 32768 := h1; exact IntWalk.i16_in _ ⟨by omega, by omega⟩
    · have h2 : m + 1 ≤ 2147483648 := h1; exact IntWalk.i32_in _ ⟨by omega, by omega⟩
    · have h2 : m + 1 ≤ 9223372036854775808 := h1; exact IntWalk.i64_in _ ⟨by omega, by omega⟩
    all_goals exact absurd h1 (Nat.not_succ_le_zero m)
noncomputable def wrapF (k : IntKind) (n : Int) : Int := Bool.rec (motive := fun _ => Int) (k.wrap n) n (fits k n)
theorem wrapF_eq (k : IntKind) (n : Int) : wrapF k n = k.wrap n := by
  unfold wrapF
  cases h : fits k n with
  | false => rfl
  | true => exact (fits_wrap h).symm
noncomputable def leI (x y : Int) : Bool :=
  Int.rec (motive := fun _ => Bool) (fun a => Int.rec (motive := fun _ => Bool) (fun b => Nat.ble a b) (fun _ => false) y) (fun a => Int.rec (motive := fun _ => Bool) (fun _ => true) (fun b => Nat.ble b a) y) x
theorem leI_eq (x y : Int) : leI x y = decide (x ≤ y) := by
  cases x with
  | ofNat a => cases y with
    | ofNat b =>
      show Nat.ble a b = _
      by_cases h : a ≤ b
      · rw [ble_iff.2 h]; exact (decide_eq_true (Int.ofNat_le.2 h)).symm
      · rw [Bool.eq_false_iff.2 (fun hh => h (ble_iff.1 hh))]; exact (decide_eq_false (fun hh => h (Int.ofNat_le.1 hh))).symm
    | negSucc b => exact (decide_eq_false (by show ¬ ((a : Nat) : Int) ≤ _; omega)).symm
  | negSucc a => cases y with
    | ofNat b => exact (decide_eq_true (by show _ ≤ ((b : Nat) : Int); omega)).symm
    | negSucc b =>
      show Nat.ble b a = _
      by_cases h : b ≤ a
      · rw [ble_iff.2 h]; exact (decide_eq_true (by omega)).symm
      · rw [Bool.eq_false_iff.2 (fun hh => h (ble_iff.1 hh))]; exact (decide_eq_false (by omega)).symm
noncomputable def eqI (x y : Int) : Bool :=
  Int.rec (motive := fun _ => Bool) (fun a => Int.rec (motive := fun _ => Bool) (fun b => Nat.beq a b) (fun _ => false) y) (fun a => Int.rec (motive := fun _ => Bool) (fun _ => false) (fun b => Nat.beq a b) y) x
theorem beq_dec (a b : Nat) : Nat.beq a b = decide (a = b) := by
  by_cases h : a = b
  · rw [h, Nat.beq_refl]; simp
  · simp only [h, decide_false]
    cases hb : Nat.beq a b
    · rfl
    · exact absurd (Nat.eq_of_beq_eq_true hb) h
theorem eqI_eq (x y : Int) : eqI x y = (x == y) := by
  rw [show (x == y) = decide (x = y) from rfl]
  cases x with
  | ofNat a => cases y with
    | ofNat b => exact (beq_dec a b).trans (by simp [Int.ofNat_inj])
    | negSucc b => exact (decide_eq_false (by show ¬ ((a : Nat) : Int) = _; omega)).symm
  | negSucc a => cases y with
    | ofNat b => exact (decide_eq_false (by show ¬ _ = ((b : Nat) : Int); omega)).symm
    | negSucc b => exact (beq_dec a b).trans (by simp)
/-- Bit by bit. -/
noncomputable def bit2 (f : Nat → Nat → Nat) (k : IntKind) (x y : Int) : Option Value :=
  Int.rec (motive := fun _ => Option Value) (fun a => Int.rec (motive := fun _ => Option Value) (fun b => some (.int k (wrapF k (Int.ofNat (f (Nat.mod a (Nat.pow 2 k.bits)) (Nat.mod b (Nat.pow 2 k.bits))))))) (fun _ => none) y) (fun _ => none) x
theorem bit2_ok {f : Nat → Nat → Nat} {k : IntKind} {x y : Int} {v : Value} (h : bit2 f k x y = some v) : v = .int k (k.wrap (Int.ofNat (f (BitVec.ofInt k.bits x).toNat (BitVec.ofInt k.bits y).toNat))) := by
  cases x with
  | negSucc a => cases h
  | ofNat a => cases y with
    | negSucc b => cases h
    | ofNat b =>
      obtain rfl := Option.some.inj h
      have e : ∀ a : Nat, (BitVec.ofInt k.bits (Int.ofNat a)).toNat = Nat.mod a (Nat.pow 2 k.bits) := by
        intro a
        show (BitVec.ofInt k.bits ((a : Nat) : Int)).toNat = _
        rw [BitVec.ofInt_natCast, BitVec.toNat_ofNat]
        rfl
      rw [wrapF_eq, e, e]
/-- Operators over two whole numbers of one kind. -/
noncomputable def intOp (op : BinOp) (k : IntKind) (x y : Int) : Option Value :=
  match op with
  | .add => some (.int k (wrapF k (Int.add x y)))
  | .sub => some (.int k (wrapF k (Int.sub x y)))
  | .mul => some (.int k (wrapF k (Int.mul x y)))
  | .quo => Bool.rec (motive := fun _ => Option Value) (some (.int k (wrapF k (Int.tdiv x y)))) none (eqI y 0)
  | .rem => Bool.rec (motive := fun _ => Option Value) (some (.int k (Int.tmod x y))) none (eqI y 0)
  | .eql => some (.bool (eqI x y))
  | .neq => some (.bool (Bool.rec (motive := fun _ => Bool) true false (eqI x y)))
  | .lss => some (.bool (Bool.rec (motive := fun _ => Bool) true false (leI y x)))
  | .leq => some (.bool (leI x y))
  | .gtr => some (.bool (Bool.rec (motive := fun _ => Bool) true false (leI x y)))
  | .geq => some (.bool (leI y x))
  | .and => bit2 Nat.land k x y
  | .or => bit2 Nat.lor k x y
  | .xor => bit2 Nat.xor k x y
  | _ => none
theorem neg_rec (b : Bool) : Bool.rec (motive := fun _ => Bool) true false b = !b := by cases b <;> rfl
theorem intOp_ok {C : Cfg} {op : BinOp} {k : IntKind} {x y : Int} {v : Value} (h : intOp op k x y = some v) (t : TypeId) (w : World) : (binOp op t (.int k x) (.int k y)).run C.P w = .ok v w := by
  cases op <;> simp only [intOp] at h
  case add => obtain rfl := Option.some.inj h; simp [binOp, Op.intArith, wrapF_eq]
  case sub => obtain rfl := Option.some.inj h; simp [binOp, Op.intArith, wrapF_eq]; rfl
  case mul => obtain rfl := Option.some.inj h; simp [binOp, Op.intArith, wrapF_eq]
  case quo =>
    cases h0 : eqI y 0 <;> rw [h0] at h
    · obtain rfl := Option.some.inj h
      rw [eqI_eq] at h0
      simp at h0
      simp [binOp, Op.intDiv, wrapF_eq, h0]
    · cases h
  case rem =>
    cases h0 : eqI y 0 <;> rw [h0] at h
    · obtain rfl := Option.some.inj h
      rw [eqI_eq] at h0
      simp at h0
      simp [binOp, Op.intDiv, h0]
    · cases h
  case eql => obtain rfl := Option.some.inj h; simp [binOp, Op.intCmp, eqI_eq]
  case neq => obtain rfl := Option.some.inj h; rw [neg_rec, eqI_eq]; simp [binOp, Op.intCmp]; rfl
  case lss => obtain rfl := Option.some.inj h; rw [neg_rec, leI_eq]; simp [binOp, Op.intCmp]; by_cases hh : x < y <;> simp [hh] <;> omega
  case leq => obtain rfl := Option.some.inj h; rw [leI_eq]; simp [binOp, Op.intCmp]
  case gtr => obtain rfl := Option.some.inj h; rw [neg_rec, leI_eq]; simp [binOp, Op.intCmp]; by_cases hh : y < x <;> simp [hh] <;> omega
  case geq => obtain rfl := Option.some.inj h; rw [leI_eq]; simp [binOp, Op.intCmp]
  case and => obtain rfl := bit2_ok h; simp only [binOp, Op.intBits, BitVec.toNat_and, ne_eq, not_true_eq_false, if_false]; rfl
  case or => obtain rfl := bit2_ok h; simp only [binOp, Op.intBits, BitVec.toNat_or, ne_eq, not_true_eq_false, if_false]; rfl
  case xor => obtain rfl := bit2_ok h; simp only [binOp, Op.intBits, BitVec.toNat_xor, ne_eq, not_true_eq_false, if_false]; rfl
  all_goals cases h
/-- Shifts of what is not negative. -/
noncomputable def minF (n k : Nat) : Nat := Bool.rec (motive := fun _ => Nat) k n (Nat.ble n k)
noncomputable def shOp2 (op : BinOp) (k : IntKind) (m n : Nat) : Option Value :=
  match op with
  | .shr => some (.int k (Int.ofNat (Nat.div m (Nat.pow 2 (minF n k.bits)))))
  | .shl => some (.int k (wrapF k (Int.ofNat (Nat.mul m (Nat.pow 2 (minF n k.bits))))))
  | _ => none
noncomputable def shOp (op : BinOp) (k : IntKind) (x y : Int) : Option Value :=
  Int.rec (motive := fun _ => Option Value) (fun m => Int.rec (motive := fun _ => Option Value) (fun n => shOp2 op k m n) (fun _ => none) y) (fun _ => none) x
theorem shOp_ok {C : Cfg} {op : BinOp} {k k' : IntKind} {x y : Int} {v : Value} (h : shOp op k x y = some v) (t : TypeId) (w : World) : (binOp op t (.int k x) (.int k' y)).run C.P w = .ok v w ∧ ∃ n, v = .int k n := by
  cases x with
  | negSucc m => cases h
  | ofNat m => cases y with
    | negSucc n => cases h
    | ofNat n =>
      have hm : minF n k.bits = min n k.bits := by
        unfold minF
        cases hb : Nat.ble n k.bits
        · have : ¬ n ≤ k.bits := fun h => by rw [ble_iff.2 h] at hb; cases hb
          show k.bits = _
          omega
        · have := ble_iff.1 hb
          show n = _
          omega
      have h : shOp2 op k m n = some v := h
      unfold shOp2 at h
      have hn : ¬ ((Int.ofNat n) < 0) := by show ¬ ((n : Int) < 0); omega
      split at h
      · obtain rfl := Option.some.inj h
        rw [hm]
        refine ⟨?_, _, rfl⟩
        simp only [binOp, Op.shift, if_neg hn]
        rw [show (Int.ofNat n).toNat = n from rfl]
        have e : (Int.ofNat m).fdiv (2 ^ min n k.bits) = Int.ofNat (Nat.div m (Nat.pow 2 (min n k.bits))) := by
          show ((m : Nat) : Int).fdiv (2 ^ min n k.bits) = ((m / 2 ^ min n k.bits : Nat) : Int)
          rw [Int.ofNat_fdiv, Int.natCast_pow]
          rfl
        rw [e]
        rfl
      · obtain rfl := Option.some.inj h
        rw [hm, wrapF_eq]
        refine ⟨?_, _, rfl⟩
        simp only [binOp, Op.shift, if_neg hn]
        rw [show (Int.ofNat n).toNat = n from rfl]
        have e : (Int.ofNat m) * (2 ^ min n k.bits) = Int.ofNat (Nat.mul m (Nat.pow 2 (min n k.bits))) := by
          show ((m : Nat) : Int) * (2 ^ min n k.bits) = ((m * 2 ^ min n k.bits : Nat) : Int)
          rw [Int.natCast_mul, Int.natCast_pow]
          rfl
        rw [e]
        rfl
      · cases h
/-- Strings, byte by byte. -/
noncomputable def eqB (l : List UInt8) : List UInt8 → Bool :=
  List.rec (motive := fun _ => List UInt8 → Bool) (fun k => List.rec (motive := fun _ => Bool) true (fun _ _ _ => false) k)
    (fun a _ ih k => List.rec (motive := fun _ => Bool) false (fun b r _ => Bool.rec (motive := fun _ => Bool) false (ih r) (Nat.beq a.toNat b.toNat)) k) l
theorem eqB_eq : ∀ (l k : List UInt8), eqB l k = (l == k)
  | [], [] => rfl
  | [], _ :: _ => rfl
  | _ :: _, [] => rfl
  | a :: l, b :: k => by
    show Bool.rec (motive := fun _ => Bool) false (eqB l k) (Nat.beq a.toNat b.toNat) = _
    rw [beq_dec, eqB_eq l k, List.cons_beq_cons]
    by_cases h : a = b
    · simp [h]
    · have : a.toNat ≠ b.toNat := fun hh => h (UInt8.toNat_inj.1 hh)
      simp [h, this]
noncomputable def ltB (l : List UInt8) : List UInt8 → Bool :=
  List.rec (motive := fun _ => List UInt8 → Bool) (fun k => List.rec (motive := fun _ => Bool) false (fun _ _ _ => true) k)
    (fun a _ ih k => List.rec (motive := fun _ => Bool) false (fun b r _ => Bool.rec (motive := fun _ => Bool) (Bool.rec (motive := fun _ => Bool) false (ih r) (Nat.beq a.toNat b.toNat)) true (Nat.ble (Nat.succ a.toNat) b.toNat)) k) l
theorem ltB_eq : ∀ (l k : List UInt8), ltB l k = Op.bytesLess l k
  | [], [] => rfl
  | [], _ :: _ => rfl
  | _ :: _, [] => rfl
  | a :: l, b :: k => by
    show Bool.rec (motive := fun _ => Bool) (Bool.rec (motive := fun _ => Bool) false (ltB l k) (Nat.beq a.toNat b.toNat)) true (Nat.ble (Nat.succ a.toNat) b.toNat) = _
    rw [ltB_eq l k, beq_dec]
    rw [show Op.bytesLess (a :: l) (b :: k) = (a < b || (a == b && Op.bytesLess l k)) from rfl]
    have e : Nat.ble (Nat.succ a.toNat) b.toNat = decide (a < b) := by
      by_cases h : a < b
      · rw [decide_eq_true h]; exact ble_iff.2 (UInt8.lt_iff_toNat_lt.1 h)
      · rw [decide_eq_false h]; exact Bool.eq_false_iff.2 fun hh => h (UInt8.lt_iff_toNat_lt.2 (ble_iff.1 hh))
    rw [e]
    by_cases h : a = b
    · subst h; by_cases h2 : a < a <;> simp [h2]
    · have : a.toNat ≠ b.toNat := fun hh => h (UInt8.toNat_inj.1 hh)
      by_cases h2 : a < b <;> simp [h, this, h2]
noncomputable def bapp (a b : ByteArray) : ByteArray := ⟨⟨app a.data.toList b.data.toList⟩⟩
theorem bapp_eq (a b : ByteArray) : bapp a b = a ++ b := by
  have : (bapp a b).data = (a ++ b).data := by
    rw [ByteArray.data_append]
    unfold bapp
    rw [app_eq]
    exact Array.toList_inj.1 (by simp)
  exact ByteArray.ext this
noncomputable def strOp (op : BinOp) (a b : ByteArray) : Option Value :=
  match op with
  | .add => Bool.rec (motive := fun _ => Option Value) none (some (.string (bapp a b))) (Nat.ble (Nat.add (len a.data.toList) (len b.data.toList)) 9223372036854775807)
  | .eql => some (.bool (eqB a.data.toList b.data.toList))
  | .neq => some (.bool (Bool.rec (motive := fun _ => Bool) true false (eqB a.data.toList b.data.toList)))
  | .lss => some (.bool (ltB a.data.toList b.data.toList))
  | .leq => some (.bool (Bool.rec (motive := fun _ => Bool) (eqB a.data.toList b.data.toList) true (ltB a.data.toList b.data.toList)))
  | .gtr => some (.bool (Bool.rec (motive := fun _ => Bool) true false (Bool.rec (motive := fun _ => Bool) (eqB a.data.toList b.data.toList) true (ltB a.data.toList b.data.toList))))
  | .geq => some (.bool (Bool.rec (motive := fun _ => Bool) true false (ltB a.data.toList b.data.toList)))
  | _ => none
theorem or_rec (b c : Bool) : Bool.rec (motive := fun _ => Bool) c true b = (b || c) := by cases b <;> rfl
theorem strOp_ok {C : Cfg} {op : BinOp} {a b : ByteArray} {v : Value} (h : strOp op a b = some v) (t : TypeId) (w : World) : (binOp op t (.string a) (.string b)).run C.P w = .ok v w := by
  cases op <;> simp only [strOp, neg_rec, or_rec, eqB_eq, ltB_eq, len_eq, bapp_eq] at h
  case add =>
    cases hs : Nat.ble (Nat.add a.data.toList.length b.data.toList.length) 9223372036854775807 <;> rw [hs] at h
    · cases h
    · obtain rfl := Option.some.inj h
      have h2 : a.size + b.size ≤ 9223372036854775807 := ble_iff.1 hs
      have : ¬ ((a.size + b.size : Nat) : Int) > IntKind.i64.max := by
        rw [show IntKind.i64.max = 9223372036854775807 from rfl]; omega
      simp only [binOp, Op.stringOp, if_neg this]
      rfl
  all_goals first
    | cases h; done
    | (obtain rfl := Option.some.inj h; simp [binOp, Op.stringOp, Lib.toList_data])
end Go.Ev
