/- Words of my own: the check of the document as a register that is shifted bit by bit, over numbers without bound. -/
import Derived.Test.YteackhccflojpaaOStr
import Derived.Laws.BitsAllLaws
set_option linter.unusedVariables false
set_option linter.unusedSimpArgs false
namespace Go.Proofs.YteackhccflojpaaO
open Go.RowKit
/-- One step. -/
def T (c : Nat) : Nat := if c % 2 = 1 then (c / 2) ^^^ 2197175160 else c / 2
/-- So many steps. -/
def Tn : Nat → Nat → Nat
  | 0, c => c
  | n + 1, c => Tn n (T c)
theorem xor_div (a b n : Nat) : (a ^^^ b) / 2 ^ n = a / 2 ^ n ^^^ b / 2 ^ n := Nat.xor_div_two_pow
theorem xor_mod (a b n : Nat) : (a ^^^ b) % 2 ^ n = a % 2 ^ n ^^^ b % 2 ^ n := Nat.xor_mod_two_pow
theorem xor_zero_eq {a b : Nat} (h : a ^^^ b = 0) : a = b := by
  have h2 := congrArg (· ^^^ b) h
  simpa [Nat.xor_assoc] using h2
theorem T_xor (a b : Nat) : T (a ^^^ b) = T a ^^^ T b := by
  have hd : (a ^^^ b) / 2 = a / 2 ^^^ b / 2 := by simpa using xor_div a b 1
  have hm : (a ^^^ b) % 2 = a % 2 ^^^ b % 2 := by simpa using xor_mod a b 1
  unfold T
  rw [hd, hm]
  rcases Nat.mod_two_eq_zero_or_one a with ha | ha <;> rcases Nat.mod_two_eq_zero_or_one b with hb | hb <;> rw [ha, hb]
  · simp
  · simp [Nat.xor_assoc]
  · simp only [Nat.xor_zero, if_true]
    rw [if_neg (by decide), Nat.xor_assoc, Nat.xor_comm (b / 2), ← Nat.xor_assoc]
  · simp only [Nat.xor_self, if_true]
    rw [if_neg (by decide)]
    calc a / 2 ^^^ b / 2 = a / 2 ^^^ b / 2 ^^^ (2197175160 ^^^ 2197175160) := by rw [Nat.xor_self, Nat.xor_zero]
      _ = (a / 2 ^^^ 2197175160) ^^^ (b / 2 ^^^ 2197175160) := by ac_rfl
theorem T_lt {c : Nat} (h : c < 2 ^ 32) : T c < 2 ^ 32 := by
  unfold T
  split
  · exact Nat.xor_lt_two_pow (by omega) (by decide)
  · omega
theorem T_zero {c : Nat} (h : c < 2 ^ 32) (h0 : T c = 0) : c = 0 := by
  unfold T at h0
  split at h0
  · exfalso
    have : c / 2 = 2197175160 := xor_zero_eq h0
    omega
  · omega
theorem T_even (x : Nat) : T (x * 2) = x := by
  unfold T
  rw [if_neg (by omega)]
  omega
theorem Tn_xor (n : Nat) : ∀ a b, Tn n (a ^^^ b) = Tn n a ^^^ Tn n b := by
  induction n with
  | zero => intro a b; rfl
  | succ n ih => intro a b; simp only [Tn, T_xor, ih]
theorem Tn_lt (n : Nat) : ∀ {c}, c < 2 ^ 32 → Tn n c < 2 ^ 32 := by
  induction n with
  | zero => intro c h; exact h
  | succ n ih => intro c h; exact ih (T_lt h)
theorem Tn_zero (n : Nat) : ∀ {c}, c < 2 ^ 32 → Tn n c = 0 → c = 0 := by
  induction n with
  | zero => intro c _ h; exact h
  | succ n ih => intro c h h0; exact T_zero h (ih (T_lt h) h0)
theorem Tn_shift (n : Nat) : ∀ x, Tn n (x * 2 ^ n) = x := by
  induction n with
  | zero => intro x; simp [Tn]
  | succ n ih =>
    intro x
    simp only [Tn]
    rw [Nat.pow_succ, ← Nat.mul_assoc, T_even, ih]
theorem Tn_add (m : Nat) : ∀ n c, Tn (m + n) c = Tn n (Tn m c) := by
  induction m with
  | zero => intro n c; simp [Tn]
  | succ m ih => intro n c; rw [Nat.add_right_comm]; simp only [Tn]; exact ih n (T c)
/-- A number is its high part and its low part. -/
theorem join_xor (k a r : Nat) (h : r < 2 ^ k) : a * 2 ^ k ^^^ r = a * 2 ^ k + r := by
  have h1 : (a * 2 ^ k ^^^ r) / 2 ^ k = a := by
    rw [xor_div, Nat.mul_div_cancel _ (Nat.two_pow_pos k), Nat.div_eq_of_lt h, Nat.xor_zero]
  have h2 : (a * 2 ^ k ^^^ r) % 2 ^ k = r := by
    rw [xor_mod, Nat.mul_mod_left, Nat.mod_eq_of_lt h, Nat.zero_xor]
  have h3 := Nat.div_add_mod (a * 2 ^ k ^^^ r) (2 ^ k)
  rw [h1, h2] at h3
  rw [← h3, Nat.mul_comm]
/-- A byte goes into the register. -/
def cb (c b : Nat) : Nat := Tn 8 (c ^^^ b)
theorem cb_table (c b : Nat) (hb : b < 256) : Tn 8 (c % 256 ^^^ b) ^^^ c / 256 = cb c b := by
  have h1 : c = c / 256 * 2 ^ 8 ^^^ c % 256 := by rw [join_xor 8 _ _ (Nat.mod_lt _ (by decide))]; have := Nat.div_add_mod c 256; omega
  have h2 : cb c b = Tn 8 (c / 256 * 2 ^ 8 ^^^ (c % 256 ^^^ b)) := by
    unfold cb
    rw [← Nat.xor_assoc, ← h1]
  rw [h2, Tn_xor 8 (c / 256 * 2 ^ 8), Tn_shift, Nat.xor_comm]
theorem cb_lt {c b : Nat} (hc : c < 2 ^ 32) (hb : b < 256) : cb c b < 2 ^ 32 := Tn_lt 8 (Nat.xor_lt_two_pow hc (by omega))
/-- Bytes as one number, the first the least. -/
def lev : List Nat → Nat
  | [] => 0
  | b :: l => b + lev l * 256
theorem fold_cb : ∀ (l : List Nat) (c : Nat), (∀ b ∈ l, b < 256) → l.foldl cb c = Tn (8 * l.length) (c ^^^ lev l)
  | [], c, _ => by simp [lev, Tn]
  | b :: l, c, h => by
    have hb : b < 256 := h b (List.mem_cons_self ..)
    have e : lev (b :: l) = b ^^^ lev l * 2 ^ 8 := by
      rw [Nat.xor_comm, join_xor 8 _ _ hb]; simp only [lev]; omega
    rw [List.foldl_cons, fold_cb l _ (fun x hx => h x (List.mem_cons_of_mem _ hx)), e, ← Nat.xor_assoc, show 8 * (b :: l).length = 8 + 8 * l.length by simp; omega, Tn_add, Tn_xor 8, Tn_shift]
    rfl
theorem fold_lt : ∀ (l : List Nat) (c : Nat), c < 2 ^ 32 → (∀ b ∈ l, b < 256) → l.foldl cb c < 2 ^ 32
  | [], c, hc, _ => hc
  | b :: l, c, hc, h => fold_lt l _ (cb_lt hc (h b (List.mem_cons_self ..))) (fun x hx => h x (List.mem_cons_of_mem _ hx))
/-- The check, continued. -/
def crcN (c : Nat) (l : List Nat) : Nat := 4294967295 ^^^ l.foldl cb (4294967295 ^^^ c)
theorem crcN_lt {c : Nat} {l : List Nat} (hc : c < 2 ^ 32) (h : ∀ b ∈ l, b < 256) : crcN c l < 2 ^ 32 :=
  Nat.xor_lt_two_pow (by decide) (fold_lt _ _ (Nat.xor_lt_two_pow (by decide) hc) h)
theorem xor_cancel (a b : Nat) : a ^^^ (a ^^^ b) = b := by rw [← Nat.xor_assoc, Nat.xor_self, Nat.zero_xor]
theorem crcN_nil (c : Nat) : crcN c [] = c := by simp [crcN, xor_cancel]
theorem crcN_append (c : Nat) (l m : List Nat) : crcN (crcN c l) m = crcN c (l ++ m) := by
  simp [crcN, List.foldl_append, xor_cancel]
/-- How two checks of bytes of one length differ. -/
theorem crcN_xor (l m : List Nat) (hlen : l.length = m.length) (hl : ∀ b ∈ l, b < 256) (hm : ∀ b ∈ m, b < 256) : crcN 0 l ^^^ crcN 0 m = Tn (8 * l.length) (lev l ^^^ lev m) := by
  unfold crcN
  rw [fold_cb l _ hl, fold_cb m _ hm, ← hlen, Tn_xor, Tn_xor _ _ (lev m), Tn_xor _ (lev l)]
  generalize Tn (8 * l.length) (4294967295 ^^^ 0) = x
  generalize Tn (8 * l.length) (lev l) = y
  generalize Tn (8 * l.length) (lev m) = z
  calc 4294967295 ^^^ (x ^^^ y) ^^^ (4294967295 ^^^ (x ^^^ z)) = (4294967295 ^^^ 4294967295) ^^^ ((x ^^^ x) ^^^ (y ^^^ z)) := by ac_rfl
    _ = y ^^^ z := by simp [Nat.xor_self]
/-- A burst of changed bits changes the check. -/
theorem crcN_burst (l m : List Nat) (hlen : l.length = m.length) (hl : ∀ b ∈ l, b < 256) (hm : ∀ b ∈ m, b < 256) (bits at_ : Nat) (hb : bits < 2 ^ 32) (h0 : bits ≠ 0) (hat : at_ ≤ 8 * l.length)
    (h : lev l ^^^ lev m = bits * 2 ^ at_) : crcN 0 l ≠ crcN 0 m := by
  intro e
  have h1 := crcN_xor l m hlen hl hm
  rw [e, Nat.xor_self, h, show 8 * l.length = at_ + (8 * l.length - at_) by omega, Tn_add, Tn_shift] at h1
  exact h0 (Tn_zero _ hb h1.symm)
end Go.Proofs.YteackhccflojpaaO
