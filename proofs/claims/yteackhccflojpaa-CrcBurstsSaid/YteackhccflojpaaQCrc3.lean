/- How the check's pieces fit: bytes as one number. No conditions. -/
import Derived.Test.YteackhccflojpaaQCrc
import Derived.Test.YteackhccflojpaaOCrcGo
import Derived.Test.YteackhccflojpaaOBytes
set_option linter.unusedVariables false
set_option linter.unusedSimpArgs false
namespace Go.Proofs.Yteackhccflojpaa.Q
open Go.RowKit Go.Proofs.Yteackhccflojpaa.P Go.Proofs.YteackhccflojpaaW.PrintWords Go.Proofs.YteackhccflojpaaW.PrintLast Go.Proofs.YteackhccflojpaaW.PrintMore Go.Proofs.YteackhccflojpaaO

theorem lev_cons_xor (b l : Nat) (h : b < 256) : b + l * 256 = l * 2 ^ 8 ^^^ b := by rw [join_xor 8 _ _ h]; omega
theorem mul_xor (a b n : Nat) : (a ^^^ b) * 2 ^ n = a * 2 ^ n ^^^ b * 2 ^ n := by
  simp only [← Nat.shiftLeft_eq]
  exact Nat.shiftLeft_xor_distrib
theorem lev_set : ∀ (l : List Nat) (i v : Nat), i < l.length → (∀ b ∈ l, b < 256) → v < 256 → lev (l.set i (l.getD i 0 ^^^ v)) = lev l ^^^ v * 2 ^ (8 * i)
  | [], i, v, h, _, _ => by simp at h
  | b :: l, 0, v, _, hl, hv => by
    have hb := hl b (List.mem_cons_self ..)
    simp only [List.set_cons_zero, List.getD_cons_zero, lev]
    rw [lev_cons_xor _ _ (Nat.xor_lt_two_pow (n := 8) hb hv), lev_cons_xor b _ hb, Nat.mul_zero, Nat.pow_zero, Nat.mul_one, Nat.xor_assoc]
  | b :: l, i + 1, v, h, hl, hv => by
    have hb := hl b (List.mem_cons_self ..)
    have ih := lev_set l i v (by simpa using h) (fun x hx => hl x (List.mem_cons_of_mem _ hx)) hv
    simp only [List.set_cons_succ, List.getD_cons_succ, lev]
    rw [ih, lev_cons_xor _ _ hb, lev_cons_xor b _ hb, mul_xor, Nat.mul_assoc, ← Nat.pow_add, show 8 * i + 8 = 8 * (i + 1) by omega]
    ac_rfl
theorem nb_str {l : List Int} (h : isB l) : nb (strOfNums l) = l.map Int.toNat := by
  rw [nb_B]
  exact congrArg (List.map Int.toNat) (B_str h)
theorem crc_of {s : ByteArray} {l : List Nat} (h : nb s = l) : crcI 0 s = ((crcN 0 l : Nat) : Int) := by
  rw [← h]
  unfold crcI
  exact congrArg (fun n : Nat => ((crcN n (nb s) : Nat) : Int)) (show (0 : Int).toNat = 0 from rfl)

end Go.Proofs.Yteackhccflojpaa.Q
