/- Plain lemmas: what the laws of chapter 1 share. -/
import Derived.Test.YteackhccflojpaaPx15
import Derived.Test.YteackhccflojpaaPx16
import Derived.Test.YteackhccflojpaaPx19
import Derived.Test.YteackhccflojpaaPx7
import Derived.Test.YteackhccflojpaaPx8
import Derived.Test.YteackhccflojpaaQOctet
import Derived.Test.YteackhccflojpaaOBytes
set_option linter.unusedVariables false
set_option linter.unusedSimpArgs false
namespace Go.Proofs.Yteackhccflojpaa.Q
open Go.RowKit Go.Proofs.Yteackhccflojpaa.P Go.Proofs.YteackhccflojpaaW.PrintWords Go.Proofs.YteackhccflojpaaW.PrintLast Go.Proofs.YteackhccflojpaaW.PrintMore Go.Proofs.YteackhccflojpaaO

theorem oct_lives (k : Nat) (h : 20 ≤ k) : careenagelaw01_lives.f k = some true :=
  at_rounds careenagelaw01_lives.mono h (by decide +kernel)
def zeroL (l : List Int) : Bool := l.all (· == 0)
theorem B_size (s : ByteArray) : (s.size : Int) = ((B s).length : Int) := by rw [B_length]
theorem bt_get {s : ByteArray} {i : Nat} (h : i < (B s).length) : bt s (i : Int) = (B s)[i] := by rw [bt_B, rd_get h]
theorem zero_l0 (s : ByteArray) (hs : s.size ≤ 140737488351232) : ∀ (d k i : Nat), i + d = s.size → d < k → octet_Zero.l0 k s (s.size : Int) i = some (zeroL ((B s).drop i))
  | 0, k + 1, i, h, _ => by
    simp only [octet_Zero.l0]
    rw [if_neg (by omega), List.drop_eq_nil_of_le (by rw [B_length]; omega)]
    rfl
  | d + 1, k + 1, i, h, hk => by
    have hi : i < (B s).length := by rw [B_length]; omega
    simp only [octet_Zero.l0]
    rw [if_pos (by omega), if_pos (by omega), if_pos (by omega), bt_get hi, List.drop_eq_getElem_cons hi]
    by_cases hz : (B s)[i] = 0
    · rw [if_pos hz, w64 (by omega) (by omega), show ((i : Int) + 1) = ((i + 1 : Nat) : Int) from rfl, zero_l0 s hs d k (i + 1) (by omega) (by omega)]
      simp [zeroL, hz]
    · rw [if_neg hz, zeroL, List.all_cons, beq_eq_false_iff_ne.2 hz]
      rfl
theorem zero_is (s : ByteArray) (k : Nat) (hs : s.size ≤ 140737488351232) (hk : s.size < k) : octet_Zero.f k s = some (zeroL (B s)) := by
  unfold octet_Zero.f
  have := zero_l0 s hs s.size k 0 (by omega) hk
  simpa using this
/-- What Bytes answers. -/
def bytesR (s : ByteArray) (n : Int) : ByteArray × Int × ByteArray :=
  if n < 0 then (⟨#[]⟩, 2, s) else if n > (s.size : Int) then (⟨#[]⟩, 7, s) else (s.extract 0 n.toNat, 0, s.extract n.toNat s.size)
theorem bytes_is (s : ByteArray) (n : Int) : octet_Reader_Bytes.f s n = some (bytesR s n) := by
  unfold octet_Reader_Bytes.f octet_Reader_take.f bytesR
  by_cases h1 : n < 0
  · simp [h1]
  · rw [if_neg h1, if_neg h1]
    by_cases h2 : n > (s.size : Int)
    · simp [h2]
    · rw [if_neg h2, if_neg h2, if_pos (by omega), if_pos (by omega)]
      rfl
/-- What Number answers. -/
def numR (s : ByteArray) (n : Int) : Int × Int × ByteArray :=
  if n < 1 ∨ n > 8 then (0, 2, s) else if (s.size : Int) < n then (0, 7, s) else (ofLe ((B s).take n.toNat), 0, s.extract n.toNat s.size)
theorem ofLe_step {l : List Int} (hl : isB l) {i : Nat} (hi : i < l.length) (h8 : i ≤ 7) : Go.bits .or .u64 (ofLe (l.take i)) (shl .u64 (IntKind.u64.wrap l[i]) (8 * (i : Int))) = ofLe (l.take (i + 1)) := by
  have hb := hl l[i] (List.getElem_mem hi)
  have hv := ofLe_lt (isB_take hl i)
  rw [List.length_take, Nat.min_eq_left (by omega)] at hv
  rw [u64w hb.1 (by omega), shl_byte _ _ h8 hb, or_byte _ _ _ h8 ⟨ofLe_nonneg (isB_take hl i), hv⟩ hb, List.take_succ_eq_append_getElem hi, ofLe_snoc, List.length_take, Nat.min_eq_left (by omega)]
theorem num_l0 (s x : ByteArray) (e : Int) (hx : x.size ≤ 8) : ∀ (d k i : Nat), i + d = x.size → d < k → octet_Reader_Number.l0 k (ofLe ((B x).take i)) e x (x.size : Int) i s = some (ofLe (B x), e, s)
  | 0, k + 1, i, h, _ => by
    simp only [octet_Reader_Number.l0]
    rw [if_neg (by omega), List.take_of_length_le (by rw [B_length]; omega)]
  | d + 1, k + 1, i, h, hk => by
    have hi : i < (B x).length := by rw [B_length]; omega
    simp only [octet_Reader_Number.l0]
    rw [if_pos (by omega), if_pos (by omega), if_pos (by omega), w64 (x := 8 * (i : Int)) (by omega) (by omega), if_pos (by omega), bt_get hi, ofLe_step (isB_B x) hi (by omega), w64 (by omega) (by omega)]
    exact num_l0 s x e hx d k (i + 1) (by omega) (by omega)
theorem num_is (s : ByteArray) (n : Int) (k : Nat) (hk : 9 < k) : octet_Reader_Number.f k s n = some (numR s n) := by
  unfold octet_Reader_Number.f numR
  by_cases h1 : n < 1
  · rw [if_pos h1, if_pos (.inl h1)]
  · rw [if_neg h1]
    by_cases h2 : n > 8
    · rw [if_pos h2, if_pos (.inr h2)]
    · rw [if_neg h2, if_neg (by omega)]
      unfold octet_Reader_take.f
      by_cases h3 : n > (s.size : Int)
      · rw [if_pos h3, if_pos h3]
        simp only [bs]
        have := num_l0 s ⟨#[]⟩ 7 (by decide) 0 k 0 rfl (by omega)
        simpa [B_empty, ofLe] using this
      · rw [if_neg h3, if_neg h3, if_pos (by omega), if_pos (by omega)]
        simp only [bs]
        have hsz : (s.extract 0 n.toNat).size = n.toNat := by rw [ByteArray.size_extract]; omega
        have := num_l0 (s.extract n.toNat s.size) (s.extract 0 n.toNat) 0 (by omega) n.toNat k 0 (by omega) (by omega)
        rw [B_take] at this
        simpa [ofLe] using this

end Go.Proofs.Yteackhccflojpaa.Q
