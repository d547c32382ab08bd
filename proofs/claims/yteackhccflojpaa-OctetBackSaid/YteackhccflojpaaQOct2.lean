/- Plain lemmas: what the document's own reader of chapter 1 computes; Pick. -/
import Derived.Test.YteackhccflojpaaPx12
import Derived.Test.YteackhccflojpaaPx22
import Derived.Test.YteackhccflojpaaPx23
import Derived.Test.YteackhccflojpaaPx24
import Derived.Test.YteackhccflojpaaQOct1
import Derived.Test.YteackhccflojpaaQOctet
import Derived.Test.YteackhccflojpaaOBytes
set_option linter.unusedVariables false
set_option linter.unusedSimpArgs false
namespace Go.Proofs.Yteackhccflojpaa.Q
open Go.RowKit Go.Proofs.Yteackhccflojpaa.P Go.Proofs.YteackhccflojpaaW.PrintWords Go.Proofs.YteackhccflojpaaW.PrintLast Go.Proofs.YteackhccflojpaaW.PrintMore Go.Proofs.YteackhccflojpaaO

theorem pick_is (n m : Int) (h1 : 1 ≤ m) (h2 : m ≤ 4611686018427387904) : careenagekit_Pick.f n m = some (n % m) := by
  unfold careenagekit_Pick.f
  rw [if_neg (by omega), if_neg (by omega)]
  have he := Int.tmod_eq_emod (a := n) (b := m)
  have hlt := Int.emod_lt_of_pos n (show 0 < m by omega)
  have hge := Int.emod_nonneg n (show m ≠ 0 by omega)
  by_cases h : n.tmod m < 0
  · rw [if_pos h]
    split at he
    · omega
    · rw [w64 (by omega) (by omega)]
      congr 1
      omega
  · rw [if_neg h]
    split at he
    · rw [he]; simp
    · congr 1
      omega
theorem rnum_l0 (s : ByteArray) (n : Nat) (hn : n ≤ 8) (hs : n ≤ s.size) : ∀ (d k i : Nat), i + d = n → d < k → careenageref01_Reader_Number.l0 k n (ofLe ((B s).take i)) i s = some (ofLe ((B s).take n), 0, s.extract n s.size)
  | 0, k + 1, i, h, _ => by
    simp only [careenageref01_Reader_Number.l0]
    obtain rfl : i = n := by omega
    rw [if_neg (by omega), if_pos (by omega), if_pos (by omega), Int.toNat_natCast]
  | d + 1, k + 1, i, h, hk => by
    have hi : i < (B s).length := by rw [B_length]; omega
    simp only [careenageref01_Reader_Number.l0]
    rw [if_pos (by omega), if_pos (by omega), if_pos (by omega), w64 (x := 8 * (i : Int)) (by omega) (by omega), u64w (x := 8 * (i : Int)) (by omega) (by omega), if_pos (by omega), bt_get hi, ofLe_step (isB_B s) hi (by omega), w64 (by omega) (by omega)]
    exact rnum_l0 s n hn hs d k (i + 1) (by omega) (by omega)
theorem rnum_is (s : ByteArray) (n : Int) (k : Nat) (hk : 11 < k) : careenageref01_Reader_Number.f k s n = some (numR s n) := by
  obtain ⟨k, rfl⟩ : ∃ m, k = m + 1 := ⟨k - 1, by omega⟩
  unfold careenageref01_Reader_Number.f numR
  by_cases h1 : n < 1
  · rw [if_pos h1, if_pos (.inl h1), careenageref01_Reader_Number.j0, if_pos rfl]
  · rw [if_neg h1]
    by_cases h2 : n > 8
    · rw [if_pos (.inr h2), decide_eq_true h2, careenageref01_Reader_Number.j0, if_pos rfl]
    · rw [if_neg (by omega), decide_eq_false h2, careenageref01_Reader_Number.j0, if_neg (by decide)]
      by_cases h3 : (s.size : Int) < n
      · rw [if_pos h3, if_pos h3]
      · rw [if_neg h3, if_neg h3]
        obtain ⟨n, rfl⟩ := Int.eq_ofNat_of_zero_le (show 0 ≤ n by omega)
        have := rnum_l0 s n (by omega) (by omega) n k 0 (by omega) (by omega)
        simpa [ofLe] using this
theorem rbytes_is (s : ByteArray) (n : Int) : careenageref01_Reader_Bytes.f s n = some (bytesR s n) := by
  unfold careenageref01_Reader_Bytes.f bytesR
  by_cases h1 : n < 0
  · simp [h1]
  · rw [if_neg h1, if_neg h1]
    by_cases h2 : n > (s.size : Int)
    · rw [if_pos h2, if_pos (show (s.size : Int) < n from h2)]
    · rw [if_neg h2, if_neg (show ¬ (s.size : Int) < n from h2), if_pos (by omega), if_pos (by omega)]
theorem rzero_l0 (s : ByteArray) (hs : s.size ≤ 140737488351232) : ∀ (d k i : Nat), i + d = s.size → d < k → careenageref01_Zero.l0 k s i = some (zeroL ((B s).drop i))
  | 0, k + 1, i, h, _ => by
    simp only [careenageref01_Zero.l0]
    rw [if_neg (by omega), List.drop_eq_nil_of_le (by rw [B_length]; omega)]
    rfl
  | d + 1, k + 1, i, h, hk => by
    have hi : i < (B s).length := by rw [B_length]; omega
    simp only [careenageref01_Zero.l0]
    rw [if_pos (by omega), if_pos (by omega), bt_get hi, List.drop_eq_getElem_cons hi]
    by_cases hz : (B s)[i] = 0
    · rw [if_pos hz, w64 (by omega) (by omega), show ((i : Int) + 1) = ((i + 1 : Nat) : Int) from rfl, rzero_l0 s hs d k (i + 1) (by omega) (by omega)]
      simp [zeroL, hz]
    · rw [if_neg hz, zeroL, List.all_cons, beq_eq_false_iff_ne.2 hz]
      rfl
theorem rzero_is (s : ByteArray) (k : Nat) (hs : s.size ≤ 140737488351232) (hk : s.size < k) : careenageref01_Zero.f k s = some (zeroL (B s)) := by
  unfold careenageref01_Zero.f
  have := rzero_l0 s hs s.size k 0 (by omega) hk
  simpa using this

end Go.Proofs.Yteackhccflojpaa.Q
