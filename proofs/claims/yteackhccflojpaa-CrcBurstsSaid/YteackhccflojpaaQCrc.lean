/- What the check's contracts say, in numbers. No conditions. -/
import Derived.Test.YteackhccflojpaaPx11
import Derived.Test.YteackhccflojpaaPx12
import Derived.Test.YteackhccflojpaaPx19
import Derived.Test.YteackhccflojpaaOCrcGo
set_option linter.unusedVariables false
set_option linter.unusedSimpArgs false
namespace Go.Proofs.Yteackhccflojpaa.Q
open Go.RowKit Go.Proofs.Yteackhccflojpaa.P Go.Proofs.YteackhccflojpaaW.PrintWords Go.Proofs.YteackhccflojpaaW.PrintLast Go.Proofs.YteackhccflojpaaW.PrintMore Go.Proofs.YteackhccflojpaaO

theorem nb_data (s : ByteArray) : nb s = s.data.toList.map (·.toNat) := by simp [nb, Lib.toList_data]
theorem crcI_nn (c : Int) (s : ByteArray) : 0 ≤ crcI c s := by unfold crcI; exact Int.natCast_nonneg _
theorem crcI_lt (c : Int) (s : ByteArray) (h : c < 4294967296) : crcI c s < 4294967296 := by
  have := crcN_lt (c := c.toNat) (l := nb s) (by omega) (nb_lt s)
  unfold crcI
  omega
theorem more_is (c : Int) (s : ByteArray) (h0 : 0 ≤ c) (h1 : c < 4294967296) (hs : s.size < 4611686018427387904) : crc_More.f c s = some (crcI c s) := by
  unfold crc_More.f
  rw [if_pos ⟨h0, h1, hs⟩]
theorem of_is (s : ByteArray) (hs : s.size < 4611686018427387904) : crc_Of.f s = some (crcI 0 s) := by
  unfold crc_Of.f
  rw [more_is 0 s (by decide) (by decide) hs]
  rfl
theorem crcI_more (a b : ByteArray) : crcI (crcI 0 a) b = ((crcN 0 (nb a ++ nb b) : Nat) : Int) := by
  unfold crcI
  rw [Int.toNat_natCast, crcN_append]
  exact congrArg (fun n : Nat => ((crcN n (nb a ++ nb b) : Nat) : Int)) (show (0 : Int).toNat = 0 from rfl)
theorem nb_cut (s : ByteArray) (k : Nat) : nb (s.extract 0 k) ++ nb (s.extract k s.size) = nb s := by
  simp only [nb_data, Lib.extract_data, ← List.map_append]
  congr 1
  simp only [Nat.sub_zero, List.drop_zero, List.extract_eq_take_drop]
  rw [List.take_of_length_le (l := s.data.toList.drop k) (by simp)]
  simp
theorem crcI_cut (s : ByteArray) (k : Nat) : crcI (crcI 0 (s.extract 0 k)) (s.extract k s.size) = crcI 0 s := by
  rw [crcI_more, nb_cut]
  rfl
theorem crcI_nil (s : ByteArray) : crcI (crcI 0 s) (⟨#[]⟩ : ByteArray) = crcI 0 s := by
  rw [crcI_more]
  simp [nb_data, crcI]
theorem pick_range (a n : Int) (h : 1 ≤ n) (hn : n ≤ 4611686018427387904) : ∃ r, careenagekit_Pick.f a n = some r ∧ 0 ≤ r ∧ r < n := by
  unfold careenagekit_Pick.f
  rw [if_neg (by omega), if_neg (by omega)]
  have h1 := Int.tmod_lt_of_pos a (show 0 < n by omega)
  have h2 : -n < Int.tmod a n := by
    have := Int.tmod_lt_of_pos (-a) (show 0 < n by omega)
    rw [Int.neg_tmod] at this
    omega
  split
  · refine ⟨_, rfl, ?_⟩
    unfold wrap64
    omega
  · exact ⟨_, rfl, by omega⟩
theorem ext_size (s : ByteArray) (a b : Nat) (h : s.size < 4611686018427387904) : (s.extract a b).size < 4611686018427387904 := by
  simp only [ByteArray.size_extract]
  omega

end Go.Proofs.Yteackhccflojpaa.Q
