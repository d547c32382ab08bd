/- Changed bits, all within 32 consecutive ones, change the check. No conditions. -/
import Derived.Test.YteackhccflojpaaPx20
import Derived.Test.YteackhccflojpaaQCrcL
import Derived.Test.YteackhccflojpaaQCrc3
import Derived.Test.YteackhccflojpaaQCrc
import Derived.Test.YteackhccflojpaaOCrcGo
import Derived.Test.YteackhccflojpaaOBytes
set_option linter.unusedVariables false
set_option linter.unusedSimpArgs false
namespace Go.Proofs.Yteackhccflojpaa.Pure
open Go.RowKit Go.Proofs.Yteackhccflojpaa.P Go.Proofs.YteackhccflojpaaW.PrintWords Go.Proofs.YteackhccflojpaaW.PrintLast Go.Proofs.YteackhccflojpaaW.PrintMore Go.Proofs.YteackhccflojpaaO Go.Proofs.Yteackhccflojpaa.Q

theorem rows_isB (r bits : Nat) (m : Nat) (xs : List Int) (h : isB xs) (hx : ∀ k, k < m → (r + k) / 8 < xs.length) : isB (burstRows r bits m xs) ∧ (burstRows r bits m xs).length = xs.length ∧ lev ((burstRows r bits m xs).map Int.toNat) = lev (xs.map Int.toNat) ^^^ bits % 2 ^ m * 2 ^ r := by
  induction m with
  | zero => exact ⟨h, rfl, by simp [burstRows, Nat.mod_one]⟩
  | succ m ih =>
    obtain ⟨hB, hl, hv⟩ := ih (fun k hk => hx k (by omega))
    obtain ⟨ys, hys⟩ : ∃ ys, ys = burstRows r bits m xs := ⟨_, rfl⟩
    have hs : burstRows r bits (m + 1) xs = burstRow r bits m ys := by rw [hys]; rfl
    rw [hs]
    rw [← hys] at hB hl hv
    unfold burstRow
    have hj : (r + m) / 8 < ys.length := by rw [hl]; exact hx m (by omega)
    have hp : 2 ^ ((r + m) % 8) < 2 ^ 8 := Nat.pow_lt_pow_right (by decide) (Nat.mod_lt _ (by decide))
    have hg : ys.getD ((r + m) / 8) 0 = ys[(r + m) / 8] := by simp [hj]
    have hyb := hB _ (List.getElem_mem hj)
    have hms : bits % 2 ^ (m + 1) = bits % 2 ^ m + 2 ^ m * (bits / 2 ^ m % 2) := Nat.mod_pow_succ
    split
    · rename_i hb
      refine ⟨fun x hx => ?_, by rw [List.length_set]; exact hl, ?_⟩
      · rcases List.mem_or_eq_of_mem_set hx with hx | rfl
        · exact hB x hx
        · have : (ys.getD ((r + m) / 8) 0).toNat < 2 ^ 8 := by rw [hg]; omega
          have h3 := Nat.xor_lt_two_pow this hp
          omega
      · have hmap : ((ys.set ((r + m) / 8) (((ys.getD ((r + m) / 8) 0).toNat ^^^ 2 ^ ((r + m) % 8) : Nat) : Int)).map Int.toNat) = (ys.map Int.toNat).set ((r + m) / 8) ((ys.map Int.toNat).getD ((r + m) / 8) 0 ^^^ 2 ^ ((r + m) % 8)) := by
          rw [List.map_set, Int.toNat_natCast]
          congr 2
          simp [hj]
        rw [hmap, lev_set _ _ _ (by simpa using hj) (fun b hb => by
          simp only [List.mem_map] at hb
          obtain ⟨x, hx, rfl⟩ := hb
          have := hB x hx
          omega) (by omega), hv, hms, hb, Nat.mul_one, ← Nat.pow_add, show (r + m) % 8 + 8 * ((r + m) / 8) = m + r by omega, Nat.xor_assoc]
        congr 1
        rw [show bits % 2 ^ m + 2 ^ m = 1 * 2 ^ m + bits % 2 ^ m by omega, ← join_xor m 1 _ (Nat.mod_lt _ (Nat.two_pow_pos m)), mul_xor, Nat.one_mul, ← Nat.pow_add, Nat.xor_comm]
    · rename_i hb
      have hb0 : bits / 2 ^ m % 2 = 0 := by have := Nat.mod_two_eq_zero_or_one (bits / 2 ^ m); omega
      refine ⟨hB, hl, ?_⟩
      rw [hv, hms, hb0, Nat.mul_zero, Nat.add_zero]
theorem CrcBursts : careenagelaw02_CrcBursts.Pure := by
  intro s at_ bits hs _ hb
  have hb2 : 0 ≤ bits ∧ bits < 4294967296 := by
    simp [Lit.wf, IntKind.min, IntKind.max, IntKind.signed, IntKind.bits] at hb
    omega
  refine ⟨crc_lives, hb2.1, hb2.2, fun h6 h5 h0 => ?_⟩
  obtain ⟨r, hr, hr0, hr1⟩ := pick_range at_ (8 * (s.size : Int) - 39) (by omega) (by omega)
  obtain ⟨n, rfl⟩ := Int.eq_ofNat_of_zero_le hr0
  obtain ⟨b, rfl⟩ := Int.eq_ofNat_of_zero_le hb2.1
  rw [Int.toNat_natCast]
  have hrow := fun (m : Nat) (hm : m ≤ 32) => rows_isB n b m (B s) (isB_B s) (fun k hk => by rw [B_length]; omega)
  refine ⟨n, hr, hr1, fun m hm => ⟨(hrow m hm).1, by rw [(hrow m hm).2.1, B_length]⟩, crcI 0 (strOfNums (burstRows n b 32 (B s))), crcI 0 s, of_is _ ?_, of_is _ (by omega), ?_⟩
  · rw [size_str, (hrow 32 (by decide)).2.1, B_length]
    omega
  · obtain ⟨g1, g2, g3⟩ := hrow 32 (by decide)
    have e1 := crc_of (nb_str g1)
    have e2 := crc_of (show nb s = (B s).map Int.toNat from nb_B s)
    rw [e1, e2]
    have hlt : ∀ l : List Int, isB l → ∀ x ∈ l.map Int.toNat, x < 256 := fun l hl x hx => by
      simp only [List.mem_map] at hx
      obtain ⟨y, hy, rfl⟩ := hx
      have := hl y hy
      omega
    have hbm : b % 2 ^ 32 = b := Nat.mod_eq_of_lt (by omega)
    rw [hbm] at g3
    have hne := crcN_burst ((burstRows n b 32 (B s)).map Int.toNat) ((B s).map Int.toNat) (by simp [g2]) (hlt _ g1) (hlt _ (isB_B s)) b n (by omega) (by omega) (by rw [List.length_map, g2, B_length]; omega) (by rw [g3, Nat.xor_comm, xor_cancel])
    intro e
    exact hne (Int.ofNat_inj.1 e)

end Go.Proofs.Yteackhccflojpaa.Pure
