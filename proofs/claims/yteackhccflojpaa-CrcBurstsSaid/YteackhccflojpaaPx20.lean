-- Made by a changed print program (wip/pp) for this claim; Lean checks it.
import Derived.Test.YteackhccflojpaaOMkRow
import Derived.Test.YteackhccflojpaaOMkRow
import Derived.Test.YteackhccflojpaaPx0
import Derived.Test.YteackhccflojpaaPx12
import Derived.Test.YteackhccflojpaaPx13
import Derived.Test.YteackhccflojpaaPx19
namespace Go.Proofs.Yteackhccflojpaa.P
open Go.RowKit Go.Proofs.YteackhccflojpaaW.PrintWords Go.Proofs.YteackhccflojpaaW.PrintLast Go.Proofs.YteackhccflojpaaW.PrintMore
attribute [local go_sem] max2_int min2_int max_two min_two max_three min_three max_four min_four   -- for this text's walks alone
open Go.Proofs.YteackhccflojpaaO
attribute [local go_sem] min2_str max2_str
set_option linter.unusedVariables false
set_option linter.unusedSimpArgs false

/-! ### careenagelaw02_CrcBursts: function 7 (by hand) -/
/-- What a round makes of a row: the bit, where it is set, is turned at its place. -/
def burstRow (at_ bits m : Nat) (xs : List Int) : List Int := if bits / 2 ^ m % 2 = 1 then xs.set ((at_ + m) / 8) (((xs.getD ((at_ + m) / 8) 0).toNat ^^^ 2 ^ ((at_ + m) % 8) : Nat) : Int) else xs
def burstRows (at_ bits : Nat) : Nat → List Int → List Int
  | 0, xs => xs
  | m + 1, xs => burstRow at_ bits m (burstRows at_ bits m xs)
theorem bit_at (b m : Nat) (h : ((b : Nat) : Int) < 4294967296) : Go.bits .and .u32 ((b : Int) / 2 ^ m) 1 = ((b / 2 ^ m % 2 : Nat) : Int) := by
  have h1 : (b : Int) / 2 ^ m = ((b / 2 ^ m : Nat) : Int) := by simp
  rw [h1]
  exact bit_go (b / 2 ^ m) (Nat.lt_of_le_of_lt (Nat.div_le_self _ _) (by omega))
theorem xor_at (x k : Nat) (hx : x < 256) (hk : k < 8) : Go.bits .xor .u8 (x : Int) ((2 : Int) ^ k % 256) = ((x ^^^ 2 ^ k : Nat) : Int) := by
  have h2 : 2 ^ k < 2 ^ 8 := Nat.pow_lt_pow_right (by decide) hk
  have h1 : (2 : Int) ^ k % 256 = ((2 ^ k : Nat) : Int) := by
    have : (2 : Int) ^ k = ((2 ^ k : Nat) : Int) := by simp
    rw [this]
    exact Int.emod_eq_of_lt (Int.natCast_nonneg _) (Int.ofNat_lt.2 h2)
  rw [h1]
  exact u8_xor_nat x (2 ^ k) hx h2
def careenagelaw02_CrcBursts.Pure : Prop := ∀ (a0 : ByteArray) (a1 a2 : Int), a0.size ≤ 140737488351232 → (Lit.int .i64 a1).wf = true → (Lit.int .u32 a2).wf = true →
  careenagelaw02_lives.f = some true ∧ 0 ≤ a2 ∧ a2 < 4294967296 ∧ (a0.size ≤ 600 → 5 ≤ a0.size → a2 ≠ 0 → ∃ r : Nat, careenagekit_Pick.f a1 (8 * (a0.size : Int) - 39) = some (r : Int) ∧ (r : Int) < 8 * (a0.size : Int) - 39 ∧ (∀ m, m ≤ 32 → isB (burstRows r a2.toNat m (B a0)) ∧ (burstRows r a2.toNat m (B a0)).length = a0.size) ∧
    ∃ u v, crc_Of.f (strOfNums (burstRows r a2.toNat 32 (B a0))) = some u ∧ crc_Of.f a0 = some v ∧ u ≠ v)
set_option maxHeartbeats 8000000 in
set_option maxRecDepth 100000 in
theorem careenagelaw02_CrcBursts.walk (P : careenagelaw02_CrcBursts.Pure) (a0 : ByteArray) (a1 : Int) (a2 : Int) (w : World) (w0 : a0.size ≤ 140737488351232) (w1 : (Lit.int .i64 a1).wf = true) (w2 : (Lit.int .u32 a2).wf = true) :
    Calls Try.prog 7 #[.string a0, .int .i64 a1, .int .u32 a2] w fun e w' => e = .returned (.bool true) ∧ Below w.heap.size w w' := by
  obtain ⟨p0, hb0, hb1, hp⟩ := P a0 a1 a2 w0 w1 w2
  obtain ⟨bits, rfl⟩ := Int.eq_ofNat_of_zero_le hb0
  have P0 := Aside0.mk p0
  have W0 := Aside0.mk w0
  have HBITS := Aside0.mk hb1
  clear p0 w0 w1 w2 hb0 hb1
  have HB := Aside0.mk (Below.refl w.heap.size w)
  by_cases c1 : (600 : Int) < (a0.size : Int)
  · have c1b : decide ((600 : Int) < (a0.size : Int)) = true := decide_eq_true c1
    clear hp c1
    go_enter Try.func7, Try.ntmps7
    go_wp2_with (first | (go_at_call 19; (with_reducible refine (careenagelaw02_lives.calls true _ P0.out).mono ?_); rintro e w1 ⟨rfl, hb⟩; have n0_ := Aside0.mk (below_step HB.out hb); clear HB; have HB := n0_; clear n0_ hb))
    all_goals (go_ret; exact ⟨rfl, HB.out⟩)
  have c1b : decide ((600 : Int) < (a0.size : Int)) = false := decide_eq_false c1
  by_cases c2 : (a0.size : Int) < 5
  · have c2b : decide ((a0.size : Int) < 5) = true := decide_eq_true c2
    clear hp c1 c2
    go_enter Try.func7, Try.ntmps7
    go_wp2_with (first | (go_at_call 19; (with_reducible refine (careenagelaw02_lives.calls true _ P0.out).mono ?_); rintro e w1 ⟨rfl, hb⟩; have n0_ := Aside0.mk (below_step HB.out hb); clear HB; have HB := n0_; clear n0_ hb))
    all_goals (go_ret; exact ⟨rfl, HB.out⟩)
  have c2b : decide ((a0.size : Int) < 5) = false := decide_eq_false c2
  by_cases c3 : (bits : Int) = 0
  · have c3b : ((bits : Int) == 0) = true := beq_iff_eq.mpr c3
    clear hp c1 c2 c3
    go_enter Try.func7, Try.ntmps7
    go_wp2_with (first | (go_at_call 19; (with_reducible refine (careenagelaw02_lives.calls true _ P0.out).mono ?_); rintro e w1 ⟨rfl, hb⟩; have n0_ := Aside0.mk (below_step HB.out hb); clear HB; have HB := n0_; clear n0_ hb))
    all_goals (go_ret; exact ⟨rfl, HB.out⟩)
  have c3b : ((bits : Int) == 0) = false := beq_eq_false_iff_ne.mpr c3
  obtain ⟨r, hpick, hr, hrows, u, v, hu, hv, huv⟩ := hp (by omega) (by omega) c3
  rw [Int.toNat_natCast] at hrows hu
  have PP := Aside0.mk hpick
  have PU := Aside0.mk hu
  have PV := Aside0.mk hv
  have PR := Aside0.mk hrows
  have huvb : (u == v) = false := beq_eq_false_iff_ne.mpr huv
  have huvn : (u != v) = true := bne_iff_ne.mpr huv
  clear hpick hu hv hrows huv c3
  have hw8 : wrap64 (wrap64 (8 * (a0.size : Int)) - 39) = 8 * (a0.size : Int) - 39 := by unfold wrap64; omega
  have hw9 : wrap64 (8 * (a0.size : Int)) = 8 * (a0.size : Int) := by unfold wrap64; omega
  have hw10 : wrap64 (8 * (a0.size : Int) - 39) = 8 * (a0.size : Int) - 39 := by unfold wrap64; omega
  go_enter Try.func7, Try.ntmps7
  go_wp2_with (first | (go_at_call 19; (with_reducible refine (careenagelaw02_lives.calls true _ P0.out).mono ?_); rintro e w1 ⟨rfl, hb⟩; have n0_ := Aside0.mk (below_step HB.out hb); clear HB; have HB := n0_; clear n0_ hb) | (go_at_call 26; (with_reducible refine (careenagekit_Pick.calls a1 _ _ _ PP.out).mono ?_); rintro e w' ⟨rfl, ⟨nd, rfl⟩⟩) | ((with_reducible refine gate_dst (N := 30) rfl ?_); refine mk_event ?hg (N := 30) ?hd 9 28 5 (.tmp 29) ?ho a0 ?hx Try.underlying9 Try.underlying28 Try.underlying5 (Nat.le_trans W0.out (by decide)) ?_; (case hd => rfl); (case hg => rfl); (case ho => rfl); (case hx => rfl); intro g cc hg w1 hmk hb; have n0_ := Aside0.mk (below_step (pw_below_drewN HB.out _) hb); have n1_ := Aside0.mk hmk; have n2_ := Aside0.mk ((by rw [hg]; exact HB.out.size : w.heap.size ≤ g)); clear HB; have HB := n0_; have HM := n1_; have HG := n2_; clear n0_ n1_ n2_ hb hmk hg))
  go_loopg [8] 32 (fun kq v8 w' => ∃ m : Nat, v8 = .int .i64 (m : Int) ∧ Aside0 (kq + m = 32) ∧ Aside0 (Below w.heap.size w w') ∧ Aside0 (MkRow w' g 5 (burstRows r bits m (B a0))))
  case atStart => exact ⟨0, rfl, ⟨rfl⟩, HB, HM⟩
  case round =>
    clear HB HM
    obtain ⟨m, rfl, HK, HB, HM⟩ := hrel
    by_cases hm : m < 32
    · have d1 : decide ((m : Int) < 32) = true := decide_eq_true (by omega)
      cases gk with
      | zero => have := HK.out; omega
      | succ k1 =>
      obtain ⟨hxB, hxl⟩ := PR.out m (by omega)
      have hnx : burstRows r bits (m + 1) (B a0) = burstRow r bits m (burstRows r bits m (B a0)) := rfl
      obtain ⟨xs, hxs⟩ : ∃ xs, xs = burstRows r bits m (B a0) := ⟨_, rfl⟩
      rw [← hxs] at hxB hxl hnx HM
      clear hxs
      have hj : (r + m) / 8 < xs.length := by omega
      have hcell := mk_cell HM.out _ hj
      have hfro := mk_frozen HM.out _ hj
      have hxr : 0 ≤ xs.getD ((r + m) / 8) 0 ∧ xs.getD ((r + m) / 8) 0 < 256 := hxB _ (by rw [List.getD_eq_getElem?_getD, List.getElem?_eq_getElem hj]; exact List.getElem_mem hj)
      obtain ⟨x, hx⟩ := Int.eq_ofNat_of_zero_le hxr.1
      rw [hx] at hcell
      have hxn : x < 256 := by omega
      have hbitn : Go.bits .and .u32 ((bits : Int) / 2 ^ m) 1 = ((bits / 2 ^ m % 2 : Nat) : Int) := bit_at bits m HBITS.out
      have hmk : k1 < k1 + 1 := Nat.lt_succ_self k1
      have hmeas : k1 + (m + 1) = 32 := by rw [← HK.out, Nat.add_assoc, Nat.add_comm 1 m]
      by_cases hbit : bits / 2 ^ m % 2 = 1
      · have hd : (Go.bits .and .u32 ((bits : Int) / 2 ^ m) 1 == 1) = true := by rw [hbitn, hbit]; rfl
        have hmset := mk_set HM.out ((r + m) / 8) ((x ^^^ 2 ^ ((r + m) % 8) : Nat) : Int)
        have hn2 : burstRow r bits m xs = xs.set ((r + m) / 8) ((x ^^^ 2 ^ ((r + m) % 8) : Nat) : Int) := by
          unfold burstRow
          rw [if_pos hbit, hx, Int.toNat_natCast]
        rw [← hn2, ← hnx] at hmset
        have HMS := Aside0.mk hmset
        have HMB := Aside0.mk (below_set (j := (r + m) / 8) (v := .int .u8 ((x ^^^ 2 ^ ((r + m) % 8) : Nat) : Int)) HB.out HG.out)
        clear hx hn2 hnx hbitn hmset
        have hval := xor_at x ((r + m) % 8) hxn (Nat.mod_lt _ (by decide))
        go_wp2
        go_roundg k1
        case measure => exact hmk
        case rel => exact ⟨m + 1, by simp, ⟨hmeas⟩, HMB, HMS⟩
      · have hb0 : bits / 2 ^ m % 2 = 0 := by have := Nat.mod_two_eq_zero_or_one (bits / 2 ^ m); omega
        have hd : (Go.bits .and .u32 ((bits : Int) / 2 ^ m) 1 == 1) = false := by rw [hbitn, hb0]; rfl
        have hn2 : burstRows r bits (m + 1) (B a0) = xs := by
          rw [hnx]
          unfold burstRow
          rw [if_neg hbit]
        go_wp2
        go_roundg k1
        case measure => exact hmk
        case rel => exact ⟨m + 1, by simp, ⟨hmeas⟩, HB, by rw [hn2]; exact HM⟩
    · have hm32 : m = 32 := by have := HK.out; omega
      subst hm32
      have d1 : decide (((32 : Nat) : Int) < 32) = false := by decide
      have hlen := (PR.out 32 (by decide)).2
      have hstr := mk_string (P := Try.prog) (c := cc) Try.underlying28 Try.underlying5 Try.underlying9 HM.out
      rw [hlen] at hstr
      clear hlen hp
      go_wp2_with (first | (go_at_call 21; (with_reducible refine (crc_Of.calls _ u _ PU.out).mono ?_); rintro e w1 ⟨rfl, hb⟩; have n0_ := Aside0.mk (below_step HB.out hb); clear HB; have HB := n0_; clear n0_ hb) | (go_at_call 21; (with_reducible refine (crc_Of.calls a0 v _ PV.out).mono ?_); rintro e w1 ⟨rfl, hb⟩; have n0_ := Aside0.mk (below_step HB.out hb); clear HB; have HB := n0_; clear n0_ hb))
      go_ret
      exact ⟨rfl, HB.out⟩

end Go.Proofs.Yteackhccflojpaa.P
