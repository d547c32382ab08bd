-- Made by a changed print program (wip/pp) for this claim; Lean checks it.
import Derived.Test.YteackhccflojpaaOCrcGo
import Derived.Test.YteackhccflojpaaOArr
import Derived.Test.YteackhccflojpaaPx0
import Derived.Test.YteackhccflojpaaPx15
namespace Go.Proofs.Yteackhccflojpaa.P
open Go.RowKit Go.Proofs.YteackhccflojpaaW.PrintWords Go.Proofs.YteackhccflojpaaW.PrintLast Go.Proofs.YteackhccflojpaaW.PrintMore
attribute [local go_sem] max2_int min2_int max_two min_two max_three min_three max_four min_four   -- for this text's walks alone
open Go.Proofs.YteackhccflojpaaO
attribute [local go_sem] min2_str max2_str
set_option linter.unusedVariables false
set_option linter.unusedSimpArgs false

/-! ### careenageref02_More: function 24 (by hand) -/
theorem ref02_step_l (k c : Nat) (j : Int) (hc : c < 4294967296) (h0 : 0 ≤ j) (hj : j < 8) : careenageref02_step.l0 (k + 1) (c : Int) j = careenageref02_step.l0 k ((T c : Nat) : Int) (j + 1) := by
  rw [careenageref02_step.l0, if_pos hj, bit_go c hc, show wrap64 (j + 1) = j + 1 from by unfold wrap64; omega]
  unfold T
  have h2 := Nat.mod_two_eq_zero_or_one c
  rcases h2 with h2 | h2
  · rw [h2, if_neg (by decide), if_neg (by decide)]
    rw [show (c : Int) / 2 = ((c / 2 : Nat) : Int) from by omega]
  · rw [h2, if_pos (by decide), if_pos rfl, xor_go c hc]
theorem ref02_step_is (c : Nat) (hc : c < 4294967296) : careenageref02_step.f 9 (c : Int) = some ((Tn 8 c : Nat) : Int) := by
  have hT : ∀ {c}, c < 4294967296 → T c < 4294967296 := fun h => T_lt h
  unfold careenageref02_step.f
  rw [ref02_step_l 8 c 0 hc (by decide) (by decide), ref02_step_l 7 _ _ (hT hc) (by decide) (by decide), ref02_step_l 6 _ _ (hT (hT hc)) (by decide) (by decide), ref02_step_l 5 _ _ (hT (hT (hT hc))) (by decide) (by decide),
    ref02_step_l 4 _ _ (hT (hT (hT (hT hc)))) (by decide) (by decide), ref02_step_l 3 _ _ (hT (hT (hT (hT (hT hc))))) (by decide) (by decide), ref02_step_l 2 _ _ (hT (hT (hT (hT (hT (hT hc)))))) (by decide) (by decide),
    ref02_step_l 1 _ _ (hT (hT (hT (hT (hT (hT (hT hc))))))) (by decide) (by decide)]
  rw [careenageref02_step.l0, if_neg (by decide)]
  rfl
set_option maxHeartbeats 8000000 in
set_option maxRecDepth 100000 in
theorem careenageref02_Table.runs (w : World) :
    Calls Try.prog 25 #[] w fun e w' => e = .returned (.agg (tabV 256)) ∧ Below w.heap.size w w' := by
  have HB := Aside0.mk (Below.refl w.heap.size w)
  go_enter Try.func25, Try.ntmps25
  go_wp2_with (first | ((with_reducible refine gate_dst (N := 0) rfl ?_); refine arr_alloc ?hg (N := 0) ?hd 32 ?ho (tabV 0) ?hz ?_; (case hd => rfl); (case hg => rfl); (case ho => rfl); (case hz => (rw [tabV_zero]; kernel_rfl)); intro g0 hg w1 hbl hb; have n0_ := Aside0.mk (below_step HB.out hb); have n1_ := Aside0.mk hbl; have n2_ := Aside0.mk ((by rw [hg]; exact Nat.le_refl _ : w.heap.size ≤ g0)); clear HB; have HB := n0_; have HR0 := n1_; have HG0 := n2_; clear n0_ n1_ n2_ hb hbl hg) | ((with_reducible refine gate_dst (N := 1) rfl ?_); refine arr_alloc ?hg (N := 1) ?hd 32 ?ho (tabV 0) ?hz ?_; (case hd => rfl); (case hg => rfl); (case ho => rfl); (case hz => (rw [tabV_zero]; kernel_rfl)); intro g hg w2 hbl hb; have n0_ := Aside0.mk (below_step HB.out hb); have n1_ := Aside0.mk hbl; have n2_ := Aside0.mk ((by rw [hg]; exact HB.out.size : w.heap.size ≤ g)); have n3_ := Aside0.mk (blk_below HR0.out hb); have n4_ := Aside0.mk ((by rw [hg]; exact Nat.ne_of_lt (blk_lt HR0.out) : g0 ≠ g)); clear HB HR0; have HB := n0_; have HR := n1_; have HG := n2_; have HR0 := n3_; have HN := n4_; clear n0_ n1_ n2_ n3_ n4_ hb hbl hg))
  go_loopg [2] 256 (fun kq v2 w' => ∃ n : Nat, v2 = .int .i64 (n : Int) ∧ Aside0 (kq + n = 256) ∧ Aside0 (Below w.heap.size w w') ∧ Aside0 (w'.heap[g]? = some (Obj.cells (tabV n) 32)) ∧ Aside0 (w'.heap[g0]? = some (Obj.cells (tabV 0) 32)))
  case atStart => exact ⟨0, rfl, ⟨rfl⟩, HB, HR, HR0⟩
  case round =>
    clear HB HR HR0
    obtain ⟨n, rfl, HK, HB, HR, HR0⟩ := hrel
    by_cases hn : n < 256
    · have c1 : decide ((n : Int) < 256) = true := decide_eq_true (by omega)
      cases gk with
      | zero => have := HK.out; omega
      | succ k1 =>
      have hc := (blk_cell HR.out n).trans (show (tabV n)[n]? = some (.int .u32 0) by simp [tabV, tabL, hn])
      have hf := blk_frozen HR.out n
      have hstep := ref02_step_is n (by omega)
      have hnn : (n : Int) % 4294967296 = n := by omega
      go_wp2_with (first | (go_at_call 41; (with_reducible refine (careenageref02_step.calls 9 _ _ _ hstep).mono ?_); rintro e w' ⟨rfl, ⟨nd, rfl⟩⟩))
      go_roundg k1
      case measure => omega
      case rel => exact ⟨n + 1, by simp, ⟨by have := HK.out; omega⟩, ⟨below_set (pw_below_drewN HB.out _) HG.out⟩, ⟨by have h_ := blk_set (blk_drewN HR.out nd) n (.int .u32 (Tn 8 n : Nat)); rw [tabV_set n hn] at h_; exact h_⟩, ⟨blk_far (blk_drewN HR0.out nd) HN.out _⟩⟩
    · have hn8 : n = 256 := by have := HK.out; omega
      subst hn8
      have c1 : decide (((256 : Nat) : Int) < 256) = false := by decide
      go_wp2
      refine wp_arr_load 32 (.tmp 1) rfl Try.underlying32 (cs := tabV 256) (by rw [tabV_size]; kernel_rfl) rfl HR.out ?_
      have hsz := tabV_size 256
      go_wp2_with (first | refine arr_store (w0 := w) ?hg ?hd 32 (.tmp 0) (.tmp 12) ?ho (cs := tabV 0) (cs' := tabV 256) (by rw [tabV_size]; kernel_rfl) ?hx ?hy HR0.out (by rw [tabV_size, tabV_size]) (tabV_one 256) HB.out HG0.out ?_; (case hd => rfl); (case hg => rfl); (case ho => rfl); (case hx => rfl); (case hy => rfl); intro w9 hr9 hb9; have HR9 := Aside0.mk hr9; have HB9 := Aside0.mk hb9; clear HB HR0 hr9 hb9)
      exact bodyPost_ret (v := .agg (tabV 256)) (results_arr 32 rfl Try.underlying32 (cs := tabV 256) (by rw [tabV_size]; kernel_rfl) rfl HR9.out) rfl ⟨rfl, HB9.out⟩
set_option maxHeartbeats 8000000 in
set_option maxRecDepth 100000 in
theorem careenageref02_More.runs (tv : Array Value) (hts : tv.size = 256) (hto : ∀ v ∈ tv, v.oneCell' = true) (htab : ∀ j, j < 256 → tv[j]? = some (.int .u32 ((Tn 8 j : Nat) : Int))) (hrun : ∀ w, Calls Try.prog 25 #[] w fun e w' => e = .returned (.agg tv) ∧ Below w.heap.size w w') (c0 : Nat) (hc0 : c0 < 4294967296) (s : ByteArray) (hs : s.size < 4611686018427387904) (w : World) :
    Calls Try.prog 24 #[.int .u32 (c0 : Int), .string s] w fun e w' => e = .returned (.int .u32 (crcN c0 (nb s) : Nat)) ∧ Below w.heap.size w w' := by
  have HB := Aside0.mk (Below.refl w.heap.size w)
  have HS := Aside0.mk hs
  have HT := Aside0.mk htab
  have HO := Aside0.mk hto
  have HRUN := Aside0.mk hrun
  have HTS := Aside0.mk hts
  clear hs htab hto hrun hts
  go_enter Try.func24, Try.ntmps24
  go_wp2_with (first | (go_at_call 25; (with_reducible refine (HRUN.out _).mono ?_); rintro e w1 ⟨rfl, hb⟩; have n0_ := Aside0.mk (below_step HB.out hb); clear HB; have HB := n0_; clear n0_ hb) | ((with_reducible refine gate_dst (N := 5) rfl ?_); refine arr_alloc ?hg (N := 5) ?hd 32 ?ho (tabV 0) ?hz ?_; (case hd => rfl); (case hg => rfl); (case ho => rfl); (case hz => (rw [tabV_zero]; kernel_rfl)); intro g hg w2 hbl hb; have n0_ := Aside0.mk (below_step HB.out hb); have n1_ := Aside0.mk hbl; have n2_ := Aside0.mk ((by rw [hg]; exact HB.out.size : w.heap.size ≤ g)); clear HB; have HB := n0_; have HR := n1_; have HG := n2_; clear n0_ n1_ n2_ hb hbl hg) | (refine arr_store (w0 := w) ?hg ?hd 32 (.tmp 5) (.tmp 8) ?ho (cs := tabV 0) (cs' := tv) (by rw [HTS.out]; kernel_rfl) ?hx ?hy HR.out (by rw [tabV_size, HTS.out]) HO.out HB.out HG.out ?_; (case hd => rfl); (case hg => rfl); (case ho => rfl); (case hx => rfl); (case hy => rfl); intro w9 hr9 hb9; have HR9 := Aside0.mk hr9; have HB9 := Aside0.mk hb9; clear HB HR; have HR := HR9; have HB := HB9; clear HR9 HB9 hr9 hb9))
  have hmx : IntKind.u32.max = 4294967295 := by decide
  go_loopg [6, 7] s.size (fun kq v6 v7 w' => ∃ m : Nat, v6 = .int .u32 (reg c0 s m : Nat) ∧ v7 = .int .i64 (m : Int) ∧ Aside0 (kq + m = s.size) ∧ Aside0 (Below w.heap.size w w') ∧ Aside0 (w'.heap[g]? = some (Obj.cells tv 32)))
  case atStart => exact ⟨0, by rw [hmx, not_go' c0 hc0, reg_zero], rfl, ⟨rfl⟩, HB, HR⟩
  case round =>
    clear HB HR
    obtain ⟨m, rfl, rfl, HK, HB, HR⟩ := hrel
    have hcr := reg_lt hc0 s m
    by_cases hm : m < s.size
    · have c1 : decide ((m : Int) < (s.size : Int)) = true := decide_eq_true (by omega)
      cases gk with
      | zero => have := HK.out; omega
      | succ k1 =>
      have hmeas : k1 + (m + 1) = s.size := by rw [← HK.out, Nat.add_assoc, Nat.add_comm 1 m]
      have hmk : k1 < k1 + 1 := Nat.lt_succ_self k1
      have hbt := bt_nb s m hm
      obtain ⟨b, hb⟩ : ∃ b, b = (nb s)[m]'(by rw [nb_length]; exact hm) := ⟨_, rfl⟩
      rw [← hb] at hbt
      have hb2 : b < 256 := by rw [hb]; exact nb_lt s _ (List.getElem_mem _)
      have hnext := reg_succ c0 s m hm
      rw [← hb] at hnext
      have p5 : 0 ≤ (m : Int) := by omega
      have q5 : (m : Int) < (s.size : Int) := by omega
      have hx5 : ∀ h : m < s.size, (s[m]'h).toNat = b := fun h => by
        have := bt_at s m h
        rw [hbt] at this
        simp only [Int.toNat_natCast] at this
        omega
      have hix := ix_go (reg c0 s m) b hb2
      have hil := ix_lt (reg c0 s m) b hb2
      have hcell := (blk_cell HR.out (reg c0 s m % 256 ^^^ b)).trans (HT.out _ hil)
      obtain ⟨j, hj⟩ : ∃ j, j = reg c0 s m % 256 ^^^ b := ⟨_, rfl⟩
      have hgo := byte_go' (reg c0 s m) b hcr hb2
      rw [← hj] at hix hil hcell hgo
      rw [← hnext] at hgo
      have hil' : (j : Int) < 256 := by omega
      have hil0 : 0 ≤ (j : Int) := by omega
      clear hj hb hbt hnext
      have hw64 : wrap64 ((m : Int) + 1) = ((m + 1 : Nat) : Int) := w64_next hm HS.out
      replace p5 := eq_true p5
      replace q5 := eq_true q5
      go_wp2
      go_roundg k1
      case measure => exact hmk
      case rel => exact ⟨m + 1, by first | rfl | (simp; done) | (rw [hgo]; done), congrArg (Value.int .i64) hw64, ⟨hmeas⟩, ⟨by repeat (first | (with_reducible first | exact HB.out | apply below_alloc | apply pw_below_drewN | apply below_drew1) | exact HB.out)⟩, ⟨by (with_reducible repeat (first | refine blk_drewN ?_ _ | refine blk_drew ?_ | refine blk_alloc ?_ _)); exact HR.out⟩⟩
    · have hms : m = s.size := by have := HK.out; omega
      subst hms
      have c1 : decide ((s.size : Int) < (s.size : Int)) = false := by simp
      have hout := (not_go' (reg c0 s s.size) hcr).trans (congrArg (fun n : Nat => (n : Int)) (reg_all c0 s))
      go_wp2
      go_ret
      exact ⟨by first | rfl | (rw [hout]; done) | (simp [hout]; done), by repeat (first | (with_reducible first | exact HB.out | apply below_alloc | apply pw_below_drewN | apply below_drew1) | exact HB.out)⟩
/-- The check of more bytes, by the document's answer. -/
def careenageref02_More.f (a0 : Int) (a1 : ByteArray) : Option (Int) := if 0 ≤ a0 ∧ a0 < 4294967296 ∧ a1.size < 4611686018427387904 then some (crcI a0 a1) else none
theorem careenageref02_More.calls (a0 : Int) (a1 : ByteArray) (r : Int) (w : World) (h : careenageref02_More.f a0 a1 = some r) :
    Calls Try.prog 24 #[.int .u32 a0, .string a1] w fun e w' => e = .returned (.int .u32 r) ∧ Below w.heap.size w w' := by
  unfold careenageref02_More.f at h
  split at h
  · rename_i hc
    obtain ⟨h0, h1, h2⟩ := hc
    obtain rfl := Option.some.inj h
    obtain ⟨n, rfl⟩ := Int.eq_ofNat_of_zero_le h0
    exact careenageref02_More.runs (tabV 256) (tabV_size 256) (tabV_one 256) tab_at careenageref02_Table.runs n (by omega) a1 h2 w
  · cases h

end Go.Proofs.Yteackhccflojpaa.P
