-- Made by a changed print program (wip/pp) for this claim; Lean checks it.
import Derived.Test.YteackhccflojpaaOCrcGo
import Derived.Test.YteackhccflojpaaOArr
import Derived.Test.YteackhccflojpaaPx0
namespace Go.Proofs.Yteackhccflojpaa.P
open Go.RowKit Go.Proofs.YteackhccflojpaaW.PrintWords Go.Proofs.YteackhccflojpaaW.PrintLast Go.Proofs.YteackhccflojpaaW.PrintMore
attribute [local go_sem] max2_int min2_int max_two min_two max_three min_three max_four min_four   -- for this text's walks alone
open Go.Proofs.YteackhccflojpaaO
attribute [local go_sem] min2_str max2_str
set_option linter.unusedVariables false
set_option linter.unusedSimpArgs false

/-! ### crc_More: function 22 (by hand) -/
set_option maxHeartbeats 8000000 in
set_option maxRecDepth 100000 in
theorem crc_Table.runs (w : World) :
    Calls Try.prog 20 #[] w fun e w' => e = .returned (.agg (tabV 256)) ∧ Below w.heap.size w w' := by
  have HB := Aside0.mk (Below.refl w.heap.size w)
  go_enter Try.func20, Try.ntmps20
  go_wp2_with (first | ((with_reducible refine gate_dst (N := 0) rfl ?_); refine arr_alloc ?hg (N := 0) ?hd 32 ?ho (tabV 0) ?hz ?_; (case hd => rfl); (case hg => rfl); (case ho => rfl); (case hz => (rw [tabV_zero]; kernel_rfl)); intro g hg w1 hbl hb; have n0_ := Aside0.mk (below_step HB.out hb); have n1_ := Aside0.mk hbl; have n2_ := Aside0.mk ((by rw [hg]; exact Nat.le_refl _ : w.heap.size ≤ g)); clear HB; have HB := n0_; have HR := n1_; have HG := n2_; clear n0_ n1_ n2_ hb hbl hg))
  go_loopg [3] 256 (fun kq v3 w' => ∃ n : Nat, v3 = .int .i64 (n : Int) ∧ Aside0 (kq + n = 256) ∧ Aside0 (Below w.heap.size w w') ∧ Aside0 (w'.heap[g]? = some (Obj.cells (tabV n) 32)))
  case atStart => exact ⟨0, rfl, ⟨rfl⟩, HB, HR⟩
  case round =>
    clear HB HR
    obtain ⟨n, rfl, HK, HB, HR⟩ := hrel
    by_cases hn : n < 256
    · have c1 : decide ((n : Int) < 256) = true := decide_eq_true (by omega)
      cases gk with
      | zero => have := HK.out; omega
      | succ k1 =>
      go_wp2
      go_loopg [2, 8] 8 (fun kq v2 v8 w' => ∃ m : Nat, v2 = .int .u32 (Tn m n : Nat) ∧ v8 = .int .i64 (m : Int) ∧ Aside0 (kq + m = 8) ∧ Aside0 (Below w.heap.size w w') ∧ Aside0 (w'.heap[g]? = some (Obj.cells (tabV n) 32)))
      case atStart => exact ⟨0, rfl, rfl, ⟨rfl⟩, HB, HR⟩
      case round =>
        clear HB HR
        obtain ⟨m, rfl, rfl, HK2, HB, HR⟩ := hrel
        by_cases hm : m < 8
        · have c2 : decide ((m : Int) < 8) = true := decide_eq_true (by omega)
          cases gk with
          | zero => have := HK2.out; omega
          | succ k2 =>
          go_wp2
          go_roundg k2
          case measure => omega
          case rel => exact ⟨m + 1, by rw [step_go _ (tn_lt' m (by omega)), tn_next], by simp, ⟨by have := HK2.out; omega⟩, HB, HR⟩
        · have hm8 : m = 8 := by have := HK2.out; omega
          subst hm8
          have c2 : decide (((8 : Nat) : Int) < 8) = false := by decide
          have hc := (blk_cell HR.out n).trans (show (tabV n)[n]? = some (.int .u32 0) by simp [tabV, tabL, hn])
          have hf := blk_frozen HR.out n
          have hb2 := Aside0.mk (below_set (j := n) (v := .int .u32 (Tn 8 n : Nat)) HB.out HG.out)
          have hr2 := Aside0.mk (blk_set HR.out n (.int .u32 (Tn 8 n : Nat)))
          rw [tabV_set n hn] at hr2
          go_wp2
          go_roundg k1
          case measure => omega
          case rel => exact ⟨n + 1, by simp, ⟨by have := HK.out; omega⟩, hb2, hr2⟩
    · have hn8 : n = 256 := by have := HK.out; omega
      subst hn8
      have c1 : decide (((256 : Nat) : Int) < 256) = false := by decide
      go_wp2
      refine wp_arr_load 32 (.tmp 0) rfl Try.underlying32 (cs := tabV 256) (by rw [tabV_size]; kernel_rfl) rfl HR.out ?_
      have hst := run_store_same (P := Try.prog) HR.out (tabV_one 256)
      have hsz := tabV_size 256
      go_wp2
      exact bodyPost_ret (v := .agg (tabV 256)) (results_arr 32 rfl Try.underlying32 (cs := tabV 256) (by rw [tabV_size]; kernel_rfl) rfl HR.out) rfl ⟨rfl, HB.out⟩
set_option maxHeartbeats 8000000 in
set_option maxRecDepth 100000 in
theorem crc_with.runs (tv : Array Value) (htab : ∀ j, j < 256 → tv[j]? = some (.int .u32 ((Tn 8 j : Nat) : Int))) (c0 : Nat) (hc0 : c0 < 4294967296) (s : ByteArray) (hs : s.size < 4611686018427387904) (w : World) :
    Calls Try.prog 40 #[.agg (tv), .int .u32 (c0 : Int), .string s] w fun e w' => e = .returned (.int .u32 (crcN c0 (nb s) : Nat)) ∧ Below w.heap.size w w' := by
  have HB := Aside0.mk (Below.refl w.heap.size w)
  have HS := Aside0.mk hs
  clear hs
  go_enter Try.func40, Try.ntmps40
  go_wp2_with (first | ((with_reducible refine gate_dst (N := 3) rfl ?_); refine arr_box ?hg (N := 3) ?hd 32 (.tmp 0) ?ho (tv) ?hx ?_; (case hd => rfl); (case hg => rfl); (case ho => rfl); (case hx => rfl); intro g hg w1 hbl hb; have n0_ := Aside0.mk (below_step HB.out hb); have n1_ := Aside0.mk hbl; clear HB; have HB := n0_; have HR := n1_; clear n0_ n1_ hb hbl hg))
  have hmx : IntKind.u32.max = 4294967295 := by decide
  go_loopg [1, 12] s.size (fun kq v1 v12 w' => ∃ m : Nat, v1 = .int .u32 (reg c0 s m : Nat) ∧ v12 = .int .i64 (m : Int) ∧ Aside0 (kq + m = s.size) ∧ Aside0 (Below w.heap.size w w') ∧ Aside0 (w'.heap[g]? = some (Obj.cells (tv) 32)))
  case atStart => exact ⟨0, by rw [hmx, not_go' c0 hc0, reg_zero], rfl, ⟨rfl⟩, HB, HR⟩
  case round =>
    clear HB HR
    obtain ⟨m, rfl, rfl, HK, HB, HR⟩ := hrel
    have hcr := reg_lt hc0 s m
    by_cases hm : m < s.size
    · have c1 : decide ((m : Int) < (s.size : Int)) = true := decide_eq_true (by omega)
      cases gk with
      | zero => have := HK.out; omega
      | succ k1 =>
      have hmeas : k1 + (m + 1) = s.size := by rw [← HK.out, Nat.add_assoc, Nat.add_comm 1 m]
      have hmk : k1 < k1 + 1 := Nat.lt_succ_self k1
      have hbt := bt_nb s m hm
      obtain ⟨b, hb⟩ : ∃ b, b = (nb s)[m]'(by rw [nb_length]; exact hm) := ⟨_, rfl⟩
      rw [← hb] at hbt
      have hb2 : b < 256 := by rw [hb]; exact nb_lt s _ (List.getElem_mem _)
      have hnext := reg_succ c0 s m hm
      rw [← hb] at hnext
      have p5 : 0 ≤ (m : Int) := by omega
      have q5 : (m : Int) < (s.size : Int) := by omega
      have hx5 : ∀ h : m < s.size, (s[m]'h).toNat = b := fun h => by
        have := bt_at s m h
        rw [hbt] at this
        simp only [Int.toNat_natCast] at this
        omega
      have hix := ix_go (reg c0 s m) b hb2
      have hil := ix_lt (reg c0 s m) b hb2
      have hcell := (blk_cell HR.out (reg c0 s m % 256 ^^^ b)).trans (htab _ hil)
      obtain ⟨j, hj⟩ : ∃ j, j = reg c0 s m % 256 ^^^ b := ⟨_, rfl⟩
      have hgo := byte_go (reg c0 s m) b hcr hb2
      rw [← hj] at hix hil hcell hgo
      rw [← hnext] at hgo
      have hil' : (j : Int) < 256 := by omega
      have hil0 : 0 ≤ (j : Int) := by omega
      clear hj hb hbt hnext
      have hw64 : wrap64 ((m : Int) + 1) = (m : Int) + 1 := w64_next hm HS.out
      replace p5 := eq_true p5
      replace q5 := eq_true q5
      go_wp2
      go_roundg k1
      case measure => exact hmk
      case rel => exact ⟨m + 1, by first | rfl | (simp; done) | (rw [hgo]; done), congrArg (Value.int .i64) hw64, ⟨hmeas⟩, HB, HR⟩
    · have hms : m = s.size := by have := HK.out; omega
      subst hms
      have c1 : decide ((s.size : Int) < (s.size : Int)) = false := by simp
      have hout := (not_go' (reg c0 s s.size) hcr).trans (congrArg (fun n : Nat => (n : Int)) (reg_all c0 s))
      go_wp2
      go_ret
      exact ⟨by first | rfl | (rw [hout]; done) | (simp [hout]; done), HB.out⟩
/-- The check of more bytes: for a number of 32 bits, and a string that any machine can hold. -/
def crc_More.f (a0 : Int) (a1 : ByteArray) : Option (Int) := if 0 ≤ a0 ∧ a0 < 4294967296 ∧ a1.size < 4611686018427387904 then some (crcI a0 a1) else none
set_option maxHeartbeats 8000000 in
set_option maxRecDepth 100000 in
theorem crc_More.calls (a0 : Int) (a1 : ByteArray) (r : Int) (w : World) (h : crc_More.f a0 a1 = some r) :
    Calls Try.prog 22 #[.int .u32 a0, .string a1] w fun e w' => e = .returned (.int .u32 r) ∧ Below w.heap.size w w' := by
  unfold crc_More.f at h
  split at h
  · rename_i hc
    obtain ⟨h0, h1, h2⟩ := hc
    have H2 := Aside0.mk h2
    clear h2
    obtain rfl := Option.some.inj h
    clear h
    obtain ⟨n, rfl⟩ := Int.eq_ofNat_of_zero_le h0
    have hn : n < 4294967296 := by omega
    have HB := Aside0.mk (Below.refl w.heap.size w)
    go_enter Try.func22, Try.ntmps22
    go_wp2_with (first | (go_at_call 20; (with_reducible refine (crc_Table.runs _).mono ?_); rintro e w1 ⟨rfl, hb⟩; have n0_ := Aside0.mk (below_step HB.out hb); clear HB; have HB := n0_; clear n0_ hb) | (go_at_call 40; (with_reducible refine (crc_with.runs (tabV 256) tab_at n hn a1 H2.out _).mono ?_); rintro e w1 ⟨rfl, hb⟩; have n0_ := Aside0.mk (below_step HB.out hb); clear HB; have HB := n0_; clear n0_ hb))
    go_ret
    exact ⟨rfl, HB.out⟩
  · cases h

end Go.Proofs.Yteackhccflojpaa.P
