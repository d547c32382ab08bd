/- The texts that the statement's row rests on, one behind the other. -/
import Derived.Test.YtlkfcabklaaacaaMBranchNames1
import Derived.Defers
import Derived.Recover
import Derived.Laws.Pointers
import Derived.Tactics2
namespace Go.Proofs.Ytlkfcabklaaacaa.P
open Go.RowKit Go.Proofs.YtlkfcabklaaacaaW.PrintWords Go.Proofs.YtlkfcabklaaacaaW.PrintLast Go.Proofs.YtlkfcabklaaacaaW.PrintMore
attribute [local go_sem] max2_int min2_int max_two min_two max_three min_three max_four min_four   -- for this text's walks alone
open Go.Proofs.YtlkfcabklaaacaaO
attribute [local go_sem] min2_str max2_str
set_option linter.unusedVariables false
set_option linter.unusedSimpArgs false
/-! ### branch_Page: function 23 -/
mutual
def branch_Page.j0 : Nat → Int → Int → Int → List (S46) → Bool → Option (Int × Int × Int × Int × Int × ByteArray × Int)
  | 0, _, _, _, _, _ => none
  | k + 1, x0, x1, x2, x3, x33 => if x33 = true then (some (0, 0, 0, 0, 0, (⟨#[]⟩ : ByteArray), 2)) else (branch_Page.l0 k x0 x1 x2 x3 ([] : List Int) x3 (x3.length : Int) 0)
def branch_Page.l0 : Nat → Int → Int → Int → List (S46) → List Int → List (S46) → Int → Int → Option (Int × Int × Int × Int × Int × ByteArray × Int)
  | 0, _, _, _, _, _, _, _, _ => none
  | k + 1, x0, x1, x2, x3, x10, x35, x36, x37 => if x37 < x36 then (if 0 ≤ x37 then (if x37 < (x35.length : Int) then ((octet_Put.f k x10 (IntKind.u64.wrap ((((rd_T46 x35 x37).f0).size : Int))) 1).bind fun t157 => (if t157.length + ((rd_T46 x35 x37).f0).size < 140737488355328 then ((octet_Put.f k (t157 ++ bytesOf ((rd_T46 x35 x37).f0)) (IntKind.u64.wrap ((rd_T46 x35 x37).f1)) 4).bind fun t163 => (branch_Page.l0 k x0 x1 x2 x3 t163 x35 x36 (wrap64 (x37 + 1)))) else (none))) else (none)) else (none)) else ((frame_Body.f x0 x10).bind fun bt166 => (some (3, (x3.length : Int), x1, 0, x2, bt166.1, 0)))
end
def branch_Page.f (k : Nat) (a0 : Int) (a1 : Int) (a2 : Int) (l3 : List (S46)) : Option (Int × Int × Int × Int × Int × ByteArray × Int) := (branch_may.f k l3).bind fun t151 => (if t151 = true then ((branch_Size.f k l3).bind fun t152 => ((frame_Room.f a0).bind fun t153 => (if t152 > t153 then (branch_Page.j0 k a0 a1 a2 l3 true) else ((branch_number.f a1).bind fun t154 => (if t154 = true then (branch_Page.j0 k a0 a1 a2 l3 (decide (a2 > 4611686018427387904))) else (branch_Page.j0 k a0 a1 a2 l3 true)))))) else (branch_Page.j0 k a0 a1 a2 l3 true))
def branch_Page.T7 : Bool × List (List Nat × List Nat) := (true, [([], []), ([], []), ([1], [1]), ([2], [2]), ([3], [3]), ([0, 4], [0, 4]), ([], []), ([6], [6]), ([5, 7, 5], [5, 7]), ([8, 8, 0, 1, 2, 3, 4, 5, 6, 7, 8], [0, 8])])
def branch_Page.B7 : List Nat := [0, 0, 2, 6, 14, 31, 0, 64, 255, 511]
theorem branch_Page.tab7 : rtab .any (opsOf Try.f23 7) = branch_Page.T7 := by kernel_rfl
theorem branch_Page.bits7 : waitsOk branch_Page.T7.2 branch_Page.B7 = true := by kernel_rfl
set_option maxHeartbeats 8000000 in
set_option maxRecDepth 100000 in
theorem branch_Page.calls (k : Nat) (a0 : Int) (a1 : Int) (a2 : Int) (A3 : Option Addr) (c3 : Nat) (l3 : List (S46)) (r1 : Int) (r2 : Int) (r3 : Int) (r4 : Int) (r5 : Int) (r6 : ByteArray) (r7 : Int) (w : World) (hr3 : Kd.C k46 w A3 l3.length l3) (hc3 : l3.length ≤ c3) (h : branch_Page.f k a0 a1 a2 l3 = some (r1, r2, r3, r4, r5, r6, r7)) :
    Calls Try.prog 23 #[.int .i64 a0, .int .u32 a1, .int .u64 a2, .slice A3 l3.length c3] w fun e w' => e = .returned (.tuple #[.agg #[.int .i64 r1, .int .i64 r2, .int .u32 r3, .int .u32 r4, .int .u64 r5, .string r6], .int .i64 r7]) ∧ Below w.heap.size w w' := by
  have hu39 := Try.underlying39
  have hu46 := Try.underlying46
  have HR3 := Aside0.mk hr3
  have HC3 := Aside0.mk hc3
  clear hr3 hc3
  have HB := Aside0.mk (Below.refl w.heap.size w)
  have H : ((branch_may.f k l3).bind fun t151 => (if t151 = true then ((branch_Size.f k l3).bind fun t152 => ((frame_Room.f a0).bind fun t153 => (if t152 > t153 then (branch_Page.j0 k a0 a1 a2 l3 true) else ((branch_number.f a1).bind fun t154 => (if t154 = true then (branch_Page.j0 k a0 a1 a2 l3 (decide (a2 > 4611686018427387904))) else (branch_Page.j0 k a0 a1 a2 l3 true)))))) else (branch_Page.j0 k a0 a1 a2 l3 true))) = some (r1, r2, r3, r4, r5, r6, r7) := h
  clear h
  have HC5 := Aside0.mk H
  clear H
  go_enter Try.func23, Try.ntmps23
  go_upto_region 1 with (first | ((with_reducible refine gate_dst (N := 8) rfl ?_); refine box_event ?hg (N := 8) ?hd (cs := #[.int .i64 0, .int .i64 0, .int .u32 0, .int .u32 0, .int .u64 0, .string (⟨#[]⟩ : ByteArray)]) (t := 39) ?hr ?_; (case hd => rfl); (case hg => rfl); (case hr => first | (go_simp; done) | (go_simp; rfl)); intro gb150 hg w6 hbox hb; have n0_ := Aside0.mk (below_step (by repeat (first | (with_reducible first | exact HB.out | apply below_alloc | apply pw_below_drewN | apply below_drew1) | exact HB.out)) hb); have n1_ := Aside0.mk (hbox); have n2_ := Aside0.mk ((by rw [hg]; exact (below_size (by repeat (first | (with_reducible first | exact HB.out | apply below_alloc | apply pw_below_drewN | apply below_drew1) | exact HB.out))) : w.heap.size ≤ gb150)); have n3_ := Aside0.mk ((by rw [hg]; exact (below_size (by repeat (first | (with_reducible first | exact HB.out | apply below_alloc | apply pw_below_drewN | apply below_drew1) | exact HB.out))) : w.heap.size ≤ gb150)); clear HB; have HB := n0_; have BK150 := n1_; have GW150 := n2_; have GE150 := n3_; clear n0_ n1_ n2_ n3_; clear hb hbox hg))
  (try simp only [Act.put, List.setIfInBounds_toArray, List.set_cons_zero, List.set_cons_succ])
  go_cut [33] (fun v33 wc => ∃ (kq : Nat) (x33_4 : Bool), v33 = .bool x33_4 ∧ Aside0 (branch_Page.j0 kq a0 a1 a2 l3 x33_4 = some (r1, r2, r3, r4, r5, r6, r7)) ∧ Aside0 (kq ≤ k) ∧ Aside0 (wc.heap[gb150]? = some (.cells #[.int .i64 0, .int .i64 0, .int .u32 0, .int .u32 0, .int .u64 0, .string (⟨#[]⟩ : ByteArray)] 39 (0, 0))) ∧ Aside0 (Below w.heap.size w wc))
  case first =>
    have H := HC5.out
    clear HC5
    replace H := Option.bind_eq_some_iff.mp H
    obtain ⟨t151, A70, H⟩ := H
    replace H : (if t151 = true then ((branch_Size.f k l3).bind fun t152 => ((frame_Room.f a0).bind fun t153 => (if t152 > t153 then (branch_Page.j0 k a0 a1 a2 l3 true) else ((branch_number.f a1).bind fun t154 => (if t154 = true then (branch_Page.j0 k a0 a1 a2 l3 (decide (a2 > 4611686018427387904))) else (branch_Page.j0 k a0 a1 a2 l3 true)))))) else (branch_Page.j0 k a0 a1 a2 l3 true)) = some (r1, r2, r3, r4, r5, r6, r7) := H
    have A7 := Aside0.mk A70
    clear A70
    by_cases c8 : t151 = true
    · subst c8
      have H1 : ((branch_Size.f k l3).bind fun t152 => ((frame_Room.f a0).bind fun t153 => (if t152 > t153 then (branch_Page.j0 k a0 a1 a2 l3 true) else ((branch_number.f a1).bind fun t154 => (if t154 = true then (branch_Page.j0 k a0 a1 a2 l3 (decide (a2 > 4611686018427387904))) else (branch_Page.j0 k a0 a1 a2 l3 true)))))) = some (r1, r2, r3, r4, r5, r6, r7) := by rw [if_pos rfl] at H; exact H
      clear H
      have H := H1
      clear H1
      replace H := Option.bind_eq_some_iff.mp H
      obtain ⟨t152, A90, H⟩ := H
      replace H : ((frame_Room.f a0).bind fun t153 => (if t152 > t153 then (branch_Page.j0 k a0 a1 a2 l3 true) else ((branch_number.f a1).bind fun t154 => (if t154 = true then (branch_Page.j0 k a0 a1 a2 l3 (decide (a2 > 4611686018427387904))) else (branch_Page.j0 k a0 a1 a2 l3 true))))) = some (r1, r2, r3, r4, r5, r6, r7) := H
      have A9 := Aside0.mk A90
      clear A90
      replace H := Option.bind_eq_some_iff.mp H
      obtain ⟨t153, A100, H⟩ := H
      replace H : (if t152 > t153 then (branch_Page.j0 k a0 a1 a2 l3 true) else ((branch_number.f a1).bind fun t154 => (if t154 = true then (branch_Page.j0 k a0 a1 a2 l3 (decide (a2 > 4611686018427387904))) else (branch_Page.j0 k a0 a1 a2 l3 true)))) = some (r1, r2, r3, r4, r5, r6, r7) := H
      have A10 := Aside0.mk A100
      clear A100
      by_cases c11 : t152 > t153
      · rw [if_pos c11] at H
        have c11b0 : decide (t153 < t152) = true := decide_eq_true c11
        clear c11
        (first | rw [c11b0] | (simp only [i64_w, i32_w]; rw [c11b0]) | skip)
        have H' := Aside0.mk H
        clear H
        go_wp2_with (first | ((with_reducible refine gate_callee (f := 51) rfl ?_); refine goesL_ (some 16) rfl rfl Try.func51 (by kernel_rfl) rfl #[.slice A3 l3.length c3] rfl (by (try simp only [List.map_toArray, List.map_cons, List.map_nil]); first | done | rfl | (simp only [List.length_drop, List.length_take]; rfl)) ?_; (with_reducible refine (branch_may.calls k _ _ l3 true _ ?side1 ?side2 A7.out).mono ?_); (case side1 => repeat (first | exact (Kd.C_below HR3.out HB.out) | (with_reducible refine Kd.C_alloc ?_ _) | (with_reducible refine Kd.C_drewN ?_ _) | (with_reducible refine Kd.C_drew ?_))); (case side2 => exact HC3.out); rintro e w12 ⟨rfl, hb⟩; refine ⟨_, rfl, ?_⟩; have n0_ := Aside0.mk (blk_below (g := gb150) (o := .cells #[.int .i64 0, .int .i64 0, .int .u32 0, .int .u32 0, .int .u64 0, .string (⟨#[]⟩ : ByteArray)] 39 (0, 0)) (by (with_reducible repeat (first | refine blk_drewN ?_ _ | refine blk_drew ?_ | refine blk_alloc ?_ _)); exact BK150.out) hb); have n1_ := Aside0.mk (below_step (by repeat (first | (with_reducible first | exact HB.out | apply below_alloc | apply pw_below_drewN | apply below_drew1 | refine below_set ?_ GE150.out) | exact HB.out)) hb); clear BK150; clear HB; have BK150 := n0_; have HB := n1_; clear n0_ n1_; (try clear hb); (try clear hb2); (try clear hk); (try clear hi)) | ((with_reducible refine gate_dst (N := 20) rfl ?_); (try (refine gate_guard (by rfl) ?_; dsimp only)); (with_reducible refine gate_callee (f := 42) rfl ?_); refine goesL_ (some 20) rfl rfl Try.func42 (by kernel_rfl) rfl #[.slice A3 l3.length c3] rfl (by (try simp only [List.map_toArray, List.map_cons, List.map_nil]); first | done | rfl | (simp only [List.length_drop, List.length_take]; rfl)) ?_; (with_reducible refine (branch_Size.calls k _ _ l3 t152 _ ?side1 ?side2 A9.out).mono ?_); (case side1 => repeat (first | exact (Kd.C_below HR3.out HB.out) | (with_reducible refine Kd.C_alloc ?_ _) | (with_reducible refine Kd.C_drewN ?_ _) | (with_reducible refine Kd.C_drew ?_))); (case side2 => exact HC3.out); rintro e w13 ⟨rfl, hb⟩; refine ⟨_, rfl, ?_⟩; have n0_ := Aside0.mk (blk_below (g := gb150) (o := .cells #[.int .i64 0, .int .i64 0, .int .u32 0, .int .u32 0, .int .u64 0, .string (⟨#[]⟩ : ByteArray)] 39 (0, 0)) (by (with_reducible repeat (first | refine blk_drewN ?_ _ | refine blk_drew ?_ | refine blk_alloc ?_ _)); exact BK150.out) hb); have n1_ := Aside0.mk (below_step (by repeat (first | (with_reducible first | exact HB.out | apply below_alloc | apply pw_below_drewN | apply below_drew1 | refine below_set ?_ GE150.out) | exact HB.out)) hb); clear BK150; clear HB; have BK150 := n0_; have HB := n1_; clear n0_ n1_; (try clear hb); (try clear hb2); (try clear hk); (try clear hi)) | ((with_reducible refine gate_dst (N := 22) rfl ?_); (try (refine gate_guard (by rfl) ?_; dsimp only)); (with_reducible refine gate_callee (f := 52) rfl ?_); refine goesL_ (some 22) rfl rfl Try.func52 (by kernel_rfl) rfl #[.int .i64 a0] rfl (by (try simp only [List.map_toArray, List.map_cons, List.map_nil]); first | done | rfl | (simp only [List.length_drop, List.length_take]; rfl)) ?_; (with_reducible refine (frame_Room.calls a0 t153 _ A10.out).mono ?_); rintro e w' ⟨rfl, ⟨nd, rfl⟩⟩; refine ⟨_, rfl, ?_⟩))
        go_meet
        case rel => exact ⟨_, (true), (by first | rfl | (simp; done) | (simp [*]; done)), H', ⟨by first | omega | exact Nat.le_refl _⟩, ⟨by (with_reducible repeat (first | refine blk_drewN ?_ _ | refine blk_drew ?_ | refine blk_alloc ?_ _)); exact BK150.out⟩, ⟨by repeat (first | (with_reducible first | exact HB.out | apply below_alloc | apply pw_below_drewN | apply below_drew1 | refine below_set ?_ GE150.out) | exact HB.out)⟩⟩
      · rw [if_neg c11] at H
        have c11b0 : decide (t153 < t152) = false := decide_eq_false c11
        clear c11
        (first | rw [c11b0] | (simp only [i64_w, i32_w]; rw [c11b0]) | skip)
        replace H := Option.bind_eq_some_iff.mp H
        obtain ⟨t154, A140, H⟩ := H
        replace H : (if t154 = true then (branch_Page.j0 k a0 a1 a2 l3 (decide (a2 > 4611686018427387904))) else (branch_Page.j0 k a0 a1 a2 l3 true)) = some (r1, r2, r3, r4, r5, r6, r7) := H
        have A14 := Aside0.mk A140
        clear A140
        by_cases c15 : t154 = true
        · subst c15
          have H1 : (branch_Page.j0 k a0 a1 a2 l3 (decide (a2 > 4611686018427387904))) = some (r1, r2, r3, r4, r5, r6, r7) := by rw [if_pos rfl] at H; exact H
          clear H
          have H := H1
          clear H1
          have H' := Aside0.mk H
          clear H
          go_wp2_with (first | ((with_reducible refine gate_callee (f := 51) rfl ?_); refine goesL_ (some 16) rfl rfl Try.func51 (by kernel_rfl) rfl #[.slice A3 l3.length c3] rfl (by (try simp only [List.map_toArray, List.map_cons, List.map_nil]); first | done | rfl | (simp only [List.length_drop, List.length_take]; rfl)) ?_; (with_reducible refine (branch_may.calls k _ _ l3 true _ ?side1 ?side2 A7.out).mono ?_); (case side1 => repeat (first | exact (Kd.C_below HR3.out HB.out) | (with_reducible refine Kd.C_alloc ?_ _) | (with_reducible refine Kd.C_drewN ?_ _) | (with_reducible refine Kd.C_drew ?_))); (case side2 => exact HC3.out); rintro e w16 ⟨rfl, hb⟩; refine ⟨_, rfl, ?_⟩; have n0_ := Aside0.mk (blk_below (g := gb150) (o := .cells #[.int .i64 0, .int .i64 0, .int .u32 0, .int .u32 0, .int .u64 0, .string (⟨#[]⟩ : ByteArray)] 39 (0, 0)) (by (with_reducible repeat (first | refine blk_drewN ?_ _ | refine blk_drew ?_ | refine blk_alloc ?_ _)); exact BK150.out) hb); have n1_ := Aside0.mk (below_step (by repeat (first | (with_reducible first | exact HB.out | apply below_alloc | apply pw_below_drewN | apply below_drew1 | refine below_set ?_ GE150.out) | exact HB.out)) hb); clear BK150; clear HB; have BK150 := n0_; have HB := n1_; clear n0_ n1_; (try clear hb); (try clear hb2); (try clear hk); (try clear hi)) | ((with_reducible refine gate_dst (N := 20) rfl ?_); (try (refine gate_guard (by rfl) ?_; dsimp only)); (with_reducible refine gate_callee (f := 42) rfl ?_); refine goesL_ (some 20) rfl rfl Try.func42 (by kernel_rfl) rfl #[.slice A3 l3.length c3] rfl (by (try simp only [List.map_toArray, List.map_cons, List.map_nil]); first | done | rfl | (simp only [List.length_drop, List.length_take]; rfl)) ?_; (with_reducible refine (branch_Size.calls k _ _ l3 t152 _ ?side1 ?side2 A9.out).mono ?_); (case side1 => repeat (first | exact (Kd.C_below HR3.out HB.out) | (with_reducible refine Kd.C_alloc ?_ _) | (with_reducible refine Kd.C_drewN ?_ _) | (with_reducible refine Kd.C_drew ?_))); (case side2 => exact HC3.out); rintro e w17 ⟨rfl, hb⟩; refine ⟨_, rfl, ?_⟩; have n0_ := Aside0.mk (blk_below (g := gb150) (o := .cells #[.int .i64 0, .int .i64 0, .int .u32 0, .int .u32 0, .int .u64 0, .string (⟨#[]⟩ : ByteArray)] 39 (0, 0)) (by (with_reducible repeat (first | refine blk_drewN ?_ _ | refine blk_drew ?_ | refine blk_alloc ?_ _)); exact BK150.out) hb); have n1_ := Aside0.mk (below_step (by repeat (first | (with_reducible first | exact HB.out | apply below_alloc | apply pw_below_drewN | apply below_drew1 | refine below_set ?_ GE150.out) | exact HB.out)) hb); clear BK150; clear HB; have BK150 := n0_; have HB := n1_; clear n0_ n1_; (try clear hb); (try clear hb2); (try clear hk); (try clear hi)) | ((with_reducible refine gate_dst (N := 22) rfl ?_); (try (refine gate_guard (by rfl) ?_; dsimp only)); (with_reducible refine gate_callee (f := 52) rfl ?_); refine goesL_ (some 22) rfl rfl Try.func52 (by kernel_rfl) rfl #[.int .i64 a0] rfl (by (try simp only [List.map_toArray, List.map_cons, List.map_nil]); first | done | rfl | (simp only [List.length_drop, List.length_take]; rfl)) ?_; (with_reducible refine (frame_Room.calls a0 t153 _ A10.out).mono ?_); rintro e w' ⟨rfl, ⟨nd, rfl⟩⟩; refine ⟨_, rfl, ?_⟩) | ((with_reducible refine gate_dst (N := 27) rfl ?_); (try (refine gate_guard (by rfl) ?_; dsimp only)); (with_reducible refine gate_callee (f := 53) rfl ?_); refine goesL_ (some 27) rfl rfl Try.func53 (by kernel_rfl) rfl #[.int .u32 a1] rfl (by (try simp only [List.map_toArray, List.map_cons, List.map_nil]); first | done | rfl | (simp only [List.length_drop, List.length_take]; rfl)) ?_; (with_reducible refine (branch_number.calls a1 true _ A14.out).mono ?_); rintro e w' ⟨rfl, ⟨nd, rfl⟩⟩; refine ⟨_, rfl, ?_⟩))
          go_meet
          case rel => exact ⟨_, (decide (a2 > 4611686018427387904)), (by first | rfl | (simp; done) | (simp [*]; done)), H', ⟨by first | omega | exact Nat.le_refl _⟩, ⟨by (with_reducible repeat (first | refine blk_drewN ?_ _ | refine blk_drew ?_ | refine blk_alloc ?_ _)); exact BK150.out⟩, ⟨by repeat (first | (with_reducible first | exact HB.out | apply below_alloc | apply pw_below_drewN | apply below_drew1 | refine below_set ?_ GE150.out) | exact HB.out)⟩⟩
        · replace c15 := Bool.eq_false_iff.mpr c15
          subst c15
          have H1 : (branch_Page.j0 k a0 a1 a2 l3 true) = some (r1, r2, r3, r4, r5, r6, r7) := by rw [if_neg (show ¬ (false = true) by decide)] at H; exact H
          clear H
          have H := H1
          clear H1
          have H' := Aside0.mk H
          clear H
          go_wp2_with (first | ((with_reducible refine gate_callee (f := 51) rfl ?_); refine goesL_ (some 16) rfl rfl Try.func51 (by kernel_rfl) rfl #[.slice A3 l3.length c3] rfl (by (try simp only [List.map_toArray, List.map_cons, List.map_nil]); first | done | rfl | (simp only [List.length_drop, List.length_take]; rfl)) ?_; (with_reducible refine (branch_may.calls k _ _ l3 true _ ?side1 ?side2 A7.out).mono ?_); (case side1 => repeat (first | exact (Kd.C_below HR3.out HB.out) | (with_reducible refine Kd.C_alloc ?_ _) | (with_reducible refine Kd.C_drewN ?_ _) | (with_reducible refine Kd.C_drew ?_))); (case side2 => exact HC3.out); rintro e w18 ⟨rfl, hb⟩; refine ⟨_, rfl, ?_⟩; have n0_ := Aside0.mk (blk_below (g := gb150) (o := .cells #[.int .i64 0, .int .i64 0, .int .u32 0, .int .u32 0, .int .u64 0, .string (⟨#[]⟩ : ByteArray)] 39 (0, 0)) (by (with_reducible repeat (first | refine blk_drewN ?_ _ | refine blk_drew ?_ | refine blk_alloc ?_ _)); exact BK150.out) hb); have n1_ := Aside0.mk (below_step (by repeat (first | (with_reducible first | exact HB.out | apply below_alloc | apply pw_below_drewN | apply below_drew1 | refine below_set ?_ GE150.out) | exact HB.out)) hb); clear BK150; clear HB; have BK150 := n0_; have HB := n1_; clear n0_ n1_; (try clear hb); (try clear hb2); (try clear hk); (try clear hi)) | ((with_reducible refine gate_dst (N := 20) rfl ?_); (try (refine gate_guard (by rfl) ?_; dsimp only)); (with_reducible refine gate_callee (f := 42) rfl ?_); refine goesL_ (some 20) rfl rfl Try.func42 (by kernel_rfl) rfl #[.slice A3 l3.length c3] rfl (by (try simp only [List.map_toArray, List.map_cons, List.map_nil]); first | done | rfl | (simp only [List.length_drop, List.length_take]; rfl)) ?_; (with_reducible refine (branch_Size.calls k _ _ l3 t152 _ ?side1 ?side2 A9.out).mono ?_); (case side1 => repeat (first | exact (Kd.C_below HR3.out HB.out) | (with_reducible refine Kd.C_alloc ?_ _) | (with_reducible refine Kd.C_drewN ?_ _) | (with_reducible refine Kd.C_drew ?_))); (case side2 => exact HC3.out); rintro e w19 ⟨rfl, hb⟩; refine ⟨_, rfl, ?_⟩; have n0_ := Aside0.mk (blk_below (g := gb150) (o := .cells #[.int .i64 0, .int .i64 0, .int .u32 0, .int .u32 0, .int .u64 0, .string (⟨#[]⟩ : ByteArray)] 39 (0, 0)) (by (with_reducible repeat (first | refine blk_drewN ?_ _ | refine blk_drew ?_ | refine blk_alloc ?_ _)); exact BK150.out) hb); have n1_ := Aside0.mk (below_step (by repeat (first | (with_reducible first | exact HB.out | apply below_alloc | apply pw_below_drewN | apply below_drew1 | refine below_set ?_ GE150.out) | exact HB.out)) hb); clear BK150; clear HB; have BK150 := n0_; have HB := n1_; clear n0_ n1_; (try clear hb); (try clear hb2); (try clear hk); (try clear hi)) | ((with_reducible refine gate_dst (N := 22) rfl ?_); (try (refine gate_guard (by rfl) ?_; dsimp only)); (with_reducible refine gate_callee (f := 52) rfl ?_); refine goesL_ (some 22) rfl rfl Try.func52 (by kernel_rfl) rfl #[.int .i64 a0] rfl (by (try simp only [List.map_toArray, List.map_cons, List.map_nil]); first | done | rfl | (simp only [List.length_drop, List.length_take]; rfl)) ?_; (with_reducible refine (frame_Room.calls a0 t153 _ A10.out).mono ?_); rintro e w' ⟨rfl, ⟨nd, rfl⟩⟩; refine ⟨_, rfl, ?_⟩) | ((with_reducible refine gate_dst (N := 27) rfl ?_); (try (refine gate_guard (by rfl) ?_; dsimp only)); (with_reducible refine gate_callee (f := 53) rfl ?_); refine goesL_ (some 27) rfl rfl Try.func53 (by kernel_rfl) rfl #[.int .u32 a1] rfl (by (try simp only [List.map_toArray, List.map_cons, List.map_nil]); first | done | rfl | (simp only [List.length_drop, List.length_take]; rfl)) ?_; (with_reducible refine (branch_number.calls a1 false _ A14.out).mono ?_); rintro e w' ⟨rfl, ⟨nd, rfl⟩⟩; refine ⟨_, rfl, ?_⟩))
          go_meet
          case rel => exact ⟨_, (true), (by first | rfl | (simp; done) | (simp [*]; done)), H', ⟨by first | omega | exact Nat.le_refl _⟩, ⟨by (with_reducible repeat (first | refine blk_drewN ?_ _ | refine blk_drew ?_ | refine blk_alloc ?_ _)); exact BK150.out⟩, ⟨by repeat (first | (with_reducible first | exact HB.out | apply below_alloc | apply pw_below_drewN | apply below_drew1 | refine below_set ?_ GE150.out) | exact HB.out)⟩⟩
    · replace c8 := Bool.eq_false_iff.mpr c8
      subst c8
      have H1 : (branch_Page.j0 k a0 a1 a2 l3 true) = some (r1, r2, r3, r4, r5, r6, r7) := by rw [if_neg (show ¬ (false = true) by decide)] at H; exact H
      clear H
      have H := H1
      clear H1
      have H' := Aside0.mk H
      clear H
      go_wp2_with (first | ((with_reducible refine gate_callee (f := 51) rfl ?_); refine goesL_ (some 16) rfl rfl Try.func51 (by kernel_rfl) rfl #[.slice A3 l3.length c3] rfl (by (try simp only [List.map_toArray, List.map_cons, List.map_nil]); first | done | rfl | (simp only [List.length_drop, List.length_take]; rfl)) ?_; (with_reducible refine (branch_may.calls k _ _ l3 false _ ?side1 ?side2 A7.out).mono ?_); (case side1 => repeat (first | exact (Kd.C_below HR3.out HB.out) | (with_reducible refine Kd.C_alloc ?_ _) | (with_reducible refine Kd.C_drewN ?_ _) | (with_reducible refine Kd.C_drew ?_))); (case side2 => exact HC3.out); rintro e w20 ⟨rfl, hb⟩; refine ⟨_, rfl, ?_⟩; have n0_ := Aside0.mk (blk_below (g := gb150) (o := .cells #[.int .i64 0, .int .i64 0, .int .u32 0, .int .u32 0, .int .u64 0, .string (⟨#[]⟩ : ByteArray)] 39 (0, 0)) (by (with_reducible repeat (first | refine blk_drewN ?_ _ | refine blk_drew ?_ | refine blk_alloc ?_ _)); exact BK150.out) hb); have n1_ := Aside0.mk (below_step (by repeat (first | (with_reducible first | exact HB.out | apply below_alloc | apply pw_below_drewN | apply below_drew1 | refine below_set ?_ GE150.out) | exact HB.out)) hb); clear BK150; clear HB; have BK150 := n0_; have HB := n1_; clear n0_ n1_; (try clear hb); (try clear hb2); (try clear hk); (try clear hi)))
      go_meet
      case rel => exact ⟨_, (true), (by first | rfl | (simp; done) | (simp [*]; done)), H', ⟨by first | omega | exact Nat.le_refl _⟩, ⟨by (with_reducible repeat (first | refine blk_drewN ?_ _ | refine blk_drew ?_ | refine blk_alloc ?_ _)); exact BK150.out⟩, ⟨by repeat (first | (with_reducible first | exact HB.out | apply below_alloc | apply pw_below_drewN | apply below_drew1 | refine below_set ?_ GE150.out) | exact HB.out)⟩⟩
  case rest =>
    clear HC5
    try clear c1
    try clear c2
    try clear p2
    try clear c3
    try clear c4
    try clear c5
    try clear c8
    try clear c11
    try clear c11b0
    try clear c15
    obtain ⟨kq, x33_4, rfl, HA, HJ4, BK150, HB⟩ := hcut
    cases kq with
    | zero => exact absurd HA.out (by simp [branch_Page.j0])
    | succ kj4 =>
      have H := HA.out
      clear HA
      simp only [branch_Page.j0] at H
      by_cases c21 : x33_4 = true
      · subst c21
        have H1 : (some (0, 0, 0, 0, 0, (⟨#[]⟩ : ByteArray), 2)) = some (r1, r2, r3, r4, r5, r6, r7) := by rw [if_pos rfl] at H; exact H
        clear H
        have H := H1
        clear H1
        simp only [Option.some.injEq, Prod.mk.injEq] at H
        obtain ⟨rfl, rfl, rfl, rfl, rfl, rfl, rfl⟩ := H
        have hcz22_0 : wc.cell? ⟨gb150, 0, none⟩ = some (.int .i64 0) := (blk_cell BK150.out 0).trans rfl
        have hcz22_1 : wc.cell? ⟨gb150, 1, none⟩ = some (.int .i64 0) := (blk_cell BK150.out 1).trans rfl
        have hcz22_2 : wc.cell? ⟨gb150, 2, none⟩ = some (.int .u32 0) := (blk_cell BK150.out 2).trans rfl
        have hcz22_3 : wc.cell? ⟨gb150, 3, none⟩ = some (.int .u32 0) := (blk_cell BK150.out 3).trans rfl
        have hcz22_4 : wc.cell? ⟨gb150, 4, none⟩ = some (.int .u64 0) := (blk_cell BK150.out 4).trans rfl
        have hcz22_5 : wc.cell? ⟨gb150, 5, none⟩ = some (.string (⟨#[]⟩ : ByteArray)) := (blk_cell BK150.out 5).trans rfl
        have hfz22_0 := blk_frozen BK150.out 0
        have hfz22_1 := blk_frozen BK150.out 1
        have hfz22_2 := blk_frozen BK150.out 2
        have hfz22_3 := blk_frozen BK150.out 3
        have hfz22_4 := blk_frozen BK150.out 4
        have hfz22_5 := blk_frozen BK150.out 5
        go_wp2
        refine bodyPost_ret (results_ct rfl _ _ gb150 39 #[.int .i64 0, .int .i64 0, .int .u32 0, .int .u32 0, .int .u64 0, .string (⟨#[]⟩ : ByteArray)] (0, 0) _ rfl (by (with_reducible repeat (first | refine blk_drewN ?_ _ | refine blk_drew ?_ | refine blk_alloc ?_ _)); refine blk_put (cs := #[.int .i64 0, .int .i64 0, .int .u32 0, .int .u32 0, .int .u64 0, .string (⟨#[]⟩ : ByteArray)]) ?_ 5 _ rfl; (with_reducible repeat (first | refine blk_drewN ?_ _ | refine blk_drew ?_ | refine blk_alloc ?_ _)); refine blk_put (cs := #[.int .i64 0, .int .i64 0, .int .u32 0, .int .u32 0, .int .u64 0, .string (⟨#[]⟩ : ByteArray)]) ?_ 4 _ rfl; (with_reducible repeat (first | refine blk_drewN ?_ _ | refine blk_drew ?_ | refine blk_alloc ?_ _)); refine blk_put (cs := #[.int .i64 0, .int .i64 0, .int .u32 0, .int .u32 0, .int .u64 0, .string (⟨#[]⟩ : ByteArray)]) ?_ 3 _ rfl; (with_reducible repeat (first | refine blk_drewN ?_ _ | refine blk_drew ?_ | refine blk_alloc ?_ _)); refine blk_put (cs := #[.int .i64 0, .int .i64 0, .int .u32 0, .int .u32 0, .int .u64 0, .string (⟨#[]⟩ : ByteArray)]) ?_ 2 _ rfl; (with_reducible repeat (first | refine blk_drewN ?_ _ | refine blk_drew ?_ | refine blk_alloc ?_ _)); refine blk_put (cs := #[.int .i64 0, .int .i64 0, .int .u32 0, .int .u32 0, .int .u64 0, .string (⟨#[]⟩ : ByteArray)]) ?_ 1 _ rfl; (with_reducible repeat (first | refine blk_drewN ?_ _ | refine blk_drew ?_ | refine blk_alloc ?_ _)); refine blk_put (cs := #[.int .i64 0, .int .i64 0, .int .u32 0, .int .u32 0, .int .u64 0, .string (⟨#[]⟩ : ByteArray)]) ?_ 0 _ rfl; (with_reducible repeat (first | refine blk_drewN ?_ _ | refine blk_drew ?_ | refine blk_alloc ?_ _)); exact BK150.out) Try.underlying39 rfl (by kernel_rfl)) rfl ?_
        exact ⟨by first | rfl | (simp [errW_none, errW_some] <;> rfl) | (simp [*, errW_none, errW_some] <;> rfl), by repeat (first | (with_reducible first | exact HB.out | apply below_alloc | apply pw_below_drewN | apply below_drew1 | refine below_set ?_ GE150.out) | exact HB.out)⟩
      · replace c21 := Bool.eq_false_iff.mpr c21
        subst c21
        have H1 : (branch_Page.l0 kj4 a0 a1 a2 l3 ([] : List Int) l3 (l3.length : Int) 0) = some (r1, r2, r3, r4, r5, r6, r7) := by rw [if_neg (show ¬ (false = true) by decide)] at H; exact H
        clear H
        have H := H1
        clear H1
        have H' := Aside0.mk H
        clear H
        go_wp2
        go_loopg [10, 37] kj4 (fun kq v10 v37 w' => ∃ (x10_2 : List Int) (x37_2 : Int), v37 = .int .i64 x37_2 ∧ Aside0 (branch_Page.l0 kq a0 a1 a2 l3 x10_2 l3 (l3.length : Int) x37_2 = some (r1, r2, r3, r4, r5, r6, r7)) ∧ Aside0 (kq ≤ kj4) ∧ Aside0 (Kd.R (Kd.int .u8) 5 w' w.heap.size (fun _ => True) v10 x10_2) ∧ Aside0 (w'.heap[gb150]? = some (.cells #[.int .i64 0, .int .i64 0, .int .u32 0, .int .u32 0, .int .u64 0, .string (⟨#[]⟩ : ByteArray)] 39 (0, 0))) ∧ Aside0 (Below w.heap.size w w'))
        case atStart => exact ⟨(([] : List Int)), (0), (by first | rfl | (simp; done) | (simp [*]; done)), H', ⟨Nat.le_refl _⟩, ⟨by first | exact Kd.R_nil _ _ _ _ _ | exact Kd.N_nil _ _ _ _ _ | exact Kd.V_nil _ _ _ _ _ | exact Kd.Q_nil _ _ _ _ _ | exact Kd.S_nil _ _ _ _ _⟩, ⟨by (with_reducible repeat (first | refine blk_drewN ?_ _ | refine blk_drew ?_ | refine blk_alloc ?_ _)); exact BK150.out⟩, ⟨by repeat (first | (with_reducible first | exact HB.out | apply below_alloc | apply pw_below_drewN | apply below_drew1 | refine below_set ?_ GE150.out) | exact HB.out)⟩⟩
        case round =>
          clear H'
          try clear c1
          try clear c2
          try clear p2
          try clear c3
          try clear c4
          try clear c5
          try clear c8
          try clear c11
          try clear c11b0
          try clear c15
          try clear c21
          try clear hcz22_0
          try clear hcz22_1
          try clear hcz22_2
          try clear hcz22_3
          try clear hcz22_4
          try clear hcz22_5
          try clear hfz22_0
          try clear hfz22_1
          try clear hfz22_2
          try clear hfz22_3
          try clear hfz22_4
          try clear hfz22_5
          try clear p2
          obtain ⟨x10_2, x37_2, rfl, HA, HK2, HO_10, BK150, HB⟩ := hrel
          cases gk with
          | zero => exact absurd HA.out (by simp [branch_Page.l0])
          | succ k2 =>
            have H := HA.out
            clear HA
            simp only [branch_Page.l0] at H
            by_cases c23 : x37_2 < (l3.length : Int)
            · rw [if_pos c23] at H
              have c23b0 : decide (x37_2 < (l3.length : Int)) = true := decide_eq_true c23
              clear c23
              by_cases c24 : 0 ≤ x37_2
              · rw [if_pos c24] at H
                have c24b0 : decide (0 ≤ x37_2) = true := decide_eq_true c24
                clear c24
                by_cases c25 : x37_2 < (l3.length : Int)
                · rw [if_pos c25] at H
                  have c25b0 : decide (x37_2 < (l3.length : Int)) = true := decide_eq_true c25
                  clear c25
                  replace H := Option.bind_eq_some_iff.mp H
                  obtain ⟨t157, A260, H⟩ := H
                  replace H : (if t157.length + ((rd_T46 l3 x37_2).f0).size < 140737488355328 then ((octet_Put.f k2 (t157 ++ bytesOf ((rd_T46 l3 x37_2).f0)) (IntKind.u64.wrap ((rd_T46 l3 x37_2).f1)) 4).bind fun t163 => (branch_Page.l0 k2 a0 a1 a2 l3 t163 l3 (l3.length : Int) (wrap64 (x37_2 + 1)))) else (none)) = some (r1, r2, r3, r4, r5, r6, r7) := H
                  have A26 := Aside0.mk A260
                  clear A260
                  by_cases c27 : t157.length + ((rd_T46 l3 x37_2).f0).size < 140737488355328
                  · rw [if_pos c27] at H
                    have LMc27 := Aside0.mk c27
                    clear c27
                    obtain ⟨y160, hy160⟩ : ∃ y_ : List Int, y_ = (t157 ++ bytesOf ((rd_T46 l3 x37_2).f0)) := ⟨_, rfl⟩
                    replace H : ((octet_Put.f k2 y160 (IntKind.u64.wrap ((rd_T46 l3 x37_2).f1)) 4).bind fun t163 => (branch_Page.l0 k2 a0 a1 a2 l3 t163 l3 (l3.length : Int) (wrap64 (x37_2 + 1)))) = some (r1, r2, r3, r4, r5, r6, r7) := by first | (rw [hy160]; with_reducible exact H) | (have H2_ := (Option.bind_some _ _).symm.trans H; rw [hy160]; with_reducible exact H2_) | (have H2_ := (Option.bind_some _ _).symm.trans H; with_reducible exact H2_) | with_reducible exact H | (rw [hy160]; exact H) | exact H
                    have Ny160 := Aside0.mk hy160
                    clear hy160
                    replace H := Option.bind_eq_some_iff.mp H
                    obtain ⟨t163, A280, H⟩ := H
                    replace H : (branch_Page.l0 k2 a0 a1 a2 l3 t163 l3 (l3.length : Int) (wrap64 (x37_2 + 1))) = some (r1, r2, r3, r4, r5, r6, r7) := H
                    have A28 := Aside0.mk A280
                    clear A280
                    have H' := Aside0.mk H
                    clear H
                    have p155 : 0 ≤ (x37_2 : Int) := of_decide_eq_true (by first | (with_reducible assumption) | assumption)
                    have q155 : x37_2 < (l3.length : Int) := of_decide_eq_true (by first | (with_reducible assumption) | assumption)
                    obtain ⟨ad155, e155, hx155_0, hx155_1⟩ := at_T46 HR3.out x37_2 p155 q155
                    cases e155
                    replace hx155_0 := (HB.out.cell (World.block_lt_of_cell? w _ hx155_0)).trans hx155_0
                    replace hx155_1 := (HB.out.cell (World.block_lt_of_cell? w _ hx155_1)).trans hx155_1
                    replace p155 := eq_true p155
                    replace q155 := eq_true q155
                    try go_wp2_with (first | ((with_reducible refine gate_dst (N := 12) rfl ?_); refine box_event ?hg (N := 12) ?hd (cs := #[.string (⟨#[]⟩ : ByteArray), .int .u32 0]) (t := 46) ?hr ?_; (case hd => rfl); (case hg => rfl); (case hr => first | (go_simp; done) | (go_simp; rfl)); intro gb156 hg w29 hbox hb; have n0_ := Aside0.mk (Kd.R_below (by (with_reducible repeat (first | apply Kd.R_alloc | apply Kd.R_drewN | apply Kd.R_drew)); exact HO_10.out) hb); have n1_ := Aside0.mk (blk_below (g := gb150) (o := .cells #[.int .i64 0, .int .i64 0, .int .u32 0, .int .u32 0, .int .u64 0, .string (⟨#[]⟩ : ByteArray)] 39 (0, 0)) (by (with_reducible repeat (first | refine blk_drewN ?_ _ | refine blk_drew ?_ | refine blk_alloc ?_ _)); exact BK150.out) hb); have n2_ := Aside0.mk (below_step (by repeat (first | (with_reducible first | exact HB.out | apply below_alloc | apply pw_below_drewN | apply below_drew1 | refine below_set ?_ GE150.out) | exact HB.out)) hb); have n3_ := Aside0.mk (hbox); have n4_ := Aside0.mk ((by rw [hg]; exact (below_size (by repeat (first | (with_reducible first | exact HB.out | apply below_alloc | apply pw_below_drewN | apply below_drew1 | refine below_set ?_ GE150.out) | exact HB.out))) : w.heap.size ≤ gb156)); have n5_ := Aside0.mk ((by rw [hg]; exact (below_size (by repeat (first | (with_reducible first | exact HB.out | apply below_alloc | apply pw_below_drewN | apply below_drew1 | refine below_set ?_ GE150.out) | exact HB.out))) : w.heap.size ≤ gb156)); have n6_ := Aside0.mk ((by rw [hg]; exact Nat.ne_of_lt (blk_lt (g := gb150) (o := .cells #[.int .i64 0, .int .i64 0, .int .u32 0, .int .u32 0, .int .u64 0, .string (⟨#[]⟩ : ByteArray)] 39 (0, 0)) (by (with_reducible repeat (first | refine blk_drewN ?_ _ | refine blk_drew ?_ | refine blk_alloc ?_ _)); exact BK150.out)) : gb150 ≠ gb156)); have n7_ := Aside0.mk ((by rw [hg]; exact Nat.ne_of_gt (blk_lt (g := gb150) (o := .cells #[.int .i64 0, .int .i64 0, .int .u32 0, .int .u32 0, .int .u64 0, .string (⟨#[]⟩ : ByteArray)] 39 (0, 0)) (by (with_reducible repeat (first | refine blk_drewN ?_ _ | refine blk_drew ?_ | refine blk_alloc ?_ _)); exact BK150.out)) : gb156 ≠ gb150)); clear HO_10; clear BK150; clear HB; have HO_10 := n0_; have BK150 := n1_; have HB := n2_; have BK156 := n3_; have GW156 := n4_; have GE156 := n5_; have NB150_156 := n6_; have NB156_150 := n7_; clear n0_ n1_ n2_ n3_ n4_ n5_ n6_ n7_; clear hb hbox hg; have hnb30 := NB156_150.out; have hnc30 := NB150_156.out; have hcz31_0 : w29.cell? ⟨gb156, 0, none⟩ = some (.string (⟨#[]⟩ : ByteArray)) := (blk_cell BK156.out 0).trans rfl; have hcz31_1 : w29.cell? ⟨gb156, 1, none⟩ = some (.int .u32 0) := (blk_cell BK156.out 1).trans rfl; have hfz31_0 := blk_frozen BK156.out 0; have hfz31_1 := blk_frozen BK156.out 1))
                    have n0_ : Aside0 (Kd.R (Kd.int .u8) 5 ((w29.setCell ⟨gb156, 0, none⟩ (.string ((rd_T46 l3 x37_2).f0))).setCell ⟨gb156, 1, none⟩ (.int .u32 ((rd_T46 l3 x37_2).f1))) w.heap.size (fun _ => True) u10 x10_2) := ⟨by (with_reducible repeat (first | apply Kd.R_alloc | apply Kd.R_drewN | apply Kd.R_drew)); exact Kd.R_mono (Kd.R_far (p := ⟨gb156, 1, none⟩) (Kd.R_far (p := ⟨gb156, 0, none⟩) (Kd.R_types HO_10.out BK156.out (by decide)) (fun _ hk => hk.2) (.string ((rd_T46 l3 x37_2).f0))) (fun _ hk => hk.2) (.int .u32 ((rd_T46 l3 x37_2).f1))) (fun _ hk => trivial)⟩
                    have n1_ : Aside0 (((w29.setCell ⟨gb156, 0, none⟩ (.string ((rd_T46 l3 x37_2).f0))).setCell ⟨gb156, 1, none⟩ (.int .u32 ((rd_T46 l3 x37_2).f1))).heap[gb150]? = some (.cells #[.int .i64 0, .int .i64 0, .int .u32 0, .int .u32 0, .int .u64 0, .string (⟨#[]⟩ : ByteArray)] 39 (0, 0))) := ⟨by (with_reducible repeat (first | refine blk_drewN ?_ _ | refine blk_drew ?_ | refine blk_alloc ?_ _)); refine blk_far ?_ NB150_156.out _; (with_reducible repeat (first | refine blk_drewN ?_ _ | refine blk_drew ?_ | refine blk_alloc ?_ _)); refine blk_far ?_ NB150_156.out _; (with_reducible repeat (first | refine blk_drewN ?_ _ | refine blk_drew ?_ | refine blk_alloc ?_ _)); exact BK150.out⟩
                    have n2_ : Aside0 (((w29.setCell ⟨gb156, 0, none⟩ (.string ((rd_T46 l3 x37_2).f0))).setCell ⟨gb156, 1, none⟩ (.int .u32 ((rd_T46 l3 x37_2).f1))).heap[gb156]? = some (.cells #[.string ((rd_T46 l3 x37_2).f0), .int .u32 ((rd_T46 l3 x37_2).f1)] 46 (0, 0))) := ⟨by (with_reducible repeat (first | refine blk_drewN ?_ _ | refine blk_drew ?_ | refine blk_alloc ?_ _)); refine blk_put (cs := #[.string ((rd_T46 l3 x37_2).f0), .int .u32 0]) ?_ 1 _ rfl; (with_reducible repeat (first | refine blk_drewN ?_ _ | refine blk_drew ?_ | refine blk_alloc ?_ _)); refine blk_put (cs := #[.string (⟨#[]⟩ : ByteArray), .int .u32 0]) ?_ 0 _ rfl; (with_reducible repeat (first | refine blk_drewN ?_ _ | refine blk_drew ?_ | refine blk_alloc ?_ _)); exact BK156.out⟩
                    have n3_ : Aside0 (Below w.heap.size w ((w29.setCell ⟨gb156, 0, none⟩ (.string ((rd_T46 l3 x37_2).f0))).setCell ⟨gb156, 1, none⟩ (.int .u32 ((rd_T46 l3 x37_2).f1)))) := ⟨by repeat (first | (with_reducible first | exact HB.out | apply below_alloc | apply pw_below_drewN | apply below_drew1 | refine below_set ?_ GE150.out | refine below_set ?_ GE156.out) | exact HB.out)⟩
                    (try clear HO_10)
                    (try clear BK150)
                    (try clear BK156)
                    (try clear HB)
                    generalize ((w29.setCell ⟨gb156, 0, none⟩ (.string ((rd_T46 l3 x37_2).f0))).setCell ⟨gb156, 1, none⟩ (.int .u32 ((rd_T46 l3 x37_2).f1))) = w32 at n0_ n1_ n2_ n3_ ⊢
                    have HO_10 := n0_
                    have BK150 := n1_
                    have BK156 := n2_
                    have HB := n3_
                    clear n0_ n1_ n2_ n3_
                    have n0_ := Aside0.mk (Kd.R_drew HO_10.out)
                    have n1_ := Aside0.mk (blk_drew BK150.out)
                    have n2_ := Aside0.mk (blk_drew BK156.out)
                    have n3_ := Aside0.mk (below_drew1 HB.out)
                    clear HO_10
                    clear BK150
                    clear BK156
                    clear HB
                    have HO_10 := n0_
                    have BK150 := n1_
                    have BK156 := n2_
                    have HB := n3_
                    clear n0_ n1_ n2_ n3_
                    obtain ⟨Ao34, co34, eo34⟩ := Kd.R_slice HO_10.out
                    (first | subst eo34 | (injection eo34 with f1_ f2_ f3_; have f4_ := f1_.symm; have f5_ := f3_.symm; clear f1_ f2_ f3_; subst f4_; subst f5_))
                    refine start_ (n := 10) (S := fun w' => w'.cell? ⟨gb156, 0, none⟩ = some (.string ((rd_T46 l3 x37_2).f0)) ∧ w'.cell? ⟨gb156, 1, none⟩ = some (.int .u32 ((rd_T46 l3 x37_2).f1))) (ds := []) #[false, false, false, false, false, false, false, false, false, false] (by kernel_rfl) rfl rfl ⟨(blk_cell BK156.out 0).trans rfl, (blk_cell BK156.out 1).trans rfl⟩ (fun hHeld => ?_); refine with_tabW branch_Page.tab7 branch_Page.bits7 (fun HT_ HW_ => ?_)
                    generalize w32.drew = w33 at HO_10 BK150 BK156 HB hHeld ⊢
                    refine pure_ (i := 0) (N := some 41) (v := ?_) (a' := ?_) #[true, false, false, false, false, false, false, false, false, false] rfl rfl (any_of HT_.out (by kernel_rfl)) (fun _ _ _ h => h) (Or.inl ⟨by rfl, ?_⟩) ?_ ?_
                    rotate_left
                    · intro w'
                      go_simp
                      with_reducible rfl
                    rotate_left
                    · simp only [Act.put, List.setIfInBounds_toArray, List.set_cons_zero, List.set_cons_succ, i64_w, i32_w]
                      rfl
                    refine pure_ (i := 1) (N := some 42) (v := ?_) (a' := ?_) #[true, true, false, false, false, false, false, false, false, false] rfl rfl (any_of HT_.out (by kernel_rfl)) (fun _ _ _ h => h) (Or.inl ⟨by rfl, ?_⟩) ?_ ?_
                    rotate_left
                    · intro w'
                      go_simp
                      with_reducible rfl
                    rotate_left
                    · simp only [Act.put, List.setIfInBounds_toArray, List.set_cons_zero, List.set_cons_succ, i64_w, i32_w]
                      rfl
                    refine pure_ (i := 6) (N := some 47) (v := ?_) (a' := ?_) #[true, true, false, false, false, false, true, false, false, false] rfl rfl (any_of HT_.out (by kernel_rfl)) (fun _ _ _ h => h) (Or.inl ⟨by rfl, ?_⟩) ?_ ?_
                    rotate_left
                    · intro w'
                      go_simp
                      with_reducible rfl
                    rotate_left
                    · simp only [Act.put, List.setIfInBounds_toArray, List.set_cons_zero, List.set_cons_succ, i64_w, i32_w]
                      rfl
                    refine take_ (i := 2) (N := some 43) (v := ?_) (a' := ?_) #[true, true, true, false, false, false, true, false, false, false] rfl rfl (take_ofW HT_.out HW_.out (by kernel_rfl)) (fun _ _ _ h => h) (Or.inl ⟨by rfl, ?_⟩) hHeld ?_ ?_
                    rotate_left
                    · rintro w' ⟨s0, s1⟩
                      go_simp
                      with_reducible rfl
                    rotate_left
                    · simp only [Act.put, List.setIfInBounds_toArray, List.set_cons_zero, List.set_cons_succ, i64_w, i32_w]
                      rfl
                    refine pure_ (i := 3) (N := some 44) (v := ?_) (a' := ?_) #[true, true, true, true, false, false, true, false, false, false] rfl rfl (any_of HT_.out (by kernel_rfl)) (fun _ _ _ h => h) (Or.inl ⟨by rfl, ?_⟩) ?_ ?_
                    rotate_left
                    · intro w'
                      go_simp
                      with_reducible rfl
                    rotate_left
                    · simp only [Act.put, List.setIfInBounds_toArray, List.set_cons_zero, List.set_cons_succ, i64_w, i32_w]
                      rfl
                    refine pure_ (i := 4) (N := some 45) (v := ?_) (a' := ?_) #[true, true, true, true, true, false, true, false, false, false] rfl rfl (any_of HT_.out (by kernel_rfl)) (fun _ _ _ h => h) (Or.inl ⟨by rfl, ?_⟩) ?_ ?_
                    rotate_left
                    · intro w'
                      go_simp
                      with_reducible rfl
                    rotate_left
                    · simp only [Act.put, List.setIfInBounds_toArray, List.set_cons_zero, List.set_cons_succ, i64_w, i32_w]
                      rfl
                    refine take_ (i := 7) (N := some 48) (v := ?_) (a' := ?_) #[true, true, true, true, true, false, true, true, false, false] rfl rfl (take_ofW HT_.out HW_.out (by kernel_rfl)) (fun _ _ _ h => h) (Or.inl ⟨by rfl, ?_⟩) hHeld ?_ ?_
                    rotate_left
                    · rintro w' ⟨s0, s1⟩
                      go_simp
                      with_reducible rfl
                    rotate_left
                    · simp only [Act.put, List.setIfInBounds_toArray, List.set_cons_zero, List.set_cons_succ, i64_w, i32_w]
                      rfl
                    refine one_ (i := 5) (N := some 46) #[true, true, true, true, true, true, true, true, false, false] rfl rfl (one_of HT_.out (by kernel_rfl)) (by decide) (fun K hK => ?_)
                    refine goes_ Try.func54 (by kernel_rfl) rfl #[.slice Ao34 x10_2.length co34, .int .u64 (IntKind.u64.wrap ((((rd_T46 l3 x37_2).f0).size : Int))), .int .i64 1] (by rfl) rfl rfl (by (try simp only [List.map_toArray, List.map_cons, List.map_nil]); first | done | rfl | (simp only [List.length_drop, List.length_take]; rfl)) ?_
                    with_reducible refine (octet_Put.calls k2 _ _ x10_2 (IntKind.u64.wrap ((((rd_T46 l3 x37_2).f0).size : Int))) 1 t157 _ ?side1 ?side2 A26.out).mono ?_
                    (case side1 => repeat (first | exact (Kd.R_reads' HO_10.out).2.2 | (with_reducible refine Kd.C_alloc ?_ _) | (with_reducible refine Kd.C_drewN ?_ _) | (with_reducible refine Kd.C_drew ?_)))
                    (case side2 => exact (Kd.R_reads' HO_10.out).2.1)
                    rintro e w35 ⟨v158, rfl, ho0, hb⟩
                    refine ⟨_, rfl, ?_⟩
                    have n0_ := Aside0.mk (Kd.R_elder' (by (with_reducible repeat (first | apply Kd.R_alloc | apply Kd.R_drewN | apply Kd.R_drew)); exact HO_10.out) (Kd.R_base ho0) hb)
                    have n1_ := Aside0.mk (Kd.R_lower (Kd.R_new' ho0 (Kd.R_lt (by (with_reducible repeat (first | apply Kd.R_alloc | apply Kd.R_drewN | apply Kd.R_drew)); exact HO_10.out))) (below_size (by repeat (first | (with_reducible first | exact HB.out | apply below_alloc | apply pw_below_drewN | apply below_drew1 | refine below_set ?_ GE150.out | refine below_set ?_ GE156.out) | exact HB.out))))
                    have n2_ := Aside0.mk (blk_below (g := gb150) (o := .cells #[.int .i64 0, .int .i64 0, .int .u32 0, .int .u32 0, .int .u64 0, .string (⟨#[]⟩ : ByteArray)] 39 (0, 0)) (by (with_reducible repeat (first | refine blk_drewN ?_ _ | refine blk_drew ?_ | refine blk_alloc ?_ _)); exact BK150.out) hb)
                    have n3_ := Aside0.mk (blk_below (g := gb156) (o := .cells #[.string ((rd_T46 l3 x37_2).f0), .int .u32 ((rd_T46 l3 x37_2).f1)] 46 (0, 0)) (by (with_reducible repeat (first | refine blk_drewN ?_ _ | refine blk_drew ?_ | refine blk_alloc ?_ _)); exact BK156.out) hb)
                    have n4_ := Aside0.mk (below_step (by repeat (first | (with_reducible first | exact HB.out | apply below_alloc | apply pw_below_drewN | apply below_drew1 | refine below_set ?_ GE150.out | refine below_set ?_ GE156.out) | exact HB.out)) hb)
                    clear HO_10
                    clear BK150
                    clear BK156
                    clear HB
                    have HO_10 := n0_
                    have HO159 := n1_
                    have BK150 := n2_
                    have BK156 := n3_
                    have HB := n4_
                    clear n0_ n1_ n2_ n3_ n4_
                    (try clear hb)
                    (try clear hb2)
                    (try clear hk)
                    (try clear hi)
                    (try clear ho0)
                    refine hK.out _ _ ⟨(blk_cell BK156.out 0).trans rfl, (blk_cell BK156.out 1).trans rfl⟩ (fun hHeld => ?_)
                    clear hK K
                    refine norm_ (a' := ?_) ?_ ?_
                    rotate_left
                    · show Act.put _ (some 46) _ = _
                      simp only [Act.put, List.setIfInBounds_toArray, List.set_cons_zero, List.set_cons_succ, i64_w, i32_w]
                      rfl
                    refine one_ (i := 8) (N := some 49) #[true, true, true, true, true, true, true, true, true, false] rfl rfl (one_of HT_.out (by kernel_rfl)) (by decide) (fun K hK => ?_)
                    refine append_str_step (w0 := w) w.heap.size (by rfl) (.tmp 46) _ 55 9 5 rfl Try.underlying55 Try.underlying9 info5 v158 t157 ((rd_T46 l3 x37_2).f0) rfl rfl ?aO ?aB ?aS ?aL ?_
                    (case aB => exact (by repeat (first | (with_reducible first | exact HB.out | apply below_alloc | apply pw_below_drewN | apply below_drew1 | refine below_set ?_ GE150.out | refine below_set ?_ GE156.out) | exact HB.out)))
                    (case aO => exact (Kd.own_of_R (by (with_reducible repeat (first | apply Kd.R_alloc | apply Kd.R_drewN | apply Kd.R_drew)); exact Kd.R_mono HO159.out (fun _ hk => trivial))))
                    (case aS => exact (below_size (by repeat (first | (with_reducible first | exact HB.out | apply below_alloc | apply pw_below_drewN | apply below_drew1 | refine below_set ?_ GE150.out | refine below_set ?_ GE156.out) | exact HB.out))))
                    (case aL => have := LMc27.out; omega)
                    intro v161 w36 ho0 hb hg
                    have ho := Kd.R_of_own (h1 := fun _ => rfl) (ok := fun _ => True) ho0 (fun _ _ => trivial)
                    clear ho0
                    have hat := True.intro
                    rw [← Ny160.out] at ho
                    change Kd.R (Kd.int .u8) 5 w36 w.heap.size (fun _ => True) v161 y160 at ho
                    have n0_ := Aside0.mk (blk_grown (g := gb150) (o := .cells #[.int .i64 0, .int .i64 0, .int .u32 0, .int .u32 0, .int .u64 0, .string (⟨#[]⟩ : ByteArray)] 39 (0, 0)) (by (with_reducible repeat (first | refine blk_drewN ?_ _ | refine blk_drew ?_ | refine blk_alloc ?_ _)); exact BK150.out) hg (Kd.R_ne HO159.out BK150.out (by decide)))
                    have n1_ := Aside0.mk (blk_grown (g := gb156) (o := .cells #[.string ((rd_T46 l3 x37_2).f0), .int .u32 ((rd_T46 l3 x37_2).f1)] 46 (0, 0)) (by (with_reducible repeat (first | refine blk_drewN ?_ _ | refine blk_drew ?_ | refine blk_alloc ?_ _)); exact BK156.out) hg (Kd.R_ne HO159.out BK156.out (by decide)))
                    have n2_ := Aside0.mk (hb)
                    have n3_ := Aside0.mk (ho)
                    clear BK150
                    clear BK156
                    clear HB
                    clear HO159
                    have BK150 := n0_
                    have BK156 := n1_
                    have HB := n2_
                    have HO162 := n3_
                    clear n0_ n1_ n2_ n3_
                    clear ho hb hg hat
                    refine hK.out _ _ ⟨(blk_cell BK156.out 0).trans rfl, (blk_cell BK156.out 1).trans rfl⟩ (fun hHeld => ?_)
                    clear hK K
                    refine norm_ (a' := ?_) ?_ ?_
                    rotate_left
                    · show Act.put _ (some 49) _ = _
                      simp only [Act.put, List.setIfInBounds_toArray, List.set_cons_zero, List.set_cons_succ, i64_w, i32_w]
                      rfl
                    refine pure_ (i := 9) (N := some 10) (v := ?_) (a' := ?_) #[true, true, true, true, true, true, true, true, true, true] rfl rfl (any_of HT_.out (by kernel_rfl)) (fun _ _ _ h => h) (Or.inl ⟨by rfl, ?_⟩) ?_ ?_
                    rotate_left
                    · intro w'
                      go_simp
                      with_reducible rfl
                    rotate_left
                    · simp only [Act.put, List.setIfInBounds_toArray, List.set_cons_zero, List.set_cons_succ, i64_w, i32_w]
                      rfl
                    refine done_ (done_of HT_.out (by kernel_rfl)) ?_
                    have hcz37_0 : w36.cell? ⟨gb156, 0, none⟩ = some (.string ((rd_T46 l3 x37_2).f0)) := (blk_cell BK156.out 0).trans rfl
                    have hcz37_1 : w36.cell? ⟨gb156, 1, none⟩ = some (.int .u32 ((rd_T46 l3 x37_2).f1)) := (blk_cell BK156.out 1).trans rfl
                    have hfz37_0 := blk_frozen BK156.out 0
                    have hfz37_1 := blk_frozen BK156.out 1
                    obtain ⟨Ao38, co38, eo38⟩ := Kd.R_slice HO162.out
                    subst eo38
                    try go_wp2_with (first | ((with_reducible refine gate_callee (f := 54) rfl ?_); refine goesL_ (some 54) rfl rfl Try.func54 (by kernel_rfl) rfl #[.slice Ao38 y160.length co38, .int .u64 (IntKind.u64.wrap ((rd_T46 l3 x37_2).f1)), .int .i64 4] rfl (by (try simp only [List.map_toArray, List.map_cons, List.map_nil]); first | done | rfl | (simp only [List.length_drop, List.length_take]; rfl)) ?_; (with_reducible refine (octet_Put.calls k2 _ _ y160 (IntKind.u64.wrap ((rd_T46 l3 x37_2).f1)) 4 t163 _ ?side1 ?side2 A28.out).mono ?_); (case side1 => repeat (first | exact (Kd.R_reads' HO162.out).2.2 | (with_reducible refine Kd.C_alloc ?_ _) | (with_reducible refine Kd.C_drewN ?_ _) | (with_reducible refine Kd.C_drew ?_))); (case side2 => exact (Kd.R_reads' HO162.out).2.1); rintro e w39 ⟨v164, rfl, ho0, hb⟩; refine ⟨_, rfl, ?_⟩; have n0_ := Aside0.mk (Kd.R_elder' (by (with_reducible repeat (first | apply Kd.R_alloc | apply Kd.R_drewN | apply Kd.R_drew)); exact HO162.out) (Kd.R_base ho0) hb); have n1_ := Aside0.mk (Kd.R_lower (Kd.R_new' ho0 (Kd.R_lt (by (with_reducible repeat (first | apply Kd.R_alloc | apply Kd.R_drewN | apply Kd.R_drew)); exact HO162.out))) (below_size (by repeat (first | (with_reducible first | exact HB.out | apply below_alloc | apply pw_below_drewN | apply below_drew1 | refine below_set ?_ GE150.out | refine below_set ?_ GE156.out) | exact HB.out)))); have n2_ := Aside0.mk (blk_below (g := gb150) (o := .cells #[.int .i64 0, .int .i64 0, .int .u32 0, .int .u32 0, .int .u64 0, .string (⟨#[]⟩ : ByteArray)] 39 (0, 0)) (by (with_reducible repeat (first | refine blk_drewN ?_ _ | refine blk_drew ?_ | refine blk_alloc ?_ _)); exact BK150.out) hb); have n3_ := Aside0.mk (blk_below (g := gb156) (o := .cells #[.string ((rd_T46 l3 x37_2).f0), .int .u32 ((rd_T46 l3 x37_2).f1)] 46 (0, 0)) (by (with_reducible repeat (first | refine blk_drewN ?_ _ | refine blk_drew ?_ | refine blk_alloc ?_ _)); exact BK156.out) hb); have n4_ := Aside0.mk (below_step (by repeat (first | (with_reducible first | exact HB.out | apply below_alloc | apply pw_below_drewN | apply below_drew1 | refine below_set ?_ GE150.out | refine below_set ?_ GE156.out) | exact HB.out)) hb); clear HO162; clear BK150; clear BK156; clear HB; have HO162 := n0_; have HO165 := n1_; have BK150 := n2_; have BK156 := n3_; have HB := n4_; clear n0_ n1_ n2_ n3_ n4_; (try clear hb); (try clear hb2); (try clear hk); (try clear hi); (try clear ho0)))
                    go_roundg k2
                    case measure => have := HJ4.out; have := HK2.out; omega
                    case rel => exact ⟨(t163), (wrap64 (x37_2 + 1)), (by first | rfl | (simp; done) | (simp [*]; done)), H', ⟨by have := HJ4.out; have := HK2.out; omega⟩, ⟨by (with_reducible repeat (first | apply Kd.R_alloc | apply Kd.R_drewN | apply Kd.R_drew)); exact Kd.R_mono HO165.out (fun _ hk => trivial)⟩, ⟨by (with_reducible repeat (first | refine blk_drewN ?_ _ | refine blk_drew ?_ | refine blk_alloc ?_ _)); exact BK150.out⟩, ⟨by repeat (first | (with_reducible first | exact HB.out | apply below_alloc | apply pw_below_drewN | apply below_drew1 | refine below_set ?_ GE150.out | refine below_set ?_ GE156.out) | exact HB.out)⟩⟩
                  · rw [if_neg c27] at H
                    exact absurd H (by simp)
                · rw [if_neg c25] at H
                  exact absurd H (by simp)
              · rw [if_neg c24] at H
                exact absurd H (by simp)
            · rw [if_neg c23] at H
              have c23b0 : decide (x37_2 < (l3.length : Int)) = false := decide_eq_false c23
              clear c23
              replace H := Option.bind_eq_some_iff.mp H
              obtain ⟨⟨t166, t167⟩, A400, H⟩ := H
              replace H : (some (3, (l3.length : Int), a1, 0, a2, t166, 0)) = some (r1, r2, r3, r4, r5, r6, r7) := H
              have A40 := Aside0.mk A400
              clear A400
              simp only [Option.some.injEq, Prod.mk.injEq] at H
              obtain ⟨rfl, rfl, rfl, rfl, rfl, rfl, rfl⟩ := H
              obtain ⟨Ao41, co41, eo41⟩ := Kd.R_slice HO_10.out
              subst eo41
              go_wp2_with (first | ((with_reducible refine gate_callee (f := 55) rfl ?_); refine goesL_ (some 59) rfl rfl Try.func55 (by kernel_rfl) rfl #[.int .i64 a0, .slice Ao41 x10_2.length co41] rfl (by (try simp only [List.map_toArray, List.map_cons, List.map_nil]); first | done | rfl | (simp only [List.length_drop, List.length_take]; rfl)) ?_; (with_reducible refine (frame_Body.calls a0 _ _ x10_2 t166 t167 _ ?side1 ?side2 A40.out).mono ?_); (case side1 => repeat (first | exact (Kd.R_reads' HO_10.out).2.2 | (with_reducible refine Kd.C_alloc ?_ _) | (with_reducible refine Kd.C_drewN ?_ _) | (with_reducible refine Kd.C_drew ?_))); (case side2 => exact (Kd.R_reads' HO_10.out).2.1); rintro e w42 ⟨rfl, hb⟩; refine ⟨_, rfl, ?_⟩; have n0_ := Aside0.mk (Kd.R_below (by (with_reducible repeat (first | apply Kd.R_alloc | apply Kd.R_drewN | apply Kd.R_drew)); exact HO_10.out) hb); have n1_ := Aside0.mk (blk_below (g := gb150) (o := .cells #[.int .i64 0, .int .i64 0, .int .u32 0, .int .u32 0, .int .u64 0, .string (⟨#[]⟩ : ByteArray)] 39 (0, 0)) (by (with_reducible repeat (first | refine blk_drewN ?_ _ | refine blk_drew ?_ | refine blk_alloc ?_ _)); exact BK150.out) hb); have n2_ := Aside0.mk (below_step (by repeat (first | (with_reducible first | exact HB.out | apply below_alloc | apply pw_below_drewN | apply below_drew1 | refine below_set ?_ GE150.out) | exact HB.out)) hb); clear HO_10; clear BK150; clear HB; have HO_10 := n0_; have BK150 := n1_; have HB := n2_; clear n0_ n1_ n2_; (try clear hb); (try clear hb2); (try clear hk); (try clear hi); have hcz43_0 : w42.cell? ⟨gb150, 0, none⟩ = some (.int .i64 0) := (blk_cell BK150.out 0).trans rfl; have hcz43_1 : w42.cell? ⟨gb150, 1, none⟩ = some (.int .i64 0) := (blk_cell BK150.out 1).trans rfl; have hcz43_2 : w42.cell? ⟨gb150, 2, none⟩ = some (.int .u32 0) := (blk_cell BK150.out 2).trans rfl; have hcz43_3 : w42.cell? ⟨gb150, 3, none⟩ = some (.int .u32 0) := (blk_cell BK150.out 3).trans rfl; have hcz43_4 : w42.cell? ⟨gb150, 4, none⟩ = some (.int .u64 0) := (blk_cell BK150.out 4).trans rfl; have hcz43_5 : w42.cell? ⟨gb150, 5, none⟩ = some (.string (⟨#[]⟩ : ByteArray)) := (blk_cell BK150.out 5).trans rfl; have hfz43_0 := blk_frozen BK150.out 0; have hfz43_1 := blk_frozen BK150.out 1; have hfz43_2 := blk_frozen BK150.out 2; have hfz43_3 := blk_frozen BK150.out 3; have hfz43_4 := blk_frozen BK150.out 4; have hfz43_5 := blk_frozen BK150.out 5))
              refine bodyPost_ret (results_ct rfl _ _ gb150 39 #[.int .i64 3, .int .i64 (l3.length : Int), .int .u32 a1, .int .u32 0, .int .u64 a2, .string t166] (0, 0) _ rfl (by (with_reducible repeat (first | refine blk_drewN ?_ _ | refine blk_drew ?_ | refine blk_alloc ?_ _)); refine blk_put (cs := #[.int .i64 3, .int .i64 (l3.length : Int), .int .u32 a1, .int .u32 0, .int .u64 a2, .string (⟨#[]⟩ : ByteArray)]) ?_ 5 _ rfl; (with_reducible repeat (first | refine blk_drewN ?_ _ | refine blk_drew ?_ | refine blk_alloc ?_ _)); refine blk_put (cs := #[.int .i64 3, .int .i64 (l3.length : Int), .int .u32 a1, .int .u32 0, .int .u64 0, .string (⟨#[]⟩ : ByteArray)]) ?_ 4 _ rfl; (with_reducible repeat (first | refine blk_drewN ?_ _ | refine blk_drew ?_ | refine blk_alloc ?_ _)); refine blk_put (cs := #[.int .i64 3, .int .i64 (l3.length : Int), .int .u32 a1, .int .u32 0, .int .u64 0, .string (⟨#[]⟩ : ByteArray)]) ?_ 3 _ rfl; (with_reducible repeat (first | refine blk_drewN ?_ _ | refine blk_drew ?_ | refine blk_alloc ?_ _)); refine blk_put (cs := #[.int .i64 3, .int .i64 (l3.length : Int), .int .u32 0, .int .u32 0, .int .u64 0, .string (⟨#[]⟩ : ByteArray)]) ?_ 2 _ rfl; (with_reducible repeat (first | refine blk_drewN ?_ _ | refine blk_drew ?_ | refine blk_alloc ?_ _)); refine blk_put (cs := #[.int .i64 3, .int .i64 0, .int .u32 0, .int .u32 0, .int .u64 0, .string (⟨#[]⟩ : ByteArray)]) ?_ 1 _ rfl; (with_reducible repeat (first | refine blk_drewN ?_ _ | refine blk_drew ?_ | refine blk_alloc ?_ _)); refine blk_put (cs := #[.int .i64 0, .int .i64 0, .int .u32 0, .int .u32 0, .int .u64 0, .string (⟨#[]⟩ : ByteArray)]) ?_ 0 _ rfl; (with_reducible repeat (first | refine blk_drewN ?_ _ | refine blk_drew ?_ | refine blk_alloc ?_ _)); exact BK150.out) Try.underlying39 rfl (by kernel_rfl)) rfl ?_
              exact ⟨by first | rfl | (simp [errW_none, errW_some] <;> rfl) | (simp [*, errW_none, errW_some] <;> rfl), by repeat (first | (with_reducible first | exact HB.out | apply below_alloc | apply pw_below_drewN | apply below_drew1 | refine below_set ?_ GE150.out) | exact HB.out)⟩
end Go.Proofs.Ytlkfcabklaaacaa.P

namespace Go.Proofs.YtlkfcabklaaacaaO
set_option linter.unusedVariables false
set_option linter.unusedSimpArgs false
open Go.RowKit Go.Proofs.YtlkfcabklaaacaaW.PrintWords Go.Proofs.YtlkfcabklaaacaaW.PrintLast
variable {P : Program} {ops : Array Oper} {Q : Exit → Act → World → Prop}
/-- A call that panics. -/
theorem goes_panic {oi : Oper} {N : Option Tmp} {a : Act} {w : World} {K : Act → World → Prop} {f : FuncId} {fn : Func} {xa : Array Operand} {ts : Array TypeId} (hf : P.funcs[f]? = some fn) (hname : (fn.name == "runtime.NumGoroutine") = false) (hb : fn.body.isSome = true) (args : Array Value)
    (hw : Region.wanted oi (yielded ops a.tmps) = true) (hop : oi.op = .call { callee := .value (.func f), args := xa, argTypes := ts }) (hargs : xa.map a.eval = args)
    (h : Calls P f args w fun e w' => ∃ c, e = .panicked c ∧ Q (.panic c) a w') : if Region.wanted oi (yielded ops a.tmps) = true then Oper.wp P oi a w K Q else K (a.put N undef) w := by
  rw [if_pos hw]
  have he := enters_ hf hname hb args w
  have hrun : (execOp a.eval oi).run P w = .ok (.enter f args) w := by
    unfold execOp
    simp [hop, resolve, Deferred.ofValue, invoke, Act.eval, hargs, he]
  unfold Oper.wp
  rw [hrun, Oper.upon_enter]
  refine h.mono fun e w'' hh => ?_
  obtain ⟨c, rfl, hk⟩ := hh
  exact hk
/-- What is left to do when a function leaves asks of its slots the results alone. -/
theorem leaves_congr {fn : Func} {t1 t2 : Array Value} {R : Ending → World → Prop} (hr : results fn t1 = results fn t2) : ∀ (ds : List Deferred) (u : FrameMode) (w : World), Leaves P fn t1 R ds u w → Leaves P fn t2 R ds u w
  | [], .returning, w, h => by
    obtain ⟨v, h1, h2⟩ := h
    exact ⟨v, by rw [← hr]; exact h1, h2⟩
  | [], .panicking _, _, h => h
  | [], .run, _, h => h
  | d :: ds, u, w, h => by
    obtain ⟨hu, fv, cap, f, args, h1, h2, h3⟩ := h
    refine ⟨hu, fv, cap, f, args, h1, h2, h3.mono fun e u' w' hh => ?_⟩
    cases e with
    | returned v => exact leaves_congr hr ds _ _ hh
    | panicked chain => exact leaves_congr hr ds _ _ hh
    | outgrown => exact hh
theorem panicD_put {fn : Func} {R : Ending → World → Prop} (d : Tmp) (v : Value) (hr : ∀ t : Array Value, results fn (t.setIfInBounds d v) = results fn t) (c : List PanicEntry) (a : Act) (w : World) (h : bodyPostD P fn R (.panic c) (a.put (some d) v) w) : bodyPostD P fn R (.panic c) a w :=
  leaves_congr (hr a.tmps) _ _ _ h
/-- Two results that lie in variables of their own. -/
theorem results_two {fn : Func} {p q : Tmp} {t u : TypeId} (hr : fn.results = #[.cell p t, .cell q u]) (d : Tmp) (v : Value) (h1 : p ≠ d) (h2 : q ≠ d) (s : Array Value) : results fn (s.setIfInBounds d v) = results fn s := by
  unfold results
  rw [hr]
  have e (k : Tmp) (hk : k ≠ d) : (s.setIfInBounds d v).getD k undef = s.getD k undef := by
    rw [Array.getD_eq_getD_getElem?, Array.getD_eq_getD_getElem?, Array.getElem?_setIfInBounds_ne (Ne.symm hk)]
  simp only [List.mapM_toArray, Array.mapM_eq_mapM_toList]
  simp only [List.mapM_cons, List.mapM_nil, e p h1, e q h2]
end Go.Proofs.YtlkfcabklaaacaaO

namespace Go.Proofs.Ytlkfcabklaaacaa.P
open Go.RowKit Go.Proofs.YtlkfcabklaaacaaW.PrintWords Go.Proofs.YtlkfcabklaaacaaW.PrintLast Go.Proofs.YtlkfcabklaaacaaW.PrintMore
attribute [local go_sem] max2_int min2_int max_two min_two max_three min_three max_four min_four   -- for this text's walks alone
open Go.Proofs.YtlkfcabklaaacaaO
attribute [local go_sem] min2_str max2_str
set_option linter.unusedVariables false
set_option linter.unusedSimpArgs false
theorem eqA39 (d : Nat) (w : World) (x0 y0 : Int) (x1 y1 : Int) (x2 y2 : Int) (x3 y3 : Int) (x4 y4 : Int) (x5 y5 : ByteArray) :
    (Op.equalIn (d + 2) 39 (.agg #[.int .i64 x0, .int .i64 x1, .int .u32 x2, .int .u32 x3, .int .u64 x4, .string x5]) (.agg #[.int .i64 y0, .int .i64 y1, .int .u32 y2, .int .u32 y3, .int .u64 y4, .string y5])).run Try.prog w = .ok (x0 == y0 && (x1 == y1 && (x2 == y2 && (x3 == y3 && (x4 == y4 && (x5.toList == y5.toList)))))) w := by
  refine eqA_of Try.underlying39 (by kernel_rfl) ?_
  refine eqf_cons (by rfl) (by go_simp; rfl) (by go_simp; rfl) (by go_simp) ?_
  refine eqf_cons (by rfl) (by go_simp; rfl) (by go_simp; rfl) (by go_simp) ?_
  refine eqf_cons (by rfl) (by go_simp; rfl) (by go_simp; rfl) (by go_simp) ?_
  refine eqf_cons (by rfl) (by go_simp; rfl) (by go_simp; rfl) (by go_simp) ?_
  refine eqf_cons (by rfl) (by go_simp; rfl) (by go_simp; rfl) (by go_simp) ?_
  exact eqf_last (by rfl) (by go_simp; rfl) (by go_simp; rfl) (by go_simp)
end Go.Proofs.Ytlkfcabklaaacaa.P

namespace Go.Proofs.Ytlkfcabklaaacaa.P
open Go.RowKit Go.Proofs.YtlkfcabklaaacaaW.PrintWords Go.Proofs.YtlkfcabklaaacaaW.PrintLast Go.Proofs.YtlkfcabklaaacaaW.PrintMore
attribute [local go_sem] max2_int min2_int max_two min_two max_three min_three max_four min_four   -- for this text's walks alone
open Go.Proofs.YtlkfcabklaaacaaO
attribute [local go_sem] min2_str max2_str
set_option linter.unusedVariables false
set_option linter.unusedSimpArgs false
/-- A state of type 93 at block g of W; what its slices lead to came in by w0. -/
def IsS93 (w0 W : World) (g : Nat) (f0 : ByteArray) : Prop := W.heap[g]? = some (.cells #[.string f0] 93 (0, 0)) ∧ w0.heap.size ≤ g
theorem IsS93.grown {w0 W : World} {g : Nat} {f0 : ByteArray} {W1 : World} {row : Option Nat} (h : IsS93 w0 W g f0) (hw : W.grownBy W1 row) (hne : some g ≠ row) : IsS93 w0 W1 g f0 := by
  obtain ⟨hb, hg⟩ := h
  exact ⟨blk_grown hb hw hne, hg⟩
theorem IsS93.below {w0 W : World} {g : Nat} {f0 : ByteArray} {W1 : World} (h : IsS93 w0 W g f0) (hw : Below W.heap.size W W1) : IsS93 w0 W1 g f0 := h.grown (grown_of_below hw none) (by simp)
theorem IsS93.apart {w0 W : World} {g : Nat} {f0 : ByteArray} {α : Type} {d : Kd α} {e : Nat} {base : Nat} {ok : Nat → Prop} {v : Value} {xs : List α} (h : IsS93 w0 W g f0) (ho : d.R e W base ok v xs) (ht : ∀ q, q ∈ e :: d.E → q ≠ 93) : d.R e W base (fun k => ok k ∧ k ≠ g) v xs := by
  obtain ⟨hb, hg⟩ := h
  exact Kd.R_types ho hb ht
theorem IsS93.ge {w0 W : World} {g : Nat} {f0 : ByteArray} (h : IsS93 w0 W g f0) : w0.heap.size ≤ g := by
  obtain ⟨hb, hg⟩ := h
  exact hg
theorem IsS93.ne_blk {w0 W : World} {g : Nat} {f0 : ByteArray} {a : Nat} {cs : Array Value} {t : TypeId} {fr : Nat × Nat} (h : IsS93 w0 W g f0) (hb2 : W.heap[a]? = some (.cells cs t fr)) (ht : t ≠ 93) : g ≠ a := by
  obtain ⟨hb, hg⟩ := h
  rintro rfl
  rw [hb] at hb2
  injection hb2 with hb2
  injection hb2 with _ ht2
  exact ht ht2.symm
theorem cellS93_0 {W : World} {g : Nat} {f0 : ByteArray} (h : W.heap[g]? = some (.cells #[.string f0] 93 (0, 0))) : W.cell? ⟨g, 0, none⟩ = some (.string f0) := (blk_cell h 0).trans rfl
theorem IsS93.set_0 {w0 W : World} {g : Nat} {f0 : ByteArray} (h : IsS93 w0 W g f0) (x : ByteArray) : IsS93 w0 (W.setCell ⟨g, 0, none⟩ (.string x)) g x := by
  obtain ⟨hb, hg⟩ := h
  exact ⟨by first | (simp; done) | (simp at blk_set; done) | simpa using blk_set hb 0 (.string x), hg⟩
/-! ### octet_New: function 59 -/
def octet_New.f (a0 : ByteArray) : Option (ByteArray) := some a0
set_option maxHeartbeats 8000000 in
set_option maxRecDepth 100000 in
theorem octet_New.calls (a0 : ByteArray) (r : ByteArray) (w0 w : World) (hB : Below w0.heap.size w0 w) (h : octet_New.f a0 = some r) :
    Calls Try.prog 59 #[.string a0] w fun e w' => ∃ g_ : Nat, e = .returned (.pointer (some ⟨g_, 0, none⟩)) ∧ IsS93 w0 w' g_ r ∧ Below w0.heap.size w0 w' ∧ Below w.heap.size w w' := by
  have hu93 := Try.underlying93
  have HBW := Aside0.mk (Below.refl w.heap.size w)
  have HW0 := Aside0.mk hB.size
  have HB := Aside0.mk hB
  clear hB
  have H : (some a0) = some r := h
  clear h
  obtain rfl := Option.some.inj H
  go_enter Try.func59, Try.ntmps59
  go_wp2_with (first | ((with_reducible refine gate_dst (N := 5) rfl ?_); refine box_event ?hg (N := 5) ?hd (cs := #[.string a0]) (t := 93) ?hr ?_; (case hd => rfl); (case hg => rfl); (case hr => first | (go_simp; done) | (go_simp; rfl)); intro gb216 hg w2 hbox hb; have n0_ := Aside0.mk (below_step HBW.out hb); have n1_ := Aside0.mk (below_step (by repeat (first | (with_reducible first | exact HB.out | apply below_alloc | apply pw_below_drewN | apply below_drew1) | exact HB.out)) hb); have n2_ := Aside0.mk (hbox); have n3_ := Aside0.mk ((by rw [hg]; exact (below_size (by repeat (first | (with_reducible first | exact HBW.out | apply below_alloc | apply pw_below_drewN | apply below_drew1) | exact HBW.out))) : w.heap.size ≤ gb216)); have n4_ := Aside0.mk ((Nat.le_trans HW0.out (by rw [hg]; exact (below_size (by repeat (first | (with_reducible first | exact HBW.out | apply below_alloc | apply pw_below_drewN | apply below_drew1) | exact HBW.out))) : w.heap.size ≤ gb216) : w0.heap.size ≤ gb216)); clear HBW; clear HB; have HBW := n0_; have HB := n1_; have BK216 := n2_; have GW216 := n3_; have GE216 := n4_; clear n0_ n1_ n2_ n3_ n4_; clear hb hbox hg))
  go_ret
  exact ⟨_, rfl, (show IsS93 w0 _ gb216 a0 from ⟨by (with_reducible repeat (first | refine blk_drewN ?_ _ | refine blk_drew ?_ | refine blk_alloc ?_ _)); exact BK216.out, GE216.out⟩), by repeat (first | (with_reducible first | exact HB.out | apply below_alloc | apply pw_below_drewN | apply below_drew1 | refine below_set ?_ GE216.out) | exact HB.out), by repeat (first | (with_reducible first | exact HBW.out | apply below_alloc | apply pw_below_drewN | apply below_drew1 | refine below_set ?_ GW216.out) | exact HBW.out)⟩
end Go.Proofs.Ytlkfcabklaaacaa.P

namespace Go.Proofs.Ytlkfcabklaaacaa.P
open Go.RowKit Go.Proofs.YtlkfcabklaaacaaW.PrintWords Go.Proofs.YtlkfcabklaaacaaW.PrintLast Go.Proofs.YtlkfcabklaaacaaW.PrintMore
attribute [local go_sem] max2_int min2_int max_two min_two max_three min_three max_four min_four   -- for this text's walks alone
open Go.Proofs.YtlkfcabklaaacaaO
attribute [local go_sem] min2_str max2_str
set_option linter.unusedVariables false
set_option linter.unusedSimpArgs false
/-! ### octet_Reader_take: function 78 -/
def octet_Reader_take.f (s0_0 : ByteArray) (a1 : Int) : Option (ByteArray × Int × ByteArray) := if a1 > (s0_0.size : Int) then (some ((⟨#[]⟩ : ByteArray), 7, s0_0)) else (if 0 ≤ a1 then (if a1 ≤ (s0_0.size : Int) then (some (s0_0.extract 0 (a1 : Int).toNat, 0, s0_0.extract (a1 : Int).toNat s0_0.size)) else (none)) else (none))
set_option maxHeartbeats 8000000 in
set_option maxRecDepth 100000 in
theorem octet_Reader_take.calls (g : Nat) (s0_0 : ByteArray) (a1 : Int) (r1 : ByteArray) (r2 : Int) (r3 : ByteArray) (w0 w : World) (hI : IsS93 w0 w g s0_0) (hB : Below w0.heap.size w0 w) (h : octet_Reader_take.f s0_0 a1 = some (r1, r2, r3)) :
    Calls Try.prog 78 #[.pointer (some ⟨g, 0, none⟩), .int .i64 a1] w fun e w' => e = .returned (.tuple #[.string r1, .int .i64 r2]) ∧ IsS93 w0 w' g r3 ∧ Below w0.heap.size w0 w' ∧ KeepBut w w' g none := by
  have HI0 := Aside0.mk hI
  have HK := Aside0.mk (KeepBut.refl w g none)
  have HL := Aside0.mk hB.size
  clear hI
  have HW0 := Aside0.mk hB.size
  have HB := Aside0.mk hB
  clear hB
  have H : (if a1 > (s0_0.size : Int) then (some ((⟨#[]⟩ : ByteArray), 7, s0_0)) else (if 0 ≤ a1 then (if a1 ≤ (s0_0.size : Int) then (some (s0_0.extract 0 (a1 : Int).toNat, 0, s0_0.extract (a1 : Int).toNat s0_0.size)) else (none)) else (none))) = some (r1, r2, r3) := h
  clear h
  by_cases c3 : a1 > (s0_0.size : Int)
  · rw [if_pos c3] at H
    have c3b0 : decide ((s0_0.size : Int) < a1) = true := decide_eq_true c3
    clear c3
    simp only [Option.some.injEq, Prod.mk.injEq] at H
    obtain ⟨rfl, rfl, rfl⟩ := H
    obtain ⟨HGz4, hgz4⟩ := HI0.out
    have hcz4_0 := cellS93_0 HGz4
    have hfz4_0 := blk_frozen HGz4 0
    clear HGz4 hgz4
    go_enter Try.func78, Try.ntmps78
    go_wp2
    go_ret2
    exact ⟨by first | rfl | (simp [errW_none, errW_some] <;> rfl) | (simp [*, errW_none, errW_some] <;> rfl), by repeat (first | (with_reducible first | exact HI0.out | apply IsS93.alloc | apply IsS93.drewN | apply IsS93.drew | apply IsS93.set_0) | exact HI0.out), by repeat (first | (with_reducible first | exact HB.out | apply below_alloc | apply pw_below_drewN | apply below_drew1 | refine below_set ?_ (IsS93.ge HI0.out)) | exact HB.out), by repeat (first | (with_reducible first | exact HK.out | apply KeepBut.set_ | apply keep_drewN | apply keep_drew | apply keep_alloc) | exact HK.out)⟩
  · rw [if_neg c3] at H
    have c3b0 : decide ((s0_0.size : Int) < a1) = false := decide_eq_false c3
    clear c3
    by_cases c5 : 0 ≤ a1
    · rw [if_pos c5] at H
      have c5b0 := eq_true c5
      have c5b1 : decide (0 ≤ a1) = true := decide_eq_true c5
      clear c5
      by_cases c6 : a1 ≤ (s0_0.size : Int)
      · rw [if_pos c6] at H
        have c6b0 := eq_true c6
        have c6b1 : decide (a1 ≤ (s0_0.size : Int)) = true := decide_eq_true c6
        clear c6
        have c7b0 := eq_true (of_decide_eq_true (by first | (with_reducible assumption) | assumption) : 0 ≤ a1)
        have c8b0 := eq_true (of_decide_eq_true (by first | (with_reducible assumption) | assumption) : a1 ≤ (s0_0.size : Int))
        simp only [Option.some.injEq, Prod.mk.injEq] at H
        obtain ⟨rfl, rfl, rfl⟩ := H
        obtain ⟨HGz9, hgz9⟩ := HI0.out
        have hcz9_0 := cellS93_0 HGz9
        have hfz9_0 := blk_frozen HGz9 0
        clear HGz9 hgz9
        go_enter Try.func78, Try.ntmps78
        go_wp2
        go_ret2
        exact ⟨by first | rfl | (simp [errW_none, errW_some] <;> rfl) | (simp [*, errW_none, errW_some] <;> rfl), by repeat (first | (with_reducible first | exact HI0.out | apply IsS93.alloc | apply IsS93.drewN | apply IsS93.drew | apply IsS93.set_0) | exact HI0.out), by repeat (first | (with_reducible first | exact HB.out | apply below_alloc | apply pw_below_drewN | apply below_drew1 | refine below_set ?_ (IsS93.ge HI0.out)) | exact HB.out), by repeat (first | (with_reducible first | exact HK.out | apply KeepBut.set_ | apply keep_drewN | apply keep_drew | apply keep_alloc) | exact HK.out)⟩
      · rw [if_neg c6] at H
        exact absurd H (by simp)
    · rw [if_neg c5] at H
      exact absurd H (by simp)
end Go.Proofs.Ytlkfcabklaaacaa.P

namespace Go.Proofs.Ytlkfcabklaaacaa.P
open Go.RowKit Go.Proofs.YtlkfcabklaaacaaW.PrintWords Go.Proofs.YtlkfcabklaaacaaW.PrintLast Go.Proofs.YtlkfcabklaaacaaW.PrintMore
attribute [local go_sem] max2_int min2_int max_two min_two max_three min_three max_four min_four   -- for this text's walks alone
open Go.Proofs.YtlkfcabklaaacaaO
attribute [local go_sem] min2_str max2_str
set_option linter.unusedVariables false
set_option linter.unusedSimpArgs false
/-! ### octet_Reader_Number: function 60 -/
def octet_Reader_Number.l0 : Nat → Int → Int → ByteArray → Int → Int → ByteArray → Option (Int × Int × ByteArray)
  | 0, _, _, _, _, _, _ => none
  | k + 1, x4, x5, x6, x25, x26, x1000 => if x26 < x25 then (if 0 ≤ x26 then (if x26 < (x6.size : Int) then (if 0 ≤ (wrap64 (8 * x26)) then (octet_Reader_Number.l0 k (Go.bits .or .u64 x4 (shl .u64 (IntKind.u64.wrap (bt x6 x26)) (wrap64 (8 * x26)))) x5 x6 x25 (wrap64 (x26 + 1)) x1000) else (none)) else (none)) else (none)) else (some (x4, x5, x1000))
def octet_Reader_Number.f (k : Nat) (s0_0 : ByteArray) (a1 : Int) : Option (Int × Int × ByteArray) := if a1 < 1 then (some (0, 2, s0_0)) else (if a1 > 8 then (some (0, 2, s0_0)) else ((octet_Reader_take.f s0_0 a1).bind fun bt217 => (octet_Reader_Number.l0 k 0 bt217.2.1 bt217.1 (bt217.1.size : Int) 0 bt217.2.2)))
set_option maxHeartbeats 8000000 in
set_option maxRecDepth 100000 in
theorem octet_Reader_Number.calls (k : Nat) (g : Nat) (s0_0 : ByteArray) (a1 : Int) (r1 : Int) (r2 : Int) (r3 : ByteArray) (w0 w : World) (hI : IsS93 w0 w g s0_0) (hB : Below w0.heap.size w0 w) (h : octet_Reader_Number.f k s0_0 a1 = some (r1, r2, r3)) :
    Calls Try.prog 60 #[.pointer (some ⟨g, 0, none⟩), .int .i64 a1] w fun e w' => e = .returned (.tuple #[.int .u64 r1, .int .i64 r2]) ∧ IsS93 w0 w' g r3 ∧ Below w0.heap.size w0 w' ∧ KeepBut w w' g none := by
  have HI0 := Aside0.mk hI
  have HK := Aside0.mk (KeepBut.refl w g none)
  have HL := Aside0.mk hB.size
  clear hI
  have HW0 := Aside0.mk hB.size
  have HB := Aside0.mk hB
  clear hB
  have H : (if a1 < 1 then (some (0, 2, s0_0)) else (if a1 > 8 then (some (0, 2, s0_0)) else ((octet_Reader_take.f s0_0 a1).bind fun bt217 => (octet_Reader_Number.l0 k 0 bt217.2.1 bt217.1 (bt217.1.size : Int) 0 bt217.2.2)))) = some (r1, r2, r3) := h
  clear h
  by_cases c3 : a1 < 1
  · rw [if_pos c3] at H
    have c3b0 : decide (a1 < 1) = true := decide_eq_true c3
    clear c3
    simp only [Option.some.injEq, Prod.mk.injEq] at H
    obtain ⟨rfl, rfl, rfl⟩ := H
    go_enter Try.func60, Try.ntmps60
    go_wp2
    go_ret2
    exact ⟨by first | rfl | (simp [errW_none, errW_some] <;> rfl) | (simp [*, errW_none, errW_some] <;> rfl), by repeat (first | (with_reducible first | exact HI0.out | apply IsS93.alloc | apply IsS93.drewN | apply IsS93.drew | apply IsS93.set_0) | exact HI0.out), by repeat (first | (with_reducible first | exact HB.out | apply below_alloc | apply pw_below_drewN | apply below_drew1 | refine below_set ?_ (IsS93.ge HI0.out)) | exact HB.out), by repeat (first | (with_reducible first | exact HK.out | apply KeepBut.set_ | apply keep_drewN | apply keep_drew | apply keep_alloc) | exact HK.out)⟩
  · rw [if_neg c3] at H
    have c3b0 : decide (a1 < 1) = false := decide_eq_false c3
    clear c3
    by_cases c4 : a1 > 8
    · rw [if_pos c4] at H
      have c4b0 : decide (8 < a1) = true := decide_eq_true c4
      clear c4
      simp only [Option.some.injEq, Prod.mk.injEq] at H
      obtain ⟨rfl, rfl, rfl⟩ := H
      go_enter Try.func60, Try.ntmps60
      go_wp2
      go_ret2
      exact ⟨by first | rfl | (simp [errW_none, errW_some] <;> rfl) | (simp [*, errW_none, errW_some] <;> rfl), by repeat (first | (with_reducible first | exact HI0.out | apply IsS93.alloc | apply IsS93.drewN | apply IsS93.drew | apply IsS93.set_0) | exact HI0.out), by repeat (first | (with_reducible first | exact HB.out | apply below_alloc | apply pw_below_drewN | apply below_drew1 | refine below_set ?_ (IsS93.ge HI0.out)) | exact HB.out), by repeat (first | (with_reducible first | exact HK.out | apply KeepBut.set_ | apply keep_drewN | apply keep_drew | apply keep_alloc) | exact HK.out)⟩
    · rw [if_neg c4] at H
      have c4b0 : decide (8 < a1) = false := decide_eq_false c4
      clear c4
      replace H := Option.bind_eq_some_iff.mp H
      obtain ⟨⟨t217, t218, t219⟩, A50, H⟩ := H
      replace H : (octet_Reader_Number.l0 k 0 t218 t217 (t217.size : Int) 0 t219) = some (r1, r2, r3) := H
      have A5 := Aside0.mk A50
      clear A50
      have H' := Aside0.mk H
      clear H
      go_enter Try.func60, Try.ntmps60
      go_wp2_with (first | ((with_reducible refine gate_callee (f := 78) rfl ?_); refine goesL_ (some 21) rfl rfl Try.func78 (by kernel_rfl) rfl #[.pointer (some ⟨g, 0, none⟩), .int .i64 a1] rfl (by (try simp only [List.map_toArray, List.map_cons, List.map_nil]); first | done | rfl | (simp only [List.length_drop, List.length_take]; rfl)) ?_; (with_reducible refine (octet_Reader_take.calls g s0_0 a1 t217 t218 t219 w0 _ ?side1 ?side2 A5.out).mono ?_); (case side1 => repeat (first | (with_reducible first | exact HI0.out | apply IsS93.alloc | apply IsS93.drewN | apply IsS93.drew | apply IsS93.set_0) | exact HI0.out)); (case side2 => repeat (first | (with_reducible first | exact HB.out | apply below_alloc | apply pw_below_drewN | apply below_drew1 | refine below_set ?_ (IsS93.ge HI0.out)) | exact HB.out)); rintro e w6 ⟨rfl, hi, hb, hk⟩; refine ⟨_, rfl, ?_⟩; have n0_ := Aside0.mk (KeepBut.trans (by repeat (first | (with_reducible first | exact HK.out | apply KeepBut.set_ | apply keep_drewN | apply keep_drew | apply keep_alloc) | exact HK.out)) hk (.inl rfl)); have n1_ := Aside0.mk (hb); have n2_ := Aside0.mk (hi); clear HK; clear HB; clear HI0; have HK := n0_; have HB := n1_; have HI0 := n2_; clear n0_ n1_ n2_; (try clear hb); (try clear hb2); (try clear hk); (try clear hi)))
      go_loopg [4, 26] k (fun kq v4 v26 w' => ∃ (x4_1 : Int) (x26_1 : Int), v4 = .int .u64 x4_1 ∧ v26 = .int .i64 x26_1 ∧ Aside0 (octet_Reader_Number.l0 kq x4_1 t218 t217 (t217.size : Int) x26_1 t219 = some (r1, r2, r3)) ∧ Aside0 (kq ≤ k) ∧ Aside0 (IsS93 w0 w' g t219) ∧ Aside0 (KeepBut w w' g none) ∧ Aside0 (Below w0.heap.size w0 w'))
      case atStart => exact ⟨(0), (0), (by first | rfl | (simp; done) | (simp [*]; done)), (by first | rfl | (simp; done) | (simp [*]; done)), H', ⟨Nat.le_refl _⟩, ⟨by repeat (first | (with_reducible first | exact HI0.out | apply IsS93.alloc | apply IsS93.drewN | apply IsS93.drew | apply IsS93.set_0) | exact HI0.out)⟩, ⟨by repeat (first | (with_reducible first | exact HK.out | apply KeepBut.set_ | apply keep_drewN | apply keep_drew | apply keep_alloc) | exact HK.out)⟩, ⟨by repeat (first | (with_reducible first | exact HB.out | apply below_alloc | apply pw_below_drewN | apply below_drew1 | refine below_set ?_ (IsS93.ge HI0.out)) | exact HB.out)⟩⟩
      case round =>
        clear H'
        try clear p2
        try clear c3
        try clear c3b0
        try clear c4
        try clear c4b0
        try clear c6
        obtain ⟨x4_1, x26_1, rfl, rfl, HA, HK1, HI0, HK, HB⟩ := hrel
        cases gk with
        | zero => exact absurd HA.out (by simp [octet_Reader_Number.l0])
        | succ k1 =>
          have H := HA.out
          clear HA
          simp only [octet_Reader_Number.l0] at H
          by_cases c7 : x26_1 < (t217.size : Int)
          · rw [if_pos c7] at H
            have c7b0 : decide (x26_1 < (t217.size : Int)) = true := decide_eq_true c7
            clear c7
            by_cases c8 : 0 ≤ x26_1
            · rw [if_pos c8] at H
              have c8b0 : decide (0 ≤ x26_1) = true := decide_eq_true c8
              clear c8
              by_cases c9 : x26_1 < (t217.size : Int)
              · rw [if_pos c9] at H
                have c9b0 : decide (x26_1 < (t217.size : Int)) = true := decide_eq_true c9
                clear c9
                obtain ⟨ji11, hji11⟩ : ∃ j_ : Int, (wrap64 (8 * x26_1)) = j_ := ⟨_, rfl⟩
                replace H : (if 0 ≤ (ji11) then (octet_Reader_Number.l0 k1 (Go.bits .or .u64 x4_1 (shl .u64 (IntKind.u64.wrap (bt t217 x26_1)) (ji11))) t218 t217 (t217.size : Int) (wrap64 (x26_1 + 1)) t219) else (none)) = some (r1, r2, r3) := by first | (rw [hji11] at H; exact H) | (simp only [hji11] at H ⊢; exact H)
                have hji11w : (IntKind.i64.wrap (8 * x26_1)) = ji11 := (i64_w _).trans hji11
                by_cases c12 : 0 ≤ (ji11)
                · rw [if_pos c12] at H
                  have c12b0 := eq_true c12
                  have c12b1 : decide (0 ≤ (ji11)) = true := decide_eq_true c12
                  clear c12
                  obtain ⟨ji13, hji13⟩ : ∃ j_ : Int, (shl .u64 (IntKind.u64.wrap (bt t217 x26_1)) (ji11)) = j_ := ⟨_, rfl⟩
                  replace H : (octet_Reader_Number.l0 k1 (Go.bits .or .u64 x4_1 (ji13)) t218 t217 (t217.size : Int) (wrap64 (x26_1 + 1)) t219) = some (r1, r2, r3) := by first | (rw [hji13] at H; exact H) | (simp only [hji13] at H ⊢; exact H)
                  have hji13_ : (IntKind.u64.wrap ((IntKind.u64.wrap (bt t217 x26_1)) * 2 ^ min (ji11).toNat 64)) = ji13 := hji13
                  have hji13z : (ji11) ≤ 64 → (IntKind.u64.wrap ((IntKind.u64.wrap (bt t217 x26_1)) * 2 ^ (ji11).toNat)) = ji13 := shl_small hji13
                  have H' := Aside0.mk H
                  clear H
                  have p10 : 0 ≤ (x26_1 : Int) := of_decide_eq_true (by first | (with_reducible assumption) | assumption)
                  have q10 : x26_1 < (t217.size : Int) := of_decide_eq_true (by first | (with_reducible assumption) | assumption)
                  have hx10 := bt_at t217 x26_1
                  replace p10 := eq_true p10
                  replace q10 := eq_true q10
                  go_wp2
                  go_roundg k1
                  case measure => have := HK1.out; omega
                  case rel => exact ⟨(Go.bits .or .u64 x4_1 (ji13)), (wrap64 (x26_1 + 1)), (by first | rfl | (simp; done) | (simp only [← hji13] <;> (first | rfl | simp)) | (simp [*]; done)), (by first | rfl | (simp; done) | (simp [*]; done)), H', ⟨by have := HK1.out; omega⟩, ⟨by repeat (first | (with_reducible first | exact HI0.out | apply IsS93.alloc | apply IsS93.drewN | apply IsS93.drew | apply IsS93.set_0) | exact HI0.out)⟩, ⟨by repeat (first | (with_reducible first | exact HK.out | apply KeepBut.set_ | apply keep_drewN | apply keep_drew | apply keep_alloc) | exact HK.out)⟩, ⟨by repeat (first | (with_reducible first | exact HB.out | apply below_alloc | apply pw_below_drewN | apply below_drew1 | refine below_set ?_ (IsS93.ge HI0.out)) | exact HB.out)⟩⟩
                · rw [if_neg c12] at H
                  exact absurd H (by simp)
              · rw [if_neg c9] at H
                exact absurd H (by simp)
            · rw [if_neg c8] at H
              exact absurd H (by simp)
          · rw [if_neg c7] at H
            have c7b0 : decide (x26_1 < (t217.size : Int)) = false := decide_eq_false c7
            clear c7
            simp only [Option.some.injEq, Prod.mk.injEq] at H
            obtain ⟨rfl, rfl, rfl⟩ := H
            go_wp2
            go_ret2
            exact ⟨by first | rfl | (simp [errW_none, errW_some] <;> rfl) | (simp [*, errW_none, errW_some] <;> rfl), by repeat (first | (with_reducible first | exact HI0.out | apply IsS93.alloc | apply IsS93.drewN | apply IsS93.drew | apply IsS93.set_0) | exact HI0.out), by repeat (first | (with_reducible first | exact HB.out | apply below_alloc | apply pw_below_drewN | apply below_drew1 | refine below_set ?_ (IsS93.ge HI0.out)) | exact HB.out), by repeat (first | (with_reducible first | exact HK.out | apply KeepBut.set_ | apply keep_drewN | apply keep_drew | apply keep_alloc) | exact HK.out)⟩
end Go.Proofs.Ytlkfcabklaaacaa.P

namespace Go.Proofs.Ytlkfcabklaaacaa.P
open Go.RowKit Go.Proofs.YtlkfcabklaaacaaW.PrintWords Go.Proofs.YtlkfcabklaaacaaW.PrintLast Go.Proofs.YtlkfcabklaaacaaW.PrintMore
attribute [local go_sem] max2_int min2_int max_two min_two max_three min_three max_four min_four   -- for this text's walks alone
open Go.Proofs.YtlkfcabklaaacaaO
attribute [local go_sem] min2_str max2_str
set_option linter.unusedVariables false
set_option linter.unusedSimpArgs false
/-! ### octet_Reader_Bytes: function 81 -/
def octet_Reader_Bytes.f (s0_0 : ByteArray) (a1 : Int) : Option (ByteArray × Int × ByteArray) := if a1 < 0 then (some ((⟨#[]⟩ : ByteArray), 2, s0_0)) else ((octet_Reader_take.f s0_0 a1).bind fun bt535 => (some (bt535.1, bt535.2.1, bt535.2.2)))
set_option maxHeartbeats 8000000 in
set_option maxRecDepth 100000 in
theorem octet_Reader_Bytes.calls (g : Nat) (s0_0 : ByteArray) (a1 : Int) (r1 : ByteArray) (r2 : Int) (r3 : ByteArray) (w0 w : World) (hI : IsS93 w0 w g s0_0) (hB : Below w0.heap.size w0 w) (h : octet_Reader_Bytes.f s0_0 a1 = some (r1, r2, r3)) :
    Calls Try.prog 81 #[.pointer (some ⟨g, 0, none⟩), .int .i64 a1] w fun e w' => e = .returned (.tuple #[.string r1, .int .i64 r2]) ∧ IsS93 w0 w' g r3 ∧ Below w0.heap.size w0 w' ∧ KeepBut w w' g none := by
  have HI0 := Aside0.mk hI
  have HK := Aside0.mk (KeepBut.refl w g none)
  have HL := Aside0.mk hB.size
  clear hI
  have HW0 := Aside0.mk hB.size
  have HB := Aside0.mk hB
  clear hB
  have H : (if a1 < 0 then (some ((⟨#[]⟩ : ByteArray), 2, s0_0)) else ((octet_Reader_take.f s0_0 a1).bind fun bt535 => (some (bt535.1, bt535.2.1, bt535.2.2)))) = some (r1, r2, r3) := h
  clear h
  by_cases c3 : a1 < 0
  · rw [if_pos c3] at H
    have c3b0 : decide (a1 < 0) = true := decide_eq_true c3
    clear c3
    simp only [Option.some.injEq, Prod.mk.injEq] at H
    obtain ⟨rfl, rfl, rfl⟩ := H
    go_enter Try.func81, Try.ntmps81
    go_wp2
    go_ret2
    exact ⟨by first | rfl | (simp [errW_none, errW_some] <;> rfl) | (simp [*, errW_none, errW_some] <;> rfl), by repeat (first | (with_reducible first | exact HI0.out | apply IsS93.alloc | apply IsS93.drewN | apply IsS93.drew | apply IsS93.set_0) | exact HI0.out), by repeat (first | (with_reducible first | exact HB.out | apply below_alloc | apply pw_below_drewN | apply below_drew1 | refine below_set ?_ (IsS93.ge HI0.out)) | exact HB.out), by repeat (first | (with_reducible first | exact HK.out | apply KeepBut.set_ | apply keep_drewN | apply keep_drew | apply keep_alloc) | exact HK.out)⟩
  · rw [if_neg c3] at H
    have c3b0 : decide (a1 < 0) = false := decide_eq_false c3
    clear c3
    replace H := Option.bind_eq_some_iff.mp H
    obtain ⟨⟨t535, t536, t537⟩, A40, H⟩ := H
    replace H : (some (t535, t536, t537)) = some (r1, r2, r3) := H
    have A4 := Aside0.mk A40
    clear A40
    simp only [Option.some.injEq, Prod.mk.injEq] at H
    obtain ⟨rfl, rfl, rfl⟩ := H
    go_enter Try.func81, Try.ntmps81
    go_wp2_with (first | ((with_reducible refine gate_callee (f := 78) rfl ?_); refine goesL_ (some 14) rfl rfl Try.func78 (by kernel_rfl) rfl #[.pointer (some ⟨g, 0, none⟩), .int .i64 a1] rfl (by (try simp only [List.map_toArray, List.map_cons, List.map_nil]); first | done | rfl | (simp only [List.length_drop, List.length_take]; rfl)) ?_; (with_reducible refine (octet_Reader_take.calls g s0_0 a1 t535 t536 t537 w0 _ ?side1 ?side2 A4.out).mono ?_); (case side1 => repeat (first | (with_reducible first | exact HI0.out | apply IsS93.alloc | apply IsS93.drewN | apply IsS93.drew | apply IsS93.set_0) | exact HI0.out)); (case side2 => repeat (first | (with_reducible first | exact HB.out | apply below_alloc | apply pw_below_drewN | apply below_drew1 | refine below_set ?_ (IsS93.ge HI0.out)) | exact HB.out)); rintro e w5 ⟨rfl, hi, hb, hk⟩; refine ⟨_, rfl, ?_⟩; have n0_ := Aside0.mk (KeepBut.trans (by repeat (first | (with_reducible first | exact HK.out | apply KeepBut.set_ | apply keep_drewN | apply keep_drew | apply keep_alloc) | exact HK.out)) hk (.inl rfl)); have n1_ := Aside0.mk (hb); have n2_ := Aside0.mk (hi); clear HK; clear HB; clear HI0; have HK := n0_; have HB := n1_; have HI0 := n2_; clear n0_ n1_ n2_; (try clear hb); (try clear hb2); (try clear hk); (try clear hi)))
    go_ret2
    exact ⟨by first | rfl | (simp [errW_none, errW_some] <;> rfl) | (simp [*, errW_none, errW_some] <;> rfl), by repeat (first | (with_reducible first | exact HI0.out | apply IsS93.alloc | apply IsS93.drewN | apply IsS93.drew | apply IsS93.set_0) | exact HI0.out), by repeat (first | (with_reducible first | exact HB.out | apply below_alloc | apply pw_below_drewN | apply below_drew1 | refine below_set ?_ (IsS93.ge HI0.out)) | exact HB.out), by repeat (first | (with_reducible first | exact HK.out | apply KeepBut.set_ | apply keep_drewN | apply keep_drew | apply keep_alloc) | exact HK.out)⟩
end Go.Proofs.Ytlkfcabklaaacaa.P

namespace Go.Proofs.Ytlkfcabklaaacaa.P
open Go.RowKit Go.Proofs.YtlkfcabklaaacaaW.PrintWords Go.Proofs.YtlkfcabklaaacaaW.PrintLast Go.Proofs.YtlkfcabklaaacaaW.PrintMore
attribute [local go_sem] max2_int min2_int max_two min_two max_three min_three max_four min_four   -- for this text's walks alone
open Go.Proofs.YtlkfcabklaaacaaO
attribute [local go_sem] min2_str max2_str
set_option linter.unusedVariables false
set_option linter.unusedSimpArgs false
/-! ### branch_Of: function 39 (by hand) -/
/-- What a reader of forks panics with. -/
def shortP : List PanicEntry := [{ v := .iface 84 (.agg #[]), recovered := false }]
set_option maxHeartbeats 4000000 in
theorem must64_ok (v : Int) (w : World) : Calls Try.prog 79 #[.int .u64 v, .int .i64 0] w fun e w' => e = .returned (.int .u64 v) ∧ w' = w := by
  go_enter Try.func79, Try.ntmps79
  go_wp2
  go_ret
  exact ⟨rfl, rfl⟩
set_option maxHeartbeats 4000000 in
theorem must64_bad (v : Int) (e0 : Int) (h : ¬ e0 = 0) (w : World) : Calls Try.prog 79 #[.int .u64 v, .int .i64 e0] w fun e w' => e = .panicked shortP ∧ w' = w := by
  have h1 : (e0 != 0) = true := bne_iff_ne.mpr h
  have h2 : (e0 == 0) = false := beq_eq_false_iff_ne.mpr h
  clear h
  go_enter Try.func79, Try.ntmps79
  go_wp2
  exact ⟨rfl, rfl, rfl⟩
set_option maxHeartbeats 4000000 in
theorem mustS_ok (v : ByteArray) (w : World) : Calls Try.prog 80 #[.string v, .int .i64 0] w fun e w' => e = .returned (.string v) ∧ w' = w := by
  go_enter Try.func80, Try.ntmps80
  go_wp2
  go_ret
  exact ⟨rfl, rfl⟩
set_option maxHeartbeats 4000000 in
theorem mustS_bad (v : ByteArray) (e0 : Int) (h : ¬ e0 = 0) (w : World) : Calls Try.prog 80 #[.string v, .int .i64 e0] w fun e w' => e = .panicked shortP ∧ w' = w := by
  have h1 : (e0 != 0) = true := bne_iff_ne.mpr h
  have h2 : (e0 == 0) = false := beq_eq_false_iff_ne.mpr h
  clear h
  go_enter Try.func80, Try.ntmps80
  go_wp2
  exact ⟨rfl, rfl, rfl⟩
/-- One fork's bytes, read; none: there are too few. -/
def forkF (s : ByteArray) : Option (Option S46 × ByteArray) := (octet_Reader_Number.f 12 s 1).bind fun b1 => if b1.2.1 = 0 then (octet_Reader_Bytes.f b1.2.2 (wrap64 b1.1)).bind fun b2 => (if b2.2.1 = 0 then (octet_Reader_Number.f 12 b2.2.2 4).bind fun b3 => (if b3.2.1 = 0 then some (some ⟨b2.1, b3.1 % 4294967296⟩, b3.2.2) else some (none, b3.2.2)) else some (none, b2.2.2)) else some (none, b1.2.2)
/-- What holds while a fork is read. -/
structure ForkInv (w0 w W : World) (g gb gr : Nat) (s : ByteArray) : Prop where
  hi : IsS93 w0 W g s
  hb : Below w0.heap.size w0 W
  hk : KeepBut w W g none
  bk : W.heap[gb]? = some (.cells #[.pointer (some ⟨g, 0, none⟩)] 86 (0, 0))
  br : W.heap[gr]? = some (.cells #[.string (⟨#[]⟩ : ByteArray), .int .u32 0] 46 (0, 0))
  hg : w.heap.size ≤ gr
  h0 : w0.heap.size ≤ w.heap.size
theorem ForkInv.step {w0 w W W' : World} {g gb gr : Nat} {s s' : ByteArray} (h : ForkInv w0 w W g gb gr s) (hi : IsS93 w0 W' g s') (hb : Below w0.heap.size w0 W') (hk : KeepBut W W' g none) : ForkInv w0 w W' g gb gr s' :=
  ⟨hi, hb, KeepBut.trans h.hk hk (.inl rfl), KeepBut.blk hk h.bk (h.hi.ne_blk h.bk (by decide)).symm (by simp), KeepBut.blk hk h.br (h.hi.ne_blk h.br (by decide)).symm (by simp), h.hg, h.h0⟩
theorem ForkInv.set {w0 w W : World} {g gb gr : Nat} {s : ByteArray} (h : ForkInv w0 w W g gb gr s) (j : Nat) (u : Value) : IsS93 w0 (W.setCell ⟨gr, j, none⟩ u) g s ∧ Below w0.heap.size w0 (W.setCell ⟨gr, j, none⟩ u) ∧ KeepBut w (W.setCell ⟨gr, j, none⟩ u) g none :=
  ⟨⟨blk_far h.hi.1 (h.hi.ne_blk h.br (by decide)) u, h.hi.2⟩, h.hb.setCell (Nat.le_trans h.h0 h.hg) u, keep_far h.hk h.hg u⟩
theorem ForkInv.set2 {w0 w W : World} {g gb gr : Nat} {s : ByteArray} (h : ForkInv w0 w W g gb gr s) (j j2 : Nat) (u u2 : Value) : IsS93 w0 ((W.setCell ⟨gr, j, none⟩ u).setCell ⟨gr, j2, none⟩ u2) g s ∧ Below w0.heap.size w0 ((W.setCell ⟨gr, j, none⟩ u).setCell ⟨gr, j2, none⟩ u2) ∧ KeepBut w ((W.setCell ⟨gr, j, none⟩ u).setCell ⟨gr, j2, none⟩ u2) g none :=
  have h1 := h.set j u
  ⟨⟨blk_far h1.1.1 (h.hi.ne_blk h.br (by decide)) u2, h.hi.2⟩, h1.2.1.setCell (Nat.le_trans h.h0 h.hg) u2, keep_far h1.2.2 h.hg u2⟩
theorem ForkInv.cell {w0 w W : World} {g gb gr : Nat} {s : ByteArray} (h : ForkInv w0 w W g gb gr s) : W.cell? ⟨gb, 0, none⟩ = some (.pointer (some ⟨g, 0, none⟩)) := (blk_cell h.bk 0).trans rfl
set_option maxHeartbeats 8000000 in
theorem fork_ok (g : Nat) (s s' : ByteArray) (f : S46) (w0 w : World) (hI0 : IsS93 w0 w g s) (hB0 : Below w0.heap.size w0 w) (h : forkF s = some (some f, s')) :
    Calls Try.prog 71 #[.agg #[.pointer (some ⟨g, 0, none⟩)]] w fun e w' => e = .returned (.agg #[.string f.f0, .int .u32 f.f1]) ∧ IsS93 w0 w' g s' ∧ Below w0.heap.size w0 w' ∧ KeepBut w w' g none := by
  have hI := Aside0.mk hI0
  have hB := Aside0.mk hB0
  clear hI0 hB0
  unfold forkF at h
  obtain ⟨⟨n1, e1, s1⟩, h1, h⟩ := Option.bind_eq_some_iff.mp h
  simp only [] at h
  split at h
  · rename_i c1
    subst c1
    obtain ⟨⟨key, e2, s2⟩, h2, h⟩ := Option.bind_eq_some_iff.mp h
    simp only [] at h
    split at h
    · rename_i c2
      subst c2
      obtain ⟨⟨n3, e3, s3⟩, h3, h⟩ := Option.bind_eq_some_iff.mp h
      simp only [] at h
      split at h
      · rename_i c3
        subst c3
        simp only [Option.some.injEq, Prod.mk.injEq] at h
        obtain ⟨rfl, rfl⟩ := h
        replace h1 := Aside0.mk h1
        replace h2 := Aside0.mk h2
        replace h3 := Aside0.mk h3
        go_enter Try.func71, Try.ntmps71
        go_wp2_with (first | ((with_reducible refine gate_dst (N := 1) rfl ?_); refine box_event ?hg (N := 1) ?hd (cs := #[.pointer (some ⟨g, 0, none⟩)]) (t := 86) ?hr ?_; (case hd => rfl); (case hg => rfl); (case hr => first | (go_simp; done) | (go_simp; rfl)); intro gb hg_ w1 hb hbel; have BK := Aside0.mk hb; have B1 := Aside0.mk hbel; clear hg_ hb hbel) | ((with_reducible refine gate_dst (N := 2) rfl ?_); refine box_event ?hg (N := 2) ?hd (cs := #[.string (⟨#[]⟩ : ByteArray), .int .u32 0]) (t := 46) ?hr ?_; (case hd => rfl); (case hg => rfl); (case hr => first | (go_simp; done) | (go_simp; rfl)); intro gr hg_ w2 hb hbel; have HV : ForkInv w0 w w2 g gb gr s := ⟨(hI.out.below B1.out).below hbel, below_then (below_then hB.out hB.out.size B1.out) (below_then hB.out hB.out.size B1.out).size hbel, KeepBut.trans (KeepBut.of_below B1.out g none) (KeepBut.of_below hbel g none) (.inl rfl), blk_below BK.out hbel, hb, by rw [hg_]; exact B1.out.size, hB.out.size⟩; clear hg_ hb hbel BK B1; have hc1 := HV.cell) | (go_at_call 60; (with_reducible refine (octet_Reader_Number.calls 12 g s 1 n1 _ s1 w0 _ ?side1 ?side2 h1.out).mono ?_); (case side1 => exact HV.hi); (case side2 => exact HV.hb); rintro e w3 ⟨rfl, hi, hb, hk⟩; have n0_ := HV.step hi hb hk; clear HV hi hb hk hc1; have HV := n0_; clear n0_; have hc1 := HV.cell) | (go_at_call 81; (with_reducible refine (octet_Reader_Bytes.calls g s1 (wrap64 n1) key _ s2 w0 _ ?side1 ?side2 h2.out).mono ?_); (case side1 => exact HV.hi); (case side2 => exact HV.hb); rintro e w5 ⟨rfl, hi, hb, hk⟩; have n0_ := HV.step hi hb hk; clear HV hi hb hk hc1; have HV := n0_; clear n0_; have hc1 := HV.cell) | (go_at_call 60; (with_reducible refine (octet_Reader_Number.calls 12 g s2 4 n3 _ s3 w0 _ ?side1 ?side2 h3.out).mono ?_); (case side1 => exact HV.hi); (case side2 => exact HV.hb); rintro e w7 ⟨rfl, hi, hb, hk⟩; have n0_ := HV.step hi hb hk; clear HV hi hb hk hc1; have HV := n0_; clear n0_; have hc1 := HV.cell; have hr0 := (blk_cell HV.br 0).trans rfl; have hr1 := (blk_cell HV.br 1).trans rfl; have hf0 := blk_frozen HV.br 0; have hf1 := blk_frozen HV.br 1) | (go_at_call 79; (with_reducible refine (must64_ok n1 _).mono ?_); rintro e w_ ⟨rfl, rfl⟩; skip) | (go_at_call 80; (with_reducible refine (mustS_ok key _).mono ?_); rintro e w_ ⟨rfl, rfl⟩; skip) | (go_at_call 79; (with_reducible refine (must64_ok n3 _).mono ?_); rintro e w_ ⟨rfl, rfl⟩; skip))
        refine bodyPost_ret (results_single rfl (.cell gr 46 #[.string key, .int .u32 (n3 % 4294967296)] (0, 0) _ rfl ?_ Try.underlying46 rfl (by kernel_rfl) .nil)) rfl ⟨rfl, (HV.set2 0 1 _ _).1, (HV.set2 0 1 _ _).2.1, (HV.set2 0 1 _ _).2.2⟩
        exact blk_put (cs := #[.string key, .int .u32 0]) (blk_put (cs := #[.string (⟨#[]⟩ : ByteArray), .int .u32 0]) HV.br 0 _ rfl) 1 _ rfl
      · simp at h
    · simp at h
  · simp at h
set_option maxHeartbeats 8000000 in
theorem fork_bad (g : Nat) (s s' : ByteArray) (w0 w : World) (hI0 : IsS93 w0 w g s) (hB0 : Below w0.heap.size w0 w) (h : forkF s = some (none, s')) :
    Calls Try.prog 71 #[.agg #[.pointer (some ⟨g, 0, none⟩)]] w fun e w' => e = .panicked shortP ∧ IsS93 w0 w' g s' ∧ Below w0.heap.size w0 w' ∧ KeepBut w w' g none := by
  have hI := Aside0.mk hI0
  have hB := Aside0.mk hB0
  clear hI0 hB0
  unfold forkF at h
  replace h := Option.bind_eq_some_iff.mp h
  obtain ⟨⟨n1, e1, s1⟩, h1, h⟩ := h
  simp only [] at h
  split at h
  · rename_i c1
    subst c1
    replace h := Option.bind_eq_some_iff.mp h
    obtain ⟨⟨key, e2, s2⟩, h2, h⟩ := h
    simp only [] at h
    split at h
    · rename_i c2
      subst c2
      replace h := Option.bind_eq_some_iff.mp h
      obtain ⟨⟨n3, e3, s3⟩, h3, h⟩ := h
      simp only [] at h
      split at h
      · simp at h
      · rename_i c3
        simp only [Option.some.injEq, Prod.mk.injEq, true_and] at h
        subst h
        replace h1 := Aside0.mk h1
        replace h2 := Aside0.mk h2
        replace h3 := Aside0.mk h3
        go_enter Try.func71, Try.ntmps71
        go_wp2_with (first | ((with_reducible refine gate_dst (N := 1) rfl ?_); refine box_event ?hg (N := 1) ?hd (cs := #[.pointer (some ⟨g, 0, none⟩)]) (t := 86) ?hr ?_; (case hd => rfl); (case hg => rfl); (case hr => first | (go_simp; done) | (go_simp; rfl)); intro gb hg_ w1 hb hbel; have BK := Aside0.mk hb; have B1 := Aside0.mk hbel; clear hg_ hb hbel) | ((with_reducible refine gate_dst (N := 2) rfl ?_); refine box_event ?hg (N := 2) ?hd (cs := #[.string (⟨#[]⟩ : ByteArray), .int .u32 0]) (t := 46) ?hr ?_; (case hd => rfl); (case hg => rfl); (case hr => first | (go_simp; done) | (go_simp; rfl)); intro gr hg_ w2 hb hbel; have HV : ForkInv w0 w w2 g gb gr s := ⟨(hI.out.below B1.out).below hbel, below_then (below_then hB.out hB.out.size B1.out) (below_then hB.out hB.out.size B1.out).size hbel, KeepBut.trans (KeepBut.of_below B1.out g none) (KeepBut.of_below hbel g none) (.inl rfl), blk_below BK.out hbel, hb, by rw [hg_]; exact B1.out.size, hB.out.size⟩; clear hg_ hb hbel BK B1; have hc1 := HV.cell) | (go_at_call 60; (with_reducible refine (octet_Reader_Number.calls 12 g s 1 n1 _ s1 w0 _ ?side1 ?side2 h1.out).mono ?_); (case side1 => exact HV.hi); (case side2 => exact HV.hb); rintro e w3 ⟨rfl, hi, hb, hk⟩; have n0_ := HV.step hi hb hk; clear HV hi hb hk hc1; have HV := n0_; clear n0_; have hc1 := HV.cell) | (go_at_call 81; (with_reducible refine (octet_Reader_Bytes.calls g s1 (wrap64 n1) key _ s2 w0 _ ?side1 ?side2 h2.out).mono ?_); (case side1 => exact HV.hi); (case side2 => exact HV.hb); rintro e w5 ⟨rfl, hi, hb, hk⟩; have n0_ := HV.step hi hb hk; clear HV hi hb hk hc1; have HV := n0_; clear n0_; have hc1 := HV.cell) | (go_at_call 60; (with_reducible refine (octet_Reader_Number.calls 12 g s2 4 n3 _ s3 w0 _ ?side1 ?side2 h3.out).mono ?_); (case side1 => exact HV.hi); (case side2 => exact HV.hb); rintro e w7 ⟨rfl, hi, hb, hk⟩; have n0_ := HV.step hi hb hk; clear HV hi hb hk hc1; have HV := n0_; clear n0_; have hc1 := HV.cell) | (go_at_call 79; (with_reducible refine (must64_ok n1 _).mono ?_); rintro e w_ ⟨rfl, rfl⟩; skip) | (go_at_call 80; (with_reducible refine (mustS_ok key _).mono ?_); rintro e w_ ⟨rfl, rfl⟩; skip) | (go_at_call 79; (with_reducible refine (must64_bad n3 e3 c3 _).mono ?_); rintro e w_ ⟨rfl, rfl⟩; skip))
        exact ⟨rfl, rfl, HV.hi, HV.hb, HV.hk⟩
    · rename_i c2
      simp only [Option.some.injEq, Prod.mk.injEq, true_and] at h
      subst h
      replace h1 := Aside0.mk h1
      replace h2 := Aside0.mk h2
      go_enter Try.func71, Try.ntmps71
      go_wp2_with (first | ((with_reducible refine gate_dst (N := 1) rfl ?_); refine box_event ?hg (N := 1) ?hd (cs := #[.pointer (some ⟨g, 0, none⟩)]) (t := 86) ?hr ?_; (case hd => rfl); (case hg => rfl); (case hr => first | (go_simp; done) | (go_simp; rfl)); intro gb hg_ w1 hb hbel; have BK := Aside0.mk hb; have B1 := Aside0.mk hbel; clear hg_ hb hbel) | ((with_reducible refine gate_dst (N := 2) rfl ?_); refine box_event ?hg (N := 2) ?hd (cs := #[.string (⟨#[]⟩ : ByteArray), .int .u32 0]) (t := 46) ?hr ?_; (case hd => rfl); (case hg => rfl); (case hr => first | (go_simp; done) | (go_simp; rfl)); intro gr hg_ w2 hb hbel; have HV : ForkInv w0 w w2 g gb gr s := ⟨(hI.out.below B1.out).below hbel, below_then (below_then hB.out hB.out.size B1.out) (below_then hB.out hB.out.size B1.out).size hbel, KeepBut.trans (KeepBut.of_below B1.out g none) (KeepBut.of_below hbel g none) (.inl rfl), blk_below BK.out hbel, hb, by rw [hg_]; exact B1.out.size, hB.out.size⟩; clear hg_ hb hbel BK B1; have hc1 := HV.cell) | (go_at_call 60; (with_reducible refine (octet_Reader_Number.calls 12 g s 1 n1 _ s1 w0 _ ?side1 ?side2 h1.out).mono ?_); (case side1 => exact HV.hi); (case side2 => exact HV.hb); rintro e w3 ⟨rfl, hi, hb, hk⟩; have n0_ := HV.step hi hb hk; clear HV hi hb hk hc1; have HV := n0_; clear n0_; have hc1 := HV.cell) | (go_at_call 81; (with_reducible refine (octet_Reader_Bytes.calls g s1 (wrap64 n1) key _ s2 w0 _ ?side1 ?side2 h2.out).mono ?_); (case side1 => exact HV.hi); (case side2 => exact HV.hb); rintro e w5 ⟨rfl, hi, hb, hk⟩; have n0_ := HV.step hi hb hk; clear HV hi hb hk hc1; have HV := n0_; clear n0_; have hc1 := HV.cell) | (go_at_call 79; (with_reducible refine (must64_ok n1 _).mono ?_); rintro e w_ ⟨rfl, rfl⟩; skip) | (go_at_call 80; (with_reducible refine (mustS_bad key e2 c2 _).mono ?_); rintro e w_ ⟨rfl, rfl⟩; skip))
      exact ⟨rfl, rfl, HV.hi, HV.hb, HV.hk⟩
  · rename_i c1
    simp only [Option.some.injEq, Prod.mk.injEq, true_and] at h
    subst h
    replace h1 := Aside0.mk h1
    go_enter Try.func71, Try.ntmps71
    go_wp2_with (first | ((with_reducible refine gate_dst (N := 1) rfl ?_); refine box_event ?hg (N := 1) ?hd (cs := #[.pointer (some ⟨g, 0, none⟩)]) (t := 86) ?hr ?_; (case hd => rfl); (case hg => rfl); (case hr => first | (go_simp; done) | (go_simp; rfl)); intro gb hg_ w1 hb hbel; have BK := Aside0.mk hb; have B1 := Aside0.mk hbel; clear hg_ hb hbel) | ((with_reducible refine gate_dst (N := 2) rfl ?_); refine box_event ?hg (N := 2) ?hd (cs := #[.string (⟨#[]⟩ : ByteArray), .int .u32 0]) (t := 46) ?hr ?_; (case hd => rfl); (case hg => rfl); (case hr => first | (go_simp; done) | (go_simp; rfl)); intro gr hg_ w2 hb hbel; have HV : ForkInv w0 w w2 g gb gr s := ⟨(hI.out.below B1.out).below hbel, below_then (below_then hB.out hB.out.size B1.out) (below_then hB.out hB.out.size B1.out).size hbel, KeepBut.trans (KeepBut.of_below B1.out g none) (KeepBut.of_below hbel g none) (.inl rfl), blk_below BK.out hbel, hb, by rw [hg_]; exact B1.out.size, hB.out.size⟩; clear hg_ hb hbel BK B1; have hc1 := HV.cell) | (go_at_call 60; (with_reducible refine (octet_Reader_Number.calls 12 g s 1 n1 _ s1 w0 _ ?side1 ?side2 h1.out).mono ?_); (case side1 => exact HV.hi); (case side2 => exact HV.hb); rintro e w3 ⟨rfl, hi, hb, hk⟩; have n0_ := HV.step hi hb hk; clear HV hi hb hk hc1; have HV := n0_; clear n0_; have hc1 := HV.cell) | (go_at_call 79; (with_reducible refine (must64_bad n1 e1 c1 _).mono ?_); rintro e w_ ⟨rfl, rfl⟩; skip))
    exact ⟨rfl, rfl, HV.hi, HV.hb, HV.hk⟩
theorem Of_idle (gl ge : Nat) (w : World) :
    CallsD Try.prog 70 #[.pointer (some ⟨gl, 0, none⟩), .pointer (some ⟨ge, 0, none⟩)] .returning w fun e u' w' => e = .returned (.tuple #[]) ∧ u' = .returning ∧ w' = w := by
  refine callsD_of_wpS Try.func70 rfl fun c₀ cs hu => ?_
  apply wpS_seq
  apply wpS_region
  simp [wpOpsS, go_sem, recoverD, hu, Try.ntmps70, Exit.thenS]
  refine wpS_of_wp ?_
  go_wp2
  cases c₀
  simp_all [bodyPostS, results, Try.results70]
theorem Of_ta (w : World) : (Instr.typeAssert (.iface 84 (.agg #[])) 20 84 true).run Try.prog w = .ok (.tuple #[.agg #[], .bool true]) w := by kernel_rfl
set_option maxRecDepth 100000 in
theorem Of_catch (gl ge : Nat) (older : List PanicEntry) (vl : Value) (w : World) (hl : w.heap[gl]? = some (.cells #[vl] 36 (0, 0))) (he : w.heap[ge]? = some (.cells #[.int .i64 0] 40 (0, 0))) :
    CallsD Try.prog 70 #[.pointer (some ⟨gl, 0, none⟩), .pointer (some ⟨ge, 0, none⟩)] (.panicking ({ v := .iface 84 (.agg #[]), recovered := false } :: older)) w fun e u' w' => e = .returned (.tuple #[]) ∧ u' = .panicking ({ v := .iface 84 (.agg #[]), recovered := true } :: older) ∧ w'.heap[gl]? = some (.cells #[.slice none 0 0] 36 (0, 0)) ∧ w'.heap[ge]? = some (.cells #[.int .i64 4] 40 (0, 0)) ∧ ∀ B, B ≤ gl → B ≤ ge → B ≤ w.heap.size → Below B w w' := by
  refine callsD_of_wpS Try.func70 rfl fun c₀ cs hu => ?_
  apply wpS_seq
  apply wpS_region
  simp [wpOpsS, go_sem, recoverD, hu, Try.ntmps70, Exit.thenS]
  refine wpS_of_wp ?_
  have hta := fun w => Of_ta w
  have hne : ge ≠ gl := blk_ne he hl (by decide)
  have HL := Aside0.mk hl
  have HE := Aside0.mk he
  clear hl he
  go_wp2_with (first | ((with_reducible refine gate_dst (N := 3) rfl ?_); refine box_event ?hg (N := 3) ?hd (cs := #[]) (t := 84) ?hr ?_; (case hd => rfl); (case hg => rfl); (case hr => first | (go_simp; done) | (go_simp; rfl)); intro gs hg_ w1 hb hbel; have hl1 := Aside0.mk (blk_below HL.out hbel); have he1 := Aside0.mk (blk_below HE.out hbel); have B1 := Aside0.mk hbel; clear hg_ hb hbel; have he2 := Aside0.mk (blk_far he1.out (p := ⟨gl, 0, none⟩) hne (.slice none 0 0)); have c1 : w1.cell? ⟨gl, 0, none⟩ = some vl := (blk_cell hl1.out 0).trans rfl; have f1 := blk_frozen hl1.out 0; have c2 : (w1.setCell ⟨gl, 0, none⟩ (.slice none 0 0)).cell? ⟨ge, 0, none⟩ = some (.int .i64 0) := (blk_cell he2.out 0).trans rfl; have f2 := blk_frozen he2.out 0))
  cases c₀
  simp only [bodyPostS]
  refine ⟨trivial, _, rfl, .tuple #[], ?_, rfl, rfl, ?_, ?_, ?_⟩
  · simp [results, Try.results70]
  · exact blk_far (blk_set hl1.out 0 _) hne.symm _
  · exact blk_set he2.out 0 _
  · intro B h1 h2 h3
    exact ((below_then (Below.refl _ _) h3 B1.out).setCell h1 _).setCell h2 _
/-- The forks, one by one; none inside: there are too few bytes. -/
def branch_Of.l0 : Nat → Int → Int → List S46 → ByteArray → Option (Option (List S46))
  | 0, _, _, _, _ => none
  | k + 1, i, n, acc, s => if i < n then (forkF s).bind fun b => (match b.1 with | none => some none | some f => if acc.length < 5864062014805 then branch_Of.l0 k (wrap64 (i + 1)) n (acc ++ [f]) b.2 else none) else some (some acc)
def branch_Of.f (a0_0 a0_1 a0_2 a0_3 a0_4 : Int) (a0_5 : ByteArray) : Option (List S46 × Int) := (branch_Of.l0 (a0_5.size + 1) 0 a0_1 [] a0_5).bind fun r => (match r with | none => some ([], 4) | some l => (branch_Page.f (a0_5.size + 2000) (wrap64 ((a0_5.size : Int) + 24)) a0_2 a0_4 l).bind fun b => (if b.2.2.2.2.2.2 = 0 then (if (!(b.1 == a0_0) || (!(b.2.1 == a0_1) || (!(b.2.2.1 == a0_2) || (!(b.2.2.2.1 == a0_3) || (!(b.2.2.2.2.1 == a0_4) || (!(b.2.2.2.2.2.1.toList == a0_5.toList))))))) = true then some ([], 4) else some (l, 0)) else some ([], 4)))
/-- What holds while a page's forks are read. -/
structure OfInv (w W : World) (gp gl ge gr g : Nat) (a0_0 a0_1 a0_2 a0_3 a0_4 : Int) (a0_5 : ByteArray) (v : Value) (acc : List S46) (s : ByteArray) : Prop where
  hb : Below w.heap.size w W
  bp : W.heap[gp]? = some (.cells #[.int .i64 a0_0, .int .i64 a0_1, .int .u32 a0_2, .int .u32 a0_3, .int .u64 a0_4, .string a0_5] 39 (0, 0))
  bl : W.heap[gl]? = some (.cells #[v] 36 (0, 0))
  be : W.heap[ge]? = some (.cells #[.int .i64 0] 40 (0, 0))
  br : W.heap[gr]? = some (.cells #[.pointer (some ⟨g, 0, none⟩)] 86 (0, 0))
  hi : IsS93 w W g s
  ro : Kd.R k46 46 W w.heap.size (fun _ => True) v acc
  hl : w.heap.size ≤ gl
  he : w.heap.size ≤ ge
theorem OfInv.read {w W W' : World} {gp gl ge gr g : Nat} {a0_0 a0_1 a0_2 a0_3 a0_4 : Int} {a0_5 : ByteArray} {v : Value} {acc : List S46} {s s' : ByteArray} (h : OfInv w W gp gl ge gr g a0_0 a0_1 a0_2 a0_3 a0_4 a0_5 v acc s) (hi : IsS93 w W' g s') (hb : Below w.heap.size w W') (hk : KeepBut W W' g none) : OfInv w W' gp gl ge gr g a0_0 a0_1 a0_2 a0_3 a0_4 a0_5 v acc s' :=
  have n {g' t : Nat} {cs : Array Value} (hc : W.heap[g']? = some (.cells cs t (0, 0))) (ht : t ≠ 93) : W'.heap[g']? = some (.cells cs t (0, 0)) := KeepBut.blk hk hc (h.hi.ne_blk hc ht).symm (by simp)
  ⟨hb, n h.bp (by decide), n h.bl (by decide), n h.be (by decide), n h.br (by decide), hi, Kd.R_mono (Kd.R_keep (IsS93.apart h.hi h.ro (by decide)) hk (fun _ h => h.2)) (fun _ h => h.1), h.hl, h.he⟩
theorem OfInv.drew {w W : World} {gp gl ge gr g : Nat} {a0_0 a0_1 a0_2 a0_3 a0_4 : Int} {a0_5 : ByteArray} {v : Value} {acc : List S46} {s : ByteArray} (h : OfInv w W gp gl ge gr g a0_0 a0_1 a0_2 a0_3 a0_4 a0_5 v acc s) : OfInv w W.drew gp gl ge gr g a0_0 a0_1 a0_2 a0_3 a0_4 a0_5 v acc s := ⟨below_drew1 h.hb, h.bp, h.bl, h.be, h.br, h.hi, Kd.R_drew h.ro, h.hl, h.he⟩
theorem OfInv.below {w W W' : World} {gp gl ge gr g : Nat} {a0_0 a0_1 a0_2 a0_3 a0_4 : Int} {a0_5 : ByteArray} {v : Value} {acc : List S46} {s : ByteArray} (h : OfInv w W gp gl ge gr g a0_0 a0_1 a0_2 a0_3 a0_4 a0_5 v acc s) (hb : Below W.heap.size W W') : OfInv w W' gp gl ge gr g a0_0 a0_1 a0_2 a0_3 a0_4 a0_5 v acc s := ⟨below_step h.hb hb, blk_below h.bp hb, blk_below h.bl hb, blk_below h.be hb, blk_below h.br hb, h.hi.below hb, Kd.R_below h.ro hb, h.hl, h.he⟩
/-- One more fork behind the row, and the row laid back. -/
theorem OfInv.app {w W W' : World} {gp gl ge gr g : Nat} {a0_0 a0_1 a0_2 a0_3 a0_4 : Int} {a0_5 : ByteArray} {v : Value} {acc : List S46} {s : ByteArray} {v' : Value} {acc' : List S46} (h : OfInv w W gp gl ge gr g a0_0 a0_1 a0_2 a0_3 a0_4 a0_5 v acc s) (hr : Kd.R k46 46 W' w.heap.size (fun _ => True) v' acc') (hb : Below w.heap.size w W') (hg : W.grownBy W' v.ownBlock) : OfInv w (W'.setCell ⟨gl, 0, none⟩ v') gp gl ge gr g a0_0 a0_1 a0_2 a0_3 a0_4 a0_5 v' acc' s :=
  have n {g' t : Nat} {cs : Array Value} (hc : W.heap[g']? = some (.cells cs t (0, 0))) (ht : 46 ≠ t) : W'.heap[g']? = some (.cells cs t (0, 0)) := blk_grown hc hg (Kd.R_ne h.ro hc ht)
  have hl' := n h.bl (by decide)
  have far {g' t : Nat} {cs : Array Value} (hc : W'.heap[g']? = some (.cells cs t (0, 0))) (ht : t ≠ 36) : (W'.setCell ⟨gl, 0, none⟩ v').heap[g']? = some (.cells cs t (0, 0)) := blk_far hc (blk_ne hc hl' ht) v'
  ⟨hb.setCell h.hl v', far (n h.bp (by decide)) (by decide), blk_set hl' 0 v', far (n h.be (by decide)) (by decide), far (n h.br (by decide)) (by decide), ⟨far (n h.hi.1 (by decide)) (by decide), h.hi.2⟩, Kd.R_set hr hl' (by decide) 0 v', h.hl, h.he⟩
/-- What holds of the row, and of the blocks that are written last. -/
structure Three (w W : World) (gx gl ge : Nat) (v : Value) (acc : List S46) (lv ev : Value) : Prop where
  hb : Below w.heap.size w W
  ro : Kd.R k46 46 W w.heap.size (fun _ => True) v acc
  x : ∃ cs, W.heap[gx]? = some (.cells cs 39 (0, 0))
  l : W.heap[gl]? = some (.cells #[lv] 36 (0, 0))
  e : W.heap[ge]? = some (.cells #[ev] 40 (0, 0))
  hx : w.heap.size ≤ gx
  hl : w.heap.size ≤ gl
  he : w.heap.size ≤ ge
theorem Three.setx {w W : World} {gx gl ge : Nat} {v : Value} {acc : List S46} {lv ev : Value} (h : Three w W gx gl ge v acc lv ev) (j : Nat) (u : Value) : Three w (W.setCell ⟨gx, j, none⟩ u) gx gl ge v acc lv ev := by
  obtain ⟨cs, hx⟩ := h.x
  exact ⟨h.hb.setCell h.hx u, Kd.R_set h.ro hx (by decide) j u, ⟨_, blk_set hx j u⟩, blk_far h.l (blk_ne h.l hx (by decide)) u, blk_far h.e (blk_ne h.e hx (by decide)) u, h.hx, h.hl, h.he⟩
theorem Three.setl {w W : World} {gx gl ge : Nat} {v : Value} {acc : List S46} {lv ev : Value} (h : Three w W gx gl ge v acc lv ev) (u : Value) : Three w (W.setCell ⟨gl, 0, none⟩ u) gx gl ge v acc u ev := by
  obtain ⟨cs, hx⟩ := h.x
  exact ⟨h.hb.setCell h.hl u, Kd.R_set h.ro h.l (by decide) 0 u, ⟨_, blk_far hx (blk_ne hx h.l (by decide)) u⟩, blk_set h.l 0 u, blk_far h.e (blk_ne h.e h.l (by decide)) u, h.hx, h.hl, h.he⟩
theorem Three.sete {w W : World} {gx gl ge : Nat} {v : Value} {acc : List S46} {lv ev : Value} (h : Three w W gx gl ge v acc lv ev) (u : Value) : Three w (W.setCell ⟨ge, 0, none⟩ u) gx gl ge v acc lv u := by
  obtain ⟨cs, hx⟩ := h.x
  exact ⟨h.hb.setCell h.he u, Kd.R_set h.ro h.e (by decide) 0 u, ⟨_, blk_far hx (blk_ne hx h.e (by decide)) u⟩, blk_far h.l (blk_ne h.l h.e (by decide)) u, blk_set h.e 0 u, h.hx, h.hl, h.he⟩
theorem Three.of {w W : World} {gp gl ge gr g : Nat} {a0_0 a0_1 a0_2 a0_3 a0_4 : Int} {a0_5 : ByteArray} {v : Value} {acc : List S46} {s : ByteArray} {gx : Nat} {cs : Array Value} (h : OfInv w W gp gl ge gr g a0_0 a0_1 a0_2 a0_3 a0_4 a0_5 v acc s) (hx : W.heap[gx]? = some (.cells cs 39 (0, 0))) (hg : w.heap.size ≤ gx) : Three w W gx gl ge v acc v (.int .i64 0) := ⟨h.hb, h.ro, ⟨_, hx⟩, h.bl, h.be, hg, h.hl, h.he⟩
attribute [local go_sem high] eqA39
/-- What Of leaves. -/
def OfPost (w : World) (r1 : List S46) (r2 : Int) (e : Ending) (w' : World) : Prop := ∃ v0_ : Value, e = .returned (.tuple #[v0_, .int .i64 r2]) ∧ Kd.R k46 46 w' w.heap.size (fun _ => True) v0_ r1 ∧ Below w.heap.size w w'
def branch_Of.T5 : Bool × List (List Nat × List Nat) := (true, [([], []), ([], []), ([1], [1]), ([2], [2]), ([0, 3, 2], [0, 3]), ([4, 4, 0, 1, 2, 3, 4], [4])])
theorem branch_Of.tab5 : rtab .any (opsOf Try.f39 5) = branch_Of.T5 := by kernel_rfl
set_option maxHeartbeats 8000000 in
set_option maxRecDepth 100000 in
theorem branch_Of.calls0 (a0_0 a0_1 a0_2 a0_3 a0_4 : Int) (a0_5 : ByteArray) (r1 : List S46) (r2 : Int) (w : World) (h : branch_Of.f a0_0 a0_1 a0_2 a0_3 a0_4 a0_5 = some (r1, r2)) :
    Calls Try.prog 39 #[.agg #[.int .i64 a0_0, .int .i64 a0_1, .int .u32 a0_2, .int .u32 a0_3, .int .u64 a0_4, .string a0_5]] w (OfPost w r1 r2) := by
  unfold branch_Of.f at h
  replace h := Option.bind_eq_some_iff.mp h
  obtain ⟨r, hr, h⟩ := h
  have HT := Aside0.mk h
  have HR := Aside0.mk hr
  clear h hr
  have hmf : ∀ (fn : Fn) (first cap : Array Value) (w : World), (Instr.makeFunc fn first cap).run Try.prog w = .ok (.func fn first cap) w := fun _ _ _ _ => rfl
  go_enter_defers Try.func39, Try.ntmps39
  go_wp2_with (first | ((with_reducible refine gate_dst (N := 1) rfl ?_); refine box_event ?hg (N := 1) ?hd (cs := #[.int .i64 a0_0, .int .i64 a0_1, .int .u32 a0_2, .int .u32 a0_3, .int .u64 a0_4, .string a0_5]) (t := 39) ?hr ?_; (case hd => rfl); (case hg => rfl); (case hr => first | (go_simp; done) | (go_simp; rfl)); intro gp hg_ w1 hb hbel; have BP := Aside0.mk hb; have HB := Aside0.mk hbel; clear hg_ hb hbel) | ((with_reducible refine gate_dst (N := 2) rfl ?_); refine box_event ?hg (N := 2) ?hd (cs := #[.slice none 0 0]) (t := 36) ?hr ?_; (case hd => rfl); (case hg => rfl); (case hr => first | (go_simp; done) | (go_simp; rfl)); intro gl hg_ w2 hb hbel; have n0_ := Aside0.mk (blk_below BP.out hbel); have n1_ := Aside0.mk (below_step HB.out hbel); have BL := Aside0.mk hb; have GL := Aside0.mk (by rw [hg_]; exact HB.out.size : w.heap.size ≤ gl); clear BP HB hg_ hb hbel; have BP := n0_; have HB := n1_; clear n0_ n1_) | ((with_reducible refine gate_dst (N := 3) rfl ?_); refine box_event ?hg (N := 3) ?hd (cs := #[.int .i64 0]) (t := 40) ?hr ?_; (case hd => rfl); (case hg => rfl); (case hr => first | (go_simp; done) | (go_simp; rfl)); intro ge hg_ w3 hb hbel; have n0_ := Aside0.mk (blk_below BP.out hbel); have n1_ := Aside0.mk (below_step HB.out hbel); have n2_ := Aside0.mk (blk_below BL.out hbel); have BE := Aside0.mk hb; have GE := Aside0.mk (by rw [hg_]; exact HB.out.size : w.heap.size ≤ ge); clear BP HB BL hg_ hb hbel; have BP := n0_; have HB := n1_; have BL := n2_; clear n0_ n1_ n2_; have hp5 : w3.cell? ⟨gp, 5, none⟩ = some (.string a0_5) := (blk_cell BP.out 5).trans rfl) | (go_at_call 59; (with_reducible refine (octet_New.calls a0_5 a0_5 w _ ?side1 rfl).mono ?_); (case side1 => exact HB.out); rintro e w4 ⟨g, rfl, hi, hb, hbel⟩; have n0_ := Aside0.mk (blk_below BP.out hbel); have n2_ := Aside0.mk (blk_below BL.out hbel); have n3_ := Aside0.mk (blk_below BE.out hbel); have n1_ := Aside0.mk hb; have HI := Aside0.mk hi; clear BP HB BL BE hi hb hbel hp5; have BP := n0_; have HB := n1_; have BL := n2_; have BE := n3_; clear n0_ n1_ n2_ n3_) | ((with_reducible refine gate_dst (N := 4) rfl ?_); refine box_event ?hg (N := 4) ?hd (cs := #[.pointer none]) (t := 86) ?hr ?_; (case hd => rfl); (case hg => rfl); (case hr => first | (go_simp; done) | (go_simp; rfl)); intro gr hg_ w5 hb hbel; have n0_ := Aside0.mk (blk_below BP.out hbel); have n2_ := Aside0.mk (blk_below BL.out hbel); have n3_ := Aside0.mk (blk_below BE.out hbel); have n1_ := Aside0.mk (below_step HB.out hbel); have n4_ := Aside0.mk (HI.out.below hbel); have GR := Aside0.mk (by rw [hg_]; exact HB.out.size : w.heap.size ≤ gr); have BR := Aside0.mk hb; clear BP HB BL BE HI hg_ hb hbel; have BP := n0_; have HB := n1_; have BL := n2_; have BE := n3_; have HI := n4_; clear n0_ n1_ n2_ n3_ n4_; have hr0 : w5.cell? ⟨gr, 0, none⟩ = some (.pointer none) := (blk_cell BR.out 0).trans rfl; have hf0 := blk_frozen BR.out 0; have HV : OfInv w (w5.setCell ⟨gr, 0, none⟩ (.pointer (some ⟨g, 0, none⟩))) gp gl ge gr g a0_0 a0_1 a0_2 a0_3 a0_4 a0_5 (.slice none 0 0) [] a0_5 := ⟨HB.out.setCell GR.out _, blk_far BP.out (blk_ne BP.out BR.out (by decide)) _, blk_far BL.out (blk_ne BL.out BR.out (by decide)) _, blk_far BE.out (blk_ne BE.out BR.out (by decide)) _, blk_set BR.out 0 _, ⟨blk_far HI.out.1 (blk_ne HI.out.1 BR.out (by decide)) _, HI.out.2⟩, Kd.R_nil _ _ _ _ _, GL.out, GE.out⟩; have hp1 : (w5.setCell ⟨gr, 0, none⟩ (.pointer (some ⟨g, 0, none⟩))).cell? ⟨gp, 1, none⟩ = some (.int .i64 a0_1) := (blk_cell HV.bp 1).trans rfl))
  clear hr0 hf0 hp1 BP BL BE BR HB HI GL GE GR
  go_loopg [14] (a0_5.size + 1) (fun kq v14 w' => ∃ (i : Int) (v : Value) (acc : List S46) (s : ByteArray), v14 = .int .i64 i ∧ Aside0 (branch_Of.l0 kq i a0_1 acc s = some r) ∧ OfInv w w' gp gl ge gr g a0_0 a0_1 a0_2 a0_3 a0_4 a0_5 v acc s)
  case atStart => exact ⟨0, _, _, _, rfl, HR, HV⟩
  case round =>
    clear HV HR
    obtain ⟨i, v, acc, s, rfl, HA, HV⟩ := hrel
    cases gk with
    | zero => exact absurd HA.out (by simp [branch_Of.l0])
    | succ k1 =>
      have H := HA.out
      clear HA
      unfold branch_Of.l0 at H
      by_cases c1 : i < a0_1
      · rw [if_pos c1] at H
        have c1b : decide (i < a0_1) = true := decide_eq_true c1
        clear c1
        replace H := Option.bind_eq_some_iff.mp H
        obtain ⟨⟨b, s'⟩, hf, H⟩ := H
        simp only [] at H
        cases b with
        | none =>
          obtain rfl := Option.some.inj H
          have HF := Aside0.mk hf
          clear hf H
          go_wp2
          refine start_ (n := 6) (S := fun w' => w'.cell? ⟨gl, 0, none⟩ = some v ∧ w'.cell? ⟨gr, 0, none⟩ = some (.pointer (some ⟨g, 0, none⟩))) (ds := [5]) #[false, false, false, false, false, false] (by kernel_rfl) rfl rfl ⟨(blk_cell HV.bl 0).trans rfl, (blk_cell HV.br 0).trans rfl⟩ (fun hHeld => ?_)
          refine with_tab branch_Of.tab5 (fun HT_ => ?_)
          have HV1 := HV.drew
          clear HV
          generalize wr.drew = wd at HV1 hHeld ⊢
          refine take_ (i := 0) (N := some 16) (v := ?_) (a' := ?_) #[true, false, false, false, false, false] rfl rfl (take_of HT_.out (by kernel_rfl)) (fun c_ a_ w_ h_ => panicD_put 16 _ (results_two (fn := Try.f39) rfl 16 _ (by decide) (by decide)) c_ a_ w_ h_) (Or.inl ⟨by rfl, ?_⟩) hHeld ?_ ?_
          rotate_left
          · rintro w' ⟨s0, s1⟩
            go_simp
            with_reducible rfl
          rotate_left
          · simp only [Act.put, List.setIfInBounds_toArray, List.set_cons_zero, List.set_cons_succ, i64_w, i32_w]
            rfl
          refine take_ (i := 1) (N := some 17) (v := ?_) (a' := ?_) #[true, true, false, false, false, false] rfl rfl (take_of HT_.out (by kernel_rfl)) (fun c_ a_ w_ h_ => panicD_put 17 _ (results_two (fn := Try.f39) rfl 17 _ (by decide) (by decide)) c_ a_ w_ h_) (Or.inl ⟨by rfl, ?_⟩) hHeld ?_ ?_
          rotate_left
          · rintro w' ⟨s0, s1⟩
            go_simp
            with_reducible rfl
          rotate_left
          · simp only [Act.put, List.setIfInBounds_toArray, List.set_cons_zero, List.set_cons_succ, i64_w, i32_w]
            rfl
          refine one_ (i := 2) (N := some 18) #[true, true, true, false, false, false] rfl rfl (one_of HT_.out (by kernel_rfl)) (by decide) (fun K hK => ?_)
          refine goes_panic Try.func71 (by kernel_rfl) rfl #[.agg #[.pointer (some ⟨g, 0, none⟩)]] (by rfl) rfl (by (try simp only [List.map_toArray, List.map_cons, List.map_nil]); first | done | rfl) ?_
          with_reducible refine (fork_bad g s s' w _ ?side1 ?side2 HF.out).mono ?_
          (case side1 => exact HV1.hi)
          (case side2 => exact HV1.hb)
          rintro e w2 ⟨rfl, hi, hb, hk⟩
          refine ⟨_, rfl, ?_⟩
          have HV2 := HV1.read hi hb hk
          clear HV1 hi hb hk hK HT_ hHeld
          have H2 := HT.out
          simp only [Option.some.injEq, Prod.mk.injEq] at H2
          obtain ⟨rfl, rfl⟩ := H2
          simp only [Exit.inBlock, Exit.then, bodyPostD]
          refine leaves_cons (f := 70) (args := #[.pointer (some ⟨gl, 0, none⟩), .pointer (some ⟨ge, 0, none⟩)]) (by simp) (by simp [go_sem]) ?_
          refine (Of_catch gl ge [] v w2 HV2.bl HV2.be).mono ?_
          rintro e u' w3 ⟨rfl, rfl, h1, h2, h3⟩
          show Leaves _ _ _ _ [] .returning w3
          have hc1 : w3.cell? ⟨gl, 0, none⟩ = some (.slice none 0 0) := (blk_cell h1 0).trans rfl
          have hc2 : w3.cell? ⟨ge, 0, none⟩ = some (.int .i64 4) := (blk_cell h2 0).trans rfl
          exact ⟨.tuple #[.slice none 0 0, .int .i64 4], by simp [results, Try.results39, go_sem, hc1, hc2], _, rfl, Kd.R_nil _ _ _ _ _, HV2.hb.trans (h3 _ HV2.hl HV2.he HV2.hb.size)⟩
        | some f =>
          simp only [] at H
          by_cases c2 : acc.length < 5864062014805
          · rw [if_pos c2] at H
            have C2 := Aside0.mk c2
            have HF := Aside0.mk hf
            have HN := Aside0.mk H
            clear c2 hf H
            go_wp2
            refine start_ (n := 6) (S := fun w' => w'.cell? ⟨gl, 0, none⟩ = some v ∧ w'.cell? ⟨gr, 0, none⟩ = some (.pointer (some ⟨g, 0, none⟩))) (ds := [5]) #[false, false, false, false, false, false] (by kernel_rfl) rfl rfl ⟨(blk_cell HV.bl 0).trans rfl, (blk_cell HV.br 0).trans rfl⟩ (fun hHeld => ?_)
            refine with_tab branch_Of.tab5 (fun HT_ => ?_)
            have HV1 := HV.drew
            clear HV
            generalize wr.drew = wd at HV1 hHeld ⊢
            refine take_ (i := 0) (N := some 16) (v := ?_) (a' := ?_) #[true, false, false, false, false, false] rfl rfl (take_of HT_.out (by kernel_rfl)) (fun c_ a_ w_ h_ => panicD_put 16 _ (results_two (fn := Try.f39) rfl 16 _ (by decide) (by decide)) c_ a_ w_ h_) (Or.inl ⟨by rfl, ?_⟩) hHeld ?_ ?_
            rotate_left
            · rintro w' ⟨s0, s1⟩
              go_simp
              with_reducible rfl
            rotate_left
            · simp only [Act.put, List.setIfInBounds_toArray, List.set_cons_zero, List.set_cons_succ, i64_w, i32_w]
              rfl
            refine take_ (i := 1) (N := some 17) (v := ?_) (a' := ?_) #[true, true, false, false, false, false] rfl rfl (take_of HT_.out (by kernel_rfl)) (fun c_ a_ w_ h_ => panicD_put 17 _ (results_two (fn := Try.f39) rfl 17 _ (by decide) (by decide)) c_ a_ w_ h_) (Or.inl ⟨by rfl, ?_⟩) hHeld ?_ ?_
            rotate_left
            · rintro w' ⟨s0, s1⟩
              go_simp
              with_reducible rfl
            rotate_left
            · simp only [Act.put, List.setIfInBounds_toArray, List.set_cons_zero, List.set_cons_succ, i64_w, i32_w]
              rfl
            refine one_ (i := 2) (N := some 18) #[true, true, true, false, false, false] rfl rfl (one_of HT_.out (by kernel_rfl)) (by decide) (fun K hK => ?_)
            refine goes_ Try.func71 (by kernel_rfl) rfl #[.agg #[.pointer (some ⟨g, 0, none⟩)]] (by rfl) rfl rfl (by (try simp only [List.map_toArray, List.map_cons, List.map_nil]); first | done | rfl) ?_
            with_reducible refine (fork_ok g s s' f w _ ?side1 ?side2 HF.out).mono ?_
            (case side1 => exact HV1.hi)
            (case side2 => exact HV1.hb)
            rintro e w2 ⟨rfl, hi, hb, hk⟩
            refine ⟨_, rfl, ?_⟩
            have HV2 := HV1.read hi hb hk
            clear HV1 hi hb hk
            refine hK.out _ _ ⟨(blk_cell HV2.bl 0).trans rfl, (blk_cell HV2.br 0).trans rfl⟩ (fun hHeld => ?_)
            clear hK K
            refine norm_ (a' := ?_) ?_ ?_
            rotate_left
            · show Act.put _ (some 18) _ = _
              simp only [Act.put, List.setIfInBounds_toArray, List.set_cons_zero, List.set_cons_succ, i64_w, i32_w]
              rfl
            refine one_ (i := 3) (N := some 19) #[true, true, true, true, false, false] rfl rfl (one_of HT_.out (by kernel_rfl)) (by decide) (fun K hK => ?_)
            go_simp
            refine hK.out _ _ ⟨(blk_cell (blk_alloc HV2.bl _) 0).trans rfl, (blk_cell (blk_alloc HV2.br _) 0).trans rfl⟩ (fun hHeld => ?_)
            clear hK K
            refine one_ (i := 4) (N := some 20) #[true, true, true, true, true, false] rfl rfl (one_of HT_.out (by kernel_rfl)) (by decide) (fun K hK => ?_)
            refine Kd.R_append_step k46 (w0 := w) w.heap.size (by rfl) (.tmp 16) (.tmp 19) 36 46 (.agg #[.string (⟨#[]⟩ : ByteArray), .int .u32 0]) 24 rfl Try.underlying36 info46 rfl (by decide) (by omega) v acc f [.string f.f0, .int .u32 f.f1] (fun _ => True) (fun _ => False) rfl rfl ?aP (fun _ hk => hk.elim) ?aF ?aO ?aB ?aS ?aL ?_
            (case aP => exact k46_mkM _ _ _ f)
            (case aF => exact (fun _ _ => trivial))
            (case aO => exact HV2.ro)
            (case aB => exact HV2.hb)
            (case aS => exact HV2.hb.size)
            (case aL => have := C2.out; omega)
            intro v1 w3 ho hb hg _
            have n0_ : w3.heap[gl]? = some (.cells #[v] 36 (0, 0)) := blk_grown HV2.bl hg (Kd.R_ne HV2.ro HV2.bl (by decide))
            have n1_ : w3.heap[gr]? = some (.cells #[.pointer (some ⟨g, 0, none⟩)] 86 (0, 0)) := blk_grown HV2.br hg (Kd.R_ne HV2.ro HV2.br (by decide))
            obtain ⟨acc2, hac⟩ : ∃ x, x = acc ++ [f] := ⟨_, rfl⟩
            rw [← hac] at ho
            have HN2 := Aside0.mk (show branch_Of.l0 k1 (wrap64 (i + 1)) a0_1 acc2 s' = some r by rw [hac]; exact HN.out)
            clear HN hac
            obtain ⟨Ao, co, rfl⟩ := Kd.R_slice ho
            have HV3 := HV2.app ho hb hg
            clear HV2 ho hb hg
            refine hK.out _ _ ⟨(blk_cell n0_ 0).trans rfl, (blk_cell n1_ 0).trans rfl⟩ (fun hHeld => ?_)
            clear hK K
            refine norm_ (a' := ?_) ?_ ?_
            rotate_left
            · show Act.put _ (some 20) _ = _
              simp only [Act.put, List.setIfInBounds_toArray, List.set_cons_zero, List.set_cons_succ, i64_w, i32_w]
              rfl
            have hc5 : w3.cell? ⟨gl, 0, none⟩ = some v := (blk_cell n0_ 0).trans rfl
            have hf5 := blk_frozen n0_ 0
            clear n0_ n1_ hHeld
            refine last_ (i := 5) (N := none) #[true, true, true, true, true, true] rfl rfl (one_of HT_.out (by kernel_rfl)) (by decide) (fun K hK => ?_)
            go_simp
            refine hK.out _ _ ?_
            clear hK K hc5 hf5
            refine done_ (done_of HT_.out (by kernel_rfl)) ?_
            clear HT_
            go_wp2
            go_roundg k1
            case measure => omega
            case rel => exact ⟨wrap64 (i + 1), _, acc2, s', rfl, HN2, HV3⟩
          · rw [if_neg c2] at H
            cases H
      · rw [if_neg c1] at H
        have c1b : decide (i < a0_1) = false := decide_eq_false c1
        clear c1
        obtain rfl := Option.some.inj H
        clear H
        have H := HT.out
        clear HT
        simp only [] at H
        replace H := Option.bind_eq_some_iff.mp H
        obtain ⟨⟨t1, t2, t3, t4, t5, t6, t7⟩, hp, H⟩ := H
        have HP := Aside0.mk hp
        clear hp
        simp only [] at H
        have hq5 : wr.cell? ⟨gp, 5, none⟩ = some (.string a0_5) := (blk_cell HV.bp 5).trans rfl
        have hq2 : wr.cell? ⟨gp, 2, none⟩ = some (.int .u32 a0_2) := (blk_cell HV.bp 2).trans rfl
        have hq4 : wr.cell? ⟨gp, 4, none⟩ = some (.int .u64 a0_4) := (blk_cell HV.bp 4).trans rfl
        have hql : wr.cell? ⟨gl, 0, none⟩ = some v := (blk_cell HV.bl 0).trans rfl
        obtain ⟨Ao, co, rfl⟩ := Kd.R_slice HV.ro
        by_cases c2 : t7 = 0
        · rw [if_pos c2] at H
          have c2a : (t7 != 0) = false := bne_eq_false_iff_eq.mpr c2
          have c2b : (t7 == 0) = true := beq_iff_eq.mpr c2
          clear c2
          by_cases c3 : (!(t1 == a0_0) || (!(t2 == a0_1) || (!(t3 == a0_2) || (!(t4 == a0_3) || (!(t5 == a0_4) || (!(t6.toList == a0_5.toList))))))) = true
          · rw [if_pos c3] at H
            have c3b : (!(t1 == a0_0) || (!(t2 == a0_1) || (!(t3 == a0_2) || (!(t4 == a0_3) || (!(t5 == a0_4) || (!(t6.toList == a0_5.toList))))))) = true := c3
            clear c3
            simp only [Option.some.injEq, Prod.mk.injEq] at H
            obtain ⟨rfl, rfl⟩ := H
            go_wp2_with (first | (go_at_call 23; (with_reducible refine (branch_Page.calls (a0_5.size + 2000) (wrap64 ((a0_5.size : Int) + 24)) a0_2 a0_4 _ _ acc t1 t2 t3 t4 t5 t6 t7 _ ?side1 ?side2 HP.out).mono ?_); (case side1 => exact (Kd.R_reads' HV.ro).2.2); (case side2 => exact (Kd.R_reads' HV.ro).2.1); rintro e w6 ⟨rfl, hbel⟩; have n0_ := HV.below hbel; clear HV hbel hq5 hq2 hq4 hql; have HV := n0_; clear n0_) | ((with_reducible refine gate_dst (N := 5) rfl ?_); refine box_event ?hg (N := 5) ?hd (cs := #[.int .i64 0, .int .i64 0, .int .u32 0, .int .u32 0, .int .u64 0, .string (⟨#[]⟩ : ByteArray)]) (t := 39) ?hr ?_; (case hd => rfl); (case hg => rfl); (case hr => first | (go_simp; done) | (go_simp; rfl)); intro gx hg_ w7 hb hbel; have n0_ := HV.below hbel; have GX := Aside0.mk (by rw [hg_]; exact HV.hb.size : w.heap.size ≤ gx); have NX := Aside0.mk (show gp ≠ gx from by have := blk_lt HV.bp; rw [hg_]; exact Nat.ne_of_lt this); have BX := Aside0.mk hb; clear HV hg_ hb hbel; have HV := n0_; clear n0_; have hx0 : w7.cell? ⟨gx, 0, none⟩ = some (.int .i64 0) := (blk_cell BX.out 0).trans rfl; have hx1 : w7.cell? ⟨gx, 1, none⟩ = some (.int .i64 0) := (blk_cell BX.out 1).trans rfl; have hx2 : w7.cell? ⟨gx, 2, none⟩ = some (.int .u32 0) := (blk_cell BX.out 2).trans rfl; have hx3 : w7.cell? ⟨gx, 3, none⟩ = some (.int .u32 0) := (blk_cell BX.out 3).trans rfl; have hx4 : w7.cell? ⟨gx, 4, none⟩ = some (.int .u64 0) := (blk_cell BX.out 4).trans rfl; have hx5 : w7.cell? ⟨gx, 5, none⟩ = some (.string (⟨#[]⟩ : ByteArray)) := (blk_cell BX.out 5).trans rfl; have hy0 := blk_frozen BX.out 0; have hy1 := blk_frozen BX.out 1; have hy2 := blk_frozen BX.out 2; have hy3 := blk_frozen BX.out 3; have hy4 := blk_frozen BX.out 4; have hy5 := blk_frozen BX.out 5; have hp0 : w7.cell? ⟨gp, 0, none⟩ = some (.int .i64 a0_0) := (blk_cell HV.bp 0).trans rfl; have hp1 : w7.cell? ⟨gp, 1, none⟩ = some (.int .i64 a0_1) := (blk_cell HV.bp 1).trans rfl; have hp2 : w7.cell? ⟨gp, 2, none⟩ = some (.int .u32 a0_2) := (blk_cell HV.bp 2).trans rfl; have hp3 : w7.cell? ⟨gp, 3, none⟩ = some (.int .u32 a0_3) := (blk_cell HV.bp 3).trans rfl; have hp4 : w7.cell? ⟨gp, 4, none⟩ = some (.int .u64 a0_4) := (blk_cell HV.bp 4).trans rfl; have hp5 : w7.cell? ⟨gp, 5, none⟩ = some (.string a0_5) := (blk_cell HV.bp 5).trans rfl; have hl0 : w7.cell? ⟨gl, 0, none⟩ = some (.slice Ao acc.length co) := (blk_cell HV.bl 0).trans rfl; have hl1 := blk_frozen HV.bl 0; have he0 : w7.cell? ⟨ge, 0, none⟩ = some (.int .i64 0) := (blk_cell HV.be 0).trans rfl; have he1 := blk_frozen HV.be 0; have nx1 : gp ≠ gx := NX.out; have nx2 : gx ≠ gp := NX.out.symm; have nx3 : gl ≠ gx := blk_ne HV.bl BX.out (by decide); have nx4 : gx ≠ gl := nx3.symm; have nx5 : ge ≠ gx := blk_ne HV.be BX.out (by decide); have nx6 : gx ≠ ge := nx5.symm; have nx7 : gl ≠ ge := blk_ne HV.bl HV.be (by decide); have nx8 : ge ≠ gl := nx7.symm))
            simp only [bodyPostD]
            refine leaves_cons (f := 70) (args := #[.pointer (some ⟨gl, 0, none⟩), .pointer (some ⟨ge, 0, none⟩)]) (by simp) (by simp [go_sem]) ?_
            refine (Of_idle gl ge _).mono ?_
            rintro e u' w8 ⟨rfl, rfl, rfl⟩
            show Leaves _ _ _ _ [] .returning _
            have h3 := (((((((((Three.of HV BX.out GX.out).setx 0 (.int .i64 t1)).setx 1 (.int .i64 t2)).setx 2 (.int .u32 t3)).setx 3 (.int .u32 t4)).setx 4 (.int .u64 t5)).setx 5 (.string t6)).setl (.slice none 0 0)).sete (.int .i64 4))
            have hc1 := (blk_cell h3.l 0).trans (show #[(.slice none 0 0 : Value)][0]? = some (.slice none 0 0) from rfl)
            have hc2 := (blk_cell h3.e 0).trans (show #[(.int .i64 4 : Value)][0]? = some (.int .i64 4) from rfl)
            exact ⟨.tuple #[.slice none 0 0, .int .i64 4], by simp [results, Try.results39, go_sem, hc1, hc2], _, rfl, Kd.R_nil _ _ _ _ _, h3.hb⟩
          · rw [if_neg c3] at H
            have c3b : (!(t1 == a0_0) || (!(t2 == a0_1) || (!(t3 == a0_2) || (!(t4 == a0_3) || (!(t5 == a0_4) || (!(t6.toList == a0_5.toList))))))) = false := by first | (simp; done) | (simp at c3; done) | simpa using c3
            clear c3
            simp only [Option.some.injEq, Prod.mk.injEq] at H
            obtain ⟨rfl, rfl⟩ := H
            go_wp2_with (first | (go_at_call 23; (with_reducible refine (branch_Page.calls (a0_5.size + 2000) (wrap64 ((a0_5.size : Int) + 24)) a0_2 a0_4 _ _ acc t1 t2 t3 t4 t5 t6 t7 _ ?side1 ?side2 HP.out).mono ?_); (case side1 => exact (Kd.R_reads' HV.ro).2.2); (case side2 => exact (Kd.R_reads' HV.ro).2.1); rintro e w6 ⟨rfl, hbel⟩; have n0_ := HV.below hbel; clear HV hbel hq5 hq2 hq4 hql; have HV := n0_; clear n0_) | ((with_reducible refine gate_dst (N := 5) rfl ?_); refine box_event ?hg (N := 5) ?hd (cs := #[.int .i64 0, .int .i64 0, .int .u32 0, .int .u32 0, .int .u64 0, .string (⟨#[]⟩ : ByteArray)]) (t := 39) ?hr ?_; (case hd => rfl); (case hg => rfl); (case hr => first | (go_simp; done) | (go_simp; rfl)); intro gx hg_ w7 hb hbel; have n0_ := HV.below hbel; have GX := Aside0.mk (by rw [hg_]; exact HV.hb.size : w.heap.size ≤ gx); have NX := Aside0.mk (show gp ≠ gx from by have := blk_lt HV.bp; rw [hg_]; exact Nat.ne_of_lt this); have BX := Aside0.mk hb; clear HV hg_ hb hbel; have HV := n0_; clear n0_; have hx0 : w7.cell? ⟨gx, 0, none⟩ = some (.int .i64 0) := (blk_cell BX.out 0).trans rfl; have hx1 : w7.cell? ⟨gx, 1, none⟩ = some (.int .i64 0) := (blk_cell BX.out 1).trans rfl; have hx2 : w7.cell? ⟨gx, 2, none⟩ = some (.int .u32 0) := (blk_cell BX.out 2).trans rfl; have hx3 : w7.cell? ⟨gx, 3, none⟩ = some (.int .u32 0) := (blk_cell BX.out 3).trans rfl; have hx4 : w7.cell? ⟨gx, 4, none⟩ = some (.int .u64 0) := (blk_cell BX.out 4).trans rfl; have hx5 : w7.cell? ⟨gx, 5, none⟩ = some (.string (⟨#[]⟩ : ByteArray)) := (blk_cell BX.out 5).trans rfl; have hy0 := blk_frozen BX.out 0; have hy1 := blk_frozen BX.out 1; have hy2 := blk_frozen BX.out 2; have hy3 := blk_frozen BX.out 3; have hy4 := blk_frozen BX.out 4; have hy5 := blk_frozen BX.out 5; have hp0 : w7.cell? ⟨gp, 0, none⟩ = some (.int .i64 a0_0) := (blk_cell HV.bp 0).trans rfl; have hp1 : w7.cell? ⟨gp, 1, none⟩ = some (.int .i64 a0_1) := (blk_cell HV.bp 1).trans rfl; have hp2 : w7.cell? ⟨gp, 2, none⟩ = some (.int .u32 a0_2) := (blk_cell HV.bp 2).trans rfl; have hp3 : w7.cell? ⟨gp, 3, none⟩ = some (.int .u32 a0_3) := (blk_cell HV.bp 3).trans rfl; have hp4 : w7.cell? ⟨gp, 4, none⟩ = some (.int .u64 a0_4) := (blk_cell HV.bp 4).trans rfl; have hp5 : w7.cell? ⟨gp, 5, none⟩ = some (.string a0_5) := (blk_cell HV.bp 5).trans rfl; have hl0 : w7.cell? ⟨gl, 0, none⟩ = some (.slice Ao acc.length co) := (blk_cell HV.bl 0).trans rfl; have hl1 := blk_frozen HV.bl 0; have he0 : w7.cell? ⟨ge, 0, none⟩ = some (.int .i64 0) := (blk_cell HV.be 0).trans rfl; have he1 := blk_frozen HV.be 0; have nx1 : gp ≠ gx := NX.out; have nx2 : gx ≠ gp := NX.out.symm; have nx3 : gl ≠ gx := blk_ne HV.bl BX.out (by decide); have nx4 : gx ≠ gl := nx3.symm; have nx5 : ge ≠ gx := blk_ne HV.be BX.out (by decide); have nx6 : gx ≠ ge := nx5.symm; have nx7 : gl ≠ ge := blk_ne HV.bl HV.be (by decide); have nx8 : ge ≠ gl := nx7.symm))
            simp only [bodyPostD]
            refine leaves_cons (f := 70) (args := #[.pointer (some ⟨gl, 0, none⟩), .pointer (some ⟨ge, 0, none⟩)]) (by simp) (by simp [go_sem]) ?_
            refine (Of_idle gl ge _).mono ?_
            rintro e u' w8 ⟨rfl, rfl, rfl⟩
            show Leaves _ _ _ _ [] .returning _
            have h3 := (((((((((Three.of HV BX.out GX.out).setx 0 (.int .i64 t1)).setx 1 (.int .i64 t2)).setx 2 (.int .u32 t3)).setx 3 (.int .u32 t4)).setx 4 (.int .u64 t5)).setx 5 (.string t6)).setl (.slice Ao acc.length co)).sete (.int .i64 0))
            have hc1 := (blk_cell h3.l 0).trans (show #[(.slice Ao acc.length co : Value)][0]? = some (.slice Ao acc.length co) from rfl)
            have hc2 := (blk_cell h3.e 0).trans (show #[(.int .i64 0 : Value)][0]? = some (.int .i64 0) from rfl)
            exact ⟨.tuple #[.slice Ao acc.length co, .int .i64 0], by simp [results, Try.results39, go_sem, hc1, hc2], _, rfl, h3.ro, h3.hb⟩
        · rw [if_neg c2] at H
          have c2a : (t7 != 0) = true := bne_iff_ne.mpr c2
          have c2b : (t7 == 0) = false := beq_eq_false_iff_ne.mpr c2
          clear c2
          simp only [Option.some.injEq, Prod.mk.injEq] at H
          obtain ⟨rfl, rfl⟩ := H
          go_wp2_with (first | (go_at_call 23; (with_reducible refine (branch_Page.calls (a0_5.size + 2000) (wrap64 ((a0_5.size : Int) + 24)) a0_2 a0_4 _ _ acc t1 t2 t3 t4 t5 t6 t7 _ ?side1 ?side2 HP.out).mono ?_); (case side1 => exact (Kd.R_reads' HV.ro).2.2); (case side2 => exact (Kd.R_reads' HV.ro).2.1); rintro e w6 ⟨rfl, hbel⟩; have n0_ := HV.below hbel; clear HV hbel hq5 hq2 hq4 hql; have HV := n0_; clear n0_) | ((with_reducible refine gate_dst (N := 5) rfl ?_); refine box_event ?hg (N := 5) ?hd (cs := #[.int .i64 0, .int .i64 0, .int .u32 0, .int .u32 0, .int .u64 0, .string (⟨#[]⟩ : ByteArray)]) (t := 39) ?hr ?_; (case hd => rfl); (case hg => rfl); (case hr => first | (go_simp; done) | (go_simp; rfl)); intro gx hg_ w7 hb hbel; have n0_ := HV.below hbel; have GX := Aside0.mk (by rw [hg_]; exact HV.hb.size : w.heap.size ≤ gx); have NX := Aside0.mk (show gp ≠ gx from by have := blk_lt HV.bp; rw [hg_]; exact Nat.ne_of_lt this); have BX := Aside0.mk hb; clear HV hg_ hb hbel; have HV := n0_; clear n0_; have hx0 : w7.cell? ⟨gx, 0, none⟩ = some (.int .i64 0) := (blk_cell BX.out 0).trans rfl; have hx1 : w7.cell? ⟨gx, 1, none⟩ = some (.int .i64 0) := (blk_cell BX.out 1).trans rfl; have hx2 : w7.cell? ⟨gx, 2, none⟩ = some (.int .u32 0) := (blk_cell BX.out 2).trans rfl; have hx3 : w7.cell? ⟨gx, 3, none⟩ = some (.int .u32 0) := (blk_cell BX.out 3).trans rfl; have hx4 : w7.cell? ⟨gx, 4, none⟩ = some (.int .u64 0) := (blk_cell BX.out 4).trans rfl; have hx5 : w7.cell? ⟨gx, 5, none⟩ = some (.string (⟨#[]⟩ : ByteArray)) := (blk_cell BX.out 5).trans rfl; have hy0 := blk_frozen BX.out 0; have hy1 := blk_frozen BX.out 1; have hy2 := blk_frozen BX.out 2; have hy3 := blk_frozen BX.out 3; have hy4 := blk_frozen BX.out 4; have hy5 := blk_frozen BX.out 5; have hp0 : w7.cell? ⟨gp, 0, none⟩ = some (.int .i64 a0_0) := (blk_cell HV.bp 0).trans rfl; have hp1 : w7.cell? ⟨gp, 1, none⟩ = some (.int .i64 a0_1) := (blk_cell HV.bp 1).trans rfl; have hp2 : w7.cell? ⟨gp, 2, none⟩ = some (.int .u32 a0_2) := (blk_cell HV.bp 2).trans rfl; have hp3 : w7.cell? ⟨gp, 3, none⟩ = some (.int .u32 a0_3) := (blk_cell HV.bp 3).trans rfl; have hp4 : w7.cell? ⟨gp, 4, none⟩ = some (.int .u64 a0_4) := (blk_cell HV.bp 4).trans rfl; have hp5 : w7.cell? ⟨gp, 5, none⟩ = some (.string a0_5) := (blk_cell HV.bp 5).trans rfl; have hl0 : w7.cell? ⟨gl, 0, none⟩ = some (.slice Ao acc.length co) := (blk_cell HV.bl 0).trans rfl; have hl1 := blk_frozen HV.bl 0; have he0 : w7.cell? ⟨ge, 0, none⟩ = some (.int .i64 0) := (blk_cell HV.be 0).trans rfl; have he1 := blk_frozen HV.be 0; have nx1 : gp ≠ gx := NX.out; have nx2 : gx ≠ gp := NX.out.symm; have nx3 : gl ≠ gx := blk_ne HV.bl BX.out (by decide); have nx4 : gx ≠ gl := nx3.symm; have nx5 : ge ≠ gx := blk_ne HV.be BX.out (by decide); have nx6 : gx ≠ ge := nx5.symm; have nx7 : gl ≠ ge := blk_ne HV.bl HV.be (by decide); have nx8 : ge ≠ gl := nx7.symm))
          simp only [bodyPostD]
          refine leaves_cons (f := 70) (args := #[.pointer (some ⟨gl, 0, none⟩), .pointer (some ⟨ge, 0, none⟩)]) (by simp) (by simp [go_sem]) ?_
          refine (Of_idle gl ge _).mono ?_
          rintro e u' w8 ⟨rfl, rfl, rfl⟩
          show Leaves _ _ _ _ [] .returning _
          have h3 := (((((((((Three.of HV BX.out GX.out).setx 0 (.int .i64 t1)).setx 1 (.int .i64 t2)).setx 2 (.int .u32 t3)).setx 3 (.int .u32 t4)).setx 4 (.int .u64 t5)).setx 5 (.string t6)).setl (.slice none 0 0)).sete (.int .i64 4))
          have hc1 := (blk_cell h3.l 0).trans (show #[(.slice none 0 0 : Value)][0]? = some (.slice none 0 0) from rfl)
          have hc2 := (blk_cell h3.e 0).trans (show #[(.int .i64 4 : Value)][0]? = some (.int .i64 4) from rfl)
          exact ⟨.tuple #[.slice none 0 0, .int .i64 4], by simp [results, Try.results39, go_sem, hc1, hc2], _, rfl, Kd.R_nil _ _ _ _ _, h3.hb⟩
theorem branch_Of.calls (a0_0 a0_1 a0_2 a0_3 a0_4 : Int) (a0_5 : ByteArray) (r1 : List S46) (r2 : Int) (w : World) (h : branch_Of.f a0_0 a0_1 a0_2 a0_3 a0_4 a0_5 = some (r1, r2)) :
    Calls Try.prog 39 #[.agg #[.int .i64 a0_0, .int .i64 a0_1, .int .u32 a0_2, .int .u32 a0_3, .int .u64 a0_4, .string a0_5]] w fun e w' => ∃ v0_ : Value, e = .returned (.tuple #[v0_, .int .i64 r2]) ∧ Kd.R k46 46 w' w.heap.size (fun _ => True) v0_ r1 ∧ Below w.heap.size w w' := (branch_Of.calls0 a0_0 a0_1 a0_2 a0_3 a0_4 a0_5 r1 r2 w h).mono fun _ _ hh => hh
end Go.Proofs.Ytlkfcabklaaacaa.P

namespace Go.Proofs.Ytlkfcabklaaacaa.P
open Go.RowKit Go.Proofs.YtlkfcabklaaacaaW.PrintWords Go.Proofs.YtlkfcabklaaacaaW.PrintLast Go.Proofs.YtlkfcabklaaacaaW.PrintMore
attribute [local go_sem] max2_int min2_int max_two min_two max_three min_three max_four min_four   -- for this text's walks alone
open Go.Proofs.YtlkfcabklaaacaaO
attribute [local go_sem] min2_str max2_str
set_option linter.unusedVariables false
set_option linter.unusedSimpArgs false
/-! ### careenagekit_Times: function 40 -/
def careenagekit_Times.l0 : Nat → ByteArray → Int → ByteArray → Option (ByteArray)
  | 0, _, _, _ => none
  | k + 1, x0, x1, x5 => if x1 > 0 then (if (Int.tmod x1 2) = 1 then (if x5.size + x0.size ≤ 9223372036854775807 then (if x0.size + x0.size ≤ 9223372036854775807 then (careenagekit_Times.l0 k (x0 ++ x0) (wrap64 (Int.tdiv x1 2)) (x5 ++ x0)) else (none)) else (none)) else (if x0.size + x0.size ≤ 9223372036854775807 then (careenagekit_Times.l0 k (x0 ++ x0) (wrap64 (Int.tdiv x1 2)) x5) else (none))) else (some x5)
def careenagekit_Times.f (k : Nat) (a0 : ByteArray) (a1 : Int) : Option (ByteArray) := careenagekit_Times.l0 k a0 a1 (⟨#[]⟩ : ByteArray)
theorem careenagekit_Times.mono_l : ∀ k, (∀ y0 y1 y2, LeO (careenagekit_Times.l0 k y0 y1 y2) (careenagekit_Times.l0 (k + 1) y0 y1 y2))
  | 0 => fun _ _ _ r h => by simp [careenagekit_Times.l0] at h
  | k + 1 => by
    have ih0 := careenagekit_Times.mono_l k
    · intro y0 y1 y2
      unfold careenagekit_Times.l0
      repeat' first
      | (with_reducible exact ih0 _ _ _)
      | (with_reducible exact LeO.refl _)
      | (with_reducible exact LeO.none _)
      | (with_reducible refine LeO.ite ?_ ?_)
      | (with_reducible refine LeO.bind ?_ (fun _ => ?_))
      | exact ih0 _ _ _
      | exact LeO.none _
      | refine LeO.ite ?_ ?_
      | refine LeO.bind ?_ (fun _ => ?_)
theorem careenagekit_Times.mono : ∀ a0 a1 k, LeO (careenagekit_Times.f k a0 a1) (careenagekit_Times.f (k + 1) a0 a1) := by
  intro a0 a1 k
  have ih0 := careenagekit_Times.mono_l k
  unfold careenagekit_Times.f
  repeat' first
      | (with_reducible exact ih0 _ _ _)
      | (with_reducible exact LeO.refl _)
      | (with_reducible exact LeO.none _)
      | (with_reducible refine LeO.ite ?_ ?_)
      | (with_reducible refine LeO.bind ?_ (fun _ => ?_))
      | exact ih0 _ _ _
      | exact LeO.none _
      | refine LeO.ite ?_ ?_
      | refine LeO.bind ?_ (fun _ => ?_)
set_option maxHeartbeats 8000000 in
set_option maxRecDepth 100000 in
theorem careenagekit_Times.calls (k : Nat) (a0 : ByteArray) (a1 : Int) (r : ByteArray) (w : World) (h : careenagekit_Times.f k a0 a1 = some r) :
    Calls Try.prog 40 #[.string a0, .int .i64 a1] w fun e w' => e = .returned (.string r) ∧ Drawn0 w w' := by
  have H : (careenagekit_Times.l0 k a0 a1 (⟨#[]⟩ : ByteArray)) = some r := h
  clear h
  have H' := Aside0.mk H
  clear H
  go_enter Try.func40, Try.ntmps40
  go_wp2
  go_loopg [0, 1, 5] k (fun kq v0 v1 v5 w' => ∃ (x0_1 : ByteArray) (x1_1 : Int) (x5_1 : ByteArray), v0 = .string x0_1 ∧ v1 = .int .i64 x1_1 ∧ v5 = .string x5_1 ∧ Aside0 (careenagekit_Times.l0 kq x0_1 x1_1 x5_1 = some r) ∧ Aside0 (kq ≤ k) ∧ Drawn0 w w')
  case atStart => exact ⟨(a0), (a1), ((⟨#[]⟩ : ByteArray)), (by first | rfl | (simp; done) | (simp [*]; done)), (by first | rfl | (simp; done) | (simp [*]; done)), (by first | rfl | (simp; done) | (simp [*]; done)), H', ⟨Nat.le_refl _⟩, by repeat (first | exact Drawn0.refl _ | apply Drawn0.step)⟩
  case round =>
    clear H'
    try clear p2
    obtain ⟨x0_1, x1_1, x5_1, rfl, rfl, rfl, HA, HK1, ⟨m1, rfl⟩⟩ := hrel
    cases gk with
    | zero => exact absurd HA.out (by simp [careenagekit_Times.l0])
    | succ k1 =>
      have H := HA.out
      clear HA
      simp only [careenagekit_Times.l0] at H
      by_cases c3 : x1_1 > 0
      · rw [if_pos c3] at H
        have c3b0 : decide (0 < x1_1) = true := decide_eq_true c3
        clear c3
        by_cases c4 : (Int.tmod x1_1 2) = 1
        · rw [if_pos c4] at H
          have c4b0 : ((Int.tmod x1_1 2) == 1) = true := beq_iff_eq.mpr c4
          have c4b1 : ((Int.tmod x1_1 2) != 1) = false := bne_eq_false_iff_eq.mpr c4
          clear c4
          by_cases c5 : x5_1.size + x0_1.size ≤ 9223372036854775807
          · rw [if_pos c5] at H
            have c5b0 := eq_true c5
            have c5b1 : decide (x5_1.size + x0_1.size ≤ 9223372036854775807) = true := decide_eq_true c5
            try have c5b2 : (9223372036854775807 < x5_1.size + x0_1.size) = False := eq_false (Nat.not_lt.2 c5)
            by_cases c6 : x0_1.size + x0_1.size ≤ 9223372036854775807
            · rw [if_pos c6] at H
              have c6b0 := eq_true c6
              have c6b1 : decide (x0_1.size + x0_1.size ≤ 9223372036854775807) = true := decide_eq_true c6
              try have c6b2 : (9223372036854775807 < x0_1.size + x0_1.size) = False := eq_false (Nat.not_lt.2 c6)
              have H' := Aside0.mk H
              clear H
              go_wp2
              go_roundg k1
              case measure => have := HK1.out; omega
              case rel => exact ⟨(x0_1 ++ x0_1), (wrap64 (Int.tdiv x1_1 2)), (x5_1 ++ x0_1), (by first | rfl | (simp; done) | (simp [*]; done)), (by first | rfl | (simp; done) | (simp [*]; done)), (by first | rfl | (simp; done) | (simp [*]; done)), H', ⟨by have := HK1.out; omega⟩, by repeat (first | exact Drawn0.refl _ | apply Drawn0.step)⟩
            · rw [if_neg c6] at H
              exact absurd H (by simp)
          · rw [if_neg c5] at H
            exact absurd H (by simp)
        · rw [if_neg c4] at H
          have c4b0 : ((Int.tmod x1_1 2) == 1) = false := beq_eq_false_iff_ne.mpr c4
          have c4b1 : ((Int.tmod x1_1 2) != 1) = true := bne_iff_ne.mpr c4
          by_cases c7 : x0_1.size + x0_1.size ≤ 9223372036854775807
          · rw [if_pos c7] at H
            have c7b0 := eq_true c7
            have c7b1 : decide (x0_1.size + x0_1.size ≤ 9223372036854775807) = true := decide_eq_true c7
            try have c7b2 : (9223372036854775807 < x0_1.size + x0_1.size) = False := eq_false (Nat.not_lt.2 c7)
            have H' := Aside0.mk H
            clear H
            go_wp2
            go_roundg k1
            case measure => have := HK1.out; omega
            case rel => exact ⟨(x0_1 ++ x0_1), (wrap64 (Int.tdiv x1_1 2)), (x5_1), (by first | rfl | (simp; done) | (simp [*]; done)), (by first | rfl | (simp; done) | (simp [*]; done)), (by first | rfl | (simp; done) | (simp [*]; done)), H', ⟨by have := HK1.out; omega⟩, by repeat (first | exact Drawn0.refl _ | apply Drawn0.step)⟩
          · rw [if_neg c7] at H
            exact absurd H (by simp)
      · rw [if_neg c3] at H
        have c3b0 : decide (0 < x1_1) = false := decide_eq_false c3
        clear c3
        obtain rfl := Option.some.inj H
        go_wp2
        go_ret
        exact ⟨by first | rfl | (simp; done) | (simp [*]; done), by repeat (first | exact Drawn0.refl _ | apply Drawn0.step)⟩
end Go.Proofs.Ytlkfcabklaaacaa.P

namespace Go.Proofs.Ytlkfcabklaaacaa.P
open Go.RowKit Go.Proofs.YtlkfcabklaaacaaW.PrintWords Go.Proofs.YtlkfcabklaaacaaW.PrintLast Go.Proofs.YtlkfcabklaaacaaW.PrintMore
attribute [local go_sem] max2_int min2_int max_two min_two max_three min_three max_four min_four   -- for this text's walks alone
open Go.Proofs.YtlkfcabklaaacaaO
attribute [local go_sem] min2_str max2_str
set_option linter.unusedVariables false
set_option linter.unusedSimpArgs false
theorem eqA46 (d : Nat) (w : World) (x0 y0 : ByteArray) (x1 y1 : Int) :
    (Op.equalIn (d + 2) 46 (.agg #[.string x0, .int .u32 x1]) (.agg #[.string y0, .int .u32 y1])).run Try.prog w = .ok (x0.toList == y0.toList && (x1 == y1)) w := by
  refine eqA_of Try.underlying46 (by kernel_rfl) ?_
  refine eqf_cons (by rfl) (by go_simp; rfl) (by go_simp; rfl) (by go_simp) ?_
  exact eqf_last (by rfl) (by go_simp; rfl) (by go_simp; rfl) (by go_simp)
end Go.Proofs.Ytlkfcabklaaacaa.P

namespace Go.Proofs.Ytlkfcabklaaacaa.P
open Go.RowKit Go.Proofs.YtlkfcabklaaacaaW.PrintWords Go.Proofs.YtlkfcabklaaacaaW.PrintLast Go.Proofs.YtlkfcabklaaacaaW.PrintMore
attribute [local go_sem] max2_int min2_int max_two min_two max_three min_three max_four min_four   -- for this text's walks alone
open Go.Proofs.YtlkfcabklaaacaaO
attribute [local go_sem] min2_str max2_str
set_option linter.unusedVariables false
set_option linter.unusedSimpArgs false
attribute [local go_sem high] eqA46
/-! ### api_Fork: function 41 -/
def api_Fork.l0 : Nat → List (S46) → List (S46) → Int → Option (Bool)
  | 0, _, _, _ => none
  | k + 1, x0, x1, x5 => if x5 < (x0.length : Int) then (if 0 ≤ x5 then (if x5 < (x1.length : Int) then (if (!((((rd_T46 x0 x5).f0).toList) == (((rd_T46 x1 x5).f0).toList)) || (!(((rd_T46 x0 x5).f1) == ((rd_T46 x1 x5).f1)))) = true then (some false) else (api_Fork.l0 k x0 x1 (wrap64 (x5 + 1)))) else (none)) else (none)) else (some true)
def api_Fork.f (k : Nat) (l0 : List (S46)) (l1 : List (S46)) : Option (Bool) := if (l0.length : Int) = (l1.length : Int) then (api_Fork.l0 k l0 l1 0) else (some false)
set_option maxHeartbeats 8000000 in
set_option maxRecDepth 100000 in
theorem api_Fork.calls (k : Nat) (A0 : Option Addr) (c0 : Nat) (l0 : List (S46)) (A1 : Option Addr) (c1 : Nat) (l1 : List (S46)) (r : Bool) (w : World) (hr0 : Kd.C k46 w A0 l0.length l0) (hc0 : l0.length ≤ c0) (hr1 : Kd.C k46 w A1 l1.length l1) (hc1 : l1.length ≤ c1) (h : api_Fork.f k l0 l1 = some r) :
    Calls Try.prog 41 #[.slice A0 l0.length c0, .slice A1 l1.length c1] w fun e w' => e = .returned (.bool r) ∧ Drawn0 w w' := by
  have hu46 := Try.underlying46
  have HR0 := Aside0.mk hr0
  have HC0 := Aside0.mk hc0
  clear hr0 hc0
  have HR1 := Aside0.mk hr1
  have HC1 := Aside0.mk hc1
  clear hr1 hc1
  have H : (if (l0.length : Int) = (l1.length : Int) then (api_Fork.l0 k l0 l1 0) else (some false)) = some r := h
  clear h
  by_cases c3 : (l0.length : Int) = (l1.length : Int)
  · rw [if_pos c3] at H
    have c3b0 : ((l0.length : Int) == (l1.length : Int)) = true := beq_iff_eq.mpr c3
    have c3b1 : ((l0.length : Int) != (l1.length : Int)) = false := bne_eq_false_iff_eq.mpr c3
    have c3b2 : (l0.length == l1.length) = true := by first | simpa using c3 | (simp at c3 ⊢; omega)
    clear c3
    have H' := Aside0.mk H
    clear H
    go_enter Try.func41, Try.ntmps41
    go_wp2
    repeat (go_quiet (fail); try go_wp2)
    go_loopg [5] k (fun kq v5 w' => ∃ (x5_1 : Int), v5 = .int .i64 x5_1 ∧ Aside0 (api_Fork.l0 kq l0 l1 x5_1 = some r) ∧ Aside0 (kq ≤ k) ∧ Drawn0 w w')
    case atStart => exact ⟨(0), (by first | rfl | (simp; done) | (simp [*]; done)), H', ⟨Nat.le_refl _⟩, by repeat (first | exact Drawn0.refl _ | apply Drawn0.step)⟩
    case round =>
      clear H'
      try clear c1
      try clear p2
      try clear c3
      try clear c3b0
      try clear c3b1
      try clear c3b2
      obtain ⟨x5_1, rfl, HA, HK1, ⟨m1, rfl⟩⟩ := hrel
      cases gk with
      | zero => exact absurd HA.out (by simp [api_Fork.l0])
      | succ k1 =>
        have H := HA.out
        clear HA
        simp only [api_Fork.l0] at H
        by_cases c4 : x5_1 < (l0.length : Int)
        · rw [if_pos c4] at H
          have c4b0 : decide (x5_1 < (l0.length : Int)) = true := decide_eq_true c4
          clear c4
          by_cases c5 : 0 ≤ x5_1
          · rw [if_pos c5] at H
            have c5b0 : decide (0 ≤ x5_1) = true := decide_eq_true c5
            clear c5
            by_cases c6 : x5_1 < (l1.length : Int)
            · rw [if_pos c6] at H
              have c6b0 : decide (x5_1 < (l1.length : Int)) = true := decide_eq_true c6
              clear c6
              by_cases c7 : (!((((rd_T46 l0 x5_1).f0).toList) == (((rd_T46 l1 x5_1).f0).toList)) || (!(((rd_T46 l0 x5_1).f1) == ((rd_T46 l1 x5_1).f1)))) = true
              · rw [if_pos c7] at H
                have c7b0 : (!((((rd_T46 l0 x5_1).f0).toList) == (((rd_T46 l1 x5_1).f0).toList)) || (!(((rd_T46 l0 x5_1).f1) == ((rd_T46 l1 x5_1).f1)))) = true := c7
                clear c7
                obtain rfl := Option.some.inj H
                have p538 : 0 ≤ (x5_1 : Int) := of_decide_eq_true (by first | (with_reducible assumption) | assumption)
                have q538 : x5_1 < (l0.length : Int) := of_decide_eq_true (by first | (with_reducible assumption) | assumption)
                obtain ⟨ad538, e538, hx538_0, hx538_1⟩ := at_T46 HR0.out x5_1 p538 q538
                cases e538
                replace p538 := eq_true p538
                replace q538 := eq_true q538
                have p539 : 0 ≤ (x5_1 : Int) := of_decide_eq_true (by first | (with_reducible assumption) | assumption)
                have q539 : x5_1 < (l1.length : Int) := of_decide_eq_true (by first | (with_reducible assumption) | assumption)
                obtain ⟨ad539, e539, hx539_0, hx539_1⟩ := at_T46 HR1.out x5_1 p539 q539
                cases e539
                replace p539 := eq_true p539
                replace q539 := eq_true q539
                go_wp2
                repeat (go_quiet (fail); try go_wp2)
                go_ret
                exact ⟨by first | rfl | (simp; done) | (simp [*]; done), by repeat (first | exact Drawn0.refl _ | apply Drawn0.step)⟩
              · rw [if_neg c7] at H
                have c7b0 : (!((((rd_T46 l0 x5_1).f0).toList) == (((rd_T46 l1 x5_1).f0).toList)) || (!(((rd_T46 l0 x5_1).f1) == ((rd_T46 l1 x5_1).f1)))) = false := by first | (simp; done) | (simp at c7; done) | simpa using c7
                clear c7
                have H' := Aside0.mk H
                clear H
                have p538 : 0 ≤ (x5_1 : Int) := of_decide_eq_true (by first | (with_reducible assumption) | assumption)
                have q538 : x5_1 < (l0.length : Int) := of_decide_eq_true (by first | (with_reducible assumption) | assumption)
                obtain ⟨ad538, e538, hx538_0, hx538_1⟩ := at_T46 HR0.out x5_1 p538 q538
                cases e538
                replace p538 := eq_true p538
                replace q538 := eq_true q538
                have p539 : 0 ≤ (x5_1 : Int) := of_decide_eq_true (by first | (with_reducible assumption) | assumption)
                have q539 : x5_1 < (l1.length : Int) := of_decide_eq_true (by first | (with_reducible assumption) | assumption)
                obtain ⟨ad539, e539, hx539_0, hx539_1⟩ := at_T46 HR1.out x5_1 p539 q539
                cases e539
                replace p539 := eq_true p539
                replace q539 := eq_true q539
                go_wp2
                repeat (go_quiet (fail); try go_wp2)
                go_roundg k1
                case measure => have := HK1.out; omega
                case rel => exact ⟨(wrap64 (x5_1 + 1)), (by first | rfl | (simp; done) | (simp [*]; done)), H', ⟨by have := HK1.out; omega⟩, by repeat (first | exact Drawn0.refl _ | apply Drawn0.step)⟩
            · rw [if_neg c6] at H
              exact absurd H (by simp)
          · rw [if_neg c5] at H
            exact absurd H (by simp)
        · rw [if_neg c4] at H
          have c4b0 : decide (x5_1 < (l0.length : Int)) = false := decide_eq_false c4
          clear c4
          obtain rfl := Option.some.inj H
          go_wp2
          repeat (go_quiet (fail); try go_wp2)
          go_ret
          exact ⟨by first | rfl | (simp; done) | (simp [*]; done), by repeat (first | exact Drawn0.refl _ | apply Drawn0.step)⟩
  · rw [if_neg c3] at H
    have c3b0 : ((l0.length : Int) == (l1.length : Int)) = false := beq_eq_false_iff_ne.mpr c3
    have c3b1 : ((l0.length : Int) != (l1.length : Int)) = true := bne_iff_ne.mpr c3
    have c3b2 : (l0.length == l1.length) = false := by first | simpa using c3 | (simp at c3 ⊢; omega)
    obtain rfl := Option.some.inj H
    go_enter Try.func41, Try.ntmps41
    go_wp2
    repeat (go_quiet (fail); try go_wp2)
    go_ret
    exact ⟨by first | rfl | (simp; done) | (simp [*]; done), by repeat (first | exact Drawn0.refl _ | apply Drawn0.step)⟩
end Go.Proofs.Ytlkfcabklaaacaa.P
