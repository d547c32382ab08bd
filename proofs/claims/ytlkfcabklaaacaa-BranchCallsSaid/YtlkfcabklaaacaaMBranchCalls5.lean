/- The texts that the statement's row rests on, one behind the other. -/
import Derived.Test.YtlkfcabklaaacaaMBranchCalls1
import Derived.Test.YtlkfcabklaaacaaMBranchCalls3
import Derived.Test.YtlkfcabklaaacaaMBranchCalls2
import Derived.Test.YtlkfcabklaaacaaMBranchCalls4
namespace Go.Proofs.Ytlkfcabklaaacaa.P
open Go.RowKit Go.Proofs.YtlkfcabklaaacaaW.PrintWords Go.Proofs.YtlkfcabklaaacaaW.PrintLast Go.Proofs.YtlkfcabklaaacaaW.PrintMore
attribute [local go_sem] max2_int min2_int max_two min_two max_three min_three max_four min_four   -- for this text's walks alone
open Go.Proofs.YtlkfcabklaaacaaO
attribute [local go_sem] min2_str max2_str
set_option linter.unusedVariables false
set_option linter.unusedSimpArgs false
/-! ### careenageref07_Page: function 44 -/
mutual
def careenageref07_Page.j0 : Nat → Int → Int → Int → List (S46) → Bool → Option (Int × Int × Int × Int × Int × ByteArray × Int)
  | 0, _, _, _, _, _ => none
  | k + 1, x0, x1, x2, x3, x37 => if x37 = true then (some (0, 0, 0, 0, 0, (⟨#[]⟩ : ByteArray), 2)) else (careenageref07_Page.l0 k x0 x1 x2 x3 ([] : List Int) 0)
def careenageref07_Page.l0 : Nat → Int → Int → Int → List (S46) → List Int → Int → Option (Int × Int × Int × Int × Int × ByteArray × Int)
  | 0, _, _, _, _, _, _ => none
  | k + 1, x0, x1, x2, x3, x10, x11 => if x11 < (x3.length : Int) then (if 0 ≤ x11 then ((careenageref01_Put.f k x10 (IntKind.u64.wrap ((((rd_T46 x3 x11).f0).size : Int))) 1).bind fun t641 => (if t641.length + ((rd_T46 x3 x11).f0).size < 140737488355328 then ((careenageref01_Put.f k (t641 ++ bytesOf ((rd_T46 x3 x11).f0)) (IntKind.u64.wrap ((rd_T46 x3 x11).f1)) 4).bind fun t649 => (careenageref07_Page.l0 k x0 x1 x2 x3 t649 (wrap64 (x11 + 1)))) else (none))) else (none)) else ((careenageref04_Body.f x0 x10).bind fun bt652 => (some (3, (x3.length : Int), x1, 0, x2, bt652.1, 0)))
end
def careenageref07_Page.f (k : Nat) (a0 : Int) (a1 : Int) (a2 : Int) (l3 : List (S46)) : Option (Int × Int × Int × Int × Int × ByteArray × Int) := (careenageref03_Good.f a0).bind fun t635 => (if t635 = true then ((careenageref07_May.f k l3).bind fun t636 => (if t636 = true then ((careenageref07_Size.f k l3).bind fun t637 => ((careenageref04_Room.f a0).bind fun t638 => (if t637 > t638 then (careenageref07_Page.j0 k a0 a1 a2 l3 true) else ((careenageref04_Number.f a1).bind fun t639 => (if t639 = true then (careenageref07_Page.j0 k a0 a1 a2 l3 (decide (a2 > 4611686018427387904))) else (careenageref07_Page.j0 k a0 a1 a2 l3 true)))))) else (careenageref07_Page.j0 k a0 a1 a2 l3 true))) else (careenageref07_Page.j0 k a0 a1 a2 l3 true))
set_option maxHeartbeats 8000000 in
set_option maxRecDepth 100000 in
theorem careenageref07_Page.calls (k : Nat) (a0 : Int) (a1 : Int) (a2 : Int) (A3 : Option Addr) (c3 : Nat) (l3 : List (S46)) (r1 : Int) (r2 : Int) (r3 : Int) (r4 : Int) (r5 : Int) (r6 : ByteArray) (r7 : Int) (w : World) (hr3 : Kd.C k46 w A3 l3.length l3) (hc3 : l3.length ≤ c3) (h : careenageref07_Page.f k a0 a1 a2 l3 = some (r1, r2, r3, r4, r5, r6, r7)) :
    Calls Try.prog 44 #[.int .i64 a0, .int .u32 a1, .int .u64 a2, .slice A3 l3.length c3] w fun e w' => e = .returned (.tuple #[.agg #[.int .i64 r1, .int .i64 r2, .int .u32 r3, .int .u32 r4, .int .u64 r5, .string r6], .int .i64 r7]) ∧ Below w.heap.size w w' := by
  have hu39 := Try.underlying39
  have HR3 := Aside0.mk hr3
  have HC3 := Aside0.mk hc3
  clear hr3 hc3
  have HB := Aside0.mk (Below.refl w.heap.size w)
  have H : ((careenageref03_Good.f a0).bind fun t635 => (if t635 = true then ((careenageref07_May.f k l3).bind fun t636 => (if t636 = true then ((careenageref07_Size.f k l3).bind fun t637 => ((careenageref04_Room.f a0).bind fun t638 => (if t637 > t638 then (careenageref07_Page.j0 k a0 a1 a2 l3 true) else ((careenageref04_Number.f a1).bind fun t639 => (if t639 = true then (careenageref07_Page.j0 k a0 a1 a2 l3 (decide (a2 > 4611686018427387904))) else (careenageref07_Page.j0 k a0 a1 a2 l3 true)))))) else (careenageref07_Page.j0 k a0 a1 a2 l3 true))) else (careenageref07_Page.j0 k a0 a1 a2 l3 true))) = some (r1, r2, r3, r4, r5, r6, r7) := h
  clear h
  have HC5 := Aside0.mk H
  clear H
  go_enter Try.func44, Try.ntmps44
  go_upto_region 1 with (first | ((with_reducible refine gate_dst (N := 8) rfl ?_); refine box_event ?hg (N := 8) ?hd (cs := #[.int .i64 0, .int .i64 0, .int .u32 0, .int .u32 0, .int .u64 0, .string (⟨#[]⟩ : ByteArray)]) (t := 39) ?hr ?_; (case hd => rfl); (case hg => rfl); (case hr => first | (go_simp; done) | (go_simp; rfl)); intro gb634 hg w6 hbox hb; have n0_ := Aside0.mk (below_step (by repeat (first | (with_reducible first | exact HB.out | apply below_alloc | apply pw_below_drewN | apply below_drew1) | exact HB.out)) hb); have n1_ := Aside0.mk (hbox); have n2_ := Aside0.mk ((by rw [hg]; exact (below_size (by repeat (first | (with_reducible first | exact HB.out | apply below_alloc | apply pw_below_drewN | apply below_drew1) | exact HB.out))) : w.heap.size ≤ gb634)); have n3_ := Aside0.mk ((by rw [hg]; exact (below_size (by repeat (first | (with_reducible first | exact HB.out | apply below_alloc | apply pw_below_drewN | apply below_drew1) | exact HB.out))) : w.heap.size ≤ gb634)); clear HB; have HB := n0_; have BK634 := n1_; have GW634 := n2_; have GE634 := n3_; clear n0_ n1_ n2_ n3_; clear hb hbox hg))
  (try simp only [Act.put, List.setIfInBounds_toArray, List.set_cons_zero, List.set_cons_succ])
  go_cut [37] (fun v37 wc => ∃ (kq : Nat) (x37_4 : Bool), v37 = .bool x37_4 ∧ Aside0 (careenageref07_Page.j0 kq a0 a1 a2 l3 x37_4 = some (r1, r2, r3, r4, r5, r6, r7)) ∧ Aside0 (kq ≤ k) ∧ Aside0 (wc.heap[gb634]? = some (.cells #[.int .i64 0, .int .i64 0, .int .u32 0, .int .u32 0, .int .u64 0, .string (⟨#[]⟩ : ByteArray)] 39 (0, 0))) ∧ Aside0 (Below w.heap.size w wc))
  case first =>
    have H := HC5.out
    clear HC5
    replace H := Option.bind_eq_some_iff.mp H
    obtain ⟨t635, A70, H⟩ := H
    replace H : (if t635 = true then ((careenageref07_May.f k l3).bind fun t636 => (if t636 = true then ((careenageref07_Size.f k l3).bind fun t637 => ((careenageref04_Room.f a0).bind fun t638 => (if t637 > t638 then (careenageref07_Page.j0 k a0 a1 a2 l3 true) else ((careenageref04_Number.f a1).bind fun t639 => (if t639 = true then (careenageref07_Page.j0 k a0 a1 a2 l3 (decide (a2 > 4611686018427387904))) else (careenageref07_Page.j0 k a0 a1 a2 l3 true)))))) else (careenageref07_Page.j0 k a0 a1 a2 l3 true))) else (careenageref07_Page.j0 k a0 a1 a2 l3 true)) = some (r1, r2, r3, r4, r5, r6, r7) := H
    have A7 := Aside0.mk A70
    clear A70
    by_cases c8 : t635 = true
    · subst c8
      have H1 : ((careenageref07_May.f k l3).bind fun t636 => (if t636 = true then ((careenageref07_Size.f k l3).bind fun t637 => ((careenageref04_Room.f a0).bind fun t638 => (if t637 > t638 then (careenageref07_Page.j0 k a0 a1 a2 l3 true) else ((careenageref04_Number.f a1).bind fun t639 => (if t639 = true then (careenageref07_Page.j0 k a0 a1 a2 l3 (decide (a2 > 4611686018427387904))) else (careenageref07_Page.j0 k a0 a1 a2 l3 true)))))) else (careenageref07_Page.j0 k a0 a1 a2 l3 true))) = some (r1, r2, r3, r4, r5, r6, r7) := by rw [if_pos rfl] at H; exact H
      clear H
      have H := H1
      clear H1
      replace H := Option.bind_eq_some_iff.mp H
      obtain ⟨t636, A90, H⟩ := H
      replace H : (if t636 = true then ((careenageref07_Size.f k l3).bind fun t637 => ((careenageref04_Room.f a0).bind fun t638 => (if t637 > t638 then (careenageref07_Page.j0 k a0 a1 a2 l3 true) else ((careenageref04_Number.f a1).bind fun t639 => (if t639 = true then (careenageref07_Page.j0 k a0 a1 a2 l3 (decide (a2 > 4611686018427387904))) else (careenageref07_Page.j0 k a0 a1 a2 l3 true)))))) else (careenageref07_Page.j0 k a0 a1 a2 l3 true)) = some (r1, r2, r3, r4, r5, r6, r7) := H
      have A9 := Aside0.mk A90
      clear A90
      by_cases c10 : t636 = true
      · subst c10
        have H1 : ((careenageref07_Size.f k l3).bind fun t637 => ((careenageref04_Room.f a0).bind fun t638 => (if t637 > t638 then (careenageref07_Page.j0 k a0 a1 a2 l3 true) else ((careenageref04_Number.f a1).bind fun t639 => (if t639 = true then (careenageref07_Page.j0 k a0 a1 a2 l3 (decide (a2 > 4611686018427387904))) else (careenageref07_Page.j0 k a0 a1 a2 l3 true)))))) = some (r1, r2, r3, r4, r5, r6, r7) := by rw [if_pos rfl] at H; exact H
        clear H
        have H := H1
        clear H1
        replace H := Option.bind_eq_some_iff.mp H
        obtain ⟨t637, A110, H⟩ := H
        replace H : ((careenageref04_Room.f a0).bind fun t638 => (if t637 > t638 then (careenageref07_Page.j0 k a0 a1 a2 l3 true) else ((careenageref04_Number.f a1).bind fun t639 => (if t639 = true then (careenageref07_Page.j0 k a0 a1 a2 l3 (decide (a2 > 4611686018427387904))) else (careenageref07_Page.j0 k a0 a1 a2 l3 true))))) = some (r1, r2, r3, r4, r5, r6, r7) := H
        have A11 := Aside0.mk A110
        clear A110
        replace H := Option.bind_eq_some_iff.mp H
        obtain ⟨t638, A120, H⟩ := H
        replace H : (if t637 > t638 then (careenageref07_Page.j0 k a0 a1 a2 l3 true) else ((careenageref04_Number.f a1).bind fun t639 => (if t639 = true then (careenageref07_Page.j0 k a0 a1 a2 l3 (decide (a2 > 4611686018427387904))) else (careenageref07_Page.j0 k a0 a1 a2 l3 true)))) = some (r1, r2, r3, r4, r5, r6, r7) := H
        have A12 := Aside0.mk A120
        clear A120
        by_cases c13 : t637 > t638
        · rw [if_pos c13] at H
          have c13b0 : decide (t638 < t637) = true := decide_eq_true c13
          clear c13
          (first | rw [c13b0] | (simp only [i64_w, i32_w]; rw [c13b0]) | skip)
          have H' := Aside0.mk H
          clear H
          go_wp2_with (first | ((with_reducible refine gate_callee (f := 63) rfl ?_); refine goesL_ (some 15) rfl rfl Try.func63 (by kernel_rfl) rfl #[.int .i64 a0] rfl (by (try simp only [List.map_toArray, List.map_cons, List.map_nil]); first | done | rfl | (simp only [List.length_drop, List.length_take]; rfl)) ?_; (with_reducible refine (careenageref03_Good.calls a0 true _ A7.out).mono ?_); rintro e w' ⟨rfl, ⟨nd, rfl⟩⟩; refine ⟨_, rfl, ?_⟩) | ((with_reducible refine gate_dst (N := 19) rfl ?_); (try (refine gate_guard (by rfl) ?_; dsimp only)); (with_reducible refine gate_callee (f := 72) rfl ?_); refine goesL_ (some 19) rfl rfl Try.func72 (by kernel_rfl) rfl #[.slice A3 l3.length c3] rfl (by (try simp only [List.map_toArray, List.map_cons, List.map_nil]); first | done | rfl | (simp only [List.length_drop, List.length_take]; rfl)) ?_; (with_reducible refine (careenageref07_May.calls k _ _ l3 true _ ?side1 ?side2 A9.out).mono ?_); (case side1 => repeat (first | exact (Kd.C_below HR3.out (by repeat (first | (with_reducible first | exact HB.out | apply below_alloc | apply pw_below_drewN | apply below_drew1 | refine below_set ?_ GE634.out) | exact HB.out))) | (with_reducible refine Kd.C_alloc ?_ _) | (with_reducible refine Kd.C_drewN ?_ _) | (with_reducible refine Kd.C_drew ?_))); (case side2 => exact HC3.out); rintro e w14 ⟨rfl, hb⟩; refine ⟨_, rfl, ?_⟩; have n0_ := Aside0.mk (blk_below (g := gb634) (o := .cells #[.int .i64 0, .int .i64 0, .int .u32 0, .int .u32 0, .int .u64 0, .string (⟨#[]⟩ : ByteArray)] 39 (0, 0)) (by (with_reducible repeat (first | refine blk_drewN ?_ _ | refine blk_drew ?_ | refine blk_alloc ?_ _)); exact BK634.out) hb); have n1_ := Aside0.mk (below_step (by repeat (first | (with_reducible first | exact HB.out | apply below_alloc | apply pw_below_drewN | apply below_drew1 | refine below_set ?_ GE634.out) | exact HB.out)) hb); clear BK634; clear HB; have BK634 := n0_; have HB := n1_; clear n0_ n1_; (try clear hb); (try clear hb2); (try clear hk); (try clear hi)) | ((with_reducible refine gate_dst (N := 24) rfl ?_); (try (refine gate_guard (by rfl) ?_; dsimp only)); (with_reducible refine gate_callee (f := 46) rfl ?_); refine goesL_ (some 24) rfl rfl Try.func46 (by kernel_rfl) rfl #[.slice A3 l3.length c3] rfl (by (try simp only [List.map_toArray, List.map_cons, List.map_nil]); first | done | rfl | (simp only [List.length_drop, List.length_take]; rfl)) ?_; (with_reducible refine (careenageref07_Size.calls k _ _ l3 t637 _ ?side1 ?side2 A11.out).mono ?_); (case side1 => repeat (first | exact (Kd.C_below HR3.out HB.out) | (with_reducible refine Kd.C_alloc ?_ _) | (with_reducible refine Kd.C_drewN ?_ _) | (with_reducible refine Kd.C_drew ?_))); (case side2 => exact HC3.out); rintro e w15 ⟨rfl, hb⟩; refine ⟨_, rfl, ?_⟩; have n0_ := Aside0.mk (blk_below (g := gb634) (o := .cells #[.int .i64 0, .int .i64 0, .int .u32 0, .int .u32 0, .int .u64 0, .string (⟨#[]⟩ : ByteArray)] 39 (0, 0)) (by (with_reducible repeat (first | refine blk_drewN ?_ _ | refine blk_drew ?_ | refine blk_alloc ?_ _)); exact BK634.out) hb); have n1_ := Aside0.mk (below_step (by repeat (first | (with_reducible first | exact HB.out | apply below_alloc | apply pw_below_drewN | apply below_drew1 | refine below_set ?_ GE634.out) | exact HB.out)) hb); clear BK634; clear HB; have BK634 := n0_; have HB := n1_; clear n0_ n1_; (try clear hb); (try clear hb2); (try clear hk); (try clear hi)) | ((with_reducible refine gate_dst (N := 26) rfl ?_); (try (refine gate_guard (by rfl) ?_; dsimp only)); (with_reducible refine gate_callee (f := 37) rfl ?_); refine goesL_ (some 26) rfl rfl Try.func37 (by kernel_rfl) rfl #[.int .i64 a0] rfl (by (try simp only [List.map_toArray, List.map_cons, List.map_nil]); first | done | rfl | (simp only [List.length_drop, List.length_take]; rfl)) ?_; (with_reducible refine (careenageref04_Room.calls a0 t638 _ A12.out).mono ?_); rintro e w' ⟨rfl, ⟨nd, rfl⟩⟩; refine ⟨_, rfl, ?_⟩))
          go_meet
          case rel => exact ⟨_, (true), (by first | rfl | (simp; done) | (simp [*]; done)), H', ⟨by first | omega | exact Nat.le_refl _⟩, ⟨by (with_reducible repeat (first | refine blk_drewN ?_ _ | refine blk_drew ?_ | refine blk_alloc ?_ _)); exact BK634.out⟩, ⟨by repeat (first | (with_reducible first | exact HB.out | apply below_alloc | apply pw_below_drewN | apply below_drew1 | refine below_set ?_ GE634.out) | exact HB.out)⟩⟩
        · rw [if_neg c13] at H
          have c13b0 : decide (t638 < t637) = false := decide_eq_false c13
          clear c13
          (first | rw [c13b0] | (simp only [i64_w, i32_w]; rw [c13b0]) | skip)
          replace H := Option.bind_eq_some_iff.mp H
          obtain ⟨t639, A160, H⟩ := H
          replace H : (if t639 = true then (careenageref07_Page.j0 k a0 a1 a2 l3 (decide (a2 > 4611686018427387904))) else (careenageref07_Page.j0 k a0 a1 a2 l3 true)) = some (r1, r2, r3, r4, r5, r6, r7) := H
          have A16 := Aside0.mk A160
          clear A160
          by_cases c17 : t639 = true
          · subst c17
            have H1 : (careenageref07_Page.j0 k a0 a1 a2 l3 (decide (a2 > 4611686018427387904))) = some (r1, r2, r3, r4, r5, r6, r7) := by rw [if_pos rfl] at H; exact H
            clear H
            have H := H1
            clear H1
            have H' := Aside0.mk H
            clear H
            go_wp2_with (first | ((with_reducible refine gate_callee (f := 63) rfl ?_); refine goesL_ (some 15) rfl rfl Try.func63 (by kernel_rfl) rfl #[.int .i64 a0] rfl (by (try simp only [List.map_toArray, List.map_cons, List.map_nil]); first | done | rfl | (simp only [List.length_drop, List.length_take]; rfl)) ?_; (with_reducible refine (careenageref03_Good.calls a0 true _ A7.out).mono ?_); rintro e w' ⟨rfl, ⟨nd, rfl⟩⟩; refine ⟨_, rfl, ?_⟩) | ((with_reducible refine gate_dst (N := 19) rfl ?_); (try (refine gate_guard (by rfl) ?_; dsimp only)); (with_reducible refine gate_callee (f := 72) rfl ?_); refine goesL_ (some 19) rfl rfl Try.func72 (by kernel_rfl) rfl #[.slice A3 l3.length c3] rfl (by (try simp only [List.map_toArray, List.map_cons, List.map_nil]); first | done | rfl | (simp only [List.length_drop, List.length_take]; rfl)) ?_; (with_reducible refine (careenageref07_May.calls k _ _ l3 true _ ?side1 ?side2 A9.out).mono ?_); (case side1 => repeat (first | exact (Kd.C_below HR3.out (by repeat (first | (with_reducible first | exact HB.out | apply below_alloc | apply pw_below_drewN | apply below_drew1 | refine below_set ?_ GE634.out) | exact HB.out))) | (with_reducible refine Kd.C_alloc ?_ _) | (with_reducible refine Kd.C_drewN ?_ _) | (with_reducible refine Kd.C_drew ?_))); (case side2 => exact HC3.out); rintro e w18 ⟨rfl, hb⟩; refine ⟨_, rfl, ?_⟩; have n0_ := Aside0.mk (blk_below (g := gb634) (o := .cells #[.int .i64 0, .int .i64 0, .int .u32 0, .int .u32 0, .int .u64 0, .string (⟨#[]⟩ : ByteArray)] 39 (0, 0)) (by (with_reducible repeat (first | refine blk_drewN ?_ _ | refine blk_drew ?_ | refine blk_alloc ?_ _)); exact BK634.out) hb); have n1_ := Aside0.mk (below_step (by repeat (first | (with_reducible first | exact HB.out | apply below_alloc | apply pw_below_drewN | apply below_drew1 | refine below_set ?_ GE634.out) | exact HB.out)) hb); clear BK634; clear HB; have BK634 := n0_; have HB := n1_; clear n0_ n1_; (try clear hb); (try clear hb2); (try clear hk); (try clear hi)) | ((with_reducible refine gate_dst (N := 24) rfl ?_); (try (refine gate_guard (by rfl) ?_; dsimp only)); (with_reducible refine gate_callee (f := 46) rfl ?_); refine goesL_ (some 24) rfl rfl Try.func46 (by kernel_rfl) rfl #[.slice A3 l3.length c3] rfl (by (try simp only [List.map_toArray, List.map_cons, List.map_nil]); first | done | rfl | (simp only [List.length_drop, List.length_take]; rfl)) ?_; (with_reducible refine (careenageref07_Size.calls k _ _ l3 t637 _ ?side1 ?side2 A11.out).mono ?_); (case side1 => repeat (first | exact (Kd.C_below HR3.out HB.out) | (with_reducible refine Kd.C_alloc ?_ _) | (with_reducible refine Kd.C_drewN ?_ _) | (with_reducible refine Kd.C_drew ?_))); (case side2 => exact HC3.out); rintro e w19 ⟨rfl, hb⟩; refine ⟨_, rfl, ?_⟩; have n0_ := Aside0.mk (blk_below (g := gb634) (o := .cells #[.int .i64 0, .int .i64 0, .int .u32 0, .int .u32 0, .int .u64 0, .string (⟨#[]⟩ : ByteArray)] 39 (0, 0)) (by (with_reducible repeat (first | refine blk_drewN ?_ _ | refine blk_drew ?_ | refine blk_alloc ?_ _)); exact BK634.out) hb); have n1_ := Aside0.mk (below_step (by repeat (first | (with_reducible first | exact HB.out | apply below_alloc | apply pw_below_drewN | apply below_drew1 | refine below_set ?_ GE634.out) | exact HB.out)) hb); clear BK634; clear HB; have BK634 := n0_; have HB := n1_; clear n0_ n1_; (try clear hb); (try clear hb2); (try clear hk); (try clear hi)) | ((with_reducible refine gate_dst (N := 26) rfl ?_); (try (refine gate_guard (by rfl) ?_; dsimp only)); (with_reducible refine gate_callee (f := 37) rfl ?_); refine goesL_ (some 26) rfl rfl Try.func37 (by kernel_rfl) rfl #[.int .i64 a0] rfl (by (try simp only [List.map_toArray, List.map_cons, List.map_nil]); first | done | rfl | (simp only [List.length_drop, List.length_take]; rfl)) ?_; (with_reducible refine (careenageref04_Room.calls a0 t638 _ A12.out).mono ?_); rintro e w' ⟨rfl, ⟨nd, rfl⟩⟩; refine ⟨_, rfl, ?_⟩) | ((with_reducible refine gate_dst (N := 31) rfl ?_); (try (refine gate_guard (by rfl) ?_; dsimp only)); (with_reducible refine gate_callee (f := 65) rfl ?_); refine goesL_ (some 31) rfl rfl Try.func65 (by kernel_rfl) rfl #[.int .u32 a1] rfl (by (try simp only [List.map_toArray, List.map_cons, List.map_nil]); first | done | rfl | (simp only [List.length_drop, List.length_take]; rfl)) ?_; (with_reducible refine (careenageref04_Number.calls a1 true _ A16.out).mono ?_); rintro e w' ⟨rfl, ⟨nd, rfl⟩⟩; refine ⟨_, rfl, ?_⟩))
            go_meet
            case rel => exact ⟨_, (decide (a2 > 4611686018427387904)), (by first | rfl | (simp; done) | (simp [*]; done)), H', ⟨by first | omega | exact Nat.le_refl _⟩, ⟨by (with_reducible repeat (first | refine blk_drewN ?_ _ | refine blk_drew ?_ | refine blk_alloc ?_ _)); exact BK634.out⟩, ⟨by repeat (first | (with_reducible first | exact HB.out | apply below_alloc | apply pw_below_drewN | apply below_drew1 | refine below_set ?_ GE634.out) | exact HB.out)⟩⟩
          · replace c17 := Bool.eq_false_iff.mpr c17
            subst c17
            have H1 : (careenageref07_Page.j0 k a0 a1 a2 l3 true) = some (r1, r2, r3, r4, r5, r6, r7) := by rw [if_neg (show ¬ (false = true) by decide)] at H; exact H
            clear H
            have H := H1
            clear H1
            have H' := Aside0.mk H
            clear H
            go_wp2_with (first | ((with_reducible refine gate_callee (f := 63) rfl ?_); refine goesL_ (some 15) rfl rfl Try.func63 (by kernel_rfl) rfl #[.int .i64 a0] rfl (by (try simp only [List.map_toArray, List.map_cons, List.map_nil]); first | done | rfl | (simp only [List.length_drop, List.length_take]; rfl)) ?_; (with_reducible refine (careenageref03_Good.calls a0 true _ A7.out).mono ?_); rintro e w' ⟨rfl, ⟨nd, rfl⟩⟩; refine ⟨_, rfl, ?_⟩) | ((with_reducible refine gate_dst (N := 19) rfl ?_); (try (refine gate_guard (by rfl) ?_; dsimp only)); (with_reducible refine gate_callee (f := 72) rfl ?_); refine goesL_ (some 19) rfl rfl Try.func72 (by kernel_rfl) rfl #[.slice A3 l3.length c3] rfl (by (try simp only [List.map_toArray, List.map_cons, List.map_nil]); first | done | rfl | (simp only [List.length_drop, List.length_take]; rfl)) ?_; (with_reducible refine (careenageref07_May.calls k _ _ l3 true _ ?side1 ?side2 A9.out).mono ?_); (case side1 => repeat (first | exact (Kd.C_below HR3.out (by repeat (first | (with_reducible first | exact HB.out | apply below_alloc | apply pw_below_drewN | apply below_drew1 | refine below_set ?_ GE634.out) | exact HB.out))) | (with_reducible refine Kd.C_alloc ?_ _) | (with_reducible refine Kd.C_drewN ?_ _) | (with_reducible refine Kd.C_drew ?_))); (case side2 => exact HC3.out); rintro e w20 ⟨rfl, hb⟩; refine ⟨_, rfl, ?_⟩; have n0_ := Aside0.mk (blk_below (g := gb634) (o := .cells #[.int .i64 0, .int .i64 0, .int .u32 0, .int .u32 0, .int .u64 0, .string (⟨#[]⟩ : ByteArray)] 39 (0, 0)) (by (with_reducible repeat (first | refine blk_drewN ?_ _ | refine blk_drew ?_ | refine blk_alloc ?_ _)); exact BK634.out) hb); have n1_ := Aside0.mk (below_step (by repeat (first | (with_reducible first | exact HB.out | apply below_alloc | apply pw_below_drewN | apply below_drew1 | refine below_set ?_ GE634.out) | exact HB.out)) hb); clear BK634; clear HB; have BK634 := n0_; have HB := n1_; clear n0_ n1_; (try clear hb); (try clear hb2); (try clear hk); (try clear hi)) | ((with_reducible refine gate_dst (N := 24) rfl ?_); (try (refine gate_guard (by rfl) ?_; dsimp only)); (with_reducible refine gate_callee (f := 46) rfl ?_); refine goesL_ (some 24) rfl rfl Try.func46 (by kernel_rfl) rfl #[.slice A3 l3.length c3] rfl (by (try simp only [List.map_toArray, List.map_cons, List.map_nil]); first | done | rfl | (simp only [List.length_drop, List.length_take]; rfl)) ?_; (with_reducible refine (careenageref07_Size.calls k _ _ l3 t637 _ ?side1 ?side2 A11.out).mono ?_); (case side1 => repeat (first | exact (Kd.C_below HR3.out HB.out) | (with_reducible refine Kd.C_alloc ?_ _) | (with_reducible refine Kd.C_drewN ?_ _) | (with_reducible refine Kd.C_drew ?_))); (case side2 => exact HC3.out); rintro e w21 ⟨rfl, hb⟩; refine ⟨_, rfl, ?_⟩; have n0_ := Aside0.mk (blk_below (g := gb634) (o := .cells #[.int .i64 0, .int .i64 0, .int .u32 0, .int .u32 0, .int .u64 0, .string (⟨#[]⟩ : ByteArray)] 39 (0, 0)) (by (with_reducible repeat (first | refine blk_drewN ?_ _ | refine blk_drew ?_ | refine blk_alloc ?_ _)); exact BK634.out) hb); have n1_ := Aside0.mk (below_step (by repeat (first | (with_reducible first | exact HB.out | apply below_alloc | apply pw_below_drewN | apply below_drew1 | refine below_set ?_ GE634.out) | exact HB.out)) hb); clear BK634; clear HB; have BK634 := n0_; have HB := n1_; clear n0_ n1_; (try clear hb); (try clear hb2); (try clear hk); (try clear hi)) | ((with_reducible refine gate_dst (N := 26) rfl ?_); (try (refine gate_guard (by rfl) ?_; dsimp only)); (with_reducible refine gate_callee (f := 37) rfl ?_); refine goesL_ (some 26) rfl rfl Try.func37 (by kernel_rfl) rfl #[.int .i64 a0] rfl (by (try simp only [List.map_toArray, List.map_cons, List.map_nil]); first | done | rfl | (simp only [List.length_drop, List.length_take]; rfl)) ?_; (with_reducible refine (careenageref04_Room.calls a0 t638 _ A12.out).mono ?_); rintro e w' ⟨rfl, ⟨nd, rfl⟩⟩; refine ⟨_, rfl, ?_⟩) | ((with_reducible refine gate_dst (N := 31) rfl ?_); (try (refine gate_guard (by rfl) ?_; dsimp only)); (with_reducible refine gate_callee (f := 65) rfl ?_); refine goesL_ (some 31) rfl rfl Try.func65 (by kernel_rfl) rfl #[.int .u32 a1] rfl (by (try simp only [List.map_toArray, List.map_cons, List.map_nil]); first | done | rfl | (simp only [List.length_drop, List.length_take]; rfl)) ?_; (with_reducible refine (careenageref04_Number.calls a1 false _ A16.out).mono ?_); rintro e w' ⟨rfl, ⟨nd, rfl⟩⟩; refine ⟨_, rfl, ?_⟩))
            go_meet
            case rel => exact ⟨_, (true), (by first | rfl | (simp; done) | (simp [*]; done)), H', ⟨by first | omega | exact Nat.le_refl _⟩, ⟨by (with_reducible repeat (first | refine blk_drewN ?_ _ | refine blk_drew ?_ | refine blk_alloc ?_ _)); exact BK634.out⟩, ⟨by repeat (first | (with_reducible first | exact HB.out | apply below_alloc | apply pw_below_drewN | apply below_drew1 | refine below_set ?_ GE634.out) | exact HB.out)⟩⟩
      · replace c10 := Bool.eq_false_iff.mpr c10
        subst c10
        have H1 : (careenageref07_Page.j0 k a0 a1 a2 l3 true) = some (r1, r2, r3, r4, r5, r6, r7) := by rw [if_neg (show ¬ (false = true) by decide)] at H; exact H
        clear H
        have H := H1
        clear H1
        have H' := Aside0.mk H
        clear H
        go_wp2_with (first | ((with_reducible refine gate_callee (f := 63) rfl ?_); refine goesL_ (some 15) rfl rfl Try.func63 (by kernel_rfl) rfl #[.int .i64 a0] rfl (by (try simp only [List.map_toArray, List.map_cons, List.map_nil]); first | done | rfl | (simp only [List.length_drop, List.length_take]; rfl)) ?_; (with_reducible refine (careenageref03_Good.calls a0 true _ A7.out).mono ?_); rintro e w' ⟨rfl, ⟨nd, rfl⟩⟩; refine ⟨_, rfl, ?_⟩) | ((with_reducible refine gate_dst (N := 19) rfl ?_); (try (refine gate_guard (by rfl) ?_; dsimp only)); (with_reducible refine gate_callee (f := 72) rfl ?_); refine goesL_ (some 19) rfl rfl Try.func72 (by kernel_rfl) rfl #[.slice A3 l3.length c3] rfl (by (try simp only [List.map_toArray, List.map_cons, List.map_nil]); first | done | rfl | (simp only [List.length_drop, List.length_take]; rfl)) ?_; (with_reducible refine (careenageref07_May.calls k _ _ l3 false _ ?side1 ?side2 A9.out).mono ?_); (case side1 => repeat (first | exact (Kd.C_below HR3.out (by repeat (first | (with_reducible first | exact HB.out | apply below_alloc | apply pw_below_drewN | apply below_drew1 | refine below_set ?_ GE634.out) | exact HB.out))) | (with_reducible refine Kd.C_alloc ?_ _) | (with_reducible refine Kd.C_drewN ?_ _) | (with_reducible refine Kd.C_drew ?_))); (case side2 => exact HC3.out); rintro e w22 ⟨rfl, hb⟩; refine ⟨_, rfl, ?_⟩; have n0_ := Aside0.mk (blk_below (g := gb634) (o := .cells #[.int .i64 0, .int .i64 0, .int .u32 0, .int .u32 0, .int .u64 0, .string (⟨#[]⟩ : ByteArray)] 39 (0, 0)) (by (with_reducible repeat (first | refine blk_drewN ?_ _ | refine blk_drew ?_ | refine blk_alloc ?_ _)); exact BK634.out) hb); have n1_ := Aside0.mk (below_step (by repeat (first | (with_reducible first | exact HB.out | apply below_alloc | apply pw_below_drewN | apply below_drew1 | refine below_set ?_ GE634.out) | exact HB.out)) hb); clear BK634; clear HB; have BK634 := n0_; have HB := n1_; clear n0_ n1_; (try clear hb); (try clear hb2); (try clear hk); (try clear hi)))
        go_meet
        case rel => exact ⟨_, (true), (by first | rfl | (simp; done) | (simp [*]; done)), H', ⟨by first | omega | exact Nat.le_refl _⟩, ⟨by (with_reducible repeat (first | refine blk_drewN ?_ _ | refine blk_drew ?_ | refine blk_alloc ?_ _)); exact BK634.out⟩, ⟨by repeat (first | (with_reducible first | exact HB.out | apply below_alloc | apply pw_below_drewN | apply below_drew1 | refine below_set ?_ GE634.out) | exact HB.out)⟩⟩
    · replace c8 := Bool.eq_false_iff.mpr c8
      subst c8
      have H1 : (careenageref07_Page.j0 k a0 a1 a2 l3 true) = some (r1, r2, r3, r4, r5, r6, r7) := by rw [if_neg (show ¬ (false = true) by decide)] at H; exact H
      clear H
      have H := H1
      clear H1
      have H' := Aside0.mk H
      clear H
      go_wp2_with (first | ((with_reducible refine gate_callee (f := 63) rfl ?_); refine goesL_ (some 15) rfl rfl Try.func63 (by kernel_rfl) rfl #[.int .i64 a0] rfl (by (try simp only [List.map_toArray, List.map_cons, List.map_nil]); first | done | rfl | (simp only [List.length_drop, List.length_take]; rfl)) ?_; (with_reducible refine (careenageref03_Good.calls a0 false _ A7.out).mono ?_); rintro e w' ⟨rfl, ⟨nd, rfl⟩⟩; refine ⟨_, rfl, ?_⟩))
      go_meet
      case rel => exact ⟨_, (true), (by first | rfl | (simp; done) | (simp [*]; done)), H', ⟨by first | omega | exact Nat.le_refl _⟩, ⟨by (with_reducible repeat (first | refine blk_drewN ?_ _ | refine blk_drew ?_ | refine blk_alloc ?_ _)); exact BK634.out⟩, ⟨by repeat (first | (with_reducible first | exact HB.out | apply below_alloc | apply pw_below_drewN | apply below_drew1 | refine below_set ?_ GE634.out) | exact HB.out)⟩⟩
  case rest =>
    clear HC5
    try clear c1
    try clear p2
    try clear c3
    try clear c4
    try clear c6
    try clear c7
    try clear c8
    try clear c10
    try clear c13
    try clear c13b0
    try clear c17
    obtain ⟨kq, x37_4, rfl, HA, HJ4, BK634, HB⟩ := hcut
    cases kq with
    | zero => exact absurd HA.out (by simp [careenageref07_Page.j0])
    | succ kj4 =>
      have H := HA.out
      clear HA
      simp only [careenageref07_Page.j0] at H
      by_cases c23 : x37_4 = true
      · subst c23
        have H1 : (some (0, 0, 0, 0, 0, (⟨#[]⟩ : ByteArray), 2)) = some (r1, r2, r3, r4, r5, r6, r7) := by rw [if_pos rfl] at H; exact H
        clear H
        have H := H1
        clear H1
        simp only [Option.some.injEq, Prod.mk.injEq] at H
        obtain ⟨rfl, rfl, rfl, rfl, rfl, rfl, rfl⟩ := H
        have hcz24_0 : wc.cell? ⟨gb634, 0, none⟩ = some (.int .i64 0) := (blk_cell BK634.out 0).trans rfl
        have hcz24_1 : wc.cell? ⟨gb634, 1, none⟩ = some (.int .i64 0) := (blk_cell BK634.out 1).trans rfl
        have hcz24_2 : wc.cell? ⟨gb634, 2, none⟩ = some (.int .u32 0) := (blk_cell BK634.out 2).trans rfl
        have hcz24_3 : wc.cell? ⟨gb634, 3, none⟩ = some (.int .u32 0) := (blk_cell BK634.out 3).trans rfl
        have hcz24_4 : wc.cell? ⟨gb634, 4, none⟩ = some (.int .u64 0) := (blk_cell BK634.out 4).trans rfl
        have hcz24_5 : wc.cell? ⟨gb634, 5, none⟩ = some (.string (⟨#[]⟩ : ByteArray)) := (blk_cell BK634.out 5).trans rfl
        have hfz24_0 := blk_frozen BK634.out 0
        have hfz24_1 := blk_frozen BK634.out 1
        have hfz24_2 := blk_frozen BK634.out 2
        have hfz24_3 := blk_frozen BK634.out 3
        have hfz24_4 := blk_frozen BK634.out 4
        have hfz24_5 := blk_frozen BK634.out 5
        go_wp2
        refine bodyPost_ret (results_ct rfl _ _ gb634 39 #[.int .i64 0, .int .i64 0, .int .u32 0, .int .u32 0, .int .u64 0, .string (⟨#[]⟩ : ByteArray)] (0, 0) _ rfl (by (with_reducible repeat (first | refine blk_drewN ?_ _ | refine blk_drew ?_ | refine blk_alloc ?_ _)); refine blk_put (cs := #[.int .i64 0, .int .i64 0, .int .u32 0, .int .u32 0, .int .u64 0, .string (⟨#[]⟩ : ByteArray)]) ?_ 5 _ rfl; (with_reducible repeat (first | refine blk_drewN ?_ _ | refine blk_drew ?_ | refine blk_alloc ?_ _)); refine blk_put (cs := #[.int .i64 0, .int .i64 0, .int .u32 0, .int .u32 0, .int .u64 0, .string (⟨#[]⟩ : ByteArray)]) ?_ 4 _ rfl; (with_reducible repeat (first | refine blk_drewN ?_ _ | refine blk_drew ?_ | refine blk_alloc ?_ _)); refine blk_put (cs := #[.int .i64 0, .int .i64 0, .int .u32 0, .int .u32 0, .int .u64 0, .string (⟨#[]⟩ : ByteArray)]) ?_ 3 _ rfl; (with_reducible repeat (first | refine blk_drewN ?_ _ | refine blk_drew ?_ | refine blk_alloc ?_ _)); refine blk_put (cs := #[.int .i64 0, .int .i64 0, .int .u32 0, .int .u32 0, .int .u64 0, .string (⟨#[]⟩ : ByteArray)]) ?_ 2 _ rfl; (with_reducible repeat (first | refine blk_drewN ?_ _ | refine blk_drew ?_ | refine blk_alloc ?_ _)); refine blk_put (cs := #[.int .i64 0, .int .i64 0, .int .u32 0, .int .u32 0, .int .u64 0, .string (⟨#[]⟩ : ByteArray)]) ?_ 1 _ rfl; (with_reducible repeat (first | refine blk_drewN ?_ _ | refine blk_drew ?_ | refine blk_alloc ?_ _)); refine blk_put (cs := #[.int .i64 0, .int .i64 0, .int .u32 0, .int .u32 0, .int .u64 0, .string (⟨#[]⟩ : ByteArray)]) ?_ 0 _ rfl; (with_reducible repeat (first | refine blk_drewN ?_ _ | refine blk_drew ?_ | refine blk_alloc ?_ _)); exact BK634.out) Try.underlying39 rfl (by kernel_rfl)) rfl ?_
        exact ⟨by first | rfl | (simp [errW_none, errW_some] <;> rfl) | (simp [*, errW_none, errW_some] <;> rfl), by repeat (first | (with_reducible first | exact HB.out | apply below_alloc | apply pw_below_drewN | apply below_drew1 | refine below_set ?_ GE634.out) | exact HB.out)⟩
      · replace c23 := Bool.eq_false_iff.mpr c23
        subst c23
        have H1 : (careenageref07_Page.l0 kj4 a0 a1 a2 l3 ([] : List Int) 0) = some (r1, r2, r3, r4, r5, r6, r7) := by rw [if_neg (show ¬ (false = true) by decide)] at H; exact H
        clear H
        have H := H1
        clear H1
        have H' := Aside0.mk H
        clear H
        go_wp2
        go_loopg [10, 11] kj4 (fun kq v10 v11 w' => ∃ (x10_2 : List Int) (x11_2 : Int), v11 = .int .i64 x11_2 ∧ Aside0 (careenageref07_Page.l0 kq a0 a1 a2 l3 x10_2 x11_2 = some (r1, r2, r3, r4, r5, r6, r7)) ∧ Aside0 (kq ≤ kj4) ∧ Aside0 (Kd.R (Kd.int .u8) 5 w' w.heap.size (fun _ => True) v10 x10_2) ∧ Aside0 (w'.heap[gb634]? = some (.cells #[.int .i64 0, .int .i64 0, .int .u32 0, .int .u32 0, .int .u64 0, .string (⟨#[]⟩ : ByteArray)] 39 (0, 0))) ∧ Aside0 (Below w.heap.size w w'))
        case atStart => exact ⟨(([] : List Int)), (0), (by first | rfl | (simp; done) | (simp [*]; done)), H', ⟨Nat.le_refl _⟩, ⟨by first | exact Kd.R_nil _ _ _ _ _ | exact Kd.N_nil _ _ _ _ _ | exact Kd.V_nil _ _ _ _ _ | exact Kd.Q_nil _ _ _ _ _ | exact Kd.S_nil _ _ _ _ _⟩, ⟨by (with_reducible repeat (first | refine blk_drewN ?_ _ | refine blk_drew ?_ | refine blk_alloc ?_ _)); exact BK634.out⟩, ⟨by repeat (first | (with_reducible first | exact HB.out | apply below_alloc | apply pw_below_drewN | apply below_drew1 | refine below_set ?_ GE634.out) | exact HB.out)⟩⟩
        case round =>
          clear H'
          try clear c1
          try clear c2
          try clear p2
          try clear c3
          try clear c4
          try clear c6
          try clear c7
          try clear c8
          try clear c10
          try clear c13
          try clear c13b0
          try clear c17
          try clear c23
          try clear hcz24_0
          try clear hcz24_1
          try clear hcz24_2
          try clear hcz24_3
          try clear hcz24_4
          try clear hcz24_5
          try clear hfz24_0
          try clear hfz24_1
          try clear hfz24_2
          try clear hfz24_3
          try clear hfz24_4
          try clear hfz24_5
          try clear p2
          obtain ⟨x10_2, x11_2, rfl, HA, HK2, HO_10, BK634, HB⟩ := hrel
          cases gk with
          | zero => exact absurd HA.out (by simp [careenageref07_Page.l0])
          | succ k2 =>
            have H := HA.out
            clear HA
            simp only [careenageref07_Page.l0] at H
            by_cases c25 : x11_2 < (l3.length : Int)
            · rw [if_pos c25] at H
              have c25b0 : decide (x11_2 < (l3.length : Int)) = true := decide_eq_true c25
              clear c25
              by_cases c26 : 0 ≤ x11_2
              · rw [if_pos c26] at H
                have c26b0 : decide (0 ≤ x11_2) = true := decide_eq_true c26
                clear c26
                replace H := Option.bind_eq_some_iff.mp H
                obtain ⟨t641, A270, H⟩ := H
                replace H : (if t641.length + ((rd_T46 l3 x11_2).f0).size < 140737488355328 then ((careenageref01_Put.f k2 (t641 ++ bytesOf ((rd_T46 l3 x11_2).f0)) (IntKind.u64.wrap ((rd_T46 l3 x11_2).f1)) 4).bind fun t649 => (careenageref07_Page.l0 k2 a0 a1 a2 l3 t649 (wrap64 (x11_2 + 1)))) else (none)) = some (r1, r2, r3, r4, r5, r6, r7) := H
                have A27 := Aside0.mk A270
                clear A270
                by_cases c28 : t641.length + ((rd_T46 l3 x11_2).f0).size < 140737488355328
                · rw [if_pos c28] at H
                  have LMc28 := Aside0.mk c28
                  clear c28
                  obtain ⟨y645, hy645⟩ : ∃ y_ : List Int, y_ = (t641 ++ bytesOf ((rd_T46 l3 x11_2).f0)) := ⟨_, rfl⟩
                  replace H : ((careenageref01_Put.f k2 y645 (IntKind.u64.wrap ((rd_T46 l3 x11_2).f1)) 4).bind fun t649 => (careenageref07_Page.l0 k2 a0 a1 a2 l3 t649 (wrap64 (x11_2 + 1)))) = some (r1, r2, r3, r4, r5, r6, r7) := by first | (rw [hy645]; with_reducible exact H) | (have H2_ := (Option.bind_some _ _).symm.trans H; rw [hy645]; with_reducible exact H2_) | (have H2_ := (Option.bind_some _ _).symm.trans H; with_reducible exact H2_) | with_reducible exact H | (rw [hy645]; exact H) | exact H
                  have Ny645 := Aside0.mk hy645
                  clear hy645
                  replace H := Option.bind_eq_some_iff.mp H
                  obtain ⟨t649, A290, H⟩ := H
                  replace H : (careenageref07_Page.l0 k2 a0 a1 a2 l3 t649 (wrap64 (x11_2 + 1))) = some (r1, r2, r3, r4, r5, r6, r7) := H
                  have A29 := Aside0.mk A290
                  clear A290
                  have H' := Aside0.mk H
                  clear H
                  have p640 : 0 ≤ (x11_2 : Int) := of_decide_eq_true (by first | (with_reducible assumption) | assumption)
                  have q640 : x11_2 < (l3.length : Int) := of_decide_eq_true (by first | (with_reducible assumption) | assumption)
                  obtain ⟨ad640, e640, hx640_0, hx640_1⟩ := at_T46 HR3.out x11_2 p640 q640
                  cases e640
                  replace hx640_0 := (HB.out.cell (World.block_lt_of_cell? w _ hx640_0)).trans hx640_0
                  replace hx640_1 := (HB.out.cell (World.block_lt_of_cell? w _ hx640_1)).trans hx640_1
                  replace p640 := eq_true p640
                  replace q640 := eq_true q640
                  obtain ⟨Ao30, co30, eo30⟩ := Kd.R_slice HO_10.out
                  subst eo30
                  go_wp2_with (first | ((with_reducible refine gate_callee (f := 66) rfl ?_); refine goesL_ (some 53) rfl rfl Try.func66 (by kernel_rfl) rfl #[.slice Ao30 x10_2.length co30, .int .u64 (IntKind.u64.wrap ((((rd_T46 l3 x11_2).f0).size : Int))), .int .i64 1] rfl (by (try simp only [List.map_toArray, List.map_cons, List.map_nil]); first | done | rfl | (simp only [List.length_drop, List.length_take]; rfl)) ?_; (with_reducible refine (careenageref01_Put.calls k2 _ _ x10_2 (IntKind.u64.wrap ((((rd_T46 l3 x11_2).f0).size : Int))) 1 t641 _ ?side1 ?side2 A27.out).mono ?_); (case side1 => repeat (first | exact (Kd.R_reads' HO_10.out).2.2 | (with_reducible refine Kd.C_alloc ?_ _) | (with_reducible refine Kd.C_drewN ?_ _) | (with_reducible refine Kd.C_drew ?_))); (case side2 => exact (Kd.R_reads' HO_10.out).2.1); rintro e w31 ⟨v642, rfl, ho0, hb⟩; refine ⟨_, rfl, ?_⟩; have n0_ := Aside0.mk (Kd.R_elder' (by (with_reducible repeat (first | apply Kd.R_alloc | apply Kd.R_drewN | apply Kd.R_drew)); exact HO_10.out) (Kd.R_base ho0) hb); have n1_ := Aside0.mk (Kd.R_lower (Kd.R_new' ho0 (Kd.R_lt (by (with_reducible repeat (first | apply Kd.R_alloc | apply Kd.R_drewN | apply Kd.R_drew)); exact HO_10.out))) (below_size (by repeat (first | (with_reducible first | exact HB.out | apply below_alloc | apply pw_below_drewN | apply below_drew1 | refine below_set ?_ GE634.out) | exact HB.out)))); have n2_ := Aside0.mk (blk_below (g := gb634) (o := .cells #[.int .i64 0, .int .i64 0, .int .u32 0, .int .u32 0, .int .u64 0, .string (⟨#[]⟩ : ByteArray)] 39 (0, 0)) (by (with_reducible repeat (first | refine blk_drewN ?_ _ | refine blk_drew ?_ | refine blk_alloc ?_ _)); exact BK634.out) hb); have n3_ := Aside0.mk (below_step (by repeat (first | (with_reducible first | exact HB.out | apply below_alloc | apply pw_below_drewN | apply below_drew1 | refine below_set ?_ GE634.out) | exact HB.out)) hb); clear HO_10; clear BK634; clear HB; have HO_10 := n0_; have HO643 := n1_; have BK634 := n2_; have HB := n3_; clear n0_ n1_ n2_ n3_; (try clear hb); (try clear hb2); (try clear hk); (try clear hi); (try clear ho0); have p644 : 0 ≤ (x11_2 : Int) := of_decide_eq_true (by first | (with_reducible assumption) | assumption); have q644 : x11_2 < (l3.length : Int) := of_decide_eq_true (by first | (with_reducible assumption) | assumption); obtain ⟨ad644, e644, hx644_0, hx644_1⟩ := at_T46 HR3.out x11_2 p644 q644; obtain rfl : ad640 = ad644 := (by injection e644); replace hx644_0 := (HB.out.cell (World.block_lt_of_cell? w _ hx644_0)).trans hx644_0; replace hx644_1 := (HB.out.cell (World.block_lt_of_cell? w _ hx644_1)).trans hx644_1; replace p644 := eq_true p644; replace q644 := eq_true q644) | (at_builtin; refine print_append_str (w0 := w) w.heap.size rfl (.tmp 54) _ 55 9 5 rfl Try.underlying55 Try.underlying9 info5 v642 t641 ((rd_T46 l3 x11_2).f0) rfl rfl ?aO ?aB ?aS ?aL ?_; (case aB => exact (by repeat (first | (with_reducible first | exact HB.out | apply below_alloc | apply pw_below_drewN | apply below_drew1 | refine below_set ?_ GE634.out) | exact HB.out))); (case aO => exact (Kd.own_of_R (by (with_reducible repeat (first | apply Kd.R_alloc | apply Kd.R_drewN | apply Kd.R_drew)); exact Kd.R_mono HO643.out (fun _ hk => trivial)))); (case aS => exact (below_size (by repeat (first | (with_reducible first | exact HB.out | apply below_alloc | apply pw_below_drewN | apply below_drew1 | refine below_set ?_ GE634.out) | exact HB.out)))); (case aL => have := LMc28.out; omega); intro v646 w32 ho0 hb hg; have ho := Kd.R_of_own (h1 := fun _ => rfl) (ok := fun _ => True) ho0 (fun _ _ => trivial); clear ho0; have hat := True.intro; rw [← Ny645.out] at ho; change Kd.R (Kd.int .u8) 5 w32 w.heap.size (fun _ => True) v646 y645 at ho; have n0_ := Aside0.mk (blk_grown (g := gb634) (o := .cells #[.int .i64 0, .int .i64 0, .int .u32 0, .int .u32 0, .int .u64 0, .string (⟨#[]⟩ : ByteArray)] 39 (0, 0)) (by (with_reducible repeat (first | refine blk_drewN ?_ _ | refine blk_drew ?_ | refine blk_alloc ?_ _)); exact BK634.out) hg (Kd.R_ne HO643.out BK634.out (by decide))); have n1_ := Aside0.mk (hb); have n2_ := Aside0.mk (ho); clear BK634; clear HB; clear HO643; have BK634 := n0_; have HB := n1_; have HO647 := n2_; clear n0_ n1_ n2_; clear ho hb hg hat; have p648 : 0 ≤ (x11_2 : Int) := of_decide_eq_true (by first | (with_reducible assumption) | assumption); have q648 : x11_2 < (l3.length : Int) := of_decide_eq_true (by first | (with_reducible assumption) | assumption); obtain ⟨ad648, e648, hx648_0, hx648_1⟩ := at_T46 HR3.out x11_2 p648 q648; obtain rfl : ad640 = ad648 := (by injection e648); replace hx648_0 := (HB.out.cell (World.block_lt_of_cell? w _ hx648_0)).trans hx648_0; replace hx648_1 := (HB.out.cell (World.block_lt_of_cell? w _ hx648_1)).trans hx648_1; replace p648 := eq_true p648; replace q648 := eq_true q648; obtain ⟨Ao33, co33, eo33⟩ := Kd.R_slice HO647.out; subst eo33) | ((with_reducible refine gate_callee (f := 66) rfl ?_); refine goesL_ (some 68) rfl rfl Try.func66 (by kernel_rfl) rfl #[.slice Ao33 y645.length co33, .int .u64 (IntKind.u64.wrap ((rd_T46 l3 x11_2).f1)), .int .i64 4] rfl (by (try simp only [List.map_toArray, List.map_cons, List.map_nil]); first | done | rfl | (simp only [List.length_drop, List.length_take]; rfl)) ?_; (with_reducible refine (careenageref01_Put.calls k2 _ _ y645 (IntKind.u64.wrap ((rd_T46 l3 x11_2).f1)) 4 t649 _ ?side1 ?side2 A29.out).mono ?_); (case side1 => repeat (first | exact (Kd.R_reads' HO647.out).2.2 | (with_reducible refine Kd.C_alloc ?_ _) | (with_reducible refine Kd.C_drewN ?_ _) | (with_reducible refine Kd.C_drew ?_))); (case side2 => exact (Kd.R_reads' HO647.out).2.1); rintro e w34 ⟨v650, rfl, ho0, hb⟩; refine ⟨_, rfl, ?_⟩; have n0_ := Aside0.mk (Kd.R_elder' (by (with_reducible repeat (first | apply Kd.R_alloc | apply Kd.R_drewN | apply Kd.R_drew)); exact HO647.out) (Kd.R_base ho0) hb); have n1_ := Aside0.mk (Kd.R_lower (Kd.R_new' ho0 (Kd.R_lt (by (with_reducible repeat (first | apply Kd.R_alloc | apply Kd.R_drewN | apply Kd.R_drew)); exact HO647.out))) (below_size (by repeat (first | (with_reducible first | exact HB.out | apply below_alloc | apply pw_below_drewN | apply below_drew1 | refine below_set ?_ GE634.out) | exact HB.out)))); have n2_ := Aside0.mk (blk_below (g := gb634) (o := .cells #[.int .i64 0, .int .i64 0, .int .u32 0, .int .u32 0, .int .u64 0, .string (⟨#[]⟩ : ByteArray)] 39 (0, 0)) (by (with_reducible repeat (first | refine blk_drewN ?_ _ | refine blk_drew ?_ | refine blk_alloc ?_ _)); exact BK634.out) hb); have n3_ := Aside0.mk (below_step (by repeat (first | (with_reducible first | exact HB.out | apply below_alloc | apply pw_below_drewN | apply below_drew1 | refine below_set ?_ GE634.out) | exact HB.out)) hb); clear HO647; clear BK634; clear HB; have HO647 := n0_; have HO651 := n1_; have BK634 := n2_; have HB := n3_; clear n0_ n1_ n2_ n3_; (try clear hb); (try clear hb2); (try clear hk); (try clear hi); (try clear ho0)))
                  go_roundg k2
                  case measure => have := HJ4.out; have := HK2.out; omega
                  case rel => exact ⟨(t649), (wrap64 (x11_2 + 1)), (by first | rfl | (simp; done) | (simp [*]; done)), H', ⟨by have := HJ4.out; have := HK2.out; omega⟩, ⟨by (with_reducible repeat (first | apply Kd.R_alloc | apply Kd.R_drewN | apply Kd.R_drew)); exact Kd.R_mono HO651.out (fun _ hk => trivial)⟩, ⟨by (with_reducible repeat (first | refine blk_drewN ?_ _ | refine blk_drew ?_ | refine blk_alloc ?_ _)); exact BK634.out⟩, ⟨by repeat (first | (with_reducible first | exact HB.out | apply below_alloc | apply pw_below_drewN | apply below_drew1 | refine below_set ?_ GE634.out) | exact HB.out)⟩⟩
                · rw [if_neg c28] at H
                  exact absurd H (by simp)
              · rw [if_neg c26] at H
                exact absurd H (by simp)
            · rw [if_neg c25] at H
              have c25b0 : decide (x11_2 < (l3.length : Int)) = false := decide_eq_false c25
              clear c25
              replace H := Option.bind_eq_some_iff.mp H
              obtain ⟨⟨t652, t653⟩, A350, H⟩ := H
              replace H : (some (3, (l3.length : Int), a1, 0, a2, t652, 0)) = some (r1, r2, r3, r4, r5, r6, r7) := H
              have A35 := Aside0.mk A350
              clear A350
              simp only [Option.some.injEq, Prod.mk.injEq] at H
              obtain ⟨rfl, rfl, rfl, rfl, rfl, rfl, rfl⟩ := H
              obtain ⟨Ao36, co36, eo36⟩ := Kd.R_slice HO_10.out
              subst eo36
              go_wp2_with (first | ((with_reducible refine gate_callee (f := 67) rfl ?_); refine goesL_ (some 72) rfl rfl Try.func67 (by kernel_rfl) rfl #[.int .i64 a0, .slice Ao36 x10_2.length co36] rfl (by (try simp only [List.map_toArray, List.map_cons, List.map_nil]); first | done | rfl | (simp only [List.length_drop, List.length_take]; rfl)) ?_; (with_reducible refine (careenageref04_Body.calls a0 _ _ x10_2 t652 t653 _ ?side1 ?side2 A35.out).mono ?_); (case side1 => repeat (first | exact (Kd.R_reads' HO_10.out).2.2 | (with_reducible refine Kd.C_alloc ?_ _) | (with_reducible refine Kd.C_drewN ?_ _) | (with_reducible refine Kd.C_drew ?_))); (case side2 => exact (Kd.R_reads' HO_10.out).2.1); rintro e w37 ⟨rfl, hb⟩; refine ⟨_, rfl, ?_⟩; have n0_ := Aside0.mk (Kd.R_below (by (with_reducible repeat (first | apply Kd.R_alloc | apply Kd.R_drewN | apply Kd.R_drew)); exact HO_10.out) hb); have n1_ := Aside0.mk (blk_below (g := gb634) (o := .cells #[.int .i64 0, .int .i64 0, .int .u32 0, .int .u32 0, .int .u64 0, .string (⟨#[]⟩ : ByteArray)] 39 (0, 0)) (by (with_reducible repeat (first | refine blk_drewN ?_ _ | refine blk_drew ?_ | refine blk_alloc ?_ _)); exact BK634.out) hb); have n2_ := Aside0.mk (below_step (by repeat (first | (with_reducible first | exact HB.out | apply below_alloc | apply pw_below_drewN | apply below_drew1 | refine below_set ?_ GE634.out) | exact HB.out)) hb); clear HO_10; clear BK634; clear HB; have HO_10 := n0_; have BK634 := n1_; have HB := n2_; clear n0_ n1_ n2_; (try clear hb); (try clear hb2); (try clear hk); (try clear hi); have hcz38_0 : w37.cell? ⟨gb634, 0, none⟩ = some (.int .i64 0) := (blk_cell BK634.out 0).trans rfl; have hcz38_1 : w37.cell? ⟨gb634, 1, none⟩ = some (.int .i64 0) := (blk_cell BK634.out 1).trans rfl; have hcz38_2 : w37.cell? ⟨gb634, 2, none⟩ = some (.int .u32 0) := (blk_cell BK634.out 2).trans rfl; have hcz38_3 : w37.cell? ⟨gb634, 3, none⟩ = some (.int .u32 0) := (blk_cell BK634.out 3).trans rfl; have hcz38_4 : w37.cell? ⟨gb634, 4, none⟩ = some (.int .u64 0) := (blk_cell BK634.out 4).trans rfl; have hcz38_5 : w37.cell? ⟨gb634, 5, none⟩ = some (.string (⟨#[]⟩ : ByteArray)) := (blk_cell BK634.out 5).trans rfl; have hfz38_0 := blk_frozen BK634.out 0; have hfz38_1 := blk_frozen BK634.out 1; have hfz38_2 := blk_frozen BK634.out 2; have hfz38_3 := blk_frozen BK634.out 3; have hfz38_4 := blk_frozen BK634.out 4; have hfz38_5 := blk_frozen BK634.out 5))
              refine bodyPost_ret (results_ct rfl _ _ gb634 39 #[.int .i64 3, .int .i64 (l3.length : Int), .int .u32 a1, .int .u32 0, .int .u64 a2, .string t652] (0, 0) _ rfl (by (with_reducible repeat (first | refine blk_drewN ?_ _ | refine blk_drew ?_ | refine blk_alloc ?_ _)); refine blk_put (cs := #[.int .i64 3, .int .i64 (l3.length : Int), .int .u32 a1, .int .u32 0, .int .u64 a2, .string (⟨#[]⟩ : ByteArray)]) ?_ 5 _ rfl; (with_reducible repeat (first | refine blk_drewN ?_ _ | refine blk_drew ?_ | refine blk_alloc ?_ _)); refine blk_put (cs := #[.int .i64 3, .int .i64 (l3.length : Int), .int .u32 a1, .int .u32 0, .int .u64 0, .string (⟨#[]⟩ : ByteArray)]) ?_ 4 _ rfl; (with_reducible repeat (first | refine blk_drewN ?_ _ | refine blk_drew ?_ | refine blk_alloc ?_ _)); refine blk_put (cs := #[.int .i64 3, .int .i64 (l3.length : Int), .int .u32 a1, .int .u32 0, .int .u64 0, .string (⟨#[]⟩ : ByteArray)]) ?_ 3 _ rfl; (with_reducible repeat (first | refine blk_drewN ?_ _ | refine blk_drew ?_ | refine blk_alloc ?_ _)); refine blk_put (cs := #[.int .i64 3, .int .i64 (l3.length : Int), .int .u32 0, .int .u32 0, .int .u64 0, .string (⟨#[]⟩ : ByteArray)]) ?_ 2 _ rfl; (with_reducible repeat (first | refine blk_drewN ?_ _ | refine blk_drew ?_ | refine blk_alloc ?_ _)); refine blk_put (cs := #[.int .i64 3, .int .i64 0, .int .u32 0, .int .u32 0, .int .u64 0, .string (⟨#[]⟩ : ByteArray)]) ?_ 1 _ rfl; (with_reducible repeat (first | refine blk_drewN ?_ _ | refine blk_drew ?_ | refine blk_alloc ?_ _)); refine blk_put (cs := #[.int .i64 0, .int .i64 0, .int .u32 0, .int .u32 0, .int .u64 0, .string (⟨#[]⟩ : ByteArray)]) ?_ 0 _ rfl; (with_reducible repeat (first | refine blk_drewN ?_ _ | refine blk_drew ?_ | refine blk_alloc ?_ _)); exact BK634.out) Try.underlying39 rfl (by kernel_rfl)) rfl ?_
              exact ⟨by first | rfl | (simp [errW_none, errW_some] <;> rfl) | (simp [*, errW_none, errW_some] <;> rfl), by repeat (first | (with_reducible first | exact HB.out | apply below_alloc | apply pw_below_drewN | apply below_drew1 | refine below_set ?_ GE634.out) | exact HB.out)⟩
end Go.Proofs.Ytlkfcabklaaacaa.P

namespace Go.Proofs.Ytlkfcabklaaacaa.P
open Go.RowKit Go.Proofs.YtlkfcabklaaacaaW.PrintWords Go.Proofs.YtlkfcabklaaacaaW.PrintLast Go.Proofs.YtlkfcabklaaacaaW.PrintMore
attribute [local go_sem] max2_int min2_int max_two min_two max_three min_three max_four min_four   -- for this text's walks alone
open Go.Proofs.YtlkfcabklaaacaaO
attribute [local go_sem] min2_str max2_str
set_option linter.unusedVariables false
set_option linter.unusedSimpArgs false
/-- A state of type 96 at block g of W; what its slices lead to came in by w0. -/
def IsS96 (w0 W : World) (g : Nat) (f0 : ByteArray) : Prop := W.heap[g]? = some (.cells #[.string f0] 96 (0, 0)) ∧ w0.heap.size ≤ g
theorem IsS96.grown {w0 W : World} {g : Nat} {f0 : ByteArray} {W1 : World} {row : Option Nat} (h : IsS96 w0 W g f0) (hw : W.grownBy W1 row) (hne : some g ≠ row) : IsS96 w0 W1 g f0 := by
  obtain ⟨hb, hg⟩ := h
  exact ⟨blk_grown hb hw hne, hg⟩
theorem IsS96.below {w0 W : World} {g : Nat} {f0 : ByteArray} {W1 : World} (h : IsS96 w0 W g f0) (hw : Below W.heap.size W W1) : IsS96 w0 W1 g f0 := h.grown (grown_of_below hw none) (by simp)
theorem IsS96.apart {w0 W : World} {g : Nat} {f0 : ByteArray} {α : Type} {d : Kd α} {e : Nat} {base : Nat} {ok : Nat → Prop} {v : Value} {xs : List α} (h : IsS96 w0 W g f0) (ho : d.R e W base ok v xs) (ht : ∀ q, q ∈ e :: d.E → q ≠ 96) : d.R e W base (fun k => ok k ∧ k ≠ g) v xs := by
  obtain ⟨hb, hg⟩ := h
  exact Kd.R_types ho hb ht
theorem IsS96.own_ne {w0 W : World} {g : Nat} {f0 : ByteArray} {α : Type} {d : Kd α} {e : Nat} {base : Nat} {ok : Nat → Prop} {v : Value} {xs : List α} (h : IsS96 w0 W g f0) (ho : d.R e W base ok v xs) (ht : e ≠ 96) : some g ≠ v.ownBlock := by
  obtain ⟨hb, hg⟩ := h
  exact Kd.R_ne ho hb ht
theorem IsS96.lt {w0 W : World} {g : Nat} {f0 : ByteArray} (h : IsS96 w0 W g f0) : g < W.heap.size := by
  obtain ⟨hb, hg⟩ := h
  exact blk_lt hb
theorem IsS96.ge {w0 W : World} {g : Nat} {f0 : ByteArray} (h : IsS96 w0 W g f0) : w0.heap.size ≤ g := by
  obtain ⟨hb, hg⟩ := h
  exact hg
theorem IsS96.ne_blk {w0 W : World} {g : Nat} {f0 : ByteArray} {a : Nat} {cs : Array Value} {t : TypeId} {fr : Nat × Nat} (h : IsS96 w0 W g f0) (hb2 : W.heap[a]? = some (.cells cs t fr)) (ht : t ≠ 96) : g ≠ a := by
  obtain ⟨hb, hg⟩ := h
  rintro rfl
  rw [hb] at hb2
  injection hb2 with hb2
  injection hb2 with _ ht2
  exact ht ht2.symm
theorem cellS96_0 {W : World} {g : Nat} {f0 : ByteArray} (h : W.heap[g]? = some (.cells #[.string f0] 96 (0, 0))) : W.cell? ⟨g, 0, none⟩ = some (.string f0) := (blk_cell h 0).trans rfl
theorem IsS96.set_0 {w0 W : World} {g : Nat} {f0 : ByteArray} (h : IsS96 w0 W g f0) (x : ByteArray) : IsS96 w0 (W.setCell ⟨g, 0, none⟩ (.string x)) g x := by
  obtain ⟨hb, hg⟩ := h
  exact ⟨by first | (simp; done) | (simp at blk_set; done) | simpa using blk_set hb 0 (.string x), hg⟩
/-! ### careenageref01_New: function 68 -/
def careenageref01_New.f (a0 : ByteArray) : Option (ByteArray) := some a0
set_option maxHeartbeats 8000000 in
set_option maxRecDepth 100000 in
theorem careenageref01_New.calls (a0 : ByteArray) (r : ByteArray) (w0 w : World) (hB : Below w0.heap.size w0 w) (h : careenageref01_New.f a0 = some r) :
    Calls Try.prog 68 #[.string a0] w fun e w' => ∃ g_ : Nat, e = .returned (.pointer (some ⟨g_, 0, none⟩)) ∧ IsS96 w0 w' g_ r ∧ Below w0.heap.size w0 w' ∧ Below w.heap.size w w' := by
  have hu96 := Try.underlying96
  have HBW := Aside0.mk (Below.refl w.heap.size w)
  have HW0 := Aside0.mk hB.size
  have HB := Aside0.mk hB
  clear hB
  have H : (some a0) = some r := h
  clear h
  obtain rfl := Option.some.inj H
  go_enter Try.func68, Try.ntmps68
  go_wp2_with (first | ((with_reducible refine gate_dst (N := 5) rfl ?_); refine box_event ?hg (N := 5) ?hd (cs := #[.string a0]) (t := 96) ?hr ?_; (case hd => rfl); (case hg => rfl); (case hr => first | (go_simp; done) | (go_simp; rfl)); intro gb359 hg w2 hbox hb; have n0_ := Aside0.mk (below_step HBW.out hb); have n1_ := Aside0.mk (below_step (by repeat (first | (with_reducible first | exact HB.out | apply below_alloc | apply pw_below_drewN | apply below_drew1) | exact HB.out)) hb); have n2_ := Aside0.mk (hbox); have n3_ := Aside0.mk ((by rw [hg]; exact (below_size (by repeat (first | (with_reducible first | exact HBW.out | apply below_alloc | apply pw_below_drewN | apply below_drew1) | exact HBW.out))) : w.heap.size ≤ gb359)); have n4_ := Aside0.mk ((Nat.le_trans HW0.out (by rw [hg]; exact (below_size (by repeat (first | (with_reducible first | exact HBW.out | apply below_alloc | apply pw_below_drewN | apply below_drew1) | exact HBW.out))) : w.heap.size ≤ gb359) : w0.heap.size ≤ gb359)); clear HBW; clear HB; have HBW := n0_; have HB := n1_; have BK359 := n2_; have GW359 := n3_; have GE359 := n4_; clear n0_ n1_ n2_ n3_ n4_; clear hb hbox hg))
  go_ret
  exact ⟨_, rfl, (show IsS96 w0 _ gb359 a0 from ⟨by (with_reducible repeat (first | refine blk_drewN ?_ _ | refine blk_drew ?_ | refine blk_alloc ?_ _)); exact BK359.out, GE359.out⟩), by repeat (first | (with_reducible first | exact HB.out | apply below_alloc | apply pw_below_drewN | apply below_drew1 | refine below_set ?_ GE359.out) | exact HB.out), by repeat (first | (with_reducible first | exact HBW.out | apply below_alloc | apply pw_below_drewN | apply below_drew1 | refine below_set ?_ GW359.out) | exact HBW.out)⟩
end Go.Proofs.Ytlkfcabklaaacaa.P

namespace Go.Proofs.Ytlkfcabklaaacaa.P
open Go.RowKit Go.Proofs.YtlkfcabklaaacaaW.PrintWords Go.Proofs.YtlkfcabklaaacaaW.PrintLast Go.Proofs.YtlkfcabklaaacaaW.PrintMore
attribute [local go_sem] max2_int min2_int max_two min_two max_three min_three max_four min_four   -- for this text's walks alone
open Go.Proofs.YtlkfcabklaaacaaO
attribute [local go_sem] min2_str max2_str
set_option linter.unusedVariables false
set_option linter.unusedSimpArgs false
/-! ### careenageref01_Reader_Number: function 69 -/
mutual
def careenageref01_Reader_Number.j0 : Nat → Int → Bool → ByteArray → Option (Int × Int × ByteArray)
  | 0, _, _, _ => none
  | k + 1, x1, x13, x1000 => if x13 = true then (some (0, 2, x1000)) else (if (x1000.size : Int) < x1 then (some (0, 7, x1000)) else (careenageref01_Reader_Number.l0 k x1 0 0 x1000))
def careenageref01_Reader_Number.l0 : Nat → Int → Int → Int → ByteArray → Option (Int × Int × ByteArray)
  | 0, _, _, _, _ => none
  | k + 1, x1, x6, x7, x1000 => if x7 < x1 then (if 0 ≤ x7 then (if x7 < (x1000.size : Int) then (if 0 ≤ (IntKind.u64.wrap (wrap64 (8 * x7))) then (careenageref01_Reader_Number.l0 k x1 (Go.bits .or .u64 x6 (shl .u64 (IntKind.u64.wrap (bt x1000 x7)) (IntKind.u64.wrap (wrap64 (8 * x7))))) (wrap64 (x7 + 1)) x1000) else (none)) else (none)) else (none)) else (if 0 ≤ x1 then (if x1 ≤ (x1000.size : Int) then (some (x6, 0, x1000.extract (x1 : Int).toNat x1000.size)) else (none)) else (none))
end
def careenageref01_Reader_Number.f (k : Nat) (s0_0 : ByteArray) (a1 : Int) : Option (Int × Int × ByteArray) := if a1 < 1 then (careenageref01_Reader_Number.j0 k a1 true s0_0) else (careenageref01_Reader_Number.j0 k a1 (decide (a1 > 8)) s0_0)
set_option maxHeartbeats 8000000 in
set_option maxRecDepth 100000 in
theorem careenageref01_Reader_Number.calls (k : Nat) (g : Nat) (s0_0 : ByteArray) (a1 : Int) (r1 : Int) (r2 : Int) (r3 : ByteArray) (w0 w : World) (hI : IsS96 w0 w g s0_0) (hB : Below w0.heap.size w0 w) (h : careenageref01_Reader_Number.f k s0_0 a1 = some (r1, r2, r3)) :
    Calls Try.prog 69 #[.pointer (some ⟨g, 0, none⟩), .int .i64 a1] w fun e w' => e = .returned (.tuple #[.int .u64 r1, .int .i64 r2]) ∧ IsS96 w0 w' g r3 ∧ Below w0.heap.size w0 w' ∧ KeepBut w w' g none := by
  have HI0 := Aside0.mk hI
  have HK := Aside0.mk (KeepBut.refl w g none)
  have HL := Aside0.mk hB.size
  clear hI
  have HW0 := Aside0.mk hB.size
  have HB := Aside0.mk hB
  clear hB
  have H : (if a1 < 1 then (careenageref01_Reader_Number.j0 k a1 true s0_0) else (careenageref01_Reader_Number.j0 k a1 (decide (a1 > 8)) s0_0)) = some (r1, r2, r3) := h
  clear h
  have HC3 := Aside0.mk H
  clear H
  go_enter Try.func69, Try.ntmps69
  go_upto_region 1 with (fail)
  go_cut [13] (fun v13 wc => ∃ (kq : Nat) (x13_2 : Bool), v13 = .bool x13_2 ∧ Aside0 (careenageref01_Reader_Number.j0 kq a1 x13_2 s0_0 = some (r1, r2, r3)) ∧ Aside0 (kq ≤ k) ∧ Aside0 (IsS96 w0 wc g s0_0) ∧ Aside0 (KeepBut w wc g none) ∧ Aside0 (Below w0.heap.size w0 wc))
  case first =>
    have H := HC3.out
    clear HC3
    by_cases c4 : a1 < 1
    · rw [if_pos c4] at H
      have c4b0 : decide (a1 < 1) = true := decide_eq_true c4
      clear c4
      (first | rw [c4b0] | (simp only [i64_w, i32_w]; rw [c4b0]) | skip)
      have H' := Aside0.mk H
      clear H
      go_wp2
      go_meet
      case rel => exact ⟨_, (true), (by first | rfl | (simp; done) | (simp [*]; done)), H', ⟨by first | omega | exact Nat.le_refl _⟩, ⟨by repeat (first | (with_reducible first | exact HI0.out | apply IsS96.alloc | apply IsS96.drewN | apply IsS96.drew | apply IsS96.set_0) | exact HI0.out)⟩, ⟨by repeat (first | (with_reducible first | exact HK.out | apply KeepBut.set_ | apply keep_drewN | apply keep_drew | apply keep_alloc) | exact HK.out)⟩, ⟨by repeat (first | (with_reducible first | exact HB.out | apply below_alloc | apply pw_below_drewN | apply below_drew1 | refine below_set ?_ (IsS96.ge HI0.out)) | exact HB.out)⟩⟩
    · rw [if_neg c4] at H
      have c4b0 : decide (a1 < 1) = false := decide_eq_false c4
      clear c4
      (first | rw [c4b0] | (simp only [i64_w, i32_w]; rw [c4b0]) | skip)
      have H' := Aside0.mk H
      clear H
      go_wp2
      go_meet
      case rel => exact ⟨_, (decide (a1 > 8)), (by first | rfl | (simp; done) | (simp [*]; done)), H', ⟨by first | omega | exact Nat.le_refl _⟩, ⟨by repeat (first | (with_reducible first | exact HI0.out | apply IsS96.alloc | apply IsS96.drewN | apply IsS96.drew | apply IsS96.set_0) | exact HI0.out)⟩, ⟨by repeat (first | (with_reducible first | exact HK.out | apply KeepBut.set_ | apply keep_drewN | apply keep_drew | apply keep_alloc) | exact HK.out)⟩, ⟨by repeat (first | (with_reducible first | exact HB.out | apply below_alloc | apply pw_below_drewN | apply below_drew1 | refine below_set ?_ (IsS96.ge HI0.out)) | exact HB.out)⟩⟩
  case rest =>
    clear HC3
    try clear p2
    try clear c4
    try clear c4b0
    obtain ⟨kq, x13_2, rfl, HA, HJ2, HI0, HK, HB⟩ := hcut
    cases kq with
    | zero => exact absurd HA.out (by simp [careenageref01_Reader_Number.j0])
    | succ kj2 =>
      have H := HA.out
      clear HA
      simp only [careenageref01_Reader_Number.j0] at H
      by_cases c5 : x13_2 = true
      · subst c5
        have H1 : (some (0, 2, s0_0)) = some (r1, r2, r3) := by rw [if_pos rfl] at H; exact H
        clear H
        have H := H1
        clear H1
        simp only [Option.some.injEq, Prod.mk.injEq] at H
        obtain ⟨rfl, rfl, rfl⟩ := H
        go_wp2
        go_ret2
        exact ⟨by first | rfl | (simp [errW_none, errW_some] <;> rfl) | (simp [*, errW_none, errW_some] <;> rfl), by repeat (first | (with_reducible first | exact HI0.out | apply IsS96.alloc | apply IsS96.drewN | apply IsS96.drew | apply IsS96.set_0) | exact HI0.out), by repeat (first | (with_reducible first | exact HB.out | apply below_alloc | apply pw_below_drewN | apply below_drew1 | refine below_set ?_ (IsS96.ge HI0.out)) | exact HB.out), by repeat (first | (with_reducible first | exact HK.out | apply KeepBut.set_ | apply keep_drewN | apply keep_drew | apply keep_alloc) | exact HK.out)⟩
      · replace c5 := Bool.eq_false_iff.mpr c5
        subst c5
        have H1 : (if (s0_0.size : Int) < a1 then (some (0, 7, s0_0)) else (careenageref01_Reader_Number.l0 kj2 a1 0 0 s0_0)) = some (r1, r2, r3) := by rw [if_neg (show ¬ (false = true) by decide)] at H; exact H
        clear H
        have H := H1
        clear H1
        by_cases c6 : (s0_0.size : Int) < a1
        · rw [if_pos c6] at H
          have c6b0 : decide ((s0_0.size : Int) < a1) = true := decide_eq_true c6
          clear c6
          simp only [Option.some.injEq, Prod.mk.injEq] at H
          obtain ⟨rfl, rfl, rfl⟩ := H
          obtain ⟨HGz7, hgz7⟩ := HI0.out
          have hcz7_0 := cellS96_0 HGz7
          have hfz7_0 := blk_frozen HGz7 0
          clear HGz7 hgz7
          go_wp2
          go_ret2
          exact ⟨by first | rfl | (simp [errW_none, errW_some] <;> rfl) | (simp [*, errW_none, errW_some] <;> rfl), by repeat (first | (with_reducible first | exact HI0.out | apply IsS96.alloc | apply IsS96.drewN | apply IsS96.drew | apply IsS96.set_0) | exact HI0.out), by repeat (first | (with_reducible first | exact HB.out | apply below_alloc | apply pw_below_drewN | apply below_drew1 | refine below_set ?_ (IsS96.ge HI0.out)) | exact HB.out), by repeat (first | (with_reducible first | exact HK.out | apply KeepBut.set_ | apply keep_drewN | apply keep_drew | apply keep_alloc) | exact HK.out)⟩
        · rw [if_neg c6] at H
          have c6b0 : decide ((s0_0.size : Int) < a1) = false := decide_eq_false c6
          clear c6
          have H' := Aside0.mk H
          clear H
          obtain ⟨HGz8, hgz8⟩ := HI0.out
          have hcz8_0 := cellS96_0 HGz8
          have hfz8_0 := blk_frozen HGz8 0
          clear HGz8 hgz8
          go_wp2
          go_loopg [6, 7] kj2 (fun kq v6 v7 w' => ∃ (x6_2 : Int) (x7_2 : Int), v6 = .int .u64 x6_2 ∧ v7 = .int .i64 x7_2 ∧ Aside0 (careenageref01_Reader_Number.l0 kq a1 x6_2 x7_2 s0_0 = some (r1, r2, r3)) ∧ Aside0 (kq ≤ kj2) ∧ Aside0 (IsS96 w0 w' g s0_0) ∧ Aside0 (KeepBut w w' g none) ∧ Aside0 (Below w0.heap.size w0 w'))
          case atStart => exact ⟨(0), (0), (by first | rfl | (simp; done) | (simp [*]; done)), (by first | rfl | (simp; done) | (simp [*]; done)), H', ⟨Nat.le_refl _⟩, ⟨by repeat (first | (with_reducible first | exact HI0.out | apply IsS96.alloc | apply IsS96.drewN | apply IsS96.drew | apply IsS96.set_0) | exact HI0.out)⟩, ⟨by repeat (first | (with_reducible first | exact HK.out | apply KeepBut.set_ | apply keep_drewN | apply keep_drew | apply keep_alloc) | exact HK.out)⟩, ⟨by repeat (first | (with_reducible first | exact HB.out | apply below_alloc | apply pw_below_drewN | apply below_drew1 | refine below_set ?_ (IsS96.ge HI0.out)) | exact HB.out)⟩⟩
          case round =>
            clear H'
            try clear p2
            try clear c4
            try clear c4b0
            try clear c5
            try clear c6
            try clear c6b0
            try clear hcz7_0
            try clear hcz8_0
            try clear hfz7_0
            try clear hfz8_0
            try clear p2
            obtain ⟨x6_2, x7_2, rfl, rfl, HA, HK2, HI0, HK, HB⟩ := hrel
            cases gk with
            | zero => exact absurd HA.out (by simp [careenageref01_Reader_Number.l0])
            | succ k2 =>
              have H := HA.out
              clear HA
              simp only [careenageref01_Reader_Number.l0] at H
              by_cases c9 : x7_2 < a1
              · rw [if_pos c9] at H
                have c9b0 : decide (x7_2 < a1) = true := decide_eq_true c9
                clear c9
                by_cases c10 : 0 ≤ x7_2
                · rw [if_pos c10] at H
                  have c10b0 : decide (0 ≤ x7_2) = true := decide_eq_true c10
                  clear c10
                  by_cases c11 : x7_2 < (s0_0.size : Int)
                  · rw [if_pos c11] at H
                    have c11b0 : decide (x7_2 < (s0_0.size : Int)) = true := decide_eq_true c11
                    clear c11
                    obtain ⟨ji13, hji13⟩ : ∃ j_ : Int, (IntKind.u64.wrap (wrap64 (8 * x7_2))) = j_ := ⟨_, rfl⟩
                    replace H : (if 0 ≤ (ji13) then (careenageref01_Reader_Number.l0 k2 a1 (Go.bits .or .u64 x6_2 (shl .u64 (IntKind.u64.wrap (bt s0_0 x7_2)) (ji13))) (wrap64 (x7_2 + 1)) s0_0) else (none)) = some (r1, r2, r3) := by first | (rw [hji13] at H; exact H) | (simp only [hji13] at H ⊢; exact H)
                    by_cases c14 : 0 ≤ (ji13)
                    · rw [if_pos c14] at H
                      have c14b0 := eq_true c14
                      have c14b1 : decide (0 ≤ (ji13)) = true := decide_eq_true c14
                      clear c14
                      obtain ⟨ji15, hji15⟩ : ∃ j_ : Int, (shl .u64 (IntKind.u64.wrap (bt s0_0 x7_2)) (ji13)) = j_ := ⟨_, rfl⟩
                      replace H : (careenageref01_Reader_Number.l0 k2 a1 (Go.bits .or .u64 x6_2 (ji15)) (wrap64 (x7_2 + 1)) s0_0) = some (r1, r2, r3) := by first | (rw [hji15] at H; exact H) | (simp only [hji15] at H ⊢; exact H)
                      have hji15_ : (IntKind.u64.wrap ((IntKind.u64.wrap (bt s0_0 x7_2)) * 2 ^ min (ji13).toNat 64)) = ji15 := hji15
                      have hji15z : (ji13) ≤ 64 → (IntKind.u64.wrap ((IntKind.u64.wrap (bt s0_0 x7_2)) * 2 ^ (ji13).toNat)) = ji15 := shl_small hji15
                      have H' := Aside0.mk H
                      clear H
                      obtain ⟨HGz16, hgz16⟩ := HI0.out
                      have hcz16_0 := cellS96_0 HGz16
                      have hfz16_0 := blk_frozen HGz16 0
                      clear HGz16 hgz16
                      have p12 : 0 ≤ (x7_2 : Int) := of_decide_eq_true (by first | (with_reducible assumption) | assumption)
                      have q12 : x7_2 < (s0_0.size : Int) := of_decide_eq_true (by first | (with_reducible assumption) | assumption)
                      have hx12 := bt_at s0_0 x7_2
                      replace p12 := eq_true p12
                      replace q12 := eq_true q12
                      go_wp2
                      go_roundg k2
                      case measure => have := HJ2.out; have := HK2.out; omega
                      case rel => exact ⟨(Go.bits .or .u64 x6_2 (ji15)), (wrap64 (x7_2 + 1)), (by first | rfl | (simp; done) | (simp only [← hji15] <;> (first | rfl | simp)) | (simp [*]; done)), (by first | rfl | (simp; done) | (simp [*]; done)), H', ⟨by have := HJ2.out; have := HK2.out; omega⟩, ⟨by repeat (first | (with_reducible first | exact HI0.out | apply IsS96.alloc | apply IsS96.drewN | apply IsS96.drew | apply IsS96.set_0) | exact HI0.out)⟩, ⟨by repeat (first | (with_reducible first | exact HK.out | apply KeepBut.set_ | apply keep_drewN | apply keep_drew | apply keep_alloc) | exact HK.out)⟩, ⟨by repeat (first | (with_reducible first | exact HB.out | apply below_alloc | apply pw_below_drewN | apply below_drew1 | refine below_set ?_ (IsS96.ge HI0.out)) | exact HB.out)⟩⟩
                    · rw [if_neg c14] at H
                      exact absurd H (by simp)
                  · rw [if_neg c11] at H
                    exact absurd H (by simp)
                · rw [if_neg c10] at H
                  exact absurd H (by simp)
              · rw [if_neg c9] at H
                have c9b0 : decide (x7_2 < a1) = false := decide_eq_false c9
                clear c9
                by_cases c17 : 0 ≤ a1
                · rw [if_pos c17] at H
                  have c17b0 := eq_true c17
                  have c17b1 : decide (0 ≤ a1) = true := decide_eq_true c17
                  clear c17
                  by_cases c18 : a1 ≤ (s0_0.size : Int)
                  · rw [if_pos c18] at H
                    have c18b0 := eq_true c18
                    have c18b1 : decide (a1 ≤ (s0_0.size : Int)) = true := decide_eq_true c18
                    clear c18
                    simp only [Option.some.injEq, Prod.mk.injEq] at H
                    obtain ⟨rfl, rfl, rfl⟩ := H
                    obtain ⟨HGz19, hgz19⟩ := HI0.out
                    have hcz19_0 := cellS96_0 HGz19
                    have hfz19_0 := blk_frozen HGz19 0
                    clear HGz19 hgz19
                    go_wp2
                    go_ret2
                    exact ⟨by first | rfl | (simp [errW_none, errW_some] <;> rfl) | (simp [*, errW_none, errW_some] <;> rfl), by repeat (first | (with_reducible first | exact HI0.out | apply IsS96.alloc | apply IsS96.drewN | apply IsS96.drew | apply IsS96.set_0) | exact HI0.out), by repeat (first | (with_reducible first | exact HB.out | apply below_alloc | apply pw_below_drewN | apply below_drew1 | refine below_set ?_ (IsS96.ge HI0.out)) | exact HB.out), by repeat (first | (with_reducible first | exact HK.out | apply KeepBut.set_ | apply keep_drewN | apply keep_drew | apply keep_alloc) | exact HK.out)⟩
                  · rw [if_neg c18] at H
                    exact absurd H (by simp)
                · rw [if_neg c17] at H
                  exact absurd H (by simp)
end Go.Proofs.Ytlkfcabklaaacaa.P

namespace Go.Proofs.Ytlkfcabklaaacaa.P
open Go.RowKit Go.Proofs.YtlkfcabklaaacaaW.PrintWords Go.Proofs.YtlkfcabklaaacaaW.PrintLast Go.Proofs.YtlkfcabklaaacaaW.PrintMore
attribute [local go_sem] max2_int min2_int max_two min_two max_three min_three max_four min_four   -- for this text's walks alone
open Go.Proofs.YtlkfcabklaaacaaO
attribute [local go_sem] min2_str max2_str
set_option linter.unusedVariables false
set_option linter.unusedSimpArgs false
/-! ### careenageref01_Reader_Bytes: function 73 -/
def careenageref01_Reader_Bytes.f (s0_0 : ByteArray) (a1 : Int) : Option (ByteArray × Int × ByteArray) := if a1 < 0 then (some ((⟨#[]⟩ : ByteArray), 2, s0_0)) else (if (s0_0.size : Int) < a1 then (some ((⟨#[]⟩ : ByteArray), 7, s0_0)) else (if 0 ≤ a1 then (if a1 ≤ (s0_0.size : Int) then (some (s0_0.extract 0 (a1 : Int).toNat, 0, s0_0.extract (a1 : Int).toNat s0_0.size)) else (none)) else (none)))
set_option maxHeartbeats 8000000 in
set_option maxRecDepth 100000 in
theorem careenageref01_Reader_Bytes.calls (g : Nat) (s0_0 : ByteArray) (a1 : Int) (r1 : ByteArray) (r2 : Int) (r3 : ByteArray) (w0 w : World) (hI : IsS96 w0 w g s0_0) (hB : Below w0.heap.size w0 w) (h : careenageref01_Reader_Bytes.f s0_0 a1 = some (r1, r2, r3)) :
    Calls Try.prog 73 #[.pointer (some ⟨g, 0, none⟩), .int .i64 a1] w fun e w' => e = .returned (.tuple #[.string r1, .int .i64 r2]) ∧ IsS96 w0 w' g r3 ∧ Below w0.heap.size w0 w' ∧ KeepBut w w' g none := by
  have HI0 := Aside0.mk hI
  have HK := Aside0.mk (KeepBut.refl w g none)
  have HL := Aside0.mk hB.size
  clear hI
  have HW0 := Aside0.mk hB.size
  have HB := Aside0.mk hB
  clear hB
  have H : (if a1 < 0 then (some ((⟨#[]⟩ : ByteArray), 2, s0_0)) else (if (s0_0.size : Int) < a1 then (some ((⟨#[]⟩ : ByteArray), 7, s0_0)) else (if 0 ≤ a1 then (if a1 ≤ (s0_0.size : Int) then (some (s0_0.extract 0 (a1 : Int).toNat, 0, s0_0.extract (a1 : Int).toNat s0_0.size)) else (none)) else (none)))) = some (r1, r2, r3) := h
  clear h
  by_cases c3 : a1 < 0
  · rw [if_pos c3] at H
    have c3b0 : decide (a1 < 0) = true := decide_eq_true c3
    clear c3
    simp only [Option.some.injEq, Prod.mk.injEq] at H
    obtain ⟨rfl, rfl, rfl⟩ := H
    go_enter Try.func73, Try.ntmps73
    go_wp2
    go_ret2
    exact ⟨by first | rfl | (simp [errW_none, errW_some] <;> rfl) | (simp [*, errW_none, errW_some] <;> rfl), by repeat (first | (with_reducible first | exact HI0.out | apply IsS96.alloc | apply IsS96.drewN | apply IsS96.drew | apply IsS96.set_0) | exact HI0.out), by repeat (first | (with_reducible first | exact HB.out | apply below_alloc | apply pw_below_drewN | apply below_drew1 | refine below_set ?_ (IsS96.ge HI0.out)) | exact HB.out), by repeat (first | (with_reducible first | exact HK.out | apply KeepBut.set_ | apply keep_drewN | apply keep_drew | apply keep_alloc) | exact HK.out)⟩
  · rw [if_neg c3] at H
    have c3b0 : decide (a1 < 0) = false := decide_eq_false c3
    clear c3
    by_cases c4 : (s0_0.size : Int) < a1
    · rw [if_pos c4] at H
      have c4b0 : decide ((s0_0.size : Int) < a1) = true := decide_eq_true c4
      clear c4
      simp only [Option.some.injEq, Prod.mk.injEq] at H
      obtain ⟨rfl, rfl, rfl⟩ := H
      obtain ⟨HGz5, hgz5⟩ := HI0.out
      have hcz5_0 := cellS96_0 HGz5
      have hfz5_0 := blk_frozen HGz5 0
      clear HGz5 hgz5
      go_enter Try.func73, Try.ntmps73
      go_wp2
      go_ret2
      exact ⟨by first | rfl | (simp [errW_none, errW_some] <;> rfl) | (simp [*, errW_none, errW_some] <;> rfl), by repeat (first | (with_reducible first | exact HI0.out | apply IsS96.alloc | apply IsS96.drewN | apply IsS96.drew | apply IsS96.set_0) | exact HI0.out), by repeat (first | (with_reducible first | exact HB.out | apply below_alloc | apply pw_below_drewN | apply below_drew1 | refine below_set ?_ (IsS96.ge HI0.out)) | exact HB.out), by repeat (first | (with_reducible first | exact HK.out | apply KeepBut.set_ | apply keep_drewN | apply keep_drew | apply keep_alloc) | exact HK.out)⟩
    · rw [if_neg c4] at H
      have c4b0 : decide ((s0_0.size : Int) < a1) = false := decide_eq_false c4
      clear c4
      by_cases c6 : 0 ≤ a1
      · rw [if_pos c6] at H
        have c6b0 := eq_true c6
        have c6b1 : decide (0 ≤ a1) = true := decide_eq_true c6
        clear c6
        by_cases c7 : a1 ≤ (s0_0.size : Int)
        · rw [if_pos c7] at H
          have c7b0 := eq_true c7
          have c7b1 : decide (a1 ≤ (s0_0.size : Int)) = true := decide_eq_true c7
          clear c7
          have c8b0 := eq_true (of_decide_eq_true (by first | (with_reducible assumption) | assumption) : 0 ≤ a1)
          have c9b0 := eq_true (of_decide_eq_true (by first | (with_reducible assumption) | assumption) : a1 ≤ (s0_0.size : Int))
          simp only [Option.some.injEq, Prod.mk.injEq] at H
          obtain ⟨rfl, rfl, rfl⟩ := H
          obtain ⟨HGz10, hgz10⟩ := HI0.out
          have hcz10_0 := cellS96_0 HGz10
          have hfz10_0 := blk_frozen HGz10 0
          clear HGz10 hgz10
          go_enter Try.func73, Try.ntmps73
          go_wp2
          go_ret2
          exact ⟨by first | rfl | (simp [errW_none, errW_some] <;> rfl) | (simp [*, errW_none, errW_some] <;> rfl), by repeat (first | (with_reducible first | exact HI0.out | apply IsS96.alloc | apply IsS96.drewN | apply IsS96.drew | apply IsS96.set_0) | exact HI0.out), by repeat (first | (with_reducible first | exact HB.out | apply below_alloc | apply pw_below_drewN | apply below_drew1 | refine below_set ?_ (IsS96.ge HI0.out)) | exact HB.out), by repeat (first | (with_reducible first | exact HK.out | apply KeepBut.set_ | apply keep_drewN | apply keep_drew | apply keep_alloc) | exact HK.out)⟩
        · rw [if_neg c7] at H
          exact absurd H (by simp)
      · rw [if_neg c6] at H
        exact absurd H (by simp)
end Go.Proofs.Ytlkfcabklaaacaa.P

namespace Go.Proofs.Ytlkfcabklaaacaa.P
open Go.RowKit Go.Proofs.YtlkfcabklaaacaaW.PrintWords Go.Proofs.YtlkfcabklaaacaaW.PrintLast Go.Proofs.YtlkfcabklaaacaaW.PrintMore
attribute [local go_sem] max2_int min2_int max_two min_two max_three min_three max_four min_four   -- for this text's walks alone
open Go.Proofs.YtlkfcabklaaacaaO
attribute [local go_sem] min2_str max2_str
set_option linter.unusedVariables false
set_option linter.unusedSimpArgs false
attribute [local go_sem high] eqA39
/-! ### careenageref07_Of: function 45 -/
def careenageref07_Of.l0 : Nat → List (S46) → Int → Int → Int → Int → Int → Int → ByteArray → ByteArray → Option ((List (S46)) × Int)
  | 0, _, _, _, _, _, _, _, _, _ => none
  | k + 1, x5, x6, x655000, x655001, x655002, x655003, x655004, x655005, x657000 => if x6 < x655001 then ((careenageref01_Reader_Number.f k x657000 1).bind fun bt665 => ((careenageref01_Reader_Bytes.f bt665.2.2 (wrap64 (bt665.1))).bind fun bt668 => ((careenageref01_Reader_Number.f k bt668.2.2 4).bind fun bt671 => (if bt665.2.1 = 0 then (if bt668.2.1 = 0 then (if bt671.2.1 = 0 then (if x5.length < 5864062014805 then (careenageref07_Of.l0 k (x5 ++ [(⟨bt668.1, (bt671.1) % 4294967296⟩ : S46)]) (wrap64 (x6 + 1)) x655000 x655001 x655002 x655003 x655004 x655005 bt671.2.2) else (none)) else (some (([] : List (S46)), 4))) else (some (([] : List (S46)), 4))) else (some (([] : List (S46)), 4)))))) else ((careenageref07_Page.f k (wrap64 ((x655005.size : Int) + 24)) x655002 x655004 x5).bind fun bt657 => (if bt657.2.2.2.2.2.2 = 0 then (if (!(bt657.1 == x655000) || (!(bt657.2.1 == x655001) || (!(bt657.2.2.1 == x655002) || (!(bt657.2.2.2.1 == x655003) || (!(bt657.2.2.2.2.1 == x655004) || (!(bt657.2.2.2.2.2.1.toList == x655005.toList))))))) = true then (some (([] : List (S46)), 4)) else (some (x5, 0))) else (some (([] : List (S46)), 4))))
def careenageref07_Of.f (k : Nat) (a0_0 : Int) (a0_1 : Int) (a0_2 : Int) (a0_3 : Int) (a0_4 : Int) (a0_5 : ByteArray) : Option ((List (S46)) × Int) := (careenageref01_New.f a0_5).bind fun t655 => (careenageref07_Of.l0 k ([] : List (S46)) 0 a0_0 a0_1 a0_2 a0_3 a0_4 a0_5 t655)
set_option maxHeartbeats 8000000 in
set_option maxRecDepth 100000 in
theorem careenageref07_Of.calls (k : Nat) (a0_0 : Int) (a0_1 : Int) (a0_2 : Int) (a0_3 : Int) (a0_4 : Int) (a0_5 : ByteArray) (r1 : List (S46)) (r2 : Int) (w : World) (h : careenageref07_Of.f k a0_0 a0_1 a0_2 a0_3 a0_4 a0_5 = some (r1, r2)) :
    Calls Try.prog 45 #[.agg #[.int .i64 a0_0, .int .i64 a0_1, .int .u32 a0_2, .int .u32 a0_3, .int .u64 a0_4, .string a0_5]] w fun e w' => ∃ v0_ : Value, e = .returned (.tuple #[v0_, .int .i64 r2]) ∧ Kd.R k46 46 w' w.heap.size (fun _ => True) v0_ r1 ∧ Below w.heap.size w w' := by
  have hu39 := Try.underlying39
  have hu46 := Try.underlying46
  have HB := Aside0.mk (Below.refl w.heap.size w)
  have H : ((careenageref01_New.f a0_5).bind fun t655 => (careenageref07_Of.l0 k ([] : List (S46)) 0 a0_0 a0_1 a0_2 a0_3 a0_4 a0_5 t655)) = some (r1, r2) := h
  clear h
  replace H := Option.bind_eq_some_iff.mp H
  obtain ⟨t655, A20, H⟩ := H
  replace H : (careenageref07_Of.l0 k ([] : List (S46)) 0 a0_0 a0_1 a0_2 a0_3 a0_4 a0_5 t655) = some (r1, r2) := H
  have A2 := Aside0.mk A20
  clear A20
  have H' := Aside0.mk H
  clear H
  go_enter Try.func45, Try.ntmps45
  go_wp2_with (first | ((with_reducible refine gate_dst (N := 1) rfl ?_); refine box_event ?hg (N := 1) ?hd (cs := #[.int .i64 a0_0, .int .i64 a0_1, .int .u32 a0_2, .int .u32 a0_3, .int .u64 a0_4, .string a0_5]) (t := 39) ?hr ?_; (case hd => rfl); (case hg => rfl); (case hr => first | (go_simp; done) | (go_simp; rfl)); intro gb654 hg w3 hbox hb; have n0_ := Aside0.mk (below_step (by repeat (first | (with_reducible first | exact HB.out | apply below_alloc | apply pw_below_drewN | apply below_drew1) | exact HB.out)) hb); have n1_ := Aside0.mk (hbox); have n2_ := Aside0.mk ((by rw [hg]; exact (below_size (by repeat (first | (with_reducible first | exact HB.out | apply below_alloc | apply pw_below_drewN | apply below_drew1) | exact HB.out))) : w.heap.size ≤ gb654)); have n3_ := Aside0.mk ((by rw [hg]; exact (below_size (by repeat (first | (with_reducible first | exact HB.out | apply below_alloc | apply pw_below_drewN | apply below_drew1) | exact HB.out))) : w.heap.size ≤ gb654)); clear HB; have HB := n0_; have BK654 := n1_; have GW654 := n2_; have GE654 := n3_; clear n0_ n1_ n2_ n3_; clear hb hbox hg; have hcz4_0 : w3.cell? ⟨gb654, 0, none⟩ = some (.int .i64 a0_0) := (blk_cell BK654.out 0).trans rfl; have hcz4_1 : w3.cell? ⟨gb654, 1, none⟩ = some (.int .i64 a0_1) := (blk_cell BK654.out 1).trans rfl; have hcz4_2 : w3.cell? ⟨gb654, 2, none⟩ = some (.int .u32 a0_2) := (blk_cell BK654.out 2).trans rfl; have hcz4_3 : w3.cell? ⟨gb654, 3, none⟩ = some (.int .u32 a0_3) := (blk_cell BK654.out 3).trans rfl; have hcz4_4 : w3.cell? ⟨gb654, 4, none⟩ = some (.int .u64 a0_4) := (blk_cell BK654.out 4).trans rfl; have hcz4_5 : w3.cell? ⟨gb654, 5, none⟩ = some (.string a0_5) := (blk_cell BK654.out 5).trans rfl; have hfz4_0 := blk_frozen BK654.out 0; have hfz4_1 := blk_frozen BK654.out 1; have hfz4_2 := blk_frozen BK654.out 2; have hfz4_3 := blk_frozen BK654.out 3; have hfz4_4 := blk_frozen BK654.out 4; have hfz4_5 := blk_frozen BK654.out 5) | ((with_reducible refine gate_callee (f := 68) rfl ?_); refine goesL_ (some 17) rfl rfl Try.func68 (by kernel_rfl) rfl #[.string a0_5] rfl (by (try simp only [List.map_toArray, List.map_cons, List.map_nil]); first | done | rfl | (simp only [List.length_drop, List.length_take]; rfl)) ?_; (with_reducible refine (careenageref01_New.calls a0_5 t655 w _ ?side1 A2.out).mono ?_); (case side1 => repeat (first | (with_reducible first | exact HB.out | apply below_alloc | apply pw_below_drewN | apply below_drew1 | refine below_set ?_ GE654.out) | exact HB.out)); rintro e w5 ⟨g656, rfl, hi, hb, hb2⟩; refine ⟨_, rfl, ?_⟩; have n0_ := Aside0.mk (blk_below (g := gb654) (o := .cells #[.int .i64 a0_0, .int .i64 a0_1, .int .u32 a0_2, .int .u32 a0_3, .int .u64 a0_4, .string a0_5] 39 (0, 0)) (by (with_reducible repeat (first | refine blk_drewN ?_ _ | refine blk_drew ?_ | refine blk_alloc ?_ _)); exact BK654.out) hb2); have n1_ := Aside0.mk (hb); have n2_ := Aside0.mk (hi); have n3_ := Aside0.mk (IsS96.ne_blk hi (blk_below (g := gb654) (o := .cells #[.int .i64 a0_0, .int .i64 a0_1, .int .u32 a0_2, .int .u32 a0_3, .int .u64 a0_4, .string a0_5] 39 (0, 0)) (by (with_reducible repeat (first | refine blk_drewN ?_ _ | refine blk_drew ?_ | refine blk_alloc ?_ _)); exact BK654.out) hb2) (by decide)); have n4_ := Aside0.mk (Ne.symm (IsS96.ne_blk hi (blk_below (g := gb654) (o := .cells #[.int .i64 a0_0, .int .i64 a0_1, .int .u32 a0_2, .int .u32 a0_3, .int .u64 a0_4, .string a0_5] 39 (0, 0)) (by (with_reducible repeat (first | refine blk_drewN ?_ _ | refine blk_drew ?_ | refine blk_alloc ?_ _)); exact BK654.out) hb2) (by decide))); clear BK654; clear HB; have BK654 := n0_; have HB := n1_; have HI656 := n2_; have NB656_654 := n3_; have NB654_656 := n4_; clear n0_ n1_ n2_ n3_ n4_; (try clear hb); (try clear hb2); (try clear hk); (try clear hi)))
  go_loopg [5, 6] k (fun kq v5 v6 w' => ∃ (x5_1 : List (S46)) (x6_1 : Int) (x657000_1 : ByteArray), v6 = .int .i64 x6_1 ∧ Aside0 (careenageref07_Of.l0 kq x5_1 x6_1 a0_0 a0_1 a0_2 a0_3 a0_4 a0_5 x657000_1 = some (r1, r2)) ∧ Aside0 (kq ≤ k) ∧ Aside0 (Kd.R k46 46 w' w.heap.size (fun _ => True) v5 x5_1) ∧ Aside0 (w'.heap[gb654]? = some (.cells #[.int .i64 a0_0, .int .i64 a0_1, .int .u32 a0_2, .int .u32 a0_3, .int .u64 a0_4, .string a0_5] 39 (0, 0))) ∧ Aside0 (IsS96 w w' g656 x657000_1) ∧ Aside0 (Below w.heap.size w w'))
  case atStart => exact ⟨(([] : List (S46))), (0), (t655), (by first | rfl | (simp; done) | (simp [*]; done)), H', ⟨Nat.le_refl _⟩, ⟨by first | exact Kd.R_nil _ _ _ _ _ | exact Kd.N_nil _ _ _ _ _ | exact Kd.V_nil _ _ _ _ _ | exact Kd.Q_nil _ _ _ _ _ | exact Kd.S_nil _ _ _ _ _⟩, ⟨by (with_reducible repeat (first | refine blk_drewN ?_ _ | refine blk_drew ?_ | refine blk_alloc ?_ _)); exact BK654.out⟩, ⟨by repeat (first | (with_reducible first | exact HI656.out | apply IsS96.alloc | apply IsS96.drewN | apply IsS96.drew | apply IsS96.set_0 | refine IsS96.far ?_ NB656_654.out _) | exact HI656.out)⟩, ⟨by repeat (first | (with_reducible first | exact HB.out | apply below_alloc | apply pw_below_drewN | apply below_drew1 | refine below_set ?_ (IsS96.ge HI656.out) | refine below_set ?_ GE654.out) | exact HB.out)⟩⟩
  case round =>
    clear H'
    try clear p2
    try clear c4
    try clear hcz4_0
    try clear hcz4_1
    try clear hcz4_2
    try clear hcz4_3
    try clear hcz4_4
    try clear hcz4_5
    try clear hfz4_0
    try clear hfz4_1
    try clear hfz4_2
    try clear hfz4_3
    try clear hfz4_4
    try clear hfz4_5
    obtain ⟨x5_1, x6_1, x657000_1, rfl, HA, HK1, HO_5, BK654, HI656, HB⟩ := hrel
    cases gk with
    | zero => exact absurd HA.out (by simp [careenageref07_Of.l0])
    | succ k1 =>
      have H := HA.out
      clear HA
      simp only [careenageref07_Of.l0] at H
      by_cases c6 : x6_1 < a0_1
      · rw [if_pos c6] at H
        have c6b0 : decide (x6_1 < a0_1) = true := decide_eq_true c6
        clear c6
        replace H := Option.bind_eq_some_iff.mp H
        obtain ⟨⟨t665, t666, t667⟩, A70, H⟩ := H
        replace H : ((careenageref01_Reader_Bytes.f t667 (wrap64 (t665))).bind fun bt668 => ((careenageref01_Reader_Number.f k1 bt668.2.2 4).bind fun bt671 => (if t666 = 0 then (if bt668.2.1 = 0 then (if bt671.2.1 = 0 then (if x5_1.length < 5864062014805 then (careenageref07_Of.l0 k1 (x5_1 ++ [(⟨bt668.1, (bt671.1) % 4294967296⟩ : S46)]) (wrap64 (x6_1 + 1)) a0_0 a0_1 a0_2 a0_3 a0_4 a0_5 bt671.2.2) else (none)) else (some (([] : List (S46)), 4))) else (some (([] : List (S46)), 4))) else (some (([] : List (S46)), 4))))) = some (r1, r2) := H
        have A7 := Aside0.mk A70
        clear A70
        replace H := Option.bind_eq_some_iff.mp H
        obtain ⟨⟨t668, t669, t670⟩, A80, H⟩ := H
        replace H : ((careenageref01_Reader_Number.f k1 t670 4).bind fun bt671 => (if t666 = 0 then (if t669 = 0 then (if bt671.2.1 = 0 then (if x5_1.length < 5864062014805 then (careenageref07_Of.l0 k1 (x5_1 ++ [(⟨t668, (bt671.1) % 4294967296⟩ : S46)]) (wrap64 (x6_1 + 1)) a0_0 a0_1 a0_2 a0_3 a0_4 a0_5 bt671.2.2) else (none)) else (some (([] : List (S46)), 4))) else (some (([] : List (S46)), 4))) else (some (([] : List (S46)), 4)))) = some (r1, r2) := H
        have A8 := Aside0.mk A80
        clear A80
        replace H := Option.bind_eq_some_iff.mp H
        obtain ⟨⟨t671, t672, t673⟩, A90, H⟩ := H
        replace H : (if t666 = 0 then (if t669 = 0 then (if t672 = 0 then (if x5_1.length < 5864062014805 then (careenageref07_Of.l0 k1 (x5_1 ++ [(⟨t668, (t671) % 4294967296⟩ : S46)]) (wrap64 (x6_1 + 1)) a0_0 a0_1 a0_2 a0_3 a0_4 a0_5 t673) else (none)) else (some (([] : List (S46)), 4))) else (some (([] : List (S46)), 4))) else (some (([] : List (S46)), 4))) = some (r1, r2) := H
        have A9 := Aside0.mk A90
        clear A90
        by_cases c10 : t666 = 0
        · rw [if_pos c10] at H
          have c10b0 : (t666 == 0) = true := beq_iff_eq.mpr c10
          have c10b1 : (t666 != 0) = false := bne_eq_false_iff_eq.mpr c10
          clear c10
          by_cases c11 : t669 = 0
          · rw [if_pos c11] at H
            have c11b0 : (t669 == 0) = true := beq_iff_eq.mpr c11
            have c11b1 : (t669 != 0) = false := bne_eq_false_iff_eq.mpr c11
            clear c11
            by_cases c12 : t672 = 0
            · rw [if_pos c12] at H
              have c12b0 : (t672 == 0) = true := beq_iff_eq.mpr c12
              have c12b1 : (t672 != 0) = false := bne_eq_false_iff_eq.mpr c12
              clear c12
              by_cases c13 : x5_1.length < 5864062014805
              · rw [if_pos c13] at H
                have LMc13 := Aside0.mk c13
                clear c13
                obtain ⟨y674, hy674⟩ : ∃ y_ : List (S46), y_ = (x5_1 ++ [(⟨t668, (t671) % 4294967296⟩ : S46)]) := ⟨_, rfl⟩
                replace H : (careenageref07_Of.l0 k1 y674 (wrap64 (x6_1 + 1)) a0_0 a0_1 a0_2 a0_3 a0_4 a0_5 t673) = some (r1, r2) := by first | (rw [hy674]; with_reducible exact H) | (have H2_ := (Option.bind_some _ _).symm.trans H; rw [hy674]; with_reducible exact H2_) | (have H2_ := (Option.bind_some _ _).symm.trans H; with_reducible exact H2_) | with_reducible exact H | (rw [hy674]; exact H) | exact H
                have Ny674 := Aside0.mk hy674
                clear hy674
                have H' := Aside0.mk H
                clear H
                have hnb14 := NB654_656.out
                have hnc14 := NB656_654.out
                have hcz15_0 : wr.cell? ⟨gb654, 0, none⟩ = some (.int .i64 a0_0) := (blk_cell BK654.out 0).trans rfl
                have hcz15_1 : wr.cell? ⟨gb654, 1, none⟩ = some (.int .i64 a0_1) := (blk_cell BK654.out 1).trans rfl
                have hcz15_2 : wr.cell? ⟨gb654, 2, none⟩ = some (.int .u32 a0_2) := (blk_cell BK654.out 2).trans rfl
                have hcz15_3 : wr.cell? ⟨gb654, 3, none⟩ = some (.int .u32 a0_3) := (blk_cell BK654.out 3).trans rfl
                have hcz15_4 : wr.cell? ⟨gb654, 4, none⟩ = some (.int .u64 a0_4) := (blk_cell BK654.out 4).trans rfl
                have hcz15_5 : wr.cell? ⟨gb654, 5, none⟩ = some (.string a0_5) := (blk_cell BK654.out 5).trans rfl
                have hfz15_0 := blk_frozen BK654.out 0
                have hfz15_1 := blk_frozen BK654.out 1
                have hfz15_2 := blk_frozen BK654.out 2
                have hfz15_3 := blk_frozen BK654.out 3
                have hfz15_4 := blk_frozen BK654.out 4
                have hfz15_5 := blk_frozen BK654.out 5
                go_wp2_with (first | ((with_reducible refine gate_callee (f := 69) rfl ?_); refine goesL_ (some 26) rfl rfl Try.func69 (by kernel_rfl) rfl #[.pointer (some ⟨g656, 0, none⟩), .int .i64 1] rfl (by (try simp only [List.map_toArray, List.map_cons, List.map_nil]); first | done | rfl | (simp only [List.length_drop, List.length_take]; rfl)) ?_; (with_reducible refine (careenageref01_Reader_Number.calls k1 g656 x657000_1 1 t665 t666 t667 w _ ?side1 ?side2 A7.out).mono ?_); (case side1 => repeat (first | (with_reducible first | exact HI656.out | apply IsS96.alloc | apply IsS96.drewN | apply IsS96.drew | apply IsS96.set_0 | refine IsS96.far ?_ NB656_654.out _) | exact HI656.out)); (case side2 => repeat (first | (with_reducible first | exact HB.out | apply below_alloc | apply pw_below_drewN | apply below_drew1 | refine below_set ?_ (IsS96.ge HI656.out) | refine below_set ?_ GE654.out) | exact HB.out)); rintro e w16 ⟨rfl, hi, hb, hk⟩; refine ⟨_, rfl, ?_⟩; have n0_ := Aside0.mk (Kd.R_mono (Kd.R_keep (IsS96.apart (show IsS96 w _ g656 x657000_1 from by repeat (first | (with_reducible first | exact HI656.out | apply IsS96.alloc | apply IsS96.drewN | apply IsS96.drew | apply IsS96.set_0 | refine IsS96.far ?_ NB656_654.out _) | exact HI656.out)) (by (with_reducible repeat (first | apply Kd.R_alloc | apply Kd.R_drewN | apply Kd.R_drew)); exact HO_5.out) (by decide)) hk (fun _ h => h.2)) (fun _ h => h.1)); have n1_ := Aside0.mk (KeepBut.blk hk (g' := gb654) (o := .cells #[.int .i64 a0_0, .int .i64 a0_1, .int .u32 a0_2, .int .u32 a0_3, .int .u64 a0_4, .string a0_5] 39 (0, 0)) (by (with_reducible repeat (first | refine blk_drewN ?_ _ | refine blk_drew ?_ | refine blk_alloc ?_ _)); exact BK654.out) NB654_656.out (by simp)); have n2_ := Aside0.mk (hb); have n3_ := Aside0.mk (hi); clear HO_5; clear BK654; clear HB; clear HI656; have HO_5 := n0_; have BK654 := n1_; have HB := n2_; have HI656 := n3_; clear n0_ n1_ n2_ n3_; (try clear hb); (try clear hb2); (try clear hk); (try clear hi)) | ((with_reducible refine gate_callee (f := 73) rfl ?_); refine goesL_ (some 33) rfl rfl Try.func73 (by kernel_rfl) rfl #[.pointer (some ⟨g656, 0, none⟩), .int .i64 (wrap64 (t665))] rfl (by (try simp only [List.map_toArray, List.map_cons, List.map_nil]); first | done | rfl | (simp only [List.length_drop, List.length_take]; rfl)) ?_; (with_reducible refine (careenageref01_Reader_Bytes.calls g656 t667 (wrap64 (t665)) t668 t669 t670 w _ ?side1 ?side2 A8.out).mono ?_); (case side1 => repeat (first | (with_reducible first | exact HI656.out | apply IsS96.alloc | apply IsS96.drewN | apply IsS96.drew | apply IsS96.set_0 | refine IsS96.far ?_ NB656_654.out _) | exact HI656.out)); (case side2 => repeat (first | (with_reducible first | exact HB.out | apply below_alloc | apply pw_below_drewN | apply below_drew1 | refine below_set ?_ (IsS96.ge HI656.out) | refine below_set ?_ GE654.out) | exact HB.out)); rintro e w17 ⟨rfl, hi, hb, hk⟩; refine ⟨_, rfl, ?_⟩; have n0_ := Aside0.mk (Kd.R_mono (Kd.R_keep (IsS96.apart (show IsS96 w _ g656 t667 from by repeat (first | (with_reducible first | exact HI656.out | apply IsS96.alloc | apply IsS96.drewN | apply IsS96.drew | apply IsS96.set_0 | refine IsS96.far ?_ NB656_654.out _) | exact HI656.out)) (by (with_reducible repeat (first | apply Kd.R_alloc | apply Kd.R_drewN | apply Kd.R_drew)); exact HO_5.out) (by decide)) hk (fun _ h => h.2)) (fun _ h => h.1)); have n1_ := Aside0.mk (KeepBut.blk hk (g' := gb654) (o := .cells #[.int .i64 a0_0, .int .i64 a0_1, .int .u32 a0_2, .int .u32 a0_3, .int .u64 a0_4, .string a0_5] 39 (0, 0)) (by (with_reducible repeat (first | refine blk_drewN ?_ _ | refine blk_drew ?_ | refine blk_alloc ?_ _)); exact BK654.out) NB654_656.out (by simp)); have n2_ := Aside0.mk (hb); have n3_ := Aside0.mk (hi); clear HO_5; clear BK654; clear HB; clear HI656; have HO_5 := n0_; have BK654 := n1_; have HB := n2_; have HI656 := n3_; clear n0_ n1_ n2_ n3_; (try clear hb); (try clear hb2); (try clear hk); (try clear hi)) | ((with_reducible refine gate_callee (f := 69) rfl ?_); refine goesL_ (some 38) rfl rfl Try.func69 (by kernel_rfl) rfl #[.pointer (some ⟨g656, 0, none⟩), .int .i64 4] rfl (by (try simp only [List.map_toArray, List.map_cons, List.map_nil]); first | done | rfl | (simp only [List.length_drop, List.length_take]; rfl)) ?_; (with_reducible refine (careenageref01_Reader_Number.calls k1 g656 t670 4 t671 t672 t673 w _ ?side1 ?side2 A9.out).mono ?_); (case side1 => repeat (first | (with_reducible first | exact HI656.out | apply IsS96.alloc | apply IsS96.drewN | apply IsS96.drew | apply IsS96.set_0 | refine IsS96.far ?_ NB656_654.out _) | exact HI656.out)); (case side2 => repeat (first | (with_reducible first | exact HB.out | apply below_alloc | apply pw_below_drewN | apply below_drew1 | refine below_set ?_ (IsS96.ge HI656.out) | refine below_set ?_ GE654.out) | exact HB.out)); rintro e w18 ⟨rfl, hi, hb, hk⟩; refine ⟨_, rfl, ?_⟩; have n0_ := Aside0.mk (Kd.R_mono (Kd.R_keep (IsS96.apart (show IsS96 w _ g656 t670 from by repeat (first | (with_reducible first | exact HI656.out | apply IsS96.alloc | apply IsS96.drewN | apply IsS96.drew | apply IsS96.set_0 | refine IsS96.far ?_ NB656_654.out _) | exact HI656.out)) (by (with_reducible repeat (first | apply Kd.R_alloc | apply Kd.R_drewN | apply Kd.R_drew)); exact HO_5.out) (by decide)) hk (fun _ h => h.2)) (fun _ h => h.1)); have n1_ := Aside0.mk (KeepBut.blk hk (g' := gb654) (o := .cells #[.int .i64 a0_0, .int .i64 a0_1, .int .u32 a0_2, .int .u32 a0_3, .int .u64 a0_4, .string a0_5] 39 (0, 0)) (by (with_reducible repeat (first | refine blk_drewN ?_ _ | refine blk_drew ?_ | refine blk_alloc ?_ _)); exact BK654.out) NB654_656.out (by simp)); have n2_ := Aside0.mk (hb); have n3_ := Aside0.mk (hi); clear HO_5; clear BK654; clear HB; clear HI656; have HO_5 := n0_; have BK654 := n1_; have HB := n2_; have HI656 := n3_; clear n0_ n1_ n2_ n3_; (try clear hb); (try clear hb2); (try clear hk); (try clear hi)) | ((with_reducible refine gate_builtin (b := .append) (xs := #[.tmp 51, .tmp 56]) rfl ?_); at_builtin; refine Kd.R_append k46 (w0 := w) w.heap.size rfl (.tmp 51) (.tmp 56) 36 46 (.agg #[(.string ⟨#[]⟩), (.int .u32 0)]) 24 rfl Try.underlying36 info46 rfl (by decide) (by omega) u5 x5_1 (⟨t668, (t671) % 4294967296⟩ : S46) [.string t668, .int .u32 ((t671) % 4294967296)] (fun _ => True) (fun _ => False) rfl rfl ?aP (fun _ hk => hk.elim) ?aF ?aO ?aB ?aS ?aL ?_; (case aP => exact k46_mkM _ _ _ (⟨t668, (t671) % 4294967296⟩ : S46)); (case aB => exact (by repeat (first | (with_reducible first | exact HB.out | apply below_alloc | apply pw_below_drewN | apply below_drew1 | refine below_set ?_ (IsS96.ge HI656.out) | refine below_set ?_ GE654.out) | exact HB.out))); (case aF => exact (fun _ _ => trivial)); (case aO => exact (by (with_reducible repeat (first | apply Kd.R_alloc | apply Kd.R_drewN | apply Kd.R_drew)); exact HO_5.out)); (case aS => exact (below_size (by repeat (first | (with_reducible first | exact HB.out | apply below_alloc | apply pw_below_drewN | apply below_drew1 | refine below_set ?_ (IsS96.ge HI656.out) | refine below_set ?_ GE654.out) | exact HB.out)))); (case aL => have := LMc13.out; omega); intro v675 w19 ho hb hg hat; rw [← Ny674.out] at ho; have n0_ := Aside0.mk (blk_grown (g := gb654) (o := .cells #[.int .i64 a0_0, .int .i64 a0_1, .int .u32 a0_2, .int .u32 a0_3, .int .u64 a0_4, .string a0_5] 39 (0, 0)) (by (with_reducible repeat (first | refine blk_drewN ?_ _ | refine blk_drew ?_ | refine blk_alloc ?_ _)); exact BK654.out) hg (Kd.R_ne HO_5.out BK654.out (by decide))); have n1_ := Aside0.mk (IsS96.grown (by repeat (first | (with_reducible first | exact HI656.out | apply IsS96.alloc | apply IsS96.drewN | apply IsS96.drew | apply IsS96.set_0 | refine IsS96.far ?_ NB656_654.out _) | exact HI656.out)) hg (IsS96.own_ne HI656.out HO_5.out (by decide))); have n2_ := Aside0.mk (hb); have n3_ := Aside0.mk (ho); clear BK654; clear HI656; clear HB; clear HO_5; have BK654 := n0_; have HI656 := n1_; have HB := n2_; have HO676 := n3_; clear n0_ n1_ n2_ n3_; clear ho hb hg hat))
                go_roundg k1
                case measure => have := HK1.out; omega
                case rel => exact ⟨(y674), (wrap64 (x6_1 + 1)), (t673), (by first | rfl | (simp; done) | (simp [*]; done)), H', ⟨by have := HK1.out; omega⟩, ⟨by (with_reducible repeat (first | apply Kd.R_alloc | apply Kd.R_drewN | apply Kd.R_drew)); exact HO676.out⟩, ⟨by (with_reducible repeat (first | refine blk_drewN ?_ _ | refine blk_drew ?_ | refine blk_alloc ?_ _)); exact BK654.out⟩, ⟨by repeat (first | (with_reducible first | exact HI656.out | apply IsS96.alloc | apply IsS96.drewN | apply IsS96.drew | apply IsS96.set_0 | refine IsS96.far ?_ NB656_654.out _) | exact HI656.out)⟩, ⟨by repeat (first | (with_reducible first | exact HB.out | apply below_alloc | apply pw_below_drewN | apply below_drew1 | refine below_set ?_ (IsS96.ge HI656.out) | refine below_set ?_ GE654.out) | exact HB.out)⟩⟩
              · rw [if_neg c13] at H
                exact absurd H (by simp)
            · rw [if_neg c12] at H
              have c12b0 : (t672 == 0) = false := beq_eq_false_iff_ne.mpr c12
              have c12b1 : (t672 != 0) = true := bne_iff_ne.mpr c12
              simp only [Option.some.injEq, Prod.mk.injEq] at H
              obtain ⟨rfl, rfl⟩ := H
              have hnb20 := NB654_656.out
              have hnc20 := NB656_654.out
              have hcz21_0 : wr.cell? ⟨gb654, 0, none⟩ = some (.int .i64 a0_0) := (blk_cell BK654.out 0).trans rfl
              have hcz21_1 : wr.cell? ⟨gb654, 1, none⟩ = some (.int .i64 a0_1) := (blk_cell BK654.out 1).trans rfl
              have hcz21_2 : wr.cell? ⟨gb654, 2, none⟩ = some (.int .u32 a0_2) := (blk_cell BK654.out 2).trans rfl
              have hcz21_3 : wr.cell? ⟨gb654, 3, none⟩ = some (.int .u32 a0_3) := (blk_cell BK654.out 3).trans rfl
              have hcz21_4 : wr.cell? ⟨gb654, 4, none⟩ = some (.int .u64 a0_4) := (blk_cell BK654.out 4).trans rfl
              have hcz21_5 : wr.cell? ⟨gb654, 5, none⟩ = some (.string a0_5) := (blk_cell BK654.out 5).trans rfl
              have hfz21_0 := blk_frozen BK654.out 0
              have hfz21_1 := blk_frozen BK654.out 1
              have hfz21_2 := blk_frozen BK654.out 2
              have hfz21_3 := blk_frozen BK654.out 3
              have hfz21_4 := blk_frozen BK654.out 4
              have hfz21_5 := blk_frozen BK654.out 5
              go_wp2_with (first | ((with_reducible refine gate_callee (f := 69) rfl ?_); refine goesL_ (some 26) rfl rfl Try.func69 (by kernel_rfl) rfl #[.pointer (some ⟨g656, 0, none⟩), .int .i64 1] rfl (by (try simp only [List.map_toArray, List.map_cons, List.map_nil]); first | done | rfl | (simp only [List.length_drop, List.length_take]; rfl)) ?_; (with_reducible refine (careenageref01_Reader_Number.calls k1 g656 x657000_1 1 t665 t666 t667 w _ ?side1 ?side2 A7.out).mono ?_); (case side1 => repeat (first | (with_reducible first | exact HI656.out | apply IsS96.alloc | apply IsS96.drewN | apply IsS96.drew | apply IsS96.set_0 | refine IsS96.far ?_ NB656_654.out _) | exact HI656.out)); (case side2 => repeat (first | (with_reducible first | exact HB.out | apply below_alloc | apply pw_below_drewN | apply below_drew1 | refine below_set ?_ (IsS96.ge HI656.out) | refine below_set ?_ GE654.out) | exact HB.out)); rintro e w22 ⟨rfl, hi, hb, hk⟩; refine ⟨_, rfl, ?_⟩; have n0_ := Aside0.mk (Kd.R_mono (Kd.R_keep (IsS96.apart (show IsS96 w _ g656 x657000_1 from by repeat (first | (with_reducible first | exact HI656.out | apply IsS96.alloc | apply IsS96.drewN | apply IsS96.drew | apply IsS96.set_0 | refine IsS96.far ?_ NB656_654.out _) | exact HI656.out)) (by (with_reducible repeat (first | apply Kd.R_alloc | apply Kd.R_drewN | apply Kd.R_drew)); exact HO_5.out) (by decide)) hk (fun _ h => h.2)) (fun _ h => h.1)); have n1_ := Aside0.mk (KeepBut.blk hk (g' := gb654) (o := .cells #[.int .i64 a0_0, .int .i64 a0_1, .int .u32 a0_2, .int .u32 a0_3, .int .u64 a0_4, .string a0_5] 39 (0, 0)) (by (with_reducible repeat (first | refine blk_drewN ?_ _ | refine blk_drew ?_ | refine blk_alloc ?_ _)); exact BK654.out) NB654_656.out (by simp)); have n2_ := Aside0.mk (hb); have n3_ := Aside0.mk (hi); clear HO_5; clear BK654; clear HB; clear HI656; have HO_5 := n0_; have BK654 := n1_; have HB := n2_; have HI656 := n3_; clear n0_ n1_ n2_ n3_; (try clear hb); (try clear hb2); (try clear hk); (try clear hi)) | ((with_reducible refine gate_callee (f := 73) rfl ?_); refine goesL_ (some 33) rfl rfl Try.func73 (by kernel_rfl) rfl #[.pointer (some ⟨g656, 0, none⟩), .int .i64 (wrap64 (t665))] rfl (by (try simp only [List.map_toArray, List.map_cons, List.map_nil]); first | done | rfl | (simp only [List.length_drop, List.length_take]; rfl)) ?_; (with_reducible refine (careenageref01_Reader_Bytes.calls g656 t667 (wrap64 (t665)) t668 t669 t670 w _ ?side1 ?side2 A8.out).mono ?_); (case side1 => repeat (first | (with_reducible first | exact HI656.out | apply IsS96.alloc | apply IsS96.drewN | apply IsS96.drew | apply IsS96.set_0 | refine IsS96.far ?_ NB656_654.out _) | exact HI656.out)); (case side2 => repeat (first | (with_reducible first | exact HB.out | apply below_alloc | apply pw_below_drewN | apply below_drew1 | refine below_set ?_ (IsS96.ge HI656.out) | refine below_set ?_ GE654.out) | exact HB.out)); rintro e w23 ⟨rfl, hi, hb, hk⟩; refine ⟨_, rfl, ?_⟩; have n0_ := Aside0.mk (Kd.R_mono (Kd.R_keep (IsS96.apart (show IsS96 w _ g656 t667 from by repeat (first | (with_reducible first | exact HI656.out | apply IsS96.alloc | apply IsS96.drewN | apply IsS96.drew | apply IsS96.set_0 | refine IsS96.far ?_ NB656_654.out _) | exact HI656.out)) (by (with_reducible repeat (first | apply Kd.R_alloc | apply Kd.R_drewN | apply Kd.R_drew)); exact HO_5.out) (by decide)) hk (fun _ h => h.2)) (fun _ h => h.1)); have n1_ := Aside0.mk (KeepBut.blk hk (g' := gb654) (o := .cells #[.int .i64 a0_0, .int .i64 a0_1, .int .u32 a0_2, .int .u32 a0_3, .int .u64 a0_4, .string a0_5] 39 (0, 0)) (by (with_reducible repeat (first | refine blk_drewN ?_ _ | refine blk_drew ?_ | refine blk_alloc ?_ _)); exact BK654.out) NB654_656.out (by simp)); have n2_ := Aside0.mk (hb); have n3_ := Aside0.mk (hi); clear HO_5; clear BK654; clear HB; clear HI656; have HO_5 := n0_; have BK654 := n1_; have HB := n2_; have HI656 := n3_; clear n0_ n1_ n2_ n3_; (try clear hb); (try clear hb2); (try clear hk); (try clear hi)) | ((with_reducible refine gate_callee (f := 69) rfl ?_); refine goesL_ (some 38) rfl rfl Try.func69 (by kernel_rfl) rfl #[.pointer (some ⟨g656, 0, none⟩), .int .i64 4] rfl (by (try simp only [List.map_toArray, List.map_cons, List.map_nil]); first | done | rfl | (simp only [List.length_drop, List.length_take]; rfl)) ?_; (with_reducible refine (careenageref01_Reader_Number.calls k1 g656 t670 4 t671 t672 t673 w _ ?side1 ?side2 A9.out).mono ?_); (case side1 => repeat (first | (with_reducible first | exact HI656.out | apply IsS96.alloc | apply IsS96.drewN | apply IsS96.drew | apply IsS96.set_0 | refine IsS96.far ?_ NB656_654.out _) | exact HI656.out)); (case side2 => repeat (first | (with_reducible first | exact HB.out | apply below_alloc | apply pw_below_drewN | apply below_drew1 | refine below_set ?_ (IsS96.ge HI656.out) | refine below_set ?_ GE654.out) | exact HB.out)); rintro e w24 ⟨rfl, hi, hb, hk⟩; refine ⟨_, rfl, ?_⟩; have n0_ := Aside0.mk (Kd.R_mono (Kd.R_keep (IsS96.apart (show IsS96 w _ g656 t670 from by repeat (first | (with_reducible first | exact HI656.out | apply IsS96.alloc | apply IsS96.drewN | apply IsS96.drew | apply IsS96.set_0 | refine IsS96.far ?_ NB656_654.out _) | exact HI656.out)) (by (with_reducible repeat (first | apply Kd.R_alloc | apply Kd.R_drewN | apply Kd.R_drew)); exact HO_5.out) (by decide)) hk (fun _ h => h.2)) (fun _ h => h.1)); have n1_ := Aside0.mk (KeepBut.blk hk (g' := gb654) (o := .cells #[.int .i64 a0_0, .int .i64 a0_1, .int .u32 a0_2, .int .u32 a0_3, .int .u64 a0_4, .string a0_5] 39 (0, 0)) (by (with_reducible repeat (first | refine blk_drewN ?_ _ | refine blk_drew ?_ | refine blk_alloc ?_ _)); exact BK654.out) NB654_656.out (by simp)); have n2_ := Aside0.mk (hb); have n3_ := Aside0.mk (hi); clear HO_5; clear BK654; clear HB; clear HI656; have HO_5 := n0_; have BK654 := n1_; have HB := n2_; have HI656 := n3_; clear n0_ n1_ n2_ n3_; (try clear hb); (try clear hb2); (try clear hk); (try clear hi)))
              go_ret2
              exact ⟨_, by first | rfl | (simp [errW_none, errW_some] <;> rfl) | (simp [*, errW_none, errW_some] <;> rfl), by first | exact Kd.R_nil _ _ _ _ _ | exact Kd.N_nil _ _ _ _ _ | exact Kd.V_nil _ _ _ _ _ | exact Kd.Q_nil _ _ _ _ _ | exact Kd.S_nil _ _ _ _ _, by repeat (first | (with_reducible first | exact HB.out | apply below_alloc | apply pw_below_drewN | apply below_drew1 | refine below_set ?_ (IsS96.ge HI656.out) | refine below_set ?_ GE654.out) | exact HB.out)⟩
          · rw [if_neg c11] at H
            have c11b0 : (t669 == 0) = false := beq_eq_false_iff_ne.mpr c11
            have c11b1 : (t669 != 0) = true := bne_iff_ne.mpr c11
            simp only [Option.some.injEq, Prod.mk.injEq] at H
            obtain ⟨rfl, rfl⟩ := H
            have hnb25 := NB654_656.out
            have hnc25 := NB656_654.out
            have hcz26_0 : wr.cell? ⟨gb654, 0, none⟩ = some (.int .i64 a0_0) := (blk_cell BK654.out 0).trans rfl
            have hcz26_1 : wr.cell? ⟨gb654, 1, none⟩ = some (.int .i64 a0_1) := (blk_cell BK654.out 1).trans rfl
            have hcz26_2 : wr.cell? ⟨gb654, 2, none⟩ = some (.int .u32 a0_2) := (blk_cell BK654.out 2).trans rfl
            have hcz26_3 : wr.cell? ⟨gb654, 3, none⟩ = some (.int .u32 a0_3) := (blk_cell BK654.out 3).trans rfl
            have hcz26_4 : wr.cell? ⟨gb654, 4, none⟩ = some (.int .u64 a0_4) := (blk_cell BK654.out 4).trans rfl
            have hcz26_5 : wr.cell? ⟨gb654, 5, none⟩ = some (.string a0_5) := (blk_cell BK654.out 5).trans rfl
            have hfz26_0 := blk_frozen BK654.out 0
            have hfz26_1 := blk_frozen BK654.out 1
            have hfz26_2 := blk_frozen BK654.out 2
            have hfz26_3 := blk_frozen BK654.out 3
            have hfz26_4 := blk_frozen BK654.out 4
            have hfz26_5 := blk_frozen BK654.out 5
            go_wp2_with (first | ((with_reducible refine gate_callee (f := 69) rfl ?_); refine goesL_ (some 26) rfl rfl Try.func69 (by kernel_rfl) rfl #[.pointer (some ⟨g656, 0, none⟩), .int .i64 1] rfl (by (try simp only [List.map_toArray, List.map_cons, List.map_nil]); first | done | rfl | (simp only [List.length_drop, List.length_take]; rfl)) ?_; (with_reducible refine (careenageref01_Reader_Number.calls k1 g656 x657000_1 1 t665 t666 t667 w _ ?side1 ?side2 A7.out).mono ?_); (case side1 => repeat (first | (with_reducible first | exact HI656.out | apply IsS96.alloc | apply IsS96.drewN | apply IsS96.drew | apply IsS96.set_0 | refine IsS96.far ?_ NB656_654.out _) | exact HI656.out)); (case side2 => repeat (first | (with_reducible first | exact HB.out | apply below_alloc | apply pw_below_drewN | apply below_drew1 | refine below_set ?_ (IsS96.ge HI656.out) | refine below_set ?_ GE654.out) | exact HB.out)); rintro e w27 ⟨rfl, hi, hb, hk⟩; refine ⟨_, rfl, ?_⟩; have n0_ := Aside0.mk (Kd.R_mono (Kd.R_keep (IsS96.apart (show IsS96 w _ g656 x657000_1 from by repeat (first | (with_reducible first | exact HI656.out | apply IsS96.alloc | apply IsS96.drewN | apply IsS96.drew | apply IsS96.set_0 | refine IsS96.far ?_ NB656_654.out _) | exact HI656.out)) (by (with_reducible repeat (first | apply Kd.R_alloc | apply Kd.R_drewN | apply Kd.R_drew)); exact HO_5.out) (by decide)) hk (fun _ h => h.2)) (fun _ h => h.1)); have n1_ := Aside0.mk (KeepBut.blk hk (g' := gb654) (o := .cells #[.int .i64 a0_0, .int .i64 a0_1, .int .u32 a0_2, .int .u32 a0_3, .int .u64 a0_4, .string a0_5] 39 (0, 0)) (by (with_reducible repeat (first | refine blk_drewN ?_ _ | refine blk_drew ?_ | refine blk_alloc ?_ _)); exact BK654.out) NB654_656.out (by simp)); have n2_ := Aside0.mk (hb); have n3_ := Aside0.mk (hi); clear HO_5; clear BK654; clear HB; clear HI656; have HO_5 := n0_; have BK654 := n1_; have HB := n2_; have HI656 := n3_; clear n0_ n1_ n2_ n3_; (try clear hb); (try clear hb2); (try clear hk); (try clear hi)) | ((with_reducible refine gate_callee (f := 73) rfl ?_); refine goesL_ (some 33) rfl rfl Try.func73 (by kernel_rfl) rfl #[.pointer (some ⟨g656, 0, none⟩), .int .i64 (wrap64 (t665))] rfl (by (try simp only [List.map_toArray, List.map_cons, List.map_nil]); first | done | rfl | (simp only [List.length_drop, List.length_take]; rfl)) ?_; (with_reducible refine (careenageref01_Reader_Bytes.calls g656 t667 (wrap64 (t665)) t668 t669 t670 w _ ?side1 ?side2 A8.out).mono ?_); (case side1 => repeat (first | (with_reducible first | exact HI656.out | apply IsS96.alloc | apply IsS96.drewN | apply IsS96.drew | apply IsS96.set_0 | refine IsS96.far ?_ NB656_654.out _) | exact HI656.out)); (case side2 => repeat (first | (with_reducible first | exact HB.out | apply below_alloc | apply pw_below_drewN | apply below_drew1 | refine below_set ?_ (IsS96.ge HI656.out) | refine below_set ?_ GE654.out) | exact HB.out)); rintro e w28 ⟨rfl, hi, hb, hk⟩; refine ⟨_, rfl, ?_⟩; have n0_ := Aside0.mk (Kd.R_mono (Kd.R_keep (IsS96.apart (show IsS96 w _ g656 t667 from by repeat (first | (with_reducible first | exact HI656.out | apply IsS96.alloc | apply IsS96.drewN | apply IsS96.drew | apply IsS96.set_0 | refine IsS96.far ?_ NB656_654.out _) | exact HI656.out)) (by (with_reducible repeat (first | apply Kd.R_alloc | apply Kd.R_drewN | apply Kd.R_drew)); exact HO_5.out) (by decide)) hk (fun _ h => h.2)) (fun _ h => h.1)); have n1_ := Aside0.mk (KeepBut.blk hk (g' := gb654) (o := .cells #[.int .i64 a0_0, .int .i64 a0_1, .int .u32 a0_2, .int .u32 a0_3, .int .u64 a0_4, .string a0_5] 39 (0, 0)) (by (with_reducible repeat (first | refine blk_drewN ?_ _ | refine blk_drew ?_ | refine blk_alloc ?_ _)); exact BK654.out) NB654_656.out (by simp)); have n2_ := Aside0.mk (hb); have n3_ := Aside0.mk (hi); clear HO_5; clear BK654; clear HB; clear HI656; have HO_5 := n0_; have BK654 := n1_; have HB := n2_; have HI656 := n3_; clear n0_ n1_ n2_ n3_; (try clear hb); (try clear hb2); (try clear hk); (try clear hi)) | ((with_reducible refine gate_callee (f := 69) rfl ?_); refine goesL_ (some 38) rfl rfl Try.func69 (by kernel_rfl) rfl #[.pointer (some ⟨g656, 0, none⟩), .int .i64 4] rfl (by (try simp only [List.map_toArray, List.map_cons, List.map_nil]); first | done | rfl | (simp only [List.length_drop, List.length_take]; rfl)) ?_; (with_reducible refine (careenageref01_Reader_Number.calls k1 g656 t670 4 t671 t672 t673 w _ ?side1 ?side2 A9.out).mono ?_); (case side1 => repeat (first | (with_reducible first | exact HI656.out | apply IsS96.alloc | apply IsS96.drewN | apply IsS96.drew | apply IsS96.set_0 | refine IsS96.far ?_ NB656_654.out _) | exact HI656.out)); (case side2 => repeat (first | (with_reducible first | exact HB.out | apply below_alloc | apply pw_below_drewN | apply below_drew1 | refine below_set ?_ (IsS96.ge HI656.out) | refine below_set ?_ GE654.out) | exact HB.out)); rintro e w29 ⟨rfl, hi, hb, hk⟩; refine ⟨_, rfl, ?_⟩; have n0_ := Aside0.mk (Kd.R_mono (Kd.R_keep (IsS96.apart (show IsS96 w _ g656 t670 from by repeat (first | (with_reducible first | exact HI656.out | apply IsS96.alloc | apply IsS96.drewN | apply IsS96.drew | apply IsS96.set_0 | refine IsS96.far ?_ NB656_654.out _) | exact HI656.out)) (by (with_reducible repeat (first | apply Kd.R_alloc | apply Kd.R_drewN | apply Kd.R_drew)); exact HO_5.out) (by decide)) hk (fun _ h => h.2)) (fun _ h => h.1)); have n1_ := Aside0.mk (KeepBut.blk hk (g' := gb654) (o := .cells #[.int .i64 a0_0, .int .i64 a0_1, .int .u32 a0_2, .int .u32 a0_3, .int .u64 a0_4, .string a0_5] 39 (0, 0)) (by (with_reducible repeat (first | refine blk_drewN ?_ _ | refine blk_drew ?_ | refine blk_alloc ?_ _)); exact BK654.out) NB654_656.out (by simp)); have n2_ := Aside0.mk (hb); have n3_ := Aside0.mk (hi); clear HO_5; clear BK654; clear HB; clear HI656; have HO_5 := n0_; have BK654 := n1_; have HB := n2_; have HI656 := n3_; clear n0_ n1_ n2_ n3_; (try clear hb); (try clear hb2); (try clear hk); (try clear hi)))
            go_ret2
            exact ⟨_, by first | rfl | (simp [errW_none, errW_some] <;> rfl) | (simp [*, errW_none, errW_some] <;> rfl), by first | exact Kd.R_nil _ _ _ _ _ | exact Kd.N_nil _ _ _ _ _ | exact Kd.V_nil _ _ _ _ _ | exact Kd.Q_nil _ _ _ _ _ | exact Kd.S_nil _ _ _ _ _, by repeat (first | (with_reducible first | exact HB.out | apply below_alloc | apply pw_below_drewN | apply below_drew1 | refine below_set ?_ (IsS96.ge HI656.out) | refine below_set ?_ GE654.out) | exact HB.out)⟩
        · rw [if_neg c10] at H
          have c10b0 : (t666 == 0) = false := beq_eq_false_iff_ne.mpr c10
          have c10b1 : (t666 != 0) = true := bne_iff_ne.mpr c10
          simp only [Option.some.injEq, Prod.mk.injEq] at H
          obtain ⟨rfl, rfl⟩ := H
          have hnb30 := NB654_656.out
          have hnc30 := NB656_654.out
          have hcz31_0 : wr.cell? ⟨gb654, 0, none⟩ = some (.int .i64 a0_0) := (blk_cell BK654.out 0).trans rfl
          have hcz31_1 : wr.cell? ⟨gb654, 1, none⟩ = some (.int .i64 a0_1) := (blk_cell BK654.out 1).trans rfl
          have hcz31_2 : wr.cell? ⟨gb654, 2, none⟩ = some (.int .u32 a0_2) := (blk_cell BK654.out 2).trans rfl
          have hcz31_3 : wr.cell? ⟨gb654, 3, none⟩ = some (.int .u32 a0_3) := (blk_cell BK654.out 3).trans rfl
          have hcz31_4 : wr.cell? ⟨gb654, 4, none⟩ = some (.int .u64 a0_4) := (blk_cell BK654.out 4).trans rfl
          have hcz31_5 : wr.cell? ⟨gb654, 5, none⟩ = some (.string a0_5) := (blk_cell BK654.out 5).trans rfl
          have hfz31_0 := blk_frozen BK654.out 0
          have hfz31_1 := blk_frozen BK654.out 1
          have hfz31_2 := blk_frozen BK654.out 2
          have hfz31_3 := blk_frozen BK654.out 3
          have hfz31_4 := blk_frozen BK654.out 4
          have hfz31_5 := blk_frozen BK654.out 5
          go_wp2_with (first | ((with_reducible refine gate_callee (f := 69) rfl ?_); refine goesL_ (some 26) rfl rfl Try.func69 (by kernel_rfl) rfl #[.pointer (some ⟨g656, 0, none⟩), .int .i64 1] rfl (by (try simp only [List.map_toArray, List.map_cons, List.map_nil]); first | done | rfl | (simp only [List.length_drop, List.length_take]; rfl)) ?_; (with_reducible refine (careenageref01_Reader_Number.calls k1 g656 x657000_1 1 t665 t666 t667 w _ ?side1 ?side2 A7.out).mono ?_); (case side1 => repeat (first | (with_reducible first | exact HI656.out | apply IsS96.alloc | apply IsS96.drewN | apply IsS96.drew | apply IsS96.set_0 | refine IsS96.far ?_ NB656_654.out _) | exact HI656.out)); (case side2 => repeat (first | (with_reducible first | exact HB.out | apply below_alloc | apply pw_below_drewN | apply below_drew1 | refine below_set ?_ (IsS96.ge HI656.out) | refine below_set ?_ GE654.out) | exact HB.out)); rintro e w32 ⟨rfl, hi, hb, hk⟩; refine ⟨_, rfl, ?_⟩; have n0_ := Aside0.mk (Kd.R_mono (Kd.R_keep (IsS96.apart (show IsS96 w _ g656 x657000_1 from by repeat (first | (with_reducible first | exact HI656.out | apply IsS96.alloc | apply IsS96.drewN | apply IsS96.drew | apply IsS96.set_0 | refine IsS96.far ?_ NB656_654.out _) | exact HI656.out)) (by (with_reducible repeat (first | apply Kd.R_alloc | apply Kd.R_drewN | apply Kd.R_drew)); exact HO_5.out) (by decide)) hk (fun _ h => h.2)) (fun _ h => h.1)); have n1_ := Aside0.mk (KeepBut.blk hk (g' := gb654) (o := .cells #[.int .i64 a0_0, .int .i64 a0_1, .int .u32 a0_2, .int .u32 a0_3, .int .u64 a0_4, .string a0_5] 39 (0, 0)) (by (with_reducible repeat (first | refine blk_drewN ?_ _ | refine blk_drew ?_ | refine blk_alloc ?_ _)); exact BK654.out) NB654_656.out (by simp)); have n2_ := Aside0.mk (hb); have n3_ := Aside0.mk (hi); clear HO_5; clear BK654; clear HB; clear HI656; have HO_5 := n0_; have BK654 := n1_; have HB := n2_; have HI656 := n3_; clear n0_ n1_ n2_ n3_; (try clear hb); (try clear hb2); (try clear hk); (try clear hi)) | ((with_reducible refine gate_callee (f := 73) rfl ?_); refine goesL_ (some 33) rfl rfl Try.func73 (by kernel_rfl) rfl #[.pointer (some ⟨g656, 0, none⟩), .int .i64 (wrap64 (t665))] rfl (by (try simp only [List.map_toArray, List.map_cons, List.map_nil]); first | done | rfl | (simp only [List.length_drop, List.length_take]; rfl)) ?_; (with_reducible refine (careenageref01_Reader_Bytes.calls g656 t667 (wrap64 (t665)) t668 t669 t670 w _ ?side1 ?side2 A8.out).mono ?_); (case side1 => repeat (first | (with_reducible first | exact HI656.out | apply IsS96.alloc | apply IsS96.drewN | apply IsS96.drew | apply IsS96.set_0 | refine IsS96.far ?_ NB656_654.out _) | exact HI656.out)); (case side2 => repeat (first | (with_reducible first | exact HB.out | apply below_alloc | apply pw_below_drewN | apply below_drew1 | refine below_set ?_ (IsS96.ge HI656.out) | refine below_set ?_ GE654.out) | exact HB.out)); rintro e w33 ⟨rfl, hi, hb, hk⟩; refine ⟨_, rfl, ?_⟩; have n0_ := Aside0.mk (Kd.R_mono (Kd.R_keep (IsS96.apart (show IsS96 w _ g656 t667 from by repeat (first | (with_reducible first | exact HI656.out | apply IsS96.alloc | apply IsS96.drewN | apply IsS96.drew | apply IsS96.set_0 | refine IsS96.far ?_ NB656_654.out _) | exact HI656.out)) (by (with_reducible repeat (first | apply Kd.R_alloc | apply Kd.R_drewN | apply Kd.R_drew)); exact HO_5.out) (by decide)) hk (fun _ h => h.2)) (fun _ h => h.1)); have n1_ := Aside0.mk (KeepBut.blk hk (g' := gb654) (o := .cells #[.int .i64 a0_0, .int .i64 a0_1, .int .u32 a0_2, .int .u32 a0_3, .int .u64 a0_4, .string a0_5] 39 (0, 0)) (by (with_reducible repeat (first | refine blk_drewN ?_ _ | refine blk_drew ?_ | refine blk_alloc ?_ _)); exact BK654.out) NB654_656.out (by simp)); have n2_ := Aside0.mk (hb); have n3_ := Aside0.mk (hi); clear HO_5; clear BK654; clear HB; clear HI656; have HO_5 := n0_; have BK654 := n1_; have HB := n2_; have HI656 := n3_; clear n0_ n1_ n2_ n3_; (try clear hb); (try clear hb2); (try clear hk); (try clear hi)) | ((with_reducible refine gate_callee (f := 69) rfl ?_); refine goesL_ (some 38) rfl rfl Try.func69 (by kernel_rfl) rfl #[.pointer (some ⟨g656, 0, none⟩), .int .i64 4] rfl (by (try simp only [List.map_toArray, List.map_cons, List.map_nil]); first | done | rfl | (simp only [List.length_drop, List.length_take]; rfl)) ?_; (with_reducible refine (careenageref01_Reader_Number.calls k1 g656 t670 4 t671 t672 t673 w _ ?side1 ?side2 A9.out).mono ?_); (case side1 => repeat (first | (with_reducible first | exact HI656.out | apply IsS96.alloc | apply IsS96.drewN | apply IsS96.drew | apply IsS96.set_0 | refine IsS96.far ?_ NB656_654.out _) | exact HI656.out)); (case side2 => repeat (first | (with_reducible first | exact HB.out | apply below_alloc | apply pw_below_drewN | apply below_drew1 | refine below_set ?_ (IsS96.ge HI656.out) | refine below_set ?_ GE654.out) | exact HB.out)); rintro e w34 ⟨rfl, hi, hb, hk⟩; refine ⟨_, rfl, ?_⟩; have n0_ := Aside0.mk (Kd.R_mono (Kd.R_keep (IsS96.apart (show IsS96 w _ g656 t670 from by repeat (first | (with_reducible first | exact HI656.out | apply IsS96.alloc | apply IsS96.drewN | apply IsS96.drew | apply IsS96.set_0 | refine IsS96.far ?_ NB656_654.out _) | exact HI656.out)) (by (with_reducible repeat (first | apply Kd.R_alloc | apply Kd.R_drewN | apply Kd.R_drew)); exact HO_5.out) (by decide)) hk (fun _ h => h.2)) (fun _ h => h.1)); have n1_ := Aside0.mk (KeepBut.blk hk (g' := gb654) (o := .cells #[.int .i64 a0_0, .int .i64 a0_1, .int .u32 a0_2, .int .u32 a0_3, .int .u64 a0_4, .string a0_5] 39 (0, 0)) (by (with_reducible repeat (first | refine blk_drewN ?_ _ | refine blk_drew ?_ | refine blk_alloc ?_ _)); exact BK654.out) NB654_656.out (by simp)); have n2_ := Aside0.mk (hb); have n3_ := Aside0.mk (hi); clear HO_5; clear BK654; clear HB; clear HI656; have HO_5 := n0_; have BK654 := n1_; have HB := n2_; have HI656 := n3_; clear n0_ n1_ n2_ n3_; (try clear hb); (try clear hb2); (try clear hk); (try clear hi)))
          go_ret2
          exact ⟨_, by first | rfl | (simp [errW_none, errW_some] <;> rfl) | (simp [*, errW_none, errW_some] <;> rfl), by first | exact Kd.R_nil _ _ _ _ _ | exact Kd.N_nil _ _ _ _ _ | exact Kd.V_nil _ _ _ _ _ | exact Kd.Q_nil _ _ _ _ _ | exact Kd.S_nil _ _ _ _ _, by repeat (first | (with_reducible first | exact HB.out | apply below_alloc | apply pw_below_drewN | apply below_drew1 | refine below_set ?_ (IsS96.ge HI656.out) | refine below_set ?_ GE654.out) | exact HB.out)⟩
      · rw [if_neg c6] at H
        have c6b0 : decide (x6_1 < a0_1) = false := decide_eq_false c6
        clear c6
        replace H := Option.bind_eq_some_iff.mp H
        obtain ⟨⟨t657, t658, t659, t660, t661, t662, t663⟩, A350, H⟩ := H
        replace H : (if t663 = 0 then (if (!(t657 == a0_0) || (!(t658 == a0_1) || (!(t659 == a0_2) || (!(t660 == a0_3) || (!(t661 == a0_4) || (!(t662.toList == a0_5.toList))))))) = true then (some (([] : List (S46)), 4)) else (some (x5_1, 0))) else (some (([] : List (S46)), 4))) = some (r1, r2) := H
        have A35 := Aside0.mk A350
        clear A350
        by_cases c36 : t663 = 0
        · rw [if_pos c36] at H
          have c36b0 : (t663 == 0) = true := beq_iff_eq.mpr c36
          have c36b1 : (t663 != 0) = false := bne_eq_false_iff_eq.mpr c36
          clear c36
          by_cases c37 : (!(t657 == a0_0) || (!(t658 == a0_1) || (!(t659 == a0_2) || (!(t660 == a0_3) || (!(t661 == a0_4) || (!(t662.toList == a0_5.toList))))))) = true
          · rw [if_pos c37] at H
            have c37b0 : (!(t657 == a0_0) || (!(t658 == a0_1) || (!(t659 == a0_2) || (!(t660 == a0_3) || (!(t661 == a0_4) || (!(t662.toList == a0_5.toList))))))) = true := c37
            clear c37
            simp only [Option.some.injEq, Prod.mk.injEq] at H
            obtain ⟨rfl, rfl⟩ := H
            have hnb38 := NB654_656.out
            have hnc38 := NB656_654.out
            have hcz39_0 : wr.cell? ⟨gb654, 0, none⟩ = some (.int .i64 a0_0) := (blk_cell BK654.out 0).trans rfl
            have hcz39_1 : wr.cell? ⟨gb654, 1, none⟩ = some (.int .i64 a0_1) := (blk_cell BK654.out 1).trans rfl
            have hcz39_2 : wr.cell? ⟨gb654, 2, none⟩ = some (.int .u32 a0_2) := (blk_cell BK654.out 2).trans rfl
            have hcz39_3 : wr.cell? ⟨gb654, 3, none⟩ = some (.int .u32 a0_3) := (blk_cell BK654.out 3).trans rfl
            have hcz39_4 : wr.cell? ⟨gb654, 4, none⟩ = some (.int .u64 a0_4) := (blk_cell BK654.out 4).trans rfl
            have hcz39_5 : wr.cell? ⟨gb654, 5, none⟩ = some (.string a0_5) := (blk_cell BK654.out 5).trans rfl
            have hfz39_0 := blk_frozen BK654.out 0
            have hfz39_1 := blk_frozen BK654.out 1
            have hfz39_2 := blk_frozen BK654.out 2
            have hfz39_3 := blk_frozen BK654.out 3
            have hfz39_4 := blk_frozen BK654.out 4
            have hfz39_5 := blk_frozen BK654.out 5
            obtain ⟨Ao40, co40, eo40⟩ := Kd.R_slice HO_5.out
            subst eo40
            go_wp2_with (first | ((with_reducible refine gate_callee (f := 44) rfl ?_); refine goesL_ (some 68) rfl rfl Try.func44 (by kernel_rfl) rfl #[.int .i64 (wrap64 ((a0_5.size : Int) + 24)), .int .u32 a0_2, .int .u64 a0_4, .slice Ao40 x5_1.length co40] rfl (by (try simp only [List.map_toArray, List.map_cons, List.map_nil]); first | done | rfl | (simp only [List.length_drop, List.length_take]; rfl)) ?_; (with_reducible refine (careenageref07_Page.calls k1 (wrap64 ((a0_5.size : Int) + 24)) a0_2 a0_4 _ _ x5_1 t657 t658 t659 t660 t661 t662 t663 _ ?side1 ?side2 A35.out).mono ?_); (case side1 => repeat (first | exact (Kd.R_reads' HO_5.out).2.2 | (with_reducible refine Kd.C_alloc ?_ _) | (with_reducible refine Kd.C_drewN ?_ _) | (with_reducible refine Kd.C_drew ?_))); (case side2 => exact (Kd.R_reads' HO_5.out).2.1); rintro e w41 ⟨rfl, hb⟩; refine ⟨_, rfl, ?_⟩; have n0_ := Aside0.mk (Kd.R_below (by (with_reducible repeat (first | apply Kd.R_alloc | apply Kd.R_drewN | apply Kd.R_drew)); exact HO_5.out) hb); have n1_ := Aside0.mk (blk_below (g := gb654) (o := .cells #[.int .i64 a0_0, .int .i64 a0_1, .int .u32 a0_2, .int .u32 a0_3, .int .u64 a0_4, .string a0_5] 39 (0, 0)) (by (with_reducible repeat (first | refine blk_drewN ?_ _ | refine blk_drew ?_ | refine blk_alloc ?_ _)); exact BK654.out) hb); have n2_ := Aside0.mk (IsS96.below (by repeat (first | (with_reducible first | exact HI656.out | apply IsS96.alloc | apply IsS96.drewN | apply IsS96.drew | apply IsS96.set_0 | refine IsS96.far ?_ NB656_654.out _) | exact HI656.out)) hb); have n3_ := Aside0.mk (below_step (by repeat (first | (with_reducible first | exact HB.out | apply below_alloc | apply pw_below_drewN | apply below_drew1 | refine below_set ?_ (IsS96.ge HI656.out) | refine below_set ?_ GE654.out) | exact HB.out)) hb); clear HO_5; clear BK654; clear HI656; clear HB; have HO_5 := n0_; have BK654 := n1_; have HI656 := n2_; have HB := n3_; clear n0_ n1_ n2_ n3_; (try clear hb); (try clear hb2); (try clear hk); (try clear hi)) | ((with_reducible refine gate_dst (N := 13) rfl ?_); refine box_event ?hg (N := 13) ?hd (cs := #[.int .i64 0, .int .i64 0, .int .u32 0, .int .u32 0, .int .u64 0, .string (⟨#[]⟩ : ByteArray)]) (t := 39) ?hr ?_; (case hd => rfl); (case hg => rfl); (case hr => first | (go_simp; done) | (go_simp; rfl)); intro gb664 hg w42 hbox hb; have n0_ := Aside0.mk (Kd.R_below (by (with_reducible repeat (first | apply Kd.R_alloc | apply Kd.R_drewN | apply Kd.R_drew)); exact HO_5.out) hb); have n1_ := Aside0.mk (blk_below (g := gb654) (o := .cells #[.int .i64 a0_0, .int .i64 a0_1, .int .u32 a0_2, .int .u32 a0_3, .int .u64 a0_4, .string a0_5] 39 (0, 0)) (by (with_reducible repeat (first | refine blk_drewN ?_ _ | refine blk_drew ?_ | refine blk_alloc ?_ _)); exact BK654.out) hb); have n2_ := Aside0.mk (IsS96.below (by repeat (first | (with_reducible first | exact HI656.out | apply IsS96.alloc | apply IsS96.drewN | apply IsS96.drew | apply IsS96.set_0 | refine IsS96.far ?_ NB656_654.out _) | exact HI656.out)) hb); have n3_ := Aside0.mk (below_step (by repeat (first | (with_reducible first | exact HB.out | apply below_alloc | apply pw_below_drewN | apply below_drew1 | refine below_set ?_ (IsS96.ge HI656.out) | refine below_set ?_ GE654.out) | exact HB.out)) hb); have n4_ := Aside0.mk (hbox); have n5_ := Aside0.mk ((by rw [hg]; exact (below_size (by repeat (first | (with_reducible first | exact HB.out | apply below_alloc | apply pw_below_drewN | apply below_drew1 | refine below_set ?_ (IsS96.ge HI656.out) | refine below_set ?_ GE654.out) | exact HB.out))) : w.heap.size ≤ gb664)); have n6_ := Aside0.mk ((by rw [hg]; exact (below_size (by repeat (first | (with_reducible first | exact HB.out | apply below_alloc | apply pw_below_drewN | apply below_drew1 | refine below_set ?_ (IsS96.ge HI656.out) | refine below_set ?_ GE654.out) | exact HB.out))) : w.heap.size ≤ gb664)); have n7_ := Aside0.mk ((by rw [hg]; exact Nat.ne_of_lt (blk_lt (g := gb654) (o := .cells #[.int .i64 a0_0, .int .i64 a0_1, .int .u32 a0_2, .int .u32 a0_3, .int .u64 a0_4, .string a0_5] 39 (0, 0)) (by (with_reducible repeat (first | refine blk_drewN ?_ _ | refine blk_drew ?_ | refine blk_alloc ?_ _)); exact BK654.out)) : gb654 ≠ gb664)); have n8_ := Aside0.mk ((by rw [hg]; exact Nat.ne_of_gt (blk_lt (g := gb654) (o := .cells #[.int .i64 a0_0, .int .i64 a0_1, .int .u32 a0_2, .int .u32 a0_3, .int .u64 a0_4, .string a0_5] 39 (0, 0)) (by (with_reducible repeat (first | refine blk_drewN ?_ _ | refine blk_drew ?_ | refine blk_alloc ?_ _)); exact BK654.out)) : gb664 ≠ gb654)); have n9_ := Aside0.mk ((by rw [hg]; exact Nat.ne_of_lt (IsS96.lt (show IsS96 w _ g656 x657000_1 from by repeat (first | (with_reducible first | exact HI656.out | apply IsS96.alloc | apply IsS96.drewN | apply IsS96.drew | apply IsS96.set_0 | refine IsS96.far ?_ NB656_654.out _) | exact HI656.out))) : g656 ≠ gb664)); have n10_ := Aside0.mk ((by rw [hg]; exact Nat.ne_of_gt (IsS96.lt (show IsS96 w _ g656 x657000_1 from by repeat (first | (with_reducible first | exact HI656.out | apply IsS96.alloc | apply IsS96.drewN | apply IsS96.drew | apply IsS96.set_0 | refine IsS96.far ?_ NB656_654.out _) | exact HI656.out))) : gb664 ≠ g656)); clear HO_5; clear BK654; clear HI656; clear HB; have HO_5 := n0_; have BK654 := n1_; have HI656 := n2_; have HB := n3_; have BK664 := n4_; have GW664 := n5_; have GE664 := n6_; have NB654_664 := n7_; have NB664_654 := n8_; have NB656_664 := n9_; have NB664_656 := n10_; clear n0_ n1_ n2_ n3_ n4_ n5_ n6_ n7_ n8_ n9_ n10_; clear hb hbox hg; have hnb43 := NB664_654.out; have hnc43 := NB654_664.out; have hnb44 := NB664_656.out; have hnc44 := NB656_664.out; have hcz45_0 : w42.cell? ⟨gb664, 0, none⟩ = some (.int .i64 0) := (blk_cell BK664.out 0).trans rfl; have hcz45_1 : w42.cell? ⟨gb664, 1, none⟩ = some (.int .i64 0) := (blk_cell BK664.out 1).trans rfl; have hcz45_2 : w42.cell? ⟨gb664, 2, none⟩ = some (.int .u32 0) := (blk_cell BK664.out 2).trans rfl; have hcz45_3 : w42.cell? ⟨gb664, 3, none⟩ = some (.int .u32 0) := (blk_cell BK664.out 3).trans rfl; have hcz45_4 : w42.cell? ⟨gb664, 4, none⟩ = some (.int .u64 0) := (blk_cell BK664.out 4).trans rfl; have hcz45_5 : w42.cell? ⟨gb664, 5, none⟩ = some (.string (⟨#[]⟩ : ByteArray)) := (blk_cell BK664.out 5).trans rfl; have hfz45_0 := blk_frozen BK664.out 0; have hfz45_1 := blk_frozen BK664.out 1; have hfz45_2 := blk_frozen BK664.out 2; have hfz45_3 := blk_frozen BK664.out 3; have hfz45_4 := blk_frozen BK664.out 4; have hfz45_5 := blk_frozen BK664.out 5; have hcz46_0 : w42.cell? ⟨gb654, 0, none⟩ = some (.int .i64 a0_0) := (blk_cell BK654.out 0).trans rfl; have hcz46_1 : w42.cell? ⟨gb654, 1, none⟩ = some (.int .i64 a0_1) := (blk_cell BK654.out 1).trans rfl; have hcz46_2 : w42.cell? ⟨gb654, 2, none⟩ = some (.int .u32 a0_2) := (blk_cell BK654.out 2).trans rfl; have hcz46_3 : w42.cell? ⟨gb654, 3, none⟩ = some (.int .u32 a0_3) := (blk_cell BK654.out 3).trans rfl; have hcz46_4 : w42.cell? ⟨gb654, 4, none⟩ = some (.int .u64 a0_4) := (blk_cell BK654.out 4).trans rfl; have hcz46_5 : w42.cell? ⟨gb654, 5, none⟩ = some (.string a0_5) := (blk_cell BK654.out 5).trans rfl; have hfz46_0 := blk_frozen BK654.out 0; have hfz46_1 := blk_frozen BK654.out 1; have hfz46_2 := blk_frozen BK654.out 2; have hfz46_3 := blk_frozen BK654.out 3; have hfz46_4 := blk_frozen BK654.out 4; have hfz46_5 := blk_frozen BK654.out 5))
            go_ret2
            exact ⟨_, by first | rfl | (simp [errW_none, errW_some] <;> rfl) | (simp [*, errW_none, errW_some] <;> rfl), by first | exact Kd.R_nil _ _ _ _ _ | exact Kd.N_nil _ _ _ _ _ | exact Kd.V_nil _ _ _ _ _ | exact Kd.Q_nil _ _ _ _ _ | exact Kd.S_nil _ _ _ _ _, by repeat (first | (with_reducible first | exact HB.out | apply below_alloc | apply pw_below_drewN | apply below_drew1 | refine below_set ?_ (IsS96.ge HI656.out) | refine below_set ?_ GE654.out | refine below_set ?_ GE664.out) | exact HB.out)⟩
          · rw [if_neg c37] at H
            have c37b0 : (!(t657 == a0_0) || (!(t658 == a0_1) || (!(t659 == a0_2) || (!(t660 == a0_3) || (!(t661 == a0_4) || (!(t662.toList == a0_5.toList))))))) = false := by first | (simp; done) | (simp at c37; done) | simpa using c37
            clear c37
            simp only [Option.some.injEq, Prod.mk.injEq] at H
            obtain ⟨rfl, rfl⟩ := H
            have hnb47 := NB654_656.out
            have hnc47 := NB656_654.out
            have hcz48_0 : wr.cell? ⟨gb654, 0, none⟩ = some (.int .i64 a0_0) := (blk_cell BK654.out 0).trans rfl
            have hcz48_1 : wr.cell? ⟨gb654, 1, none⟩ = some (.int .i64 a0_1) := (blk_cell BK654.out 1).trans rfl
            have hcz48_2 : wr.cell? ⟨gb654, 2, none⟩ = some (.int .u32 a0_2) := (blk_cell BK654.out 2).trans rfl
            have hcz48_3 : wr.cell? ⟨gb654, 3, none⟩ = some (.int .u32 a0_3) := (blk_cell BK654.out 3).trans rfl
            have hcz48_4 : wr.cell? ⟨gb654, 4, none⟩ = some (.int .u64 a0_4) := (blk_cell BK654.out 4).trans rfl
            have hcz48_5 : wr.cell? ⟨gb654, 5, none⟩ = some (.string a0_5) := (blk_cell BK654.out 5).trans rfl
            have hfz48_0 := blk_frozen BK654.out 0
            have hfz48_1 := blk_frozen BK654.out 1
            have hfz48_2 := blk_frozen BK654.out 2
            have hfz48_3 := blk_frozen BK654.out 3
            have hfz48_4 := blk_frozen BK654.out 4
            have hfz48_5 := blk_frozen BK654.out 5
            obtain ⟨Ao49, co49, eo49⟩ := Kd.R_slice HO_5.out
            subst eo49
            go_wp2_with (first | ((with_reducible refine gate_callee (f := 44) rfl ?_); refine goesL_ (some 68) rfl rfl Try.func44 (by kernel_rfl) rfl #[.int .i64 (wrap64 ((a0_5.size : Int) + 24)), .int .u32 a0_2, .int .u64 a0_4, .slice Ao49 x5_1.length co49] rfl (by (try simp only [List.map_toArray, List.map_cons, List.map_nil]); first | done | rfl | (simp only [List.length_drop, List.length_take]; rfl)) ?_; (with_reducible refine (careenageref07_Page.calls k1 (wrap64 ((a0_5.size : Int) + 24)) a0_2 a0_4 _ _ x5_1 t657 t658 t659 t660 t661 t662 t663 _ ?side1 ?side2 A35.out).mono ?_); (case side1 => repeat (first | exact (Kd.R_reads' HO_5.out).2.2 | (with_reducible refine Kd.C_alloc ?_ _) | (with_reducible refine Kd.C_drewN ?_ _) | (with_reducible refine Kd.C_drew ?_))); (case side2 => exact (Kd.R_reads' HO_5.out).2.1); rintro e w50 ⟨rfl, hb⟩; refine ⟨_, rfl, ?_⟩; have n0_ := Aside0.mk (Kd.R_below (by (with_reducible repeat (first | apply Kd.R_alloc | apply Kd.R_drewN | apply Kd.R_drew)); exact HO_5.out) hb); have n1_ := Aside0.mk (blk_below (g := gb654) (o := .cells #[.int .i64 a0_0, .int .i64 a0_1, .int .u32 a0_2, .int .u32 a0_3, .int .u64 a0_4, .string a0_5] 39 (0, 0)) (by (with_reducible repeat (first | refine blk_drewN ?_ _ | refine blk_drew ?_ | refine blk_alloc ?_ _)); exact BK654.out) hb); have n2_ := Aside0.mk (IsS96.below (by repeat (first | (with_reducible first | exact HI656.out | apply IsS96.alloc | apply IsS96.drewN | apply IsS96.drew | apply IsS96.set_0 | refine IsS96.far ?_ NB656_654.out _) | exact HI656.out)) hb); have n3_ := Aside0.mk (below_step (by repeat (first | (with_reducible first | exact HB.out | apply below_alloc | apply pw_below_drewN | apply below_drew1 | refine below_set ?_ (IsS96.ge HI656.out) | refine below_set ?_ GE654.out) | exact HB.out)) hb); clear HO_5; clear BK654; clear HI656; clear HB; have HO_5 := n0_; have BK654 := n1_; have HI656 := n2_; have HB := n3_; clear n0_ n1_ n2_ n3_; (try clear hb); (try clear hb2); (try clear hk); (try clear hi)) | ((with_reducible refine gate_dst (N := 13) rfl ?_); refine box_event ?hg (N := 13) ?hd (cs := #[.int .i64 0, .int .i64 0, .int .u32 0, .int .u32 0, .int .u64 0, .string (⟨#[]⟩ : ByteArray)]) (t := 39) ?hr ?_; (case hd => rfl); (case hg => rfl); (case hr => first | (go_simp; done) | (go_simp; rfl)); intro gb664 hg w51 hbox hb; have n0_ := Aside0.mk (Kd.R_below (by (with_reducible repeat (first | apply Kd.R_alloc | apply Kd.R_drewN | apply Kd.R_drew)); exact HO_5.out) hb); have n1_ := Aside0.mk (blk_below (g := gb654) (o := .cells #[.int .i64 a0_0, .int .i64 a0_1, .int .u32 a0_2, .int .u32 a0_3, .int .u64 a0_4, .string a0_5] 39 (0, 0)) (by (with_reducible repeat (first | refine blk_drewN ?_ _ | refine blk_drew ?_ | refine blk_alloc ?_ _)); exact BK654.out) hb); have n2_ := Aside0.mk (IsS96.below (by repeat (first | (with_reducible first | exact HI656.out | apply IsS96.alloc | apply IsS96.drewN | apply IsS96.drew | apply IsS96.set_0 | refine IsS96.far ?_ NB656_654.out _) | exact HI656.out)) hb); have n3_ := Aside0.mk (below_step (by repeat (first | (with_reducible first | exact HB.out | apply below_alloc | apply pw_below_drewN | apply below_drew1 | refine below_set ?_ (IsS96.ge HI656.out) | refine below_set ?_ GE654.out) | exact HB.out)) hb); have n4_ := Aside0.mk (hbox); have n5_ := Aside0.mk ((by rw [hg]; exact (below_size (by repeat (first | (with_reducible first | exact HB.out | apply below_alloc | apply pw_below_drewN | apply below_drew1 | refine below_set ?_ (IsS96.ge HI656.out) | refine below_set ?_ GE654.out) | exact HB.out))) : w.heap.size ≤ gb664)); have n6_ := Aside0.mk ((by rw [hg]; exact (below_size (by repeat (first | (with_reducible first | exact HB.out | apply below_alloc | apply pw_below_drewN | apply below_drew1 | refine below_set ?_ (IsS96.ge HI656.out) | refine below_set ?_ GE654.out) | exact HB.out))) : w.heap.size ≤ gb664)); have n7_ := Aside0.mk ((by rw [hg]; exact Nat.ne_of_lt (blk_lt (g := gb654) (o := .cells #[.int .i64 a0_0, .int .i64 a0_1, .int .u32 a0_2, .int .u32 a0_3, .int .u64 a0_4, .string a0_5] 39 (0, 0)) (by (with_reducible repeat (first | refine blk_drewN ?_ _ | refine blk_drew ?_ | refine blk_alloc ?_ _)); exact BK654.out)) : gb654 ≠ gb664)); have n8_ := Aside0.mk ((by rw [hg]; exact Nat.ne_of_gt (blk_lt (g := gb654) (o := .cells #[.int .i64 a0_0, .int .i64 a0_1, .int .u32 a0_2, .int .u32 a0_3, .int .u64 a0_4, .string a0_5] 39 (0, 0)) (by (with_reducible repeat (first | refine blk_drewN ?_ _ | refine blk_drew ?_ | refine blk_alloc ?_ _)); exact BK654.out)) : gb664 ≠ gb654)); have n9_ := Aside0.mk ((by rw [hg]; exact Nat.ne_of_lt (IsS96.lt (show IsS96 w _ g656 x657000_1 from by repeat (first | (with_reducible first | exact HI656.out | apply IsS96.alloc | apply IsS96.drewN | apply IsS96.drew | apply IsS96.set_0 | refine IsS96.far ?_ NB656_654.out _) | exact HI656.out))) : g656 ≠ gb664)); have n10_ := Aside0.mk ((by rw [hg]; exact Nat.ne_of_gt (IsS96.lt (show IsS96 w _ g656 x657000_1 from by repeat (first | (with_reducible first | exact HI656.out | apply IsS96.alloc | apply IsS96.drewN | apply IsS96.drew | apply IsS96.set_0 | refine IsS96.far ?_ NB656_654.out _) | exact HI656.out))) : gb664 ≠ g656)); clear HO_5; clear BK654; clear HI656; clear HB; have HO_5 := n0_; have BK654 := n1_; have HI656 := n2_; have HB := n3_; have BK664 := n4_; have GW664 := n5_; have GE664 := n6_; have NB654_664 := n7_; have NB664_654 := n8_; have NB656_664 := n9_; have NB664_656 := n10_; clear n0_ n1_ n2_ n3_ n4_ n5_ n6_ n7_ n8_ n9_ n10_; clear hb hbox hg; have hnb52 := NB664_654.out; have hnc52 := NB654_664.out; have hnb53 := NB664_656.out; have hnc53 := NB656_664.out; have hcz54_0 : w51.cell? ⟨gb664, 0, none⟩ = some (.int .i64 0) := (blk_cell BK664.out 0).trans rfl; have hcz54_1 : w51.cell? ⟨gb664, 1, none⟩ = some (.int .i64 0) := (blk_cell BK664.out 1).trans rfl; have hcz54_2 : w51.cell? ⟨gb664, 2, none⟩ = some (.int .u32 0) := (blk_cell BK664.out 2).trans rfl; have hcz54_3 : w51.cell? ⟨gb664, 3, none⟩ = some (.int .u32 0) := (blk_cell BK664.out 3).trans rfl; have hcz54_4 : w51.cell? ⟨gb664, 4, none⟩ = some (.int .u64 0) := (blk_cell BK664.out 4).trans rfl; have hcz54_5 : w51.cell? ⟨gb664, 5, none⟩ = some (.string (⟨#[]⟩ : ByteArray)) := (blk_cell BK664.out 5).trans rfl; have hfz54_0 := blk_frozen BK664.out 0; have hfz54_1 := blk_frozen BK664.out 1; have hfz54_2 := blk_frozen BK664.out 2; have hfz54_3 := blk_frozen BK664.out 3; have hfz54_4 := blk_frozen BK664.out 4; have hfz54_5 := blk_frozen BK664.out 5; have hcz55_0 : w51.cell? ⟨gb654, 0, none⟩ = some (.int .i64 a0_0) := (blk_cell BK654.out 0).trans rfl; have hcz55_1 : w51.cell? ⟨gb654, 1, none⟩ = some (.int .i64 a0_1) := (blk_cell BK654.out 1).trans rfl; have hcz55_2 : w51.cell? ⟨gb654, 2, none⟩ = some (.int .u32 a0_2) := (blk_cell BK654.out 2).trans rfl; have hcz55_3 : w51.cell? ⟨gb654, 3, none⟩ = some (.int .u32 a0_3) := (blk_cell BK654.out 3).trans rfl; have hcz55_4 : w51.cell? ⟨gb654, 4, none⟩ = some (.int .u64 a0_4) := (blk_cell BK654.out 4).trans rfl; have hcz55_5 : w51.cell? ⟨gb654, 5, none⟩ = some (.string a0_5) := (blk_cell BK654.out 5).trans rfl; have hfz55_0 := blk_frozen BK654.out 0; have hfz55_1 := blk_frozen BK654.out 1; have hfz55_2 := blk_frozen BK654.out 2; have hfz55_3 := blk_frozen BK654.out 3; have hfz55_4 := blk_frozen BK654.out 4; have hfz55_5 := blk_frozen BK654.out 5))
            go_ret2
            exact ⟨_, by first | rfl | (simp [errW_none, errW_some] <;> rfl) | (simp [*, errW_none, errW_some] <;> rfl), by (with_reducible repeat (first | apply Kd.R_alloc | apply Kd.R_drewN | apply Kd.R_drew)); exact Kd.R_mono (Kd.R_far (p := ⟨gb664, 5, none⟩) (Kd.R_far (p := ⟨gb664, 4, none⟩) (Kd.R_far (p := ⟨gb664, 3, none⟩) (Kd.R_far (p := ⟨gb664, 2, none⟩) (Kd.R_far (p := ⟨gb664, 1, none⟩) (Kd.R_far (p := ⟨gb664, 0, none⟩) (Kd.R_types HO_5.out BK664.out (by decide)) (fun _ hk => hk.2) (.int .i64 t657)) (fun _ hk => hk.2) (.int .i64 t658)) (fun _ hk => hk.2) (.int .u32 t659)) (fun _ hk => hk.2) (.int .u32 t660)) (fun _ hk => hk.2) (.int .u64 t661)) (fun _ hk => hk.2) (.string t662)) (fun _ hk => trivial), by repeat (first | (with_reducible first | exact HB.out | apply below_alloc | apply pw_below_drewN | apply below_drew1 | refine below_set ?_ (IsS96.ge HI656.out) | refine below_set ?_ GE654.out | refine below_set ?_ GE664.out) | exact HB.out)⟩
        · rw [if_neg c36] at H
          have c36b0 : (t663 == 0) = false := beq_eq_false_iff_ne.mpr c36
          have c36b1 : (t663 != 0) = true := bne_iff_ne.mpr c36
          simp only [Option.some.injEq, Prod.mk.injEq] at H
          obtain ⟨rfl, rfl⟩ := H
          have hnb56 := NB654_656.out
          have hnc56 := NB656_654.out
          have hcz57_0 : wr.cell? ⟨gb654, 0, none⟩ = some (.int .i64 a0_0) := (blk_cell BK654.out 0).trans rfl
          have hcz57_1 : wr.cell? ⟨gb654, 1, none⟩ = some (.int .i64 a0_1) := (blk_cell BK654.out 1).trans rfl
          have hcz57_2 : wr.cell? ⟨gb654, 2, none⟩ = some (.int .u32 a0_2) := (blk_cell BK654.out 2).trans rfl
          have hcz57_3 : wr.cell? ⟨gb654, 3, none⟩ = some (.int .u32 a0_3) := (blk_cell BK654.out 3).trans rfl
          have hcz57_4 : wr.cell? ⟨gb654, 4, none⟩ = some (.int .u64 a0_4) := (blk_cell BK654.out 4).trans rfl
          have hcz57_5 : wr.cell? ⟨gb654, 5, none⟩ = some (.string a0_5) := (blk_cell BK654.out 5).trans rfl
          have hfz57_0 := blk_frozen BK654.out 0
          have hfz57_1 := blk_frozen BK654.out 1
          have hfz57_2 := blk_frozen BK654.out 2
          have hfz57_3 := blk_frozen BK654.out 3
          have hfz57_4 := blk_frozen BK654.out 4
          have hfz57_5 := blk_frozen BK654.out 5
          obtain ⟨Ao58, co58, eo58⟩ := Kd.R_slice HO_5.out
          subst eo58
          go_wp2_with (first | ((with_reducible refine gate_callee (f := 44) rfl ?_); refine goesL_ (some 68) rfl rfl Try.func44 (by kernel_rfl) rfl #[.int .i64 (wrap64 ((a0_5.size : Int) + 24)), .int .u32 a0_2, .int .u64 a0_4, .slice Ao58 x5_1.length co58] rfl (by (try simp only [List.map_toArray, List.map_cons, List.map_nil]); first | done | rfl | (simp only [List.length_drop, List.length_take]; rfl)) ?_; (with_reducible refine (careenageref07_Page.calls k1 (wrap64 ((a0_5.size : Int) + 24)) a0_2 a0_4 _ _ x5_1 t657 t658 t659 t660 t661 t662 t663 _ ?side1 ?side2 A35.out).mono ?_); (case side1 => repeat (first | exact (Kd.R_reads' HO_5.out).2.2 | (with_reducible refine Kd.C_alloc ?_ _) | (with_reducible refine Kd.C_drewN ?_ _) | (with_reducible refine Kd.C_drew ?_))); (case side2 => exact (Kd.R_reads' HO_5.out).2.1); rintro e w59 ⟨rfl, hb⟩; refine ⟨_, rfl, ?_⟩; have n0_ := Aside0.mk (Kd.R_below (by (with_reducible repeat (first | apply Kd.R_alloc | apply Kd.R_drewN | apply Kd.R_drew)); exact HO_5.out) hb); have n1_ := Aside0.mk (blk_below (g := gb654) (o := .cells #[.int .i64 a0_0, .int .i64 a0_1, .int .u32 a0_2, .int .u32 a0_3, .int .u64 a0_4, .string a0_5] 39 (0, 0)) (by (with_reducible repeat (first | refine blk_drewN ?_ _ | refine blk_drew ?_ | refine blk_alloc ?_ _)); exact BK654.out) hb); have n2_ := Aside0.mk (IsS96.below (by repeat (first | (with_reducible first | exact HI656.out | apply IsS96.alloc | apply IsS96.drewN | apply IsS96.drew | apply IsS96.set_0 | refine IsS96.far ?_ NB656_654.out _) | exact HI656.out)) hb); have n3_ := Aside0.mk (below_step (by repeat (first | (with_reducible first | exact HB.out | apply below_alloc | apply pw_below_drewN | apply below_drew1 | refine below_set ?_ (IsS96.ge HI656.out) | refine below_set ?_ GE654.out) | exact HB.out)) hb); clear HO_5; clear BK654; clear HI656; clear HB; have HO_5 := n0_; have BK654 := n1_; have HI656 := n2_; have HB := n3_; clear n0_ n1_ n2_ n3_; (try clear hb); (try clear hb2); (try clear hk); (try clear hi)) | ((with_reducible refine gate_dst (N := 13) rfl ?_); refine box_event ?hg (N := 13) ?hd (cs := #[.int .i64 0, .int .i64 0, .int .u32 0, .int .u32 0, .int .u64 0, .string (⟨#[]⟩ : ByteArray)]) (t := 39) ?hr ?_; (case hd => rfl); (case hg => rfl); (case hr => first | (go_simp; done) | (go_simp; rfl)); intro gb664 hg w60 hbox hb; have n0_ := Aside0.mk (Kd.R_below (by (with_reducible repeat (first | apply Kd.R_alloc | apply Kd.R_drewN | apply Kd.R_drew)); exact HO_5.out) hb); have n1_ := Aside0.mk (blk_below (g := gb654) (o := .cells #[.int .i64 a0_0, .int .i64 a0_1, .int .u32 a0_2, .int .u32 a0_3, .int .u64 a0_4, .string a0_5] 39 (0, 0)) (by (with_reducible repeat (first | refine blk_drewN ?_ _ | refine blk_drew ?_ | refine blk_alloc ?_ _)); exact BK654.out) hb); have n2_ := Aside0.mk (IsS96.below (by repeat (first | (with_reducible first | exact HI656.out | apply IsS96.alloc | apply IsS96.drewN | apply IsS96.drew | apply IsS96.set_0 | refine IsS96.far ?_ NB656_654.out _) | exact HI656.out)) hb); have n3_ := Aside0.mk (below_step (by repeat (first | (with_reducible first | exact HB.out | apply below_alloc | apply pw_below_drewN | apply below_drew1 | refine below_set ?_ (IsS96.ge HI656.out) | refine below_set ?_ GE654.out) | exact HB.out)) hb); have n4_ := Aside0.mk (hbox); have n5_ := Aside0.mk ((by rw [hg]; exact (below_size (by repeat (first | (with_reducible first | exact HB.out | apply below_alloc | apply pw_below_drewN | apply below_drew1 | refine below_set ?_ (IsS96.ge HI656.out) | refine below_set ?_ GE654.out) | exact HB.out))) : w.heap.size ≤ gb664)); have n6_ := Aside0.mk ((by rw [hg]; exact (below_size (by repeat (first | (with_reducible first | exact HB.out | apply below_alloc | apply pw_below_drewN | apply below_drew1 | refine below_set ?_ (IsS96.ge HI656.out) | refine below_set ?_ GE654.out) | exact HB.out))) : w.heap.size ≤ gb664)); have n7_ := Aside0.mk ((by rw [hg]; exact Nat.ne_of_lt (blk_lt (g := gb654) (o := .cells #[.int .i64 a0_0, .int .i64 a0_1, .int .u32 a0_2, .int .u32 a0_3, .int .u64 a0_4, .string a0_5] 39 (0, 0)) (by (with_reducible repeat (first | refine blk_drewN ?_ _ | refine blk_drew ?_ | refine blk_alloc ?_ _)); exact BK654.out)) : gb654 ≠ gb664)); have n8_ := Aside0.mk ((by rw [hg]; exact Nat.ne_of_gt (blk_lt (g := gb654) (o := .cells #[.int .i64 a0_0, .int .i64 a0_1, .int .u32 a0_2, .int .u32 a0_3, .int .u64 a0_4, .string a0_5] 39 (0, 0)) (by (with_reducible repeat (first | refine blk_drewN ?_ _ | refine blk_drew ?_ | refine blk_alloc ?_ _)); exact BK654.out)) : gb664 ≠ gb654)); have n9_ := Aside0.mk ((by rw [hg]; exact Nat.ne_of_lt (IsS96.lt (show IsS96 w _ g656 x657000_1 from by repeat (first | (with_reducible first | exact HI656.out | apply IsS96.alloc | apply IsS96.drewN | apply IsS96.drew | apply IsS96.set_0 | refine IsS96.far ?_ NB656_654.out _) | exact HI656.out))) : g656 ≠ gb664)); have n10_ := Aside0.mk ((by rw [hg]; exact Nat.ne_of_gt (IsS96.lt (show IsS96 w _ g656 x657000_1 from by repeat (first | (with_reducible first | exact HI656.out | apply IsS96.alloc | apply IsS96.drewN | apply IsS96.drew | apply IsS96.set_0 | refine IsS96.far ?_ NB656_654.out _) | exact HI656.out))) : gb664 ≠ g656)); clear HO_5; clear BK654; clear HI656; clear HB; have HO_5 := n0_; have BK654 := n1_; have HI656 := n2_; have HB := n3_; have BK664 := n4_; have GW664 := n5_; have GE664 := n6_; have NB654_664 := n7_; have NB664_654 := n8_; have NB656_664 := n9_; have NB664_656 := n10_; clear n0_ n1_ n2_ n3_ n4_ n5_ n6_ n7_ n8_ n9_ n10_; clear hb hbox hg; have hnb61 := NB664_654.out; have hnc61 := NB654_664.out; have hnb62 := NB664_656.out; have hnc62 := NB656_664.out; have hcz63_0 : w60.cell? ⟨gb664, 0, none⟩ = some (.int .i64 0) := (blk_cell BK664.out 0).trans rfl; have hcz63_1 : w60.cell? ⟨gb664, 1, none⟩ = some (.int .i64 0) := (blk_cell BK664.out 1).trans rfl; have hcz63_2 : w60.cell? ⟨gb664, 2, none⟩ = some (.int .u32 0) := (blk_cell BK664.out 2).trans rfl; have hcz63_3 : w60.cell? ⟨gb664, 3, none⟩ = some (.int .u32 0) := (blk_cell BK664.out 3).trans rfl; have hcz63_4 : w60.cell? ⟨gb664, 4, none⟩ = some (.int .u64 0) := (blk_cell BK664.out 4).trans rfl; have hcz63_5 : w60.cell? ⟨gb664, 5, none⟩ = some (.string (⟨#[]⟩ : ByteArray)) := (blk_cell BK664.out 5).trans rfl; have hfz63_0 := blk_frozen BK664.out 0; have hfz63_1 := blk_frozen BK664.out 1; have hfz63_2 := blk_frozen BK664.out 2; have hfz63_3 := blk_frozen BK664.out 3; have hfz63_4 := blk_frozen BK664.out 4; have hfz63_5 := blk_frozen BK664.out 5))
          go_ret2
          exact ⟨_, by first | rfl | (simp [errW_none, errW_some] <;> rfl) | (simp [*, errW_none, errW_some] <;> rfl), by first | exact Kd.R_nil _ _ _ _ _ | exact Kd.N_nil _ _ _ _ _ | exact Kd.V_nil _ _ _ _ _ | exact Kd.Q_nil _ _ _ _ _ | exact Kd.S_nil _ _ _ _ _, by repeat (first | (with_reducible first | exact HB.out | apply below_alloc | apply pw_below_drewN | apply below_drew1 | refine below_set ?_ (IsS96.ge HI656.out) | refine below_set ?_ GE654.out | refine below_set ?_ GE664.out) | exact HB.out)⟩
end Go.Proofs.Ytlkfcabklaaacaa.P

namespace Go.Proofs.Ytlkfcabklaaacaa.P
open Go.RowKit Go.Proofs.YtlkfcabklaaacaaW.PrintWords Go.Proofs.YtlkfcabklaaacaaW.PrintLast Go.Proofs.YtlkfcabklaaacaaW.PrintMore
attribute [local go_sem] max2_int min2_int max_two min_two max_three min_three max_four min_four   -- for this text's walks alone
open Go.Proofs.YtlkfcabklaaacaaO
attribute [local go_sem] min2_str max2_str
attribute [local go_sem high] str_gtr str_leq
set_option linter.unusedVariables false
set_option linter.unusedSimpArgs false
/-! ### careenageref07_Pick: function 47 -/
def careenageref07_Pick.l0 : Nat → List (S46) → ByteArray → Int → Option (Int)
  | 0, _, _, _ => none
  | k + 1, x0, x1, x5 => if x5 < (x0.length : Int) then (if 0 ≤ x5 then (if ((Op.bytesLess x1.toList (((rd_T46 x0 x5).f0).toList)) = true) then (some (mx 0 (wrap64 (x5 - 1)))) else (careenageref07_Pick.l0 k x0 x1 (wrap64 (x5 + 1)))) else (none)) else (some (mx 0 (wrap64 (x5 - 1))))
def careenageref07_Pick.f (k : Nat) (l0 : List (S46)) (a1 : ByteArray) : Option (Int) := careenageref07_Pick.l0 k l0 a1 0
set_option maxHeartbeats 8000000 in
set_option maxRecDepth 100000 in
theorem careenageref07_Pick.calls (k : Nat) (A0 : Option Addr) (c0 : Nat) (l0 : List (S46)) (a1 : ByteArray) (r : Int) (w : World) (hr0 : Kd.C k46 w A0 l0.length l0) (hc0 : l0.length ≤ c0) (h : careenageref07_Pick.f k l0 a1 = some r) :
    Calls Try.prog 47 #[.slice A0 l0.length c0, .string a1] w fun e w' => e = .returned (.int .i64 r) ∧ Below w.heap.size w w' := by
  have HR0 := Aside0.mk hr0
  have HC0 := Aside0.mk hc0
  clear hr0 hc0
  have HB := Aside0.mk (Below.refl w.heap.size w)
  have H : (careenageref07_Pick.l0 k l0 a1 0) = some r := h
  clear h
  have H' := Aside0.mk H
  clear H
  go_enter Try.func47, Try.ntmps47
  go_wp2
  go_loopg [5] k (fun kq v5 w' => ∃ (x5_1 : Int), v5 = .int .i64 x5_1 ∧ Aside0 (careenageref07_Pick.l0 kq l0 a1 x5_1 = some r) ∧ Aside0 (kq ≤ k) ∧ Aside0 (Below w.heap.size w w'))
  case atStart => exact ⟨(0), (by first | rfl | (simp; done) | (simp [*]; done)), H', ⟨Nat.le_refl _⟩, ⟨by repeat (first | (with_reducible first | exact HB.out | apply below_alloc | apply pw_below_drewN | apply below_drew1) | exact HB.out)⟩⟩
  case round =>
    clear H'
    try clear p2
    obtain ⟨x5_1, rfl, HA, HK1, HB⟩ := hrel
    cases gk with
    | zero => exact absurd HA.out (by simp [careenageref07_Pick.l0])
    | succ k1 =>
      have H := HA.out
      clear HA
      simp only [careenageref07_Pick.l0] at H
      by_cases c3 : x5_1 < (l0.length : Int)
      · rw [if_pos c3] at H
        have c3b0 : decide (x5_1 < (l0.length : Int)) = true := decide_eq_true c3
        clear c3
        by_cases c4 : 0 ≤ x5_1
        · rw [if_pos c4] at H
          have c4b0 : decide (0 ≤ x5_1) = true := decide_eq_true c4
          clear c4
          by_cases c5 : ((Op.bytesLess a1.toList (((rd_T46 l0 x5_1).f0).toList)) = true)
          · rw [if_pos c5] at H
            have c5b0 : (Op.bytesLess a1.toList (((rd_T46 l0 x5_1).f0).toList)) = true := c5
            clear c5
            obtain ⟨ji6, hji6⟩ : ∃ j_ : Int, (mx 0 (wrap64 (x5_1 - 1))) = j_ := ⟨_, rfl⟩
            replace H : (some ji6) = some r := by first | (rw [hji6] at H; exact H) | (simp only [hji6] at H ⊢; exact H)
            have hji6_ : (if 0 < (wrap64 (x5_1 - 1)) then (wrap64 (x5_1 - 1)) else 0) = ji6 := hji6
            (try simp only [Int.ofNat_lt] at hji6_)
            obtain rfl := Option.some.inj H
            have p677 : 0 ≤ (x5_1 : Int) := of_decide_eq_true (by first | (with_reducible assumption) | assumption)
            have q677 : x5_1 < (l0.length : Int) := of_decide_eq_true (by first | (with_reducible assumption) | assumption)
            obtain ⟨ad677, e677, hx677_0, hx677_1⟩ := at_T46 HR0.out x5_1 p677 q677
            cases e677
            replace hx677_0 := (HB.out.cell (World.block_lt_of_cell? w _ hx677_0)).trans hx677_0
            replace hx677_1 := (HB.out.cell (World.block_lt_of_cell? w _ hx677_1)).trans hx677_1
            replace p677 := eq_true p677
            replace q677 := eq_true q677
            go_wp2
            go_ret
            exact ⟨by first | rfl | (simp [errW_none, errW_some] <;> rfl) | (simp only [← hji6]; first | rfl | (simp [errW_none, errW_some] <;> rfl)) | (simp [*, errW_none, errW_some] <;> rfl), by repeat (first | (with_reducible first | exact HB.out | apply below_alloc | apply pw_below_drewN | apply below_drew1) | exact HB.out)⟩
          · rw [if_neg c5] at H
            have c5b0 : (Op.bytesLess a1.toList (((rd_T46 l0 x5_1).f0).toList)) = false := by first | (simp; done) | (simp at c5; done) | simpa using c5
            clear c5
            have H' := Aside0.mk H
            clear H
            have p677 : 0 ≤ (x5_1 : Int) := of_decide_eq_true (by first | (with_reducible assumption) | assumption)
            have q677 : x5_1 < (l0.length : Int) := of_decide_eq_true (by first | (with_reducible assumption) | assumption)
            obtain ⟨ad677, e677, hx677_0, hx677_1⟩ := at_T46 HR0.out x5_1 p677 q677
            cases e677
            replace hx677_0 := (HB.out.cell (World.block_lt_of_cell? w _ hx677_0)).trans hx677_0
            replace hx677_1 := (HB.out.cell (World.block_lt_of_cell? w _ hx677_1)).trans hx677_1
            replace p677 := eq_true p677
            replace q677 := eq_true q677
            go_wp2
            go_roundg k1
            case measure => have := HK1.out; omega
            case rel => exact ⟨(wrap64 (x5_1 + 1)), (by first | rfl | (simp; done) | (simp [*]; done)), H', ⟨by have := HK1.out; omega⟩, ⟨by repeat (first | (with_reducible first | exact HB.out | apply below_alloc | apply pw_below_drewN | apply below_drew1) | exact HB.out)⟩⟩
        · rw [if_neg c4] at H
          exact absurd H (by simp)
      · rw [if_neg c3] at H
        have c3b0 : decide (x5_1 < (l0.length : Int)) = false := decide_eq_false c3
        clear c3
        obtain ⟨ji7, hji7⟩ : ∃ j_ : Int, (mx 0 (wrap64 (x5_1 - 1))) = j_ := ⟨_, rfl⟩
        replace H : (some ji7) = some r := by first | (rw [hji7] at H; exact H) | (simp only [hji7] at H ⊢; exact H)
        have hji7_ : (if 0 < (wrap64 (x5_1 - 1)) then (wrap64 (x5_1 - 1)) else 0) = ji7 := hji7
        (try simp only [Int.ofNat_lt] at hji7_)
        obtain rfl := Option.some.inj H
        go_wp2
        go_ret
        exact ⟨by first | rfl | (simp [errW_none, errW_some] <;> rfl) | (simp only [← hji7]; first | rfl | (simp [errW_none, errW_some] <;> rfl)) | (simp [*, errW_none, errW_some] <;> rfl), by repeat (first | (with_reducible first | exact HB.out | apply below_alloc | apply pw_below_drewN | apply below_drew1) | exact HB.out)⟩
end Go.Proofs.Ytlkfcabklaaacaa.P
