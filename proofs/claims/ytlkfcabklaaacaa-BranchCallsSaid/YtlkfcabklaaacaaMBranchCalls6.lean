/- The texts that the statement's row rests on, one behind the other. -/
import Derived.Test.YtlkfcabklaaacaaMBranchCalls1
import Derived.Test.YtlkfcabklaaacaaMBranchCalls2
import Derived.Test.YtlkfcabklaaacaaMBranchCalls3
import Derived.Test.YtlkfcabklaaacaaMBranchCalls5
import Derived.Lib.Strings
import Derived.Lib.Bytes
import Derived.Laws.BitsAllLaws
import Derived.Test.YtlkfcabklaaacaaMBranchCalls4
namespace Go.Proofs.Ytlkfcabklaaacaa.P
open Go.RowKit Go.Proofs.YtlkfcabklaaacaaW.PrintWords Go.Proofs.YtlkfcabklaaacaaW.PrintLast Go.Proofs.YtlkfcabklaaacaaW.PrintMore
attribute [local go_sem] max2_int min2_int max_two min_two max_three min_three max_four min_four   -- for this text's walks alone
open Go.Proofs.YtlkfcabklaaacaaO
attribute [local go_sem] min2_str max2_str
set_option linter.unusedVariables false
set_option linter.unusedSimpArgs false
attribute [local go_sem high] eqA39
/-! ### careenagelaw07_BranchCalls: function 11 -/
def careenagelaw07_BranchCalls.j0 : Nat → Int → Int → Int → List (S46) → ByteArray → Bool → Int → Int → Int → Int → Int → ByteArray → Option (Bool)
  | 0, _, _, _, _, _, _, _, _, _, _, _, _ => none
  | k + 1, x0, x1, x2, x3, x5, x36, x679000, x679001, x679002, x679003, x679004, x679005 => if x36 = true then (some true) else ((branch_Page.f k x0 x1 x2 x3).bind fun bt681 => ((careenageref07_Page.f k x0 x1 x2 x3).bind fun bt689 => ((branch_Of.f x679000 x679001 x679002 x679003 x679004 x679005).bind fun bt697 => ((careenageref07_Of.f k x679000 x679001 x679002 x679003 x679004 x679005).bind fun bt701 => (if (bt681.1 == bt689.1 && (bt681.2.1 == bt689.2.1 && (bt681.2.2.1 == bt689.2.2.1 && (bt681.2.2.2.1 == bt689.2.2.2.1 && (bt681.2.2.2.2.1 == bt689.2.2.2.2.1 && (bt681.2.2.2.2.2.1.toList == bt689.2.2.2.2.2.1.toList)))))) = true then (if bt681.2.2.2.2.2.2 = bt689.2.2.2.2.2.2 then ((api_Fork.f k bt697.1 bt701.1).bind fun t705 => (if t705 = true then (if bt697.2 = bt701.2 then ((branch_Size.f k x3).bind fun t706 => ((careenageref07_Size.f k x3).bind fun t707 => (if t706 = t707 then ((branch_Pick.f k x3 x5).bind fun t708 => ((careenageref07_Pick.f k x3 x5).bind fun t709 => (if t708 = t709 then ((branch_Key.f x5).bind fun t710 => ((careenageref07_Key.f x5).bind fun t711 => (some (t710 == t711)))) else (some false)))) else (some false)))) else (some false)) else (some false))) else (some false)) else (some false))))))
def careenagelaw07_BranchCalls.f (k : Nat) (a0 : Int) (a1 : Int) (a2 : Int) (l3 : List (S46)) (a4_0 : Int) (a4_1 : Int) (a4_2 : Int) (a4_3 : Int) (a4_4 : Int) (a4_5 : ByteArray) (a5 : ByteArray) : Option (Bool) := (careenagelaw07_lives.f k).bind fun t679 => (if t679 = true then ((careenagelaw07_light.f k l3).bind fun t680 => (if t680 = true then (if (a4_5.size : Int) > 4200 then (careenagelaw07_BranchCalls.j0 k a0 a1 a2 l3 a5 true a4_0 a4_1 a4_2 a4_3 a4_4 a4_5) else (careenagelaw07_BranchCalls.j0 k a0 a1 a2 l3 a5 (decide ((a5.size : Int) > 200)) a4_0 a4_1 a4_2 a4_3 a4_4 a4_5)) else (careenagelaw07_BranchCalls.j0 k a0 a1 a2 l3 a5 true a4_0 a4_1 a4_2 a4_3 a4_4 a4_5))) else (some false))
set_option maxHeartbeats 8000000 in
set_option maxRecDepth 100000 in
theorem careenagelaw07_BranchCalls.calls (k : Nat) (a0 : Int) (a1 : Int) (a2 : Int) (A3 : Option Addr) (c3 : Nat) (l3 : List (S46)) (a4_0 : Int) (a4_1 : Int) (a4_2 : Int) (a4_3 : Int) (a4_4 : Int) (a4_5 : ByteArray) (a5 : ByteArray) (r : Bool) (w : World) (hr3 : Kd.C k46 w A3 l3.length l3) (hc3 : l3.length ≤ c3) (hr_ : r = true) (h : careenagelaw07_BranchCalls.f k a0 a1 a2 l3 a4_0 a4_1 a4_2 a4_3 a4_4 a4_5 a5 = some r) :
    Calls Try.prog 11 #[.int .i64 a0, .int .u32 a1, .int .u64 a2, .slice A3 l3.length c3, .agg #[.int .i64 a4_0, .int .i64 a4_1, .int .u32 a4_2, .int .u32 a4_3, .int .u64 a4_4, .string a4_5], .string a5] w fun e w' => e = .returned (.bool r) ∧ Below w.heap.size w w' := by
  have hu39 := Try.underlying39
  have HR3 := Aside0.mk hr3
  have HC3 := Aside0.mk hc3
  clear hr3 hc3
  have HB := Aside0.mk (Below.refl w.heap.size w)
  have H : ((careenagelaw07_lives.f k).bind fun t679 => (if t679 = true then ((careenagelaw07_light.f k l3).bind fun t680 => (if t680 = true then (if (a4_5.size : Int) > 4200 then (careenagelaw07_BranchCalls.j0 k a0 a1 a2 l3 a5 true a4_0 a4_1 a4_2 a4_3 a4_4 a4_5) else (careenagelaw07_BranchCalls.j0 k a0 a1 a2 l3 a5 (decide ((a5.size : Int) > 200)) a4_0 a4_1 a4_2 a4_3 a4_4 a4_5)) else (careenagelaw07_BranchCalls.j0 k a0 a1 a2 l3 a5 true a4_0 a4_1 a4_2 a4_3 a4_4 a4_5))) else (some false))) = some r := h
  clear h
  have HLaw := Aside0.mk hr_
  clear hr_
  replace H := Option.bind_eq_some_iff.mp H
  obtain ⟨t679, A70, H⟩ := H
  replace H : (if t679 = true then ((careenagelaw07_light.f k l3).bind fun t680 => (if t680 = true then (if (a4_5.size : Int) > 4200 then (careenagelaw07_BranchCalls.j0 k a0 a1 a2 l3 a5 true a4_0 a4_1 a4_2 a4_3 a4_4 a4_5) else (careenagelaw07_BranchCalls.j0 k a0 a1 a2 l3 a5 (decide ((a5.size : Int) > 200)) a4_0 a4_1 a4_2 a4_3 a4_4 a4_5)) else (careenagelaw07_BranchCalls.j0 k a0 a1 a2 l3 a5 true a4_0 a4_1 a4_2 a4_3 a4_4 a4_5))) else (some false)) = some r := H
  have A7 := Aside0.mk A70
  clear A70
  by_cases c8 : t679 = true
  · subst c8
    have H1 : ((careenagelaw07_light.f k l3).bind fun t680 => (if t680 = true then (if (a4_5.size : Int) > 4200 then (careenagelaw07_BranchCalls.j0 k a0 a1 a2 l3 a5 true a4_0 a4_1 a4_2 a4_3 a4_4 a4_5) else (careenagelaw07_BranchCalls.j0 k a0 a1 a2 l3 a5 (decide ((a5.size : Int) > 200)) a4_0 a4_1 a4_2 a4_3 a4_4 a4_5)) else (careenagelaw07_BranchCalls.j0 k a0 a1 a2 l3 a5 true a4_0 a4_1 a4_2 a4_3 a4_4 a4_5))) = some r := by rw [if_pos rfl] at H; exact H
    clear H
    have H := H1
    clear H1
    have HC9 := Aside0.mk H
    clear H
    go_enter Try.func11, Try.ntmps11
    go_upto_region 3 with (first | ((with_reducible refine gate_dst (N := 10) rfl ?_); (try (refine gate_guard (by rfl) ?_; dsimp only)); refine box_event ?hg (N := 10) ?hd (cs := #[.int .i64 a4_0, .int .i64 a4_1, .int .u32 a4_2, .int .u32 a4_3, .int .u64 a4_4, .string a4_5]) (t := 39) ?hr ?_; (case hd => rfl); (case hg => rfl); (case hr => first | (go_simp; done) | (go_simp; rfl)); intro gb678 hg w10 hbox hb; have n0_ := Aside0.mk (below_step (by repeat (first | (with_reducible first | exact HB.out | apply below_alloc | apply pw_below_drewN | apply below_drew1) | exact HB.out)) hb); have n1_ := Aside0.mk (hbox); have n2_ := Aside0.mk ((by rw [hg]; exact (below_size (by repeat (first | (with_reducible first | exact HB.out | apply below_alloc | apply pw_below_drewN | apply below_drew1) | exact HB.out))) : w.heap.size ≤ gb678)); have n3_ := Aside0.mk ((by rw [hg]; exact (below_size (by repeat (first | (with_reducible first | exact HB.out | apply below_alloc | apply pw_below_drewN | apply below_drew1) | exact HB.out))) : w.heap.size ≤ gb678)); clear HB; have HB := n0_; have BK678 := n1_; have GW678 := n2_; have GE678 := n3_; clear n0_ n1_ n2_ n3_; clear hb hbox hg) | ((with_reducible refine gate_callee (f := 22) rfl ?_); refine goesL_ (some 21) rfl rfl Try.func22 (by kernel_rfl) rfl #[] rfl (by (try simp only [List.map_toArray, List.map_cons, List.map_nil]); first | done | rfl | (simp only [List.length_drop, List.length_take]; rfl)) ?_; (with_reducible refine (careenagelaw07_lives.calls k  true _ A7.out).mono ?_); rintro e w11 ⟨rfl, hb⟩; refine ⟨_, rfl, ?_⟩; have n0_ := Aside0.mk (blk_below (g := gb678) (o := .cells #[.int .i64 a4_0, .int .i64 a4_1, .int .u32 a4_2, .int .u32 a4_3, .int .u64 a4_4, .string a4_5] 39 (0, 0)) (by (with_reducible repeat (first | refine blk_drewN ?_ _ | refine blk_drew ?_ | refine blk_alloc ?_ _)); exact BK678.out) hb); have n1_ := Aside0.mk (below_step (by repeat (first | (with_reducible first | exact HB.out | apply below_alloc | apply pw_below_drewN | apply below_drew1 | refine below_set ?_ GE678.out) | exact HB.out)) hb); clear BK678; clear HB; have BK678 := n0_; have HB := n1_; clear n0_ n1_; (try clear hb); (try clear hb2); (try clear hk); (try clear hi)))
    (try simp only [Act.put, List.setIfInBounds_toArray, List.set_cons_zero, List.set_cons_succ])
    go_cut [36] (fun v36 wc => ∃ (kq : Nat) (x36_8 : Bool), v36 = .bool x36_8 ∧ Aside0 (careenagelaw07_BranchCalls.j0 kq a0 a1 a2 l3 a5 x36_8 a4_0 a4_1 a4_2 a4_3 a4_4 a4_5 = some r) ∧ Aside0 (kq ≤ k) ∧ Aside0 (wc.heap[gb678]? = some (.cells #[.int .i64 a4_0, .int .i64 a4_1, .int .u32 a4_2, .int .u32 a4_3, .int .u64 a4_4, .string a4_5] 39 (0, 0))) ∧ Aside0 (Below w.heap.size w wc))
    case first =>
      have H := HC9.out
      clear HC9
      replace H := Option.bind_eq_some_iff.mp H
      obtain ⟨t680, A120, H⟩ := H
      replace H : (if t680 = true then (if (a4_5.size : Int) > 4200 then (careenagelaw07_BranchCalls.j0 k a0 a1 a2 l3 a5 true a4_0 a4_1 a4_2 a4_3 a4_4 a4_5) else (careenagelaw07_BranchCalls.j0 k a0 a1 a2 l3 a5 (decide ((a5.size : Int) > 200)) a4_0 a4_1 a4_2 a4_3 a4_4 a4_5)) else (careenagelaw07_BranchCalls.j0 k a0 a1 a2 l3 a5 true a4_0 a4_1 a4_2 a4_3 a4_4 a4_5)) = some r := H
      have A12 := Aside0.mk A120
      clear A120
      by_cases c13 : t680 = true
      · subst c13
        have H1 : (if (a4_5.size : Int) > 4200 then (careenagelaw07_BranchCalls.j0 k a0 a1 a2 l3 a5 true a4_0 a4_1 a4_2 a4_3 a4_4 a4_5) else (careenagelaw07_BranchCalls.j0 k a0 a1 a2 l3 a5 (decide ((a5.size : Int) > 200)) a4_0 a4_1 a4_2 a4_3 a4_4 a4_5)) = some r := by rw [if_pos rfl] at H; exact H
        clear H
        have H := H1
        clear H1
        by_cases c14 : (a4_5.size : Int) > 4200
        · rw [if_pos c14] at H
          have c14b0 : decide (4200 < (a4_5.size : Int)) = true := decide_eq_true c14
          have c14b1 : decide (4200 < a4_5.size) = true := decide_eq_true (by omega)
          clear c14
          (first | rw [c14b0] | (simp only [i64_w, i32_w]; rw [c14b0]) | skip)
          have H' := Aside0.mk H
          clear H
          go_wp2_with (first | ((with_reducible refine gate_callee (f := 24) rfl ?_); refine goesL_ (some 24) rfl rfl Try.func24 (by kernel_rfl) rfl #[.slice A3 l3.length c3] rfl (by (try simp only [List.map_toArray, List.map_cons, List.map_nil]); first | done | rfl | (simp only [List.length_drop, List.length_take]; rfl)) ?_; (with_reducible refine (careenagelaw07_light.calls k _ _ l3 true _ ?side1 ?side2 A12.out).mono ?_); (case side1 => repeat (first | exact (Kd.C_below HR3.out HB.out) | (with_reducible refine Kd.C_alloc ?_ _) | (with_reducible refine Kd.C_drewN ?_ _) | (with_reducible refine Kd.C_drew ?_))); (case side2 => exact HC3.out); rintro e w15 ⟨rfl, hb⟩; refine ⟨_, rfl, ?_⟩; have n0_ := Aside0.mk (blk_below (g := gb678) (o := .cells #[.int .i64 a4_0, .int .i64 a4_1, .int .u32 a4_2, .int .u32 a4_3, .int .u64 a4_4, .string a4_5] 39 (0, 0)) (by (with_reducible repeat (first | refine blk_drewN ?_ _ | refine blk_drew ?_ | refine blk_alloc ?_ _)); exact BK678.out) hb); have n1_ := Aside0.mk (below_step (by repeat (first | (with_reducible first | exact HB.out | apply below_alloc | apply pw_below_drewN | apply below_drew1 | refine below_set ?_ GE678.out) | exact HB.out)) hb); clear BK678; clear HB; have BK678 := n0_; have HB := n1_; clear n0_ n1_; (try clear hb); (try clear hb2); (try clear hk); (try clear hi); have hcz16_0 : w15.cell? ⟨gb678, 0, none⟩ = some (.int .i64 a4_0) := (blk_cell BK678.out 0).trans rfl; have hcz16_1 : w15.cell? ⟨gb678, 1, none⟩ = some (.int .i64 a4_1) := (blk_cell BK678.out 1).trans rfl; have hcz16_2 : w15.cell? ⟨gb678, 2, none⟩ = some (.int .u32 a4_2) := (blk_cell BK678.out 2).trans rfl; have hcz16_3 : w15.cell? ⟨gb678, 3, none⟩ = some (.int .u32 a4_3) := (blk_cell BK678.out 3).trans rfl; have hcz16_4 : w15.cell? ⟨gb678, 4, none⟩ = some (.int .u64 a4_4) := (blk_cell BK678.out 4).trans rfl; have hcz16_5 : w15.cell? ⟨gb678, 5, none⟩ = some (.string a4_5) := (blk_cell BK678.out 5).trans rfl; have hfz16_0 := blk_frozen BK678.out 0; have hfz16_1 := blk_frozen BK678.out 1; have hfz16_2 := blk_frozen BK678.out 2; have hfz16_3 := blk_frozen BK678.out 3; have hfz16_4 := blk_frozen BK678.out 4; have hfz16_5 := blk_frozen BK678.out 5))
          go_meet
          case rel => exact ⟨_, (true), (by first | rfl | (simp; done) | (simp [*]; done)), H', ⟨by first | omega | exact Nat.le_refl _⟩, ⟨by (with_reducible repeat (first | refine blk_drewN ?_ _ | refine blk_drew ?_ | refine blk_alloc ?_ _)); exact BK678.out⟩, ⟨by repeat (first | (with_reducible first | exact HB.out | apply below_alloc | apply pw_below_drewN | apply below_drew1 | refine below_set ?_ GE678.out) | exact HB.out)⟩⟩
        · rw [if_neg c14] at H
          have c14b0 : decide (4200 < (a4_5.size : Int)) = false := decide_eq_false c14
          have c14b1 : decide (4200 < a4_5.size) = false := decide_eq_false (by omega)
          clear c14
          (first | rw [c14b0] | (simp only [i64_w, i32_w]; rw [c14b0]) | skip)
          have H' := Aside0.mk H
          clear H
          go_wp2_with (first | ((with_reducible refine gate_callee (f := 24) rfl ?_); refine goesL_ (some 24) rfl rfl Try.func24 (by kernel_rfl) rfl #[.slice A3 l3.length c3] rfl (by (try simp only [List.map_toArray, List.map_cons, List.map_nil]); first | done | rfl | (simp only [List.length_drop, List.length_take]; rfl)) ?_; (with_reducible refine (careenagelaw07_light.calls k _ _ l3 true _ ?side1 ?side2 A12.out).mono ?_); (case side1 => repeat (first | exact (Kd.C_below HR3.out HB.out) | (with_reducible refine Kd.C_alloc ?_ _) | (with_reducible refine Kd.C_drewN ?_ _) | (with_reducible refine Kd.C_drew ?_))); (case side2 => exact HC3.out); rintro e w17 ⟨rfl, hb⟩; refine ⟨_, rfl, ?_⟩; have n0_ := Aside0.mk (blk_below (g := gb678) (o := .cells #[.int .i64 a4_0, .int .i64 a4_1, .int .u32 a4_2, .int .u32 a4_3, .int .u64 a4_4, .string a4_5] 39 (0, 0)) (by (with_reducible repeat (first | refine blk_drewN ?_ _ | refine blk_drew ?_ | refine blk_alloc ?_ _)); exact BK678.out) hb); have n1_ := Aside0.mk (below_step (by repeat (first | (with_reducible first | exact HB.out | apply below_alloc | apply pw_below_drewN | apply below_drew1 | refine below_set ?_ GE678.out) | exact HB.out)) hb); clear BK678; clear HB; have BK678 := n0_; have HB := n1_; clear n0_ n1_; (try clear hb); (try clear hb2); (try clear hk); (try clear hi); have hcz18_0 : w17.cell? ⟨gb678, 0, none⟩ = some (.int .i64 a4_0) := (blk_cell BK678.out 0).trans rfl; have hcz18_1 : w17.cell? ⟨gb678, 1, none⟩ = some (.int .i64 a4_1) := (blk_cell BK678.out 1).trans rfl; have hcz18_2 : w17.cell? ⟨gb678, 2, none⟩ = some (.int .u32 a4_2) := (blk_cell BK678.out 2).trans rfl; have hcz18_3 : w17.cell? ⟨gb678, 3, none⟩ = some (.int .u32 a4_3) := (blk_cell BK678.out 3).trans rfl; have hcz18_4 : w17.cell? ⟨gb678, 4, none⟩ = some (.int .u64 a4_4) := (blk_cell BK678.out 4).trans rfl; have hcz18_5 : w17.cell? ⟨gb678, 5, none⟩ = some (.string a4_5) := (blk_cell BK678.out 5).trans rfl; have hfz18_0 := blk_frozen BK678.out 0; have hfz18_1 := blk_frozen BK678.out 1; have hfz18_2 := blk_frozen BK678.out 2; have hfz18_3 := blk_frozen BK678.out 3; have hfz18_4 := blk_frozen BK678.out 4; have hfz18_5 := blk_frozen BK678.out 5))
          go_meet
          case rel => exact ⟨_, (decide ((a5.size : Int) > 200)), (by first | rfl | (simp; done) | (simp [*]; done)), H', ⟨by first | omega | exact Nat.le_refl _⟩, ⟨by (with_reducible repeat (first | refine blk_drewN ?_ _ | refine blk_drew ?_ | refine blk_alloc ?_ _)); exact BK678.out⟩, ⟨by repeat (first | (with_reducible first | exact HB.out | apply below_alloc | apply pw_below_drewN | apply below_drew1 | refine below_set ?_ GE678.out) | exact HB.out)⟩⟩
      · replace c13 := Bool.eq_false_iff.mpr c13
        subst c13
        have H1 : (careenagelaw07_BranchCalls.j0 k a0 a1 a2 l3 a5 true a4_0 a4_1 a4_2 a4_3 a4_4 a4_5) = some r := by rw [if_neg (show ¬ (false = true) by decide)] at H; exact H
        clear H
        have H := H1
        clear H1
        have H' := Aside0.mk H
        clear H
        go_wp2_with (first | ((with_reducible refine gate_callee (f := 24) rfl ?_); refine goesL_ (some 24) rfl rfl Try.func24 (by kernel_rfl) rfl #[.slice A3 l3.length c3] rfl (by (try simp only [List.map_toArray, List.map_cons, List.map_nil]); first | done | rfl | (simp only [List.length_drop, List.length_take]; rfl)) ?_; (with_reducible refine (careenagelaw07_light.calls k _ _ l3 false _ ?side1 ?side2 A12.out).mono ?_); (case side1 => repeat (first | exact (Kd.C_below HR3.out HB.out) | (with_reducible refine Kd.C_alloc ?_ _) | (with_reducible refine Kd.C_drewN ?_ _) | (with_reducible refine Kd.C_drew ?_))); (case side2 => exact HC3.out); rintro e w19 ⟨rfl, hb⟩; refine ⟨_, rfl, ?_⟩; have n0_ := Aside0.mk (blk_below (g := gb678) (o := .cells #[.int .i64 a4_0, .int .i64 a4_1, .int .u32 a4_2, .int .u32 a4_3, .int .u64 a4_4, .string a4_5] 39 (0, 0)) (by (with_reducible repeat (first | refine blk_drewN ?_ _ | refine blk_drew ?_ | refine blk_alloc ?_ _)); exact BK678.out) hb); have n1_ := Aside0.mk (below_step (by repeat (first | (with_reducible first | exact HB.out | apply below_alloc | apply pw_below_drewN | apply below_drew1 | refine below_set ?_ GE678.out) | exact HB.out)) hb); clear BK678; clear HB; have BK678 := n0_; have HB := n1_; clear n0_ n1_; (try clear hb); (try clear hb2); (try clear hk); (try clear hi)))
        go_meet
        case rel => exact ⟨_, (true), (by first | rfl | (simp; done) | (simp [*]; done)), H', ⟨by first | omega | exact Nat.le_refl _⟩, ⟨by (with_reducible repeat (first | refine blk_drewN ?_ _ | refine blk_drew ?_ | refine blk_alloc ?_ _)); exact BK678.out⟩, ⟨by repeat (first | (with_reducible first | exact HB.out | apply below_alloc | apply pw_below_drewN | apply below_drew1 | refine below_set ?_ GE678.out) | exact HB.out)⟩⟩
    case rest =>
      clear HC9
      try clear c1
      try clear c2
      try clear p2
      try clear c3
      try clear c8
      try clear c11
      try clear c13
      try clear c14
      try clear c14b0
      try clear c14b1
      try clear hcz16_0
      try clear hcz16_1
      try clear hcz16_2
      try clear hcz16_3
      try clear hcz16_4
      try clear hcz16_5
      try clear hcz18_0
      try clear hcz18_1
      try clear hcz18_2
      try clear hcz18_3
      try clear hcz18_4
      try clear hcz18_5
      try clear hfz16_0
      try clear hfz16_1
      try clear hfz16_2
      try clear hfz16_3
      try clear hfz16_4
      try clear hfz16_5
      try clear hfz18_0
      try clear hfz18_1
      try clear hfz18_2
      try clear hfz18_3
      try clear hfz18_4
      try clear hfz18_5
      obtain ⟨kq, x36_8, rfl, HA, HJ8, BK678, HB⟩ := hcut
      cases kq with
      | zero => exact absurd HA.out (by simp [careenagelaw07_BranchCalls.j0])
      | succ kj8 =>
        have H := HA.out
        clear HA
        simp only [careenagelaw07_BranchCalls.j0] at H
        by_cases c20 : x36_8 = true
        · subst c20
          have H1 : (some true) = some r := by rw [if_pos rfl] at H; exact H
          clear H
          have H := H1
          clear H1
          obtain rfl := Option.some.inj H
          go_wp2
          go_ret
          exact ⟨by first | rfl | (simp [errW_none, errW_some] <;> rfl) | (simp [*, errW_none, errW_some] <;> rfl), by repeat (first | (with_reducible first | exact HB.out | apply below_alloc | apply pw_below_drewN | apply below_drew1 | refine below_set ?_ GE678.out) | exact HB.out)⟩
        · replace c20 := Bool.eq_false_iff.mpr c20
          subst c20
          have H1 : ((branch_Page.f kj8 a0 a1 a2 l3).bind fun bt681 => ((careenageref07_Page.f kj8 a0 a1 a2 l3).bind fun bt689 => ((branch_Of.f a4_0 a4_1 a4_2 a4_3 a4_4 a4_5).bind fun bt697 => ((careenageref07_Of.f kj8 a4_0 a4_1 a4_2 a4_3 a4_4 a4_5).bind fun bt701 => (if (bt681.1 == bt689.1 && (bt681.2.1 == bt689.2.1 && (bt681.2.2.1 == bt689.2.2.1 && (bt681.2.2.2.1 == bt689.2.2.2.1 && (bt681.2.2.2.2.1 == bt689.2.2.2.2.1 && (bt681.2.2.2.2.2.1.toList == bt689.2.2.2.2.2.1.toList)))))) = true then (if bt681.2.2.2.2.2.2 = bt689.2.2.2.2.2.2 then ((api_Fork.f kj8 bt697.1 bt701.1).bind fun t705 => (if t705 = true then (if bt697.2 = bt701.2 then ((branch_Size.f kj8 l3).bind fun t706 => ((careenageref07_Size.f kj8 l3).bind fun t707 => (if t706 = t707 then ((branch_Pick.f kj8 l3 a5).bind fun t708 => ((careenageref07_Pick.f kj8 l3 a5).bind fun t709 => (if t708 = t709 then ((branch_Key.f a5).bind fun t710 => ((careenageref07_Key.f a5).bind fun t711 => (some (t710 == t711)))) else (some false)))) else (some false)))) else (some false)) else (some false))) else (some false)) else (some false)))))) = some r := by rw [if_neg (show ¬ (false = true) by decide)] at H; exact H
          clear H
          have H := H1
          clear H1
          replace H := Option.bind_eq_some_iff.mp H
          obtain ⟨⟨t681, t682, t683, t684, t685, t686, t687⟩, A210, H⟩ := H
          replace H : ((careenageref07_Page.f kj8 a0 a1 a2 l3).bind fun bt689 => ((branch_Of.f a4_0 a4_1 a4_2 a4_3 a4_4 a4_5).bind fun bt697 => ((careenageref07_Of.f kj8 a4_0 a4_1 a4_2 a4_3 a4_4 a4_5).bind fun bt701 => (if (t681 == bt689.1 && (t682 == bt689.2.1 && (t683 == bt689.2.2.1 && (t684 == bt689.2.2.2.1 && (t685 == bt689.2.2.2.2.1 && (t686.toList == bt689.2.2.2.2.2.1.toList)))))) = true then (if t687 = bt689.2.2.2.2.2.2 then ((api_Fork.f kj8 bt697.1 bt701.1).bind fun t705 => (if t705 = true then (if bt697.2 = bt701.2 then ((branch_Size.f kj8 l3).bind fun t706 => ((careenageref07_Size.f kj8 l3).bind fun t707 => (if t706 = t707 then ((branch_Pick.f kj8 l3 a5).bind fun t708 => ((careenageref07_Pick.f kj8 l3 a5).bind fun t709 => (if t708 = t709 then ((branch_Key.f a5).bind fun t710 => ((careenageref07_Key.f a5).bind fun t711 => (some (t710 == t711)))) else (some false)))) else (some false)))) else (some false)) else (some false))) else (some false)) else (some false))))) = some r := H
          have A21 := Aside0.mk A210
          clear A210
          replace H := Option.bind_eq_some_iff.mp H
          obtain ⟨⟨t689, t690, t691, t692, t693, t694, t695⟩, A220, H⟩ := H
          replace H : ((branch_Of.f a4_0 a4_1 a4_2 a4_3 a4_4 a4_5).bind fun bt697 => ((careenageref07_Of.f kj8 a4_0 a4_1 a4_2 a4_3 a4_4 a4_5).bind fun bt701 => (if (t681 == t689 && (t682 == t690 && (t683 == t691 && (t684 == t692 && (t685 == t693 && (t686.toList == t694.toList)))))) = true then (if t687 = t695 then ((api_Fork.f kj8 bt697.1 bt701.1).bind fun t705 => (if t705 = true then (if bt697.2 = bt701.2 then ((branch_Size.f kj8 l3).bind fun t706 => ((careenageref07_Size.f kj8 l3).bind fun t707 => (if t706 = t707 then ((branch_Pick.f kj8 l3 a5).bind fun t708 => ((careenageref07_Pick.f kj8 l3 a5).bind fun t709 => (if t708 = t709 then ((branch_Key.f a5).bind fun t710 => ((careenageref07_Key.f a5).bind fun t711 => (some (t710 == t711)))) else (some false)))) else (some false)))) else (some false)) else (some false))) else (some false)) else (some false)))) = some r := H
          have A22 := Aside0.mk A220
          clear A220
          replace H := Option.bind_eq_some_iff.mp H
          obtain ⟨⟨t697, t700⟩, A230, H⟩ := H
          replace H : ((careenageref07_Of.f kj8 a4_0 a4_1 a4_2 a4_3 a4_4 a4_5).bind fun bt701 => (if (t681 == t689 && (t682 == t690 && (t683 == t691 && (t684 == t692 && (t685 == t693 && (t686.toList == t694.toList)))))) = true then (if t687 = t695 then ((api_Fork.f kj8 t697 bt701.1).bind fun t705 => (if t705 = true then (if t700 = bt701.2 then ((branch_Size.f kj8 l3).bind fun t706 => ((careenageref07_Size.f kj8 l3).bind fun t707 => (if t706 = t707 then ((branch_Pick.f kj8 l3 a5).bind fun t708 => ((careenageref07_Pick.f kj8 l3 a5).bind fun t709 => (if t708 = t709 then ((branch_Key.f a5).bind fun t710 => ((careenageref07_Key.f a5).bind fun t711 => (some (t710 == t711)))) else (some false)))) else (some false)))) else (some false)) else (some false))) else (some false)) else (some false))) = some r := H
          have A23 := Aside0.mk A230
          clear A230
          replace H := Option.bind_eq_some_iff.mp H
          obtain ⟨⟨t701, t704⟩, A240, H⟩ := H
          replace H : (if (t681 == t689 && (t682 == t690 && (t683 == t691 && (t684 == t692 && (t685 == t693 && (t686.toList == t694.toList)))))) = true then (if t687 = t695 then ((api_Fork.f kj8 t697 t701).bind fun t705 => (if t705 = true then (if t700 = t704 then ((branch_Size.f kj8 l3).bind fun t706 => ((careenageref07_Size.f kj8 l3).bind fun t707 => (if t706 = t707 then ((branch_Pick.f kj8 l3 a5).bind fun t708 => ((careenageref07_Pick.f kj8 l3 a5).bind fun t709 => (if t708 = t709 then ((branch_Key.f a5).bind fun t710 => ((careenageref07_Key.f a5).bind fun t711 => (some (t710 == t711)))) else (some false)))) else (some false)))) else (some false)) else (some false))) else (some false)) else (some false)) = some r := H
          have A24 := Aside0.mk A240
          clear A240
          by_cases c25 : (t681 == t689 && (t682 == t690 && (t683 == t691 && (t684 == t692 && (t685 == t693 && (t686.toList == t694.toList)))))) = true
          · rw [if_pos c25] at H
            have c25b0 : (t681 == t689 && (t682 == t690 && (t683 == t691 && (t684 == t692 && (t685 == t693 && (t686.toList == t694.toList)))))) = true := c25
            (try (have c25b1 : (t681 = true) → (t689 && (t682 == t690 && (t683 == t691 && (t684 == t692 && (t685 == t693 && (t686.toList == t694.toList))))) = true) := by intro h_; have z_ := c25; rw [h_] at z_; revert z_; cases (t689 && (t682 == t690 && (t683 == t691 && (t684 == t692 && (t685 == t693 && (t686.toList == t694.toList)))))) <;> simp))
            (try (have c25b2 : (t681 = false) → (t689 && (t682 == t690 && (t683 == t691 && (t684 == t692 && (t685 == t693 && (t686.toList == t694.toList))))) = false) := by intro h_; have z_ := c25; rw [h_] at z_; revert z_; cases (t689 && (t682 == t690 && (t683 == t691 && (t684 == t692 && (t685 == t693 && (t686.toList == t694.toList)))))) <;> simp))
            (try (have c25b3 : (t689 && (t682 == t690 && (t683 == t691 && (t684 == t692 && (t685 == t693 && (t686.toList == t694.toList))))) = true) → (t681 = true) := by intro h_; have z_ := c25; rw [h_] at z_; revert z_; cases (t681) <;> simp))
            (try (have c25b4 : (t689 && (t682 == t690 && (t683 == t691 && (t684 == t692 && (t685 == t693 && (t686.toList == t694.toList))))) = false) → (t681 = false) := by intro h_; have z_ := c25; rw [h_] at z_; revert z_; cases (t681) <;> simp))
            (try (have c25b5 : decide (t681 = t689 && (t682 == t690 && (t683 == t691 && (t684 == t692 && (t685 == t693 && (t686.toList == t694.toList)))))) = true := by first | (simp; done) | (simp at c25; done) | simpa using c25))
            (try (have c25b6 : (t681 == t689 && (t682 == t690 && (t683 == t691 && (t684 == t692 && (t685 == t693 && (t686.toList == t694.toList)))))) = true := by first | (simp; done) | (simp at c25; done) | simpa using c25))
            clear c25
            by_cases c26 : t687 = t695
            · rw [if_pos c26] at H
              have c26b0 : (t687 == t695) = true := beq_iff_eq.mpr c26
              have c26b1 : (t687 != t695) = false := bne_eq_false_iff_eq.mpr c26
              clear c26
              replace H := Option.bind_eq_some_iff.mp H
              obtain ⟨t705, A270, H⟩ := H
              replace H : (if t705 = true then (if t700 = t704 then ((branch_Size.f kj8 l3).bind fun t706 => ((careenageref07_Size.f kj8 l3).bind fun t707 => (if t706 = t707 then ((branch_Pick.f kj8 l3 a5).bind fun t708 => ((careenageref07_Pick.f kj8 l3 a5).bind fun t709 => (if t708 = t709 then ((branch_Key.f a5).bind fun t710 => ((careenageref07_Key.f a5).bind fun t711 => (some (t710 == t711)))) else (some false)))) else (some false)))) else (some false)) else (some false)) = some r := H
              have A27 := Aside0.mk A270
              clear A270
              by_cases c28 : t705 = true
              · subst c28
                have H1 : (if t700 = t704 then ((branch_Size.f kj8 l3).bind fun t706 => ((careenageref07_Size.f kj8 l3).bind fun t707 => (if t706 = t707 then ((branch_Pick.f kj8 l3 a5).bind fun t708 => ((careenageref07_Pick.f kj8 l3 a5).bind fun t709 => (if t708 = t709 then ((branch_Key.f a5).bind fun t710 => ((careenageref07_Key.f a5).bind fun t711 => (some (t710 == t711)))) else (some false)))) else (some false)))) else (some false)) = some r := by rw [if_pos rfl] at H; exact H
                clear H
                have H := H1
                clear H1
                by_cases c29 : t700 = t704
                · rw [if_pos c29] at H
                  have c29b0 : (t700 == t704) = true := beq_iff_eq.mpr c29
                  have c29b1 : (t700 != t704) = false := bne_eq_false_iff_eq.mpr c29
                  clear c29
                  replace H := Option.bind_eq_some_iff.mp H
                  obtain ⟨t706, A300, H⟩ := H
                  replace H : ((careenageref07_Size.f kj8 l3).bind fun t707 => (if t706 = t707 then ((branch_Pick.f kj8 l3 a5).bind fun t708 => ((careenageref07_Pick.f kj8 l3 a5).bind fun t709 => (if t708 = t709 then ((branch_Key.f a5).bind fun t710 => ((careenageref07_Key.f a5).bind fun t711 => (some (t710 == t711)))) else (some false)))) else (some false))) = some r := H
                  have A30 := Aside0.mk A300
                  clear A300
                  replace H := Option.bind_eq_some_iff.mp H
                  obtain ⟨t707, A310, H⟩ := H
                  replace H : (if t706 = t707 then ((branch_Pick.f kj8 l3 a5).bind fun t708 => ((careenageref07_Pick.f kj8 l3 a5).bind fun t709 => (if t708 = t709 then ((branch_Key.f a5).bind fun t710 => ((careenageref07_Key.f a5).bind fun t711 => (some (t710 == t711)))) else (some false)))) else (some false)) = some r := H
                  have A31 := Aside0.mk A310
                  clear A310
                  by_cases c32 : t706 = t707
                  · rw [if_pos c32] at H
                    have c32b0 : (t706 == t707) = true := beq_iff_eq.mpr c32
                    have c32b1 : (t706 != t707) = false := bne_eq_false_iff_eq.mpr c32
                    clear c32
                    replace H := Option.bind_eq_some_iff.mp H
                    obtain ⟨t708, A330, H⟩ := H
                    replace H : ((careenageref07_Pick.f kj8 l3 a5).bind fun t709 => (if t708 = t709 then ((branch_Key.f a5).bind fun t710 => ((careenageref07_Key.f a5).bind fun t711 => (some (t710 == t711)))) else (some false))) = some r := H
                    have A33 := Aside0.mk A330
                    clear A330
                    replace H := Option.bind_eq_some_iff.mp H
                    obtain ⟨t709, A340, H⟩ := H
                    replace H : (if t708 = t709 then ((branch_Key.f a5).bind fun t710 => ((careenageref07_Key.f a5).bind fun t711 => (some (t710 == t711)))) else (some false)) = some r := H
                    have A34 := Aside0.mk A340
                    clear A340
                    by_cases c35 : t708 = t709
                    · rw [if_pos c35] at H
                      have c35b0 : (t708 == t709) = true := beq_iff_eq.mpr c35
                      have c35b1 : (t708 != t709) = false := bne_eq_false_iff_eq.mpr c35
                      clear c35
                      replace H := Option.bind_eq_some_iff.mp H
                      obtain ⟨t710, A360, H⟩ := H
                      replace H : ((careenageref07_Key.f a5).bind fun t711 => (some (t710 == t711))) = some r := H
                      have A36 := Aside0.mk A360
                      clear A360
                      replace H := Option.bind_eq_some_iff.mp H
                      obtain ⟨t711, A370, H⟩ := H
                      replace H : (some (t710 == t711)) = some r := H
                      have A37 := Aside0.mk A370
                      clear A370
                      obtain rfl := Option.some.inj H
                      go_wp2_with (first | ((with_reducible refine gate_callee (f := 23) rfl ?_); refine goesL_ (some 42) rfl rfl Try.func23 (by kernel_rfl) rfl #[.int .i64 a0, .int .u32 a1, .int .u64 a2, .slice A3 l3.length c3] rfl (by (try simp only [List.map_toArray, List.map_cons, List.map_nil]); first | done | rfl | (simp only [List.length_drop, List.length_take]; rfl)) ?_; (with_reducible refine (branch_Page.calls kj8 a0 a1 a2 _ _ l3 t681 t682 t683 t684 t685 t686 t687 _ ?side1 ?side2 A21.out).mono ?_); (case side1 => repeat (first | exact (Kd.C_below HR3.out HB.out) | (with_reducible refine Kd.C_alloc ?_ _) | (with_reducible refine Kd.C_drewN ?_ _) | (with_reducible refine Kd.C_drew ?_))); (case side2 => exact HC3.out); rintro e w38 ⟨rfl, hb⟩; refine ⟨_, rfl, ?_⟩; have n0_ := Aside0.mk (blk_below (g := gb678) (o := .cells #[.int .i64 a4_0, .int .i64 a4_1, .int .u32 a4_2, .int .u32 a4_3, .int .u64 a4_4, .string a4_5] 39 (0, 0)) (by (with_reducible repeat (first | refine blk_drewN ?_ _ | refine blk_drew ?_ | refine blk_alloc ?_ _)); exact BK678.out) hb); have n1_ := Aside0.mk (below_step (by repeat (first | (with_reducible first | exact HB.out | apply below_alloc | apply pw_below_drewN | apply below_drew1 | refine below_set ?_ GE678.out) | exact HB.out)) hb); clear BK678; clear HB; have BK678 := n0_; have HB := n1_; clear n0_ n1_; (try clear hb); (try clear hb2); (try clear hk); (try clear hi)) | ((with_reducible refine gate_dst (N := 13) rfl ?_); (try (refine gate_guard (by rfl) ?_; dsimp only)); refine box_event ?hg (N := 13) ?hd (cs := #[.int .i64 0, .int .i64 0, .int .u32 0, .int .u32 0, .int .u64 0, .string (⟨#[]⟩ : ByteArray)]) (t := 39) ?hr ?_; (case hd => rfl); (case hg => rfl); (case hr => first | (go_simp; done) | (go_simp; rfl)); intro gb688 hg w39 hbox hb; have n0_ := Aside0.mk (blk_below (g := gb678) (o := .cells #[.int .i64 a4_0, .int .i64 a4_1, .int .u32 a4_2, .int .u32 a4_3, .int .u64 a4_4, .string a4_5] 39 (0, 0)) (by (with_reducible repeat (first | refine blk_drewN ?_ _ | refine blk_drew ?_ | refine blk_alloc ?_ _)); exact BK678.out) hb); have n1_ := Aside0.mk (below_step (by repeat (first | (with_reducible first | exact HB.out | apply below_alloc | apply pw_below_drewN | apply below_drew1 | refine below_set ?_ GE678.out) | exact HB.out)) hb); have n2_ := Aside0.mk (hbox); have n3_ := Aside0.mk ((by rw [hg]; exact (below_size (by repeat (first | (with_reducible first | exact HB.out | apply below_alloc | apply pw_below_drewN | apply below_drew1 | refine below_set ?_ GE678.out) | exact HB.out))) : w.heap.size ≤ gb688)); have n4_ := Aside0.mk ((by rw [hg]; exact (below_size (by repeat (first | (with_reducible first | exact HB.out | apply below_alloc | apply pw_below_drewN | apply below_drew1 | refine below_set ?_ GE678.out) | exact HB.out))) : w.heap.size ≤ gb688)); have n5_ := Aside0.mk ((by rw [hg]; exact Nat.ne_of_lt (blk_lt (g := gb678) (o := .cells #[.int .i64 a4_0, .int .i64 a4_1, .int .u32 a4_2, .int .u32 a4_3, .int .u64 a4_4, .string a4_5] 39 (0, 0)) (by (with_reducible repeat (first | refine blk_drewN ?_ _ | refine blk_drew ?_ | refine blk_alloc ?_ _)); exact BK678.out)) : gb678 ≠ gb688)); have n6_ := Aside0.mk ((by rw [hg]; exact Nat.ne_of_gt (blk_lt (g := gb678) (o := .cells #[.int .i64 a4_0, .int .i64 a4_1, .int .u32 a4_2, .int .u32 a4_3, .int .u64 a4_4, .string a4_5] 39 (0, 0)) (by (with_reducible repeat (first | refine blk_drewN ?_ _ | refine blk_drew ?_ | refine blk_alloc ?_ _)); exact BK678.out)) : gb688 ≠ gb678)); clear BK678; clear HB; have BK678 := n0_; have HB := n1_; have BK688 := n2_; have GW688 := n3_; have GE688 := n4_; have NB678_688 := n5_; have NB688_678 := n6_; clear n0_ n1_ n2_ n3_ n4_ n5_ n6_; clear hb hbox hg; have hnb40 := NB688_678.out; have hnc40 := NB678_688.out; have hcz41_0 : w39.cell? ⟨gb688, 0, none⟩ = some (.int .i64 0) := (blk_cell BK688.out 0).trans rfl; have hcz41_1 : w39.cell? ⟨gb688, 1, none⟩ = some (.int .i64 0) := (blk_cell BK688.out 1).trans rfl; have hcz41_2 : w39.cell? ⟨gb688, 2, none⟩ = some (.int .u32 0) := (blk_cell BK688.out 2).trans rfl; have hcz41_3 : w39.cell? ⟨gb688, 3, none⟩ = some (.int .u32 0) := (blk_cell BK688.out 3).trans rfl; have hcz41_4 : w39.cell? ⟨gb688, 4, none⟩ = some (.int .u64 0) := (blk_cell BK688.out 4).trans rfl; have hcz41_5 : w39.cell? ⟨gb688, 5, none⟩ = some (.string (⟨#[]⟩ : ByteArray)) := (blk_cell BK688.out 5).trans rfl; have hfz41_0 := blk_frozen BK688.out 0; have hfz41_1 := blk_frozen BK688.out 1; have hfz41_2 := blk_frozen BK688.out 2; have hfz41_3 := blk_frozen BK688.out 3; have hfz41_4 := blk_frozen BK688.out 4; have hfz41_5 := blk_frozen BK688.out 5) | ((with_reducible refine gate_callee (f := 44) rfl ?_); refine goesL_ (some 50) rfl rfl Try.func44 (by kernel_rfl) rfl #[.int .i64 a0, .int .u32 a1, .int .u64 a2, .slice A3 l3.length c3] rfl (by (try simp only [List.map_toArray, List.map_cons, List.map_nil]); first | done | rfl | (simp only [List.length_drop, List.length_take]; rfl)) ?_; (with_reducible refine (careenageref07_Page.calls kj8 a0 a1 a2 _ _ l3 t689 t690 t691 t692 t693 t694 t695 _ ?side1 ?side2 A22.out).mono ?_); (case side1 => exact Kd.C_below HR3.out (by repeat (first | (with_reducible first | exact HB.out | apply below_alloc | apply pw_below_drewN | apply below_drew1 | refine below_set ?_ GE678.out | refine below_set ?_ GE688.out) | exact HB.out))); (case side2 => exact HC3.out); rintro e w42 ⟨rfl, hb⟩; refine ⟨_, rfl, ?_⟩; have n0_ := Aside0.mk (blk_below (g := gb678) (o := .cells #[.int .i64 a4_0, .int .i64 a4_1, .int .u32 a4_2, .int .u32 a4_3, .int .u64 a4_4, .string a4_5] 39 (0, 0)) (by (with_reducible repeat (first | refine blk_drewN ?_ _ | refine blk_drew ?_ | refine blk_alloc ?_ _)); refine blk_far ?_ NB678_688.out _; (with_reducible repeat (first | refine blk_drewN ?_ _ | refine blk_drew ?_ | refine blk_alloc ?_ _)); refine blk_far ?_ NB678_688.out _; (with_reducible repeat (first | refine blk_drewN ?_ _ | refine blk_drew ?_ | refine blk_alloc ?_ _)); refine blk_far ?_ NB678_688.out _; (with_reducible repeat (first | refine blk_drewN ?_ _ | refine blk_drew ?_ | refine blk_alloc ?_ _)); refine blk_far ?_ NB678_688.out _; (with_reducible repeat (first | refine blk_drewN ?_ _ | refine blk_drew ?_ | refine blk_alloc ?_ _)); refine blk_far ?_ NB678_688.out _; (with_reducible repeat (first | refine blk_drewN ?_ _ | refine blk_drew ?_ | refine blk_alloc ?_ _)); refine blk_far ?_ NB678_688.out _; (with_reducible repeat (first | refine blk_drewN ?_ _ | refine blk_drew ?_ | refine blk_alloc ?_ _)); exact BK678.out) hb); have n1_ := Aside0.mk (blk_below (g := gb688) (o := .cells #[.int .i64 t681, .int .i64 t682, .int .u32 t683, .int .u32 t684, .int .u64 t685, .string t686] 39 (0, 0)) (by (with_reducible repeat (first | refine blk_drewN ?_ _ | refine blk_drew ?_ | refine blk_alloc ?_ _)); refine blk_put (cs := #[.int .i64 t681, .int .i64 t682, .int .u32 t683, .int .u32 t684, .int .u64 t685, .string (⟨#[]⟩ : ByteArray)]) ?_ 5 _ rfl; (with_reducible repeat (first | refine blk_drewN ?_ _ | refine blk_drew ?_ | refine blk_alloc ?_ _)); refine blk_put (cs := #[.int .i64 t681, .int .i64 t682, .int .u32 t683, .int .u32 t684, .int .u64 0, .string (⟨#[]⟩ : ByteArray)]) ?_ 4 _ rfl; (with_reducible repeat (first | refine blk_drewN ?_ _ | refine blk_drew ?_ | refine blk_alloc ?_ _)); refine blk_put (cs := #[.int .i64 t681, .int .i64 t682, .int .u32 t683, .int .u32 0, .int .u64 0, .string (⟨#[]⟩ : ByteArray)]) ?_ 3 _ rfl; (with_reducible repeat (first | refine blk_drewN ?_ _ | refine blk_drew ?_ | refine blk_alloc ?_ _)); refine blk_put (cs := #[.int .i64 t681, .int .i64 t682, .int .u32 0, .int .u32 0, .int .u64 0, .string (⟨#[]⟩ : ByteArray)]) ?_ 2 _ rfl; (with_reducible repeat (first | refine blk_drewN ?_ _ | refine blk_drew ?_ | refine blk_alloc ?_ _)); refine blk_put (cs := #[.int .i64 t681, .int .i64 0, .int .u32 0, .int .u32 0, .int .u64 0, .string (⟨#[]⟩ : ByteArray)]) ?_ 1 _ rfl; (with_reducible repeat (first | refine blk_drewN ?_ _ | refine blk_drew ?_ | refine blk_alloc ?_ _)); refine blk_put (cs := #[.int .i64 0, .int .i64 0, .int .u32 0, .int .u32 0, .int .u64 0, .string (⟨#[]⟩ : ByteArray)]) ?_ 0 _ rfl; (with_reducible repeat (first | refine blk_drewN ?_ _ | refine blk_drew ?_ | refine blk_alloc ?_ _)); exact BK688.out) hb); have n2_ := Aside0.mk (below_step (by repeat (first | (with_reducible first | exact HB.out | apply below_alloc | apply pw_below_drewN | apply below_drew1 | refine below_set ?_ GE678.out | refine below_set ?_ GE688.out) | exact HB.out)) hb); clear BK678; clear BK688; clear HB; have BK678 := n0_; have BK688 := n1_; have HB := n2_; clear n0_ n1_ n2_; (try clear hb); (try clear hb2); (try clear hk); (try clear hi)) | ((with_reducible refine gate_dst (N := 15) rfl ?_); (try (refine gate_guard (by rfl) ?_; dsimp only)); refine box_event ?hg (N := 15) ?hd (cs := #[.int .i64 0, .int .i64 0, .int .u32 0, .int .u32 0, .int .u64 0, .string (⟨#[]⟩ : ByteArray)]) (t := 39) ?hr ?_; (case hd => rfl); (case hg => rfl); (case hr => first | (go_simp; done) | (go_simp; rfl)); intro gb696 hg w43 hbox hb; have n0_ := Aside0.mk (blk_below (g := gb678) (o := .cells #[.int .i64 a4_0, .int .i64 a4_1, .int .u32 a4_2, .int .u32 a4_3, .int .u64 a4_4, .string a4_5] 39 (0, 0)) (by (with_reducible repeat (first | refine blk_drewN ?_ _ | refine blk_drew ?_ | refine blk_alloc ?_ _)); exact BK678.out) hb); have n1_ := Aside0.mk (blk_below (g := gb688) (o := .cells #[.int .i64 t681, .int .i64 t682, .int .u32 t683, .int .u32 t684, .int .u64 t685, .string t686] 39 (0, 0)) (by (with_reducible repeat (first | refine blk_drewN ?_ _ | refine blk_drew ?_ | refine blk_alloc ?_ _)); exact BK688.out) hb); have n2_ := Aside0.mk (below_step (by repeat (first | (with_reducible first | exact HB.out | apply below_alloc | apply pw_below_drewN | apply below_drew1 | refine below_set ?_ GE678.out | refine below_set ?_ GE688.out) | exact HB.out)) hb); have n3_ := Aside0.mk (hbox); have n4_ := Aside0.mk ((by rw [hg]; exact (below_size (by repeat (first | (with_reducible first | exact HB.out | apply below_alloc | apply pw_below_drewN | apply below_drew1 | refine below_set ?_ GE678.out | refine below_set ?_ GE688.out) | exact HB.out))) : w.heap.size ≤ gb696)); have n5_ := Aside0.mk ((by rw [hg]; exact (below_size (by repeat (first | (with_reducible first | exact HB.out | apply below_alloc | apply pw_below_drewN | apply below_drew1 | refine below_set ?_ GE678.out | refine below_set ?_ GE688.out) | exact HB.out))) : w.heap.size ≤ gb696)); have n6_ := Aside0.mk ((by rw [hg]; exact Nat.ne_of_lt (blk_lt (g := gb678) (o := .cells #[.int .i64 a4_0, .int .i64 a4_1, .int .u32 a4_2, .int .u32 a4_3, .int .u64 a4_4, .string a4_5] 39 (0, 0)) (by (with_reducible repeat (first | refine blk_drewN ?_ _ | refine blk_drew ?_ | refine blk_alloc ?_ _)); exact BK678.out)) : gb678 ≠ gb696)); have n7_ := Aside0.mk ((by rw [hg]; exact Nat.ne_of_gt (blk_lt (g := gb678) (o := .cells #[.int .i64 a4_0, .int .i64 a4_1, .int .u32 a4_2, .int .u32 a4_3, .int .u64 a4_4, .string a4_5] 39 (0, 0)) (by (with_reducible repeat (first | refine blk_drewN ?_ _ | refine blk_drew ?_ | refine blk_alloc ?_ _)); exact BK678.out)) : gb696 ≠ gb678)); have n8_ := Aside0.mk ((by rw [hg]; exact Nat.ne_of_lt (blk_lt (g := gb688) (o := .cells #[.int .i64 t681, .int .i64 t682, .int .u32 t683, .int .u32 t684, .int .u64 t685, .string t686] 39 (0, 0)) (by (with_reducible repeat (first | refine blk_drewN ?_ _ | refine blk_drew ?_ | refine blk_alloc ?_ _)); exact BK688.out)) : gb688 ≠ gb696)); have n9_ := Aside0.mk ((by rw [hg]; exact Nat.ne_of_gt (blk_lt (g := gb688) (o := .cells #[.int .i64 t681, .int .i64 t682, .int .u32 t683, .int .u32 t684, .int .u64 t685, .string t686] 39 (0, 0)) (by (with_reducible repeat (first | refine blk_drewN ?_ _ | refine blk_drew ?_ | refine blk_alloc ?_ _)); exact BK688.out)) : gb696 ≠ gb688)); clear BK678; clear BK688; clear HB; have BK678 := n0_; have BK688 := n1_; have HB := n2_; have BK696 := n3_; have GW696 := n4_; have GE696 := n5_; have NB678_696 := n6_; have NB696_678 := n7_; have NB688_696 := n8_; have NB696_688 := n9_; clear n0_ n1_ n2_ n3_ n4_ n5_ n6_ n7_ n8_ n9_; clear hb hbox hg; have hnb44 := NB696_678.out; have hnc44 := NB678_696.out; have hnb45 := NB696_688.out; have hnc45 := NB688_696.out; have hcz46_0 : w43.cell? ⟨gb696, 0, none⟩ = some (.int .i64 0) := (blk_cell BK696.out 0).trans rfl; have hcz46_1 : w43.cell? ⟨gb696, 1, none⟩ = some (.int .i64 0) := (blk_cell BK696.out 1).trans rfl; have hcz46_2 : w43.cell? ⟨gb696, 2, none⟩ = some (.int .u32 0) := (blk_cell BK696.out 2).trans rfl; have hcz46_3 : w43.cell? ⟨gb696, 3, none⟩ = some (.int .u32 0) := (blk_cell BK696.out 3).trans rfl; have hcz46_4 : w43.cell? ⟨gb696, 4, none⟩ = some (.int .u64 0) := (blk_cell BK696.out 4).trans rfl; have hcz46_5 : w43.cell? ⟨gb696, 5, none⟩ = some (.string (⟨#[]⟩ : ByteArray)) := (blk_cell BK696.out 5).trans rfl; have hfz46_0 := blk_frozen BK696.out 0; have hfz46_1 := blk_frozen BK696.out 1; have hfz46_2 := blk_frozen BK696.out 2; have hfz46_3 := blk_frozen BK696.out 3; have hfz46_4 := blk_frozen BK696.out 4; have hfz46_5 := blk_frozen BK696.out 5; have hcz47_0 : w43.cell? ⟨gb678, 0, none⟩ = some (.int .i64 a4_0) := (blk_cell BK678.out 0).trans rfl; have hcz47_1 : w43.cell? ⟨gb678, 1, none⟩ = some (.int .i64 a4_1) := (blk_cell BK678.out 1).trans rfl; have hcz47_2 : w43.cell? ⟨gb678, 2, none⟩ = some (.int .u32 a4_2) := (blk_cell BK678.out 2).trans rfl; have hcz47_3 : w43.cell? ⟨gb678, 3, none⟩ = some (.int .u32 a4_3) := (blk_cell BK678.out 3).trans rfl; have hcz47_4 : w43.cell? ⟨gb678, 4, none⟩ = some (.int .u64 a4_4) := (blk_cell BK678.out 4).trans rfl; have hcz47_5 : w43.cell? ⟨gb678, 5, none⟩ = some (.string a4_5) := (blk_cell BK678.out 5).trans rfl; have hfz47_0 := blk_frozen BK678.out 0; have hfz47_1 := blk_frozen BK678.out 1; have hfz47_2 := blk_frozen BK678.out 2; have hfz47_3 := blk_frozen BK678.out 3; have hfz47_4 := blk_frozen BK678.out 4; have hfz47_5 := blk_frozen BK678.out 5) | ((with_reducible refine gate_callee (f := 39) rfl ?_); refine goesL_ (some 55) rfl rfl Try.func39 (by kernel_rfl) rfl #[.agg #[.int .i64 a4_0, .int .i64 a4_1, .int .u32 a4_2, .int .u32 a4_3, .int .u64 a4_4, .string a4_5]] rfl (by (try simp only [List.map_toArray, List.map_cons, List.map_nil]); first | done | rfl | (simp only [List.length_drop, List.length_take]; rfl)) ?_; (with_reducible refine (branch_Of.calls a4_0 a4_1 a4_2 a4_3 a4_4 a4_5 t697 t700 _ A23.out).mono ?_); rintro e w48 ⟨v698, rfl, ho0, hb⟩; refine ⟨_, rfl, ?_⟩; have n0_ := Aside0.mk (Kd.R_lower ho0 (below_size (by repeat (first | (with_reducible first | exact HB.out | apply below_alloc | apply pw_below_drewN | apply below_drew1 | refine below_set ?_ GE678.out | refine below_set ?_ GE688.out | refine below_set ?_ GE696.out) | exact HB.out)))); have n1_ := Aside0.mk (blk_below (g := gb678) (o := .cells #[.int .i64 a4_0, .int .i64 a4_1, .int .u32 a4_2, .int .u32 a4_3, .int .u64 a4_4, .string a4_5] 39 (0, 0)) (by (with_reducible repeat (first | refine blk_drewN ?_ _ | refine blk_drew ?_ | refine blk_alloc ?_ _)); refine blk_far ?_ NB678_696.out _; (with_reducible repeat (first | refine blk_drewN ?_ _ | refine blk_drew ?_ | refine blk_alloc ?_ _)); refine blk_far ?_ NB678_696.out _; (with_reducible repeat (first | refine blk_drewN ?_ _ | refine blk_drew ?_ | refine blk_alloc ?_ _)); refine blk_far ?_ NB678_696.out _; (with_reducible repeat (first | refine blk_drewN ?_ _ | refine blk_drew ?_ | refine blk_alloc ?_ _)); refine blk_far ?_ NB678_696.out _; (with_reducible repeat (first | refine blk_drewN ?_ _ | refine blk_drew ?_ | refine blk_alloc ?_ _)); refine blk_far ?_ NB678_696.out _; (with_reducible repeat (first | refine blk_drewN ?_ _ | refine blk_drew ?_ | refine blk_alloc ?_ _)); refine blk_far ?_ NB678_696.out _; (with_reducible repeat (first | refine blk_drewN ?_ _ | refine blk_drew ?_ | refine blk_alloc ?_ _)); exact BK678.out) hb); have n2_ := Aside0.mk (blk_below (g := gb688) (o := .cells #[.int .i64 t681, .int .i64 t682, .int .u32 t683, .int .u32 t684, .int .u64 t685, .string t686] 39 (0, 0)) (by (with_reducible repeat (first | refine blk_drewN ?_ _ | refine blk_drew ?_ | refine blk_alloc ?_ _)); refine blk_far ?_ NB688_696.out _; (with_reducible repeat (first | refine blk_drewN ?_ _ | refine blk_drew ?_ | refine blk_alloc ?_ _)); refine blk_far ?_ NB688_696.out _; (with_reducible repeat (first | refine blk_drewN ?_ _ | refine blk_drew ?_ | refine blk_alloc ?_ _)); refine blk_far ?_ NB688_696.out _; (with_reducible repeat (first | refine blk_drewN ?_ _ | refine blk_drew ?_ | refine blk_alloc ?_ _)); refine blk_far ?_ NB688_696.out _; (with_reducible repeat (first | refine blk_drewN ?_ _ | refine blk_drew ?_ | refine blk_alloc ?_ _)); refine blk_far ?_ NB688_696.out _; (with_reducible repeat (first | refine blk_drewN ?_ _ | refine blk_drew ?_ | refine blk_alloc ?_ _)); refine blk_far ?_ NB688_696.out _; (with_reducible repeat (first | refine blk_drewN ?_ _ | refine blk_drew ?_ | refine blk_alloc ?_ _)); exact BK688.out) hb); have n3_ := Aside0.mk (blk_below (g := gb696) (o := .cells #[.int .i64 t689, .int .i64 t690, .int .u32 t691, .int .u32 t692, .int .u64 t693, .string t694] 39 (0, 0)) (by (with_reducible repeat (first | refine blk_drewN ?_ _ | refine blk_drew ?_ | refine blk_alloc ?_ _)); refine blk_put (cs := #[.int .i64 t689, .int .i64 t690, .int .u32 t691, .int .u32 t692, .int .u64 t693, .string (⟨#[]⟩ : ByteArray)]) ?_ 5 _ rfl; (with_reducible repeat (first | refine blk_drewN ?_ _ | refine blk_drew ?_ | refine blk_alloc ?_ _)); refine blk_put (cs := #[.int .i64 t689, .int .i64 t690, .int .u32 t691, .int .u32 t692, .int .u64 0, .string (⟨#[]⟩ : ByteArray)]) ?_ 4 _ rfl; (with_reducible repeat (first | refine blk_drewN ?_ _ | refine blk_drew ?_ | refine blk_alloc ?_ _)); refine blk_put (cs := #[.int .i64 t689, .int .i64 t690, .int .u32 t691, .int .u32 0, .int .u64 0, .string (⟨#[]⟩ : ByteArray)]) ?_ 3 _ rfl; (with_reducible repeat (first | refine blk_drewN ?_ _ | refine blk_drew ?_ | refine blk_alloc ?_ _)); refine blk_put (cs := #[.int .i64 t689, .int .i64 t690, .int .u32 0, .int .u32 0, .int .u64 0, .string (⟨#[]⟩ : ByteArray)]) ?_ 2 _ rfl; (with_reducible repeat (first | refine blk_drewN ?_ _ | refine blk_drew ?_ | refine blk_alloc ?_ _)); refine blk_put (cs := #[.int .i64 t689, .int .i64 0, .int .u32 0, .int .u32 0, .int .u64 0, .string (⟨#[]⟩ : ByteArray)]) ?_ 1 _ rfl; (with_reducible repeat (first | refine blk_drewN ?_ _ | refine blk_drew ?_ | refine blk_alloc ?_ _)); refine blk_put (cs := #[.int .i64 0, .int .i64 0, .int .u32 0, .int .u32 0, .int .u64 0, .string (⟨#[]⟩ : ByteArray)]) ?_ 0 _ rfl; (with_reducible repeat (first | refine blk_drewN ?_ _ | refine blk_drew ?_ | refine blk_alloc ?_ _)); exact BK696.out) hb); have n4_ := Aside0.mk (below_step (by repeat (first | (with_reducible first | exact HB.out | apply below_alloc | apply pw_below_drewN | apply below_drew1 | refine below_set ?_ GE678.out | refine below_set ?_ GE688.out | refine below_set ?_ GE696.out) | exact HB.out)) hb); clear BK678; clear BK688; clear BK696; clear HB; have HO699 := n0_; have BK678 := n1_; have BK688 := n2_; have BK696 := n3_; have HB := n4_; clear n0_ n1_ n2_ n3_ n4_; (try clear hb); (try clear hb2); (try clear hk); (try clear hi); (try clear ho0); have hcz49_0 : w48.cell? ⟨gb678, 0, none⟩ = some (.int .i64 a4_0) := (blk_cell BK678.out 0).trans rfl; have hcz49_1 : w48.cell? ⟨gb678, 1, none⟩ = some (.int .i64 a4_1) := (blk_cell BK678.out 1).trans rfl; have hcz49_2 : w48.cell? ⟨gb678, 2, none⟩ = some (.int .u32 a4_2) := (blk_cell BK678.out 2).trans rfl; have hcz49_3 : w48.cell? ⟨gb678, 3, none⟩ = some (.int .u32 a4_3) := (blk_cell BK678.out 3).trans rfl; have hcz49_4 : w48.cell? ⟨gb678, 4, none⟩ = some (.int .u64 a4_4) := (blk_cell BK678.out 4).trans rfl; have hcz49_5 : w48.cell? ⟨gb678, 5, none⟩ = some (.string a4_5) := (blk_cell BK678.out 5).trans rfl; have hfz49_0 := blk_frozen BK678.out 0; have hfz49_1 := blk_frozen BK678.out 1; have hfz49_2 := blk_frozen BK678.out 2; have hfz49_3 := blk_frozen BK678.out 3; have hfz49_4 := blk_frozen BK678.out 4; have hfz49_5 := blk_frozen BK678.out 5) | ((with_reducible refine gate_callee (f := 45) rfl ?_); refine goesL_ (some 60) rfl rfl Try.func45 (by kernel_rfl) rfl #[.agg #[.int .i64 a4_0, .int .i64 a4_1, .int .u32 a4_2, .int .u32 a4_3, .int .u64 a4_4, .string a4_5]] rfl (by (try simp only [List.map_toArray, List.map_cons, List.map_nil]); first | done | rfl | (simp only [List.length_drop, List.length_take]; rfl)) ?_; (with_reducible refine (careenageref07_Of.calls kj8 a4_0 a4_1 a4_2 a4_3 a4_4 a4_5 t701 t704 _ A24.out).mono ?_); rintro e w50 ⟨v702, rfl, ho0, hb⟩; refine ⟨_, rfl, ?_⟩; have n0_ := Aside0.mk (Kd.R_elder' (by (with_reducible repeat (first | apply Kd.R_alloc | apply Kd.R_drewN | apply Kd.R_drew)); exact HO699.out) (Kd.R_base ho0) hb); have n1_ := Aside0.mk (Kd.R_lower (Kd.R_new' ho0 (Kd.R_lt (by (with_reducible repeat (first | apply Kd.R_alloc | apply Kd.R_drewN | apply Kd.R_drew)); exact HO699.out))) (below_size (by repeat (first | (with_reducible first | exact HB.out | apply below_alloc | apply pw_below_drewN | apply below_drew1 | refine below_set ?_ GE678.out | refine below_set ?_ GE688.out | refine below_set ?_ GE696.out) | exact HB.out)))); have n2_ := Aside0.mk (blk_below (g := gb678) (o := .cells #[.int .i64 a4_0, .int .i64 a4_1, .int .u32 a4_2, .int .u32 a4_3, .int .u64 a4_4, .string a4_5] 39 (0, 0)) (by (with_reducible repeat (first | refine blk_drewN ?_ _ | refine blk_drew ?_ | refine blk_alloc ?_ _)); exact BK678.out) hb); have n3_ := Aside0.mk (blk_below (g := gb688) (o := .cells #[.int .i64 t681, .int .i64 t682, .int .u32 t683, .int .u32 t684, .int .u64 t685, .string t686] 39 (0, 0)) (by (with_reducible repeat (first | refine blk_drewN ?_ _ | refine blk_drew ?_ | refine blk_alloc ?_ _)); exact BK688.out) hb); have n4_ := Aside0.mk (blk_below (g := gb696) (o := .cells #[.int .i64 t689, .int .i64 t690, .int .u32 t691, .int .u32 t692, .int .u64 t693, .string t694] 39 (0, 0)) (by (with_reducible repeat (first | refine blk_drewN ?_ _ | refine blk_drew ?_ | refine blk_alloc ?_ _)); exact BK696.out) hb); have n5_ := Aside0.mk (below_step (by repeat (first | (with_reducible first | exact HB.out | apply below_alloc | apply pw_below_drewN | apply below_drew1 | refine below_set ?_ GE678.out | refine below_set ?_ GE688.out | refine below_set ?_ GE696.out) | exact HB.out)) hb); clear HO699; clear BK678; clear BK688; clear BK696; clear HB; have HO699 := n0_; have HO703 := n1_; have BK678 := n2_; have BK688 := n3_; have BK696 := n4_; have HB := n5_; clear n0_ n1_ n2_ n3_ n4_ n5_; (try clear hb); (try clear hb2); (try clear hk); (try clear hi); (try clear ho0); have hcz51_0 : w50.cell? ⟨gb688, 0, none⟩ = some (.int .i64 t681) := (blk_cell BK688.out 0).trans rfl; have hcz51_1 : w50.cell? ⟨gb688, 1, none⟩ = some (.int .i64 t682) := (blk_cell BK688.out 1).trans rfl; have hcz51_2 : w50.cell? ⟨gb688, 2, none⟩ = some (.int .u32 t683) := (blk_cell BK688.out 2).trans rfl; have hcz51_3 : w50.cell? ⟨gb688, 3, none⟩ = some (.int .u32 t684) := (blk_cell BK688.out 3).trans rfl; have hcz51_4 : w50.cell? ⟨gb688, 4, none⟩ = some (.int .u64 t685) := (blk_cell BK688.out 4).trans rfl; have hcz51_5 : w50.cell? ⟨gb688, 5, none⟩ = some (.string t686) := (blk_cell BK688.out 5).trans rfl; have hfz51_0 := blk_frozen BK688.out 0; have hfz51_1 := blk_frozen BK688.out 1; have hfz51_2 := blk_frozen BK688.out 2; have hfz51_3 := blk_frozen BK688.out 3; have hfz51_4 := blk_frozen BK688.out 4; have hfz51_5 := blk_frozen BK688.out 5; have hcz52_0 : w50.cell? ⟨gb696, 0, none⟩ = some (.int .i64 t689) := (blk_cell BK696.out 0).trans rfl; have hcz52_1 : w50.cell? ⟨gb696, 1, none⟩ = some (.int .i64 t690) := (blk_cell BK696.out 1).trans rfl; have hcz52_2 : w50.cell? ⟨gb696, 2, none⟩ = some (.int .u32 t691) := (blk_cell BK696.out 2).trans rfl; have hcz52_3 : w50.cell? ⟨gb696, 3, none⟩ = some (.int .u32 t692) := (blk_cell BK696.out 3).trans rfl; have hcz52_4 : w50.cell? ⟨gb696, 4, none⟩ = some (.int .u64 t693) := (blk_cell BK696.out 4).trans rfl; have hcz52_5 : w50.cell? ⟨gb696, 5, none⟩ = some (.string t694) := (blk_cell BK696.out 5).trans rfl; have hfz52_0 := blk_frozen BK696.out 0; have hfz52_1 := blk_frozen BK696.out 1; have hfz52_2 := blk_frozen BK696.out 2; have hfz52_3 := blk_frozen BK696.out 3; have hfz52_4 := blk_frozen BK696.out 4; have hfz52_5 := blk_frozen BK696.out 5; obtain ⟨Ao53, co53, eo53⟩ := Kd.R_slice HO699.out; subst eo53; obtain ⟨Ao54, co54, eo54⟩ := Kd.R_slice HO703.out; subst eo54) | ((with_reducible refine gate_dst (N := 74) rfl ?_); (try (refine gate_guard (by rfl) ?_; dsimp only)); (try (refine gate_guard (by rfl) ?_; dsimp only)); (with_reducible refine gate_callee (f := 41) rfl ?_); refine goesL_ (some 74) rfl rfl Try.func41 (by kernel_rfl) rfl #[.slice Ao53 t697.length co53, .slice Ao54 t701.length co54] rfl (by (try simp only [List.map_toArray, List.map_cons, List.map_nil]); first | done | rfl | (simp only [List.length_drop, List.length_take]; rfl)) ?_; (with_reducible refine (api_Fork.calls kj8 _ _ t697 _ _ t701 true _ ?side1 ?side2 ?side3 ?side4 A27.out).mono ?_); (case side1 => repeat (first | exact (Kd.R_reads' HO699.out).2.2 | (with_reducible refine Kd.C_alloc ?_ _) | (with_reducible refine Kd.C_drewN ?_ _) | (with_reducible refine Kd.C_drew ?_))); (case side2 => exact (Kd.R_reads' HO699.out).2.1); (case side3 => repeat (first | exact (Kd.R_reads' HO703.out).2.2 | (with_reducible refine Kd.C_alloc ?_ _) | (with_reducible refine Kd.C_drewN ?_ _) | (with_reducible refine Kd.C_drew ?_))); (case side4 => exact (Kd.R_reads' HO703.out).2.1); rintro e w' ⟨rfl, ⟨nd, rfl⟩⟩; refine ⟨_, rfl, ?_⟩) | ((with_reducible refine gate_dst (N := 83) rfl ?_); (try (refine gate_guard (by rfl) ?_; dsimp only)); (try (refine gate_guard (by rfl) ?_; dsimp only)); (with_reducible refine gate_callee (f := 42) rfl ?_); refine goesL_ (some 83) rfl rfl Try.func42 (by kernel_rfl) rfl #[.slice A3 l3.length c3] rfl (by (try simp only [List.map_toArray, List.map_cons, List.map_nil]); first | done | rfl | (simp only [List.length_drop, List.length_take]; rfl)) ?_; (with_reducible refine (branch_Size.calls kj8 _ _ l3 t706 _ ?side1 ?side2 A30.out).mono ?_); (case side1 => repeat (first | exact (Kd.C_below HR3.out (by repeat (first | (with_reducible first | exact HB.out | apply below_alloc | apply pw_below_drewN | apply below_drew1 | refine below_set ?_ GE678.out | refine below_set ?_ GE688.out | refine below_set ?_ GE696.out) | exact HB.out))) | (with_reducible refine Kd.C_alloc ?_ _) | (with_reducible refine Kd.C_drewN ?_ _) | (with_reducible refine Kd.C_drew ?_))); (case side2 => exact HC3.out); rintro e w55 ⟨rfl, hb⟩; refine ⟨_, rfl, ?_⟩; have n0_ := Aside0.mk (Kd.R_below (by (with_reducible repeat (first | apply Kd.R_alloc | apply Kd.R_drewN | apply Kd.R_drew)); exact HO699.out) hb); have n1_ := Aside0.mk (Kd.R_below (by (with_reducible repeat (first | apply Kd.R_alloc | apply Kd.R_drewN | apply Kd.R_drew)); exact HO703.out) hb); have n2_ := Aside0.mk (blk_below (g := gb678) (o := .cells #[.int .i64 a4_0, .int .i64 a4_1, .int .u32 a4_2, .int .u32 a4_3, .int .u64 a4_4, .string a4_5] 39 (0, 0)) (by (with_reducible repeat (first | refine blk_drewN ?_ _ | refine blk_drew ?_ | refine blk_alloc ?_ _)); exact BK678.out) hb); have n3_ := Aside0.mk (blk_below (g := gb688) (o := .cells #[.int .i64 t681, .int .i64 t682, .int .u32 t683, .int .u32 t684, .int .u64 t685, .string t686] 39 (0, 0)) (by (with_reducible repeat (first | refine blk_drewN ?_ _ | refine blk_drew ?_ | refine blk_alloc ?_ _)); exact BK688.out) hb); have n4_ := Aside0.mk (blk_below (g := gb696) (o := .cells #[.int .i64 t689, .int .i64 t690, .int .u32 t691, .int .u32 t692, .int .u64 t693, .string t694] 39 (0, 0)) (by (with_reducible repeat (first | refine blk_drewN ?_ _ | refine blk_drew ?_ | refine blk_alloc ?_ _)); exact BK696.out) hb); have n5_ := Aside0.mk (below_step (by repeat (first | (with_reducible first | exact HB.out | apply below_alloc | apply pw_below_drewN | apply below_drew1 | refine below_set ?_ GE678.out | refine below_set ?_ GE688.out | refine below_set ?_ GE696.out) | exact HB.out)) hb); clear HO699; clear HO703; clear BK678; clear BK688; clear BK696; clear HB; have HO699 := n0_; have HO703 := n1_; have BK678 := n2_; have BK688 := n3_; have BK696 := n4_; have HB := n5_; clear n0_ n1_ n2_ n3_ n4_ n5_; (try clear hb); (try clear hb2); (try clear hk); (try clear hi)) | ((with_reducible refine gate_dst (N := 85) rfl ?_); (try (refine gate_guard (by rfl) ?_; dsimp only)); (try (refine gate_guard (by rfl) ?_; dsimp only)); (with_reducible refine gate_callee (f := 46) rfl ?_); refine goesL_ (some 85) rfl rfl Try.func46 (by kernel_rfl) rfl #[.slice A3 l3.length c3] rfl (by (try simp only [List.map_toArray, List.map_cons, List.map_nil]); first | done | rfl | (simp only [List.length_drop, List.length_take]; rfl)) ?_; (with_reducible refine (careenageref07_Size.calls kj8 _ _ l3 t707 _ ?side1 ?side2 A31.out).mono ?_); (case side1 => repeat (first | exact (Kd.C_below HR3.out HB.out) | (with_reducible refine Kd.C_alloc ?_ _) | (with_reducible refine Kd.C_drewN ?_ _) | (with_reducible refine Kd.C_drew ?_))); (case side2 => exact HC3.out); rintro e w56 ⟨rfl, hb⟩; refine ⟨_, rfl, ?_⟩; have n0_ := Aside0.mk (Kd.R_below (by (with_reducible repeat (first | apply Kd.R_alloc | apply Kd.R_drewN | apply Kd.R_drew)); exact HO699.out) hb); have n1_ := Aside0.mk (Kd.R_below (by (with_reducible repeat (first | apply Kd.R_alloc | apply Kd.R_drewN | apply Kd.R_drew)); exact HO703.out) hb); have n2_ := Aside0.mk (blk_below (g := gb678) (o := .cells #[.int .i64 a4_0, .int .i64 a4_1, .int .u32 a4_2, .int .u32 a4_3, .int .u64 a4_4, .string a4_5] 39 (0, 0)) (by (with_reducible repeat (first | refine blk_drewN ?_ _ | refine blk_drew ?_ | refine blk_alloc ?_ _)); exact BK678.out) hb); have n3_ := Aside0.mk (blk_below (g := gb688) (o := .cells #[.int .i64 t681, .int .i64 t682, .int .u32 t683, .int .u32 t684, .int .u64 t685, .string t686] 39 (0, 0)) (by (with_reducible repeat (first | refine blk_drewN ?_ _ | refine blk_drew ?_ | refine blk_alloc ?_ _)); exact BK688.out) hb); have n4_ := Aside0.mk (blk_below (g := gb696) (o := .cells #[.int .i64 t689, .int .i64 t690, .int .u32 t691, .int .u32 t692, .int .u64 t693, .string t694] 39 (0, 0)) (by (with_reducible repeat (first | refine blk_drewN ?_ _ | refine blk_drew ?_ | refine blk_alloc ?_ _)); exact BK696.out) hb); have n5_ := Aside0.mk (below_step (by repeat (first | (with_reducible first | exact HB.out | apply below_alloc | apply pw_below_drewN | apply below_drew1 | refine below_set ?_ GE678.out | refine below_set ?_ GE688.out | refine below_set ?_ GE696.out) | exact HB.out)) hb); clear HO699; clear HO703; clear BK678; clear BK688; clear BK696; clear HB; have HO699 := n0_; have HO703 := n1_; have BK678 := n2_; have BK688 := n3_; have BK696 := n4_; have HB := n5_; clear n0_ n1_ n2_ n3_ n4_ n5_; (try clear hb); (try clear hb2); (try clear hk); (try clear hi)) | ((with_reducible refine gate_dst (N := 91) rfl ?_); (try (refine gate_guard (by rfl) ?_; dsimp only)); (try (refine gate_guard (by rfl) ?_; dsimp only)); (with_reducible refine gate_callee (f := 25) rfl ?_); refine goesL_ (some 91) rfl rfl Try.func25 (by kernel_rfl) rfl #[.slice A3 l3.length c3, .string a5] rfl (by (try simp only [List.map_toArray, List.map_cons, List.map_nil]); first | done | rfl | (simp only [List.length_drop, List.length_take]; rfl)) ?_; (with_reducible refine (branch_Pick.calls kj8 _ _ l3 a5 t708 _ ?side1 ?side2 A33.out).mono ?_); (case side1 => repeat (first | exact (Kd.C_below HR3.out HB.out) | (with_reducible refine Kd.C_alloc ?_ _) | (with_reducible refine Kd.C_drewN ?_ _) | (with_reducible refine Kd.C_drew ?_))); (case side2 => exact HC3.out); rintro e w57 ⟨rfl, hb⟩; refine ⟨_, rfl, ?_⟩; have n0_ := Aside0.mk (Kd.R_below (by (with_reducible repeat (first | apply Kd.R_alloc | apply Kd.R_drewN | apply Kd.R_drew)); exact HO699.out) hb); have n1_ := Aside0.mk (Kd.R_below (by (with_reducible repeat (first | apply Kd.R_alloc | apply Kd.R_drewN | apply Kd.R_drew)); exact HO703.out) hb); have n2_ := Aside0.mk (blk_below (g := gb678) (o := .cells #[.int .i64 a4_0, .int .i64 a4_1, .int .u32 a4_2, .int .u32 a4_3, .int .u64 a4_4, .string a4_5] 39 (0, 0)) (by (with_reducible repeat (first | refine blk_drewN ?_ _ | refine blk_drew ?_ | refine blk_alloc ?_ _)); exact BK678.out) hb); have n3_ := Aside0.mk (blk_below (g := gb688) (o := .cells #[.int .i64 t681, .int .i64 t682, .int .u32 t683, .int .u32 t684, .int .u64 t685, .string t686] 39 (0, 0)) (by (with_reducible repeat (first | refine blk_drewN ?_ _ | refine blk_drew ?_ | refine blk_alloc ?_ _)); exact BK688.out) hb); have n4_ := Aside0.mk (blk_below (g := gb696) (o := .cells #[.int .i64 t689, .int .i64 t690, .int .u32 t691, .int .u32 t692, .int .u64 t693, .string t694] 39 (0, 0)) (by (with_reducible repeat (first | refine blk_drewN ?_ _ | refine blk_drew ?_ | refine blk_alloc ?_ _)); exact BK696.out) hb); have n5_ := Aside0.mk (below_step (by repeat (first | (with_reducible first | exact HB.out | apply below_alloc | apply pw_below_drewN | apply below_drew1 | refine below_set ?_ GE678.out | refine below_set ?_ GE688.out | refine below_set ?_ GE696.out) | exact HB.out)) hb); clear HO699; clear HO703; clear BK678; clear BK688; clear BK696; clear HB; have HO699 := n0_; have HO703 := n1_; have BK678 := n2_; have BK688 := n3_; have BK696 := n4_; have HB := n5_; clear n0_ n1_ n2_ n3_ n4_ n5_; (try clear hb); (try clear hb2); (try clear hk); (try clear hi)) | ((with_reducible refine gate_dst (N := 94) rfl ?_); (try (refine gate_guard (by rfl) ?_; dsimp only)); (try (refine gate_guard (by rfl) ?_; dsimp only)); (with_reducible refine gate_callee (f := 47) rfl ?_); refine goesL_ (some 94) rfl rfl Try.func47 (by kernel_rfl) rfl #[.slice A3 l3.length c3, .string a5] rfl (by (try simp only [List.map_toArray, List.map_cons, List.map_nil]); first | done | rfl | (simp only [List.length_drop, List.length_take]; rfl)) ?_; (with_reducible refine (careenageref07_Pick.calls kj8 _ _ l3 a5 t709 _ ?side1 ?side2 A34.out).mono ?_); (case side1 => repeat (first | exact (Kd.C_below HR3.out HB.out) | (with_reducible refine Kd.C_alloc ?_ _) | (with_reducible refine Kd.C_drewN ?_ _) | (with_reducible refine Kd.C_drew ?_))); (case side2 => exact HC3.out); rintro e w58 ⟨rfl, hb⟩; refine ⟨_, rfl, ?_⟩; have n0_ := Aside0.mk (Kd.R_below (by (with_reducible repeat (first | apply Kd.R_alloc | apply Kd.R_drewN | apply Kd.R_drew)); exact HO699.out) hb); have n1_ := Aside0.mk (Kd.R_below (by (with_reducible repeat (first | apply Kd.R_alloc | apply Kd.R_drewN | apply Kd.R_drew)); exact HO703.out) hb); have n2_ := Aside0.mk (blk_below (g := gb678) (o := .cells #[.int .i64 a4_0, .int .i64 a4_1, .int .u32 a4_2, .int .u32 a4_3, .int .u64 a4_4, .string a4_5] 39 (0, 0)) (by (with_reducible repeat (first | refine blk_drewN ?_ _ | refine blk_drew ?_ | refine blk_alloc ?_ _)); exact BK678.out) hb); have n3_ := Aside0.mk (blk_below (g := gb688) (o := .cells #[.int .i64 t681, .int .i64 t682, .int .u32 t683, .int .u32 t684, .int .u64 t685, .string t686] 39 (0, 0)) (by (with_reducible repeat (first | refine blk_drewN ?_ _ | refine blk_drew ?_ | refine blk_alloc ?_ _)); exact BK688.out) hb); have n4_ := Aside0.mk (blk_below (g := gb696) (o := .cells #[.int .i64 t689, .int .i64 t690, .int .u32 t691, .int .u32 t692, .int .u64 t693, .string t694] 39 (0, 0)) (by (with_reducible repeat (first | refine blk_drewN ?_ _ | refine blk_drew ?_ | refine blk_alloc ?_ _)); exact BK696.out) hb); have n5_ := Aside0.mk (below_step (by repeat (first | (with_reducible first | exact HB.out | apply below_alloc | apply pw_below_drewN | apply below_drew1 | refine below_set ?_ GE678.out | refine below_set ?_ GE688.out | refine below_set ?_ GE696.out) | exact HB.out)) hb); clear HO699; clear HO703; clear BK678; clear BK688; clear BK696; clear HB; have HO699 := n0_; have HO703 := n1_; have BK678 := n2_; have BK688 := n3_; have BK696 := n4_; have HB := n5_; clear n0_ n1_ n2_ n3_ n4_ n5_; (try clear hb); (try clear hb2); (try clear hk); (try clear hi)) | ((with_reducible refine gate_dst (N := 99) rfl ?_); (try (refine gate_guard (by rfl) ?_; dsimp only)); (try (refine gate_guard (by rfl) ?_; dsimp only)); (with_reducible refine gate_callee (f := 43) rfl ?_); refine goesL_ (some 99) rfl rfl Try.func43 (by kernel_rfl) rfl #[.string a5] rfl (by (try simp only [List.map_toArray, List.map_cons, List.map_nil]); first | done | rfl | (simp only [List.length_drop, List.length_take]; rfl)) ?_; (with_reducible refine (branch_Key.calls a5 t710 _ A36.out).mono ?_); rintro e w' ⟨rfl, ⟨nd, rfl⟩⟩; refine ⟨_, rfl, ?_⟩) | ((with_reducible refine gate_dst (N := 101) rfl ?_); (try (refine gate_guard (by rfl) ?_; dsimp only)); (try (refine gate_guard (by rfl) ?_; dsimp only)); (with_reducible refine gate_callee (f := 48) rfl ?_); refine goesL_ (some 101) rfl rfl Try.func48 (by kernel_rfl) rfl #[.string a5] rfl (by (try simp only [List.map_toArray, List.map_cons, List.map_nil]); first | done | rfl | (simp only [List.length_drop, List.length_take]; rfl)) ?_; (with_reducible refine (careenageref07_Key.calls a5 t711 _ A37.out).mono ?_); rintro e w' ⟨rfl, ⟨nd, rfl⟩⟩; refine ⟨_, rfl, ?_⟩))
                      go_ret
                      exact ⟨by first | rfl | (simp [errW_none, errW_some] <;> rfl) | (simp [*, errW_none, errW_some] <;> rfl), by repeat (first | (with_reducible first | exact HB.out | apply below_alloc | apply pw_below_drewN | apply below_drew1 | refine below_set ?_ GE678.out | refine below_set ?_ GE688.out | refine below_set ?_ GE696.out) | exact HB.out)⟩
                    · rw [if_neg c35] at H
                      have c35b0 : (t708 == t709) = false := beq_eq_false_iff_ne.mpr c35
                      have c35b1 : (t708 != t709) = true := bne_iff_ne.mpr c35
                      exact absurd ((Option.some.inj H).trans HLaw.out) (by simp)
                  · rw [if_neg c32] at H
                    have c32b0 : (t706 == t707) = false := beq_eq_false_iff_ne.mpr c32
                    have c32b1 : (t706 != t707) = true := bne_iff_ne.mpr c32
                    exact absurd ((Option.some.inj H).trans HLaw.out) (by simp)
                · rw [if_neg c29] at H
                  have c29b0 : (t700 == t704) = false := beq_eq_false_iff_ne.mpr c29
                  have c29b1 : (t700 != t704) = true := bne_iff_ne.mpr c29
                  exact absurd ((Option.some.inj H).trans HLaw.out) (by simp)
              · replace c28 := Bool.eq_false_iff.mpr c28
                subst c28
                have H1 : (some false) = some r := by rw [if_neg (show ¬ (false = true) by decide)] at H; exact H
                clear H
                have H := H1
                clear H1
                exact absurd ((Option.some.inj H).trans HLaw.out) (by simp)
            · rw [if_neg c26] at H
              have c26b0 : (t687 == t695) = false := beq_eq_false_iff_ne.mpr c26
              have c26b1 : (t687 != t695) = true := bne_iff_ne.mpr c26
              exact absurd ((Option.some.inj H).trans HLaw.out) (by simp)
          · rw [if_neg c25] at H
            have c25b0 : (t681 == t689 && (t682 == t690 && (t683 == t691 && (t684 == t692 && (t685 == t693 && (t686.toList == t694.toList)))))) = false := by first | (simp; done) | (simp at c25; done) | simpa using c25
            (try (have c25b1 : (t681 = true) → (t689 && (t682 == t690 && (t683 == t691 && (t684 == t692 && (t685 == t693 && (t686.toList == t694.toList))))) = false) := by intro h_; have z_ := c25; rw [h_] at z_; revert z_; cases (t689 && (t682 == t690 && (t683 == t691 && (t684 == t692 && (t685 == t693 && (t686.toList == t694.toList)))))) <;> simp))
            (try (have c25b2 : (t681 = false) → (t689 && (t682 == t690 && (t683 == t691 && (t684 == t692 && (t685 == t693 && (t686.toList == t694.toList))))) = true) := by intro h_; have z_ := c25; rw [h_] at z_; revert z_; cases (t689 && (t682 == t690 && (t683 == t691 && (t684 == t692 && (t685 == t693 && (t686.toList == t694.toList)))))) <;> simp))
            (try (have c25b3 : (t689 && (t682 == t690 && (t683 == t691 && (t684 == t692 && (t685 == t693 && (t686.toList == t694.toList))))) = true) → (t681 = false) := by intro h_; have z_ := c25; rw [h_] at z_; revert z_; cases (t681) <;> simp))
            (try (have c25b4 : (t689 && (t682 == t690 && (t683 == t691 && (t684 == t692 && (t685 == t693 && (t686.toList == t694.toList))))) = false) → (t681 = true) := by intro h_; have z_ := c25; rw [h_] at z_; revert z_; cases (t681) <;> simp))
            (try (have c25b5 : decide (t681 = t689 && (t682 == t690 && (t683 == t691 && (t684 == t692 && (t685 == t693 && (t686.toList == t694.toList)))))) = false := by first | (simp; done) | (simp at c25; done) | simpa using c25))
            (try (have c25b6 : (t681 == t689 && (t682 == t690 && (t683 == t691 && (t684 == t692 && (t685 == t693 && (t686.toList == t694.toList)))))) = false := by first | (simp; done) | (simp at c25; done) | simpa using c25))
            (try (have c25b7 : ¬ (t681 = t689 && (t682 == t690 && (t683 == t691 && (t684 == t692 && (t685 == t693 && (t686.toList == t694.toList)))))) := by first | (simp; done) | (simp at c25; done) | simpa using c25))
            clear c25
            exact absurd ((Option.some.inj H).trans HLaw.out) (by simp)
  · replace c8 := Bool.eq_false_iff.mpr c8
    subst c8
    have H1 : (some false) = some r := by rw [if_neg (show ¬ (false = true) by decide)] at H; exact H
    clear H
    have H := H1
    clear H1
    exact absurd ((Option.some.inj H).trans HLaw.out) (by simp)
/-- THE ONE PURE STATEMENT of careenagelaw07_BranchCalls: yours. -/
def careenagelaw07_BranchCalls.Pure : Prop := ∀ (a0 : Int) (a1 : Int) (a2 : Int) (l3 : List (S46)) (a4_0 : Int) (a4_1 : Int) (a4_2 : Int) (a4_3 : Int) (a4_4 : Int) (a4_5 : ByteArray) (a5 : ByteArray), (Lit.int .i64 a0).wf = true → (Lit.int .u32 a1).wf = true → (Lit.int .u64 a2).wf = true → l3.length ≤ maxLen → l3.length * 24 ≤ 140737488351232 → (∀ x ∈ l3, (x.f0.size ≤ 140737488351232) ∧ ((Lit.int .u32 x.f1).wf = true)) → (Lit.int .i64 a4_0).wf = true → (Lit.int .i64 a4_1).wf = true → (Lit.int .u32 a4_2).wf = true → (Lit.int .u32 a4_3).wf = true → (Lit.int .u64 a4_4).wf = true → a4_5.size ≤ 140737488351232 → a5.size ≤ 140737488351232 → ∃ k, careenagelaw07_BranchCalls.f k a0 a1 a2 l3 a4_0 a4_1 a4_2 a4_3 a4_4 a4_5 a5 = some true
theorem careenagelaw07_BranchCalls.walk (P : careenagelaw07_BranchCalls.Pure) (a0 : Int) (a1 : Int) (a2 : Int) (A3 : Option Addr) (c3 : Nat) (l3 : List (S46)) (a4_0 : Int) (a4_1 : Int) (a4_2 : Int) (a4_3 : Int) (a4_4 : Int) (a4_5 : ByteArray) (a5 : ByteArray) (w : World)    (hC3 : Kd.C k46 w A3 l3.length l3) (hc3 : l3.length ≤ c3)   (w0 : (Lit.int .i64 a0).wf = true) (w1 : (Lit.int .u32 a1).wf = true) (w2 : (Lit.int .u64 a2).wf = true) (w3 : (l3.length ≤ maxLen) ∧ (l3.length * 24 ≤ 140737488351232) ∧ ((∀ x ∈ l3, (x.f0.size ≤ 140737488351232) ∧ ((Lit.int .u32 x.f1).wf = true)))) (w4 : ((Lit.int .i64 a4_0).wf = true) ∧ ((Lit.int .i64 a4_1).wf = true) ∧ ((Lit.int .u32 a4_2).wf = true) ∧ ((Lit.int .u32 a4_3).wf = true) ∧ ((Lit.int .u64 a4_4).wf = true) ∧ (a4_5.size ≤ 140737488351232)) (w5 : a5.size ≤ 140737488351232) :
    Calls Try.prog 11 #[.int .i64 a0, .int .u32 a1, .int .u64 a2, .slice A3 l3.length c3, .agg #[.int .i64 a4_0, .int .i64 a4_1, .int .u32 a4_2, .int .u32 a4_3, .int .u64 a4_4, .string a4_5], .string a5] w fun e w' => e = .returned (.bool true) ∧ Below w.heap.size w w' := by
  obtain ⟨k, h⟩ := P a0 a1 a2 l3 a4_0 a4_1 a4_2 a4_3 a4_4 a4_5 a5 w0 w1 w2 w3.1 w3.2.1 w3.2.2 w4.1 w4.2.1 w4.2.2.1 w4.2.2.2.1 w4.2.2.2.2.1 w4.2.2.2.2.2 w5
  refine (careenagelaw07_BranchCalls.calls k a0 a1 a2 _ _ l3 a4_0 a4_1 a4_2 a4_3 a4_4 a4_5 a5 true w hC3 hc3 rfl h).mono ?_
  rintro e w' ⟨rfl, hd⟩
  exact ⟨rfl, hd⟩
end Go.Proofs.Ytlkfcabklaaacaa.P

namespace Go.Proofs.Ytlkfcabklaaacaa.P
open Go.RowKit Go.Proofs.YtlkfcabklaaacaaW.PrintWords Go.Proofs.YtlkfcabklaaacaaW.PrintLast Go.Proofs.YtlkfcabklaaacaaW.PrintMore
attribute [local go_sem] max2_int min2_int max_two min_two max_three min_three max_four min_four   -- for this text's walks alone
open Go.Proofs.YtlkfcabklaaacaaO
attribute [local go_sem] min2_str max2_str
set_option linter.unusedVariables false
set_option linter.unusedSimpArgs false
/-! ### careenageref10_Most: function 36 -/
def careenageref10_Most.f (a0 : Int) : Option (Int) := (careenageref04_Room.f a0).bind fun t326 => (some (wrap64 (Int.tdiv t326 4)))
end Go.Proofs.Ytlkfcabklaaacaa.P

namespace Go.Proofs.Ytlkfcabklaaacaa.P
open Go.RowKit Go.Proofs.YtlkfcabklaaacaaW.PrintWords Go.Proofs.YtlkfcabklaaacaaW.PrintLast Go.Proofs.YtlkfcabklaaacaaW.PrintMore
attribute [local go_sem] max2_int min2_int max_two min_two max_three min_three max_four min_four   -- for this text's walks alone
open Go.Proofs.YtlkfcabklaaacaaO
attribute [local go_sem] min2_str max2_str
set_option linter.unusedVariables false
set_option linter.unusedSimpArgs false
/-! ### careenageref10_Rises: function 34 -/
def careenageref10_Rises.l0 : Nat → List Int → Int → Option (Bool)
  | 0, _, _ => none
  | k + 1, x0, x3 => if x3 < (x0.length : Int) then (if 0 ≤ (wrap64 (x3 - 1)) then (if (wrap64 (x3 - 1)) < (x0.length : Int) then (if 0 ≤ x3 then (if (rd x0 (wrap64 (x3 - 1))) ≥ (rd x0 x3) then (some false) else (careenageref10_Rises.l0 k x0 (wrap64 (x3 + 1)))) else (none)) else (none)) else (none)) else (some true)
def careenageref10_Rises.f (k : Nat) (l0 : List Int) : Option (Bool) := careenageref10_Rises.l0 k l0 1
end Go.Proofs.Ytlkfcabklaaacaa.P

namespace Go.Proofs.Ytlkfcabklaaacaa.P
open Go.RowKit Go.Proofs.YtlkfcabklaaacaaW.PrintWords Go.Proofs.YtlkfcabklaaacaaW.PrintLast Go.Proofs.YtlkfcabklaaacaaW.PrintMore
attribute [local go_sem] max2_int min2_int max_two min_two max_three min_three max_four min_four   -- for this text's walks alone
open Go.Proofs.YtlkfcabklaaacaaO
attribute [local go_sem] min2_str max2_str
set_option linter.unusedVariables false
set_option linter.unusedSimpArgs false
/-! ### careenageref10_Numbers: function 64 -/
def careenageref10_Numbers.l0 : Nat → List Int → Int → Option (Bool)
  | 0, _, _ => none
  | k + 1, x0, x3 => if x3 < (x0.length : Int) then (if 0 ≤ x3 then ((careenageref04_Number.f (rd x0 x3)).bind fun t330 => (if t330 = true then (careenageref10_Numbers.l0 k x0 (wrap64 (x3 + 1))) else (some false))) else (none)) else ((careenageref10_Rises.f k x0).bind fun t331 => (some t331))
def careenageref10_Numbers.f (k : Nat) (l0 : List Int) : Option (Bool) := careenageref10_Numbers.l0 k l0 0
end Go.Proofs.Ytlkfcabklaaacaa.P

namespace Go.Proofs.Ytlkfcabklaaacaa.P
open Go.RowKit Go.Proofs.YtlkfcabklaaacaaW.PrintWords Go.Proofs.YtlkfcabklaaacaaW.PrintLast Go.Proofs.YtlkfcabklaaacaaW.PrintMore
attribute [local go_sem] max2_int min2_int max_two min_two max_three min_three max_four min_four   -- for this text's walks alone
open Go.Proofs.YtlkfcabklaaacaaO
attribute [local go_sem] min2_str max2_str
set_option linter.unusedVariables false
set_option linter.unusedSimpArgs false
/-! ### careenageref10_Page: function 32 -/
mutual
def careenageref10_Page.j0 : Nat → Int → Int → Int → Int → List Int → Bool → Option (Int × Int × Int × Int × Int × ByteArray × Int)
  | 0, _, _, _, _, _, _ => none
  | k + 1, x0, x1, x2, x3, x4, x48 => if x48 = true then (some (0, 0, 0, 0, 0, (⟨#[]⟩ : ByteArray), 2)) else (careenageref10_Page.l0 k x0 x1 x2 x3 x4 ([] : List Int) 0)
def careenageref10_Page.l0 : Nat → Int → Int → Int → Int → List Int → List Int → Int → Option (Int × Int × Int × Int × Int × ByteArray × Int)
  | 0, _, _, _, _, _, _, _ => none
  | k + 1, x0, x1, x2, x3, x4, x12, x13 => if x13 < (x4.length : Int) then (if 0 ≤ x13 then ((careenageref01_Put.f k x12 (IntKind.u64.wrap (rd x4 x13)) 4).bind fun t354 => (careenageref10_Page.l0 k x0 x1 x2 x3 x4 t354 (wrap64 (x13 + 1)))) else (none)) else ((careenageref04_Body.f x0 x12).bind fun bt357 => (some (6, (x4.length : Int), x1, x2, x3, bt357.1, 0)))
end
def careenageref10_Page.f (k : Nat) (a0 : Int) (a1 : Int) (a2 : Int) (a3 : Int) (l4 : List Int) : Option (Int × Int × Int × Int × Int × ByteArray × Int) := (careenageref03_Good.f a0).bind fun t348 => (if t348 = true then ((careenageref10_Numbers.f k l4).bind fun t349 => (if t349 = true then ((careenageref10_Most.f a0).bind fun t350 => (if (l4.length : Int) > t350 then (careenageref10_Page.j0 k a0 a1 a2 a3 l4 true) else ((careenageref04_Number.f a1).bind fun t351 => (if t351 = true then (if a2 = 0 then (careenageref10_Page.j0 k a0 a1 a2 a3 l4 (decide (a3 > 4611686018427387904))) else ((careenageref04_Number.f a2).bind fun t352 => (if t352 = true then (careenageref10_Page.j0 k a0 a1 a2 a3 l4 (decide (a3 > 4611686018427387904))) else (careenageref10_Page.j0 k a0 a1 a2 a3 l4 true)))) else (careenageref10_Page.j0 k a0 a1 a2 a3 l4 true))))) else (careenageref10_Page.j0 k a0 a1 a2 a3 l4 true))) else (careenageref10_Page.j0 k a0 a1 a2 a3 l4 true))
end Go.Proofs.Ytlkfcabklaaacaa.P

namespace Go.Proofs.Ytlkfcabklaaacaa.P
open Go.RowKit Go.Proofs.YtlkfcabklaaacaaW.PrintWords Go.Proofs.YtlkfcabklaaacaaW.PrintLast Go.Proofs.YtlkfcabklaaacaaW.PrintMore
attribute [local go_sem] max2_int min2_int max_two min_two max_three min_three max_four min_four   -- for this text's walks alone
open Go.Proofs.YtlkfcabklaaacaaO
attribute [local go_sem] min2_str max2_str
set_option linter.unusedVariables false
set_option linter.unusedSimpArgs false
/-! ### free_Rises_1: function 62 -/
def free_Rises_1.f (a0 : Int) (a1 : Int) : Option (Int) := if a0 > a1 then (some 1) else (some (-1))
end Go.Proofs.Ytlkfcabklaaacaa.P

namespace Go.Proofs.Ytlkfcabklaaacaa.P
open Go.RowKit Go.Proofs.YtlkfcabklaaacaaW.PrintWords Go.Proofs.YtlkfcabklaaacaaW.PrintLast Go.Proofs.YtlkfcabklaaacaaW.PrintMore
attribute [local go_sem] max2_int min2_int max_two min_two max_three min_three max_four min_four   -- for this text's walks alone
open Go.Proofs.YtlkfcabklaaacaaO
attribute [local go_sem] min2_str max2_str
set_option linter.unusedVariables false
set_option linter.unusedSimpArgs false
/-! ### slices_IsSortedFunc_uint32_uint32_62: function 61 -/
def slices_IsSortedFunc_uint32_uint32_62.l0 : Nat → List Int → Int → Option (Bool)
  | 0, _, _ => none
  | k + 1, x0, x5 => if x5 > 0 then (if 0 ≤ x5 then (if x5 < (x0.length : Int) then (if 0 ≤ (wrap64 (x5 - 1)) then (if (wrap64 (x5 - 1)) < (x0.length : Int) then ((free_Rises_1.f (rd x0 x5) (rd x0 (wrap64 (x5 - 1)))).bind fun t189 => (if t189 < 0 then (some false) else (slices_IsSortedFunc_uint32_uint32_62.l0 k x0 (wrap64 (x5 - 1))))) else (none)) else (none)) else (none)) else (none)) else (some true)
def slices_IsSortedFunc_uint32_uint32_62.f (k : Nat) (l0 : List Int)  : Option (Bool) := slices_IsSortedFunc_uint32_uint32_62.l0 k l0 (wrap64 ((l0.length : Int) - 1))
end Go.Proofs.Ytlkfcabklaaacaa.P

namespace Go.Proofs.Ytlkfcabklaaacaa.P
open Go.RowKit Go.Proofs.YtlkfcabklaaacaaW.PrintWords Go.Proofs.YtlkfcabklaaacaaW.PrintLast Go.Proofs.YtlkfcabklaaacaaW.PrintMore
attribute [local go_sem] max2_int min2_int max_two min_two max_three min_three max_four min_four   -- for this text's walks alone
open Go.Proofs.YtlkfcabklaaacaaO
attribute [local go_sem] min2_str max2_str
set_option linter.unusedVariables false
set_option linter.unusedSimpArgs false
/-! ### free_Rises: function 29 -/
def free_Rises.f (k : Nat) (l0 : List Int) : Option (Bool) := (slices_IsSortedFunc_uint32_uint32_62.f k l0).bind fun t190 => (some t190)
end Go.Proofs.Ytlkfcabklaaacaa.P

namespace Go.Proofs.Ytlkfcabklaaacaa.P
open Go.RowKit Go.Proofs.YtlkfcabklaaacaaW.PrintWords Go.Proofs.YtlkfcabklaaacaaW.PrintLast Go.Proofs.YtlkfcabklaaacaaW.PrintMore
attribute [local go_sem] max2_int min2_int max_two min_two max_three min_three max_four min_four   -- for this text's walks alone
open Go.Proofs.YtlkfcabklaaacaaO
attribute [local go_sem] min2_str max2_str
set_option linter.unusedVariables false
set_option linter.unusedSimpArgs false
/-! ### free_Most: function 31 -/
def free_Most.f (a0 : Int) : Option (Int) := (frame_Room.f a0).bind fun t191 => (some (wrap64 (Int.tdiv t191 4)))
end Go.Proofs.Ytlkfcabklaaacaa.P

namespace Go.Proofs.Ytlkfcabklaaacaa.P
open Go.RowKit Go.Proofs.YtlkfcabklaaacaaW.PrintWords Go.Proofs.YtlkfcabklaaacaaW.PrintLast Go.Proofs.YtlkfcabklaaacaaW.PrintMore
attribute [local go_sem] max2_int min2_int max_two min_two max_three min_three max_four min_four   -- for this text's walks alone
open Go.Proofs.YtlkfcabklaaacaaO
attribute [local go_sem] min2_str max2_str
set_option linter.unusedVariables false
set_option linter.unusedSimpArgs false
/-! ### free_number: function 57 -/
def free_number.f (a0 : Int) : Option (Bool) := if a0 ≥ 2 then (some (decide (a0 ≤ 2147483647))) else (some false)
end Go.Proofs.Ytlkfcabklaaacaa.P

namespace Go.Proofs.Ytlkfcabklaaacaa.P
open Go.RowKit Go.Proofs.YtlkfcabklaaacaaW.PrintWords Go.Proofs.YtlkfcabklaaacaaW.PrintLast Go.Proofs.YtlkfcabklaaacaaW.PrintMore
attribute [local go_sem] max2_int min2_int max_two min_two max_three min_three max_four min_four   -- for this text's walks alone
open Go.Proofs.YtlkfcabklaaacaaO
attribute [local go_sem] min2_str max2_str
set_option linter.unusedVariables false
set_option linter.unusedSimpArgs false
/-! ### free_Page_1: function 56 -/
def free_Page_1.f (a0 : Int) : Option (Bool) := (free_number.f a0).bind fun t199 => (some (!t199))
end Go.Proofs.Ytlkfcabklaaacaa.P

namespace Go.Proofs.Ytlkfcabklaaacaa.P
open Go.RowKit Go.Proofs.YtlkfcabklaaacaaW.PrintWords Go.Proofs.YtlkfcabklaaacaaW.PrintLast Go.Proofs.YtlkfcabklaaacaaW.PrintMore
attribute [local go_sem] max2_int min2_int max_two min_two max_three min_three max_four min_four   -- for this text's walks alone
open Go.Proofs.YtlkfcabklaaacaaO
attribute [local go_sem] min2_str max2_str
set_option linter.unusedVariables false
set_option linter.unusedSimpArgs false
/-! ### slices_IndexFunc_uint32_uint32_56: function 77 -/
def slices_IndexFunc_uint32_uint32_56.l0 : Nat → List Int → Int → Int → Option (Int)
  | 0, _, _, _ => none
  | k + 1, x0, x7, x8 => if x8 < x7 then (if 0 ≤ x8 then (if x8 < (x0.length : Int) then ((free_Page_1.f (rd x0 x8)).bind fun t201 => (if t201 = true then (some x8) else (slices_IndexFunc_uint32_uint32_56.l0 k x0 x7 (wrap64 (x8 + 1))))) else (none)) else (none)) else (some (-1))
def slices_IndexFunc_uint32_uint32_56.f (k : Nat) (l0 : List Int)  : Option (Int) := slices_IndexFunc_uint32_uint32_56.l0 k l0 (l0.length : Int) 0
end Go.Proofs.Ytlkfcabklaaacaa.P

namespace Go.Proofs.Ytlkfcabklaaacaa.P
open Go.RowKit Go.Proofs.YtlkfcabklaaacaaW.PrintWords Go.Proofs.YtlkfcabklaaacaaW.PrintLast Go.Proofs.YtlkfcabklaaacaaW.PrintMore
attribute [local go_sem] max2_int min2_int max_two min_two max_three min_three max_four min_four   -- for this text's walks alone
open Go.Proofs.YtlkfcabklaaacaaO
attribute [local go_sem] min2_str max2_str
set_option linter.unusedVariables false
set_option linter.unusedSimpArgs false
/-! ### slices_ContainsFunc_uint32_uint32_56: function 58 -/
def slices_ContainsFunc_uint32_uint32_56.f (k : Nat) (l0 : List Int)  : Option (Bool) := (slices_IndexFunc_uint32_uint32_56.f k l0).bind fun t202 => (some (decide (t202 ≥ 0)))
end Go.Proofs.Ytlkfcabklaaacaa.P

namespace Go.Proofs.Ytlkfcabklaaacaa.P
open Go.RowKit Go.Proofs.YtlkfcabklaaacaaW.PrintWords Go.Proofs.YtlkfcabklaaacaaW.PrintLast Go.Proofs.YtlkfcabklaaacaaW.PrintMore
attribute [local go_sem] max2_int min2_int max_two min_two max_three min_three max_four min_four   -- for this text's walks alone
open Go.Proofs.YtlkfcabklaaacaaO
attribute [local go_sem] min2_str max2_str
set_option linter.unusedVariables false
set_option linter.unusedSimpArgs false
/-! ### free_Page: function 27 -/
mutual
def free_Page.j0 : Nat → Int → Int → Int → Int → List Int → Bool → Option (Int × Int × Int × Int × Int × ByteArray × Int)
  | 0, _, _, _, _, _, _ => none
  | k + 1, x0, x1, x2, x3, x4, x55 => if x55 = true then (some (0, 0, 0, 0, 0, (⟨#[]⟩ : ByteArray), 2)) else (free_Page.l0 k x0 x1 x2 x3 x4 ([] : List Int) x4 (x4.length : Int) 0)
def free_Page.l0 : Nat → Int → Int → Int → Int → List Int → List Int → List Int → Int → Int → Option (Int × Int × Int × Int × Int × ByteArray × Int)
  | 0, _, _, _, _, _, _, _, _, _ => none
  | k + 1, x0, x1, x2, x3, x4, x13, x57, x58, x59 => if x59 < x58 then (if 0 ≤ x59 then (if x59 < (x57.length : Int) then ((octet_Put.f k x13 (IntKind.u64.wrap (rd x57 x59)) 4).bind fun t211 => (free_Page.l0 k x0 x1 x2 x3 x4 t211 x57 x58 (wrap64 (x59 + 1)))) else (none)) else (none)) else ((frame_Body.f x0 x13).bind fun bt214 => (some (6, (x4.length : Int), x1, x2, x3, bt214.1, 0)))
end
def free_Page.f (k : Nat) (a0 : Int) (a1 : Int) (a2 : Int) (a3 : Int) (l4 : List Int) : Option (Int × Int × Int × Int × Int × ByteArray × Int) := (free_Most.f a0).bind fun t204 => (if t204 = 0 then (free_Page.j0 k a0 a1 a2 a3 l4 true) else ((free_Most.f a0).bind fun t205 => (if (l4.length : Int) > t205 then (free_Page.j0 k a0 a1 a2 a3 l4 true) else ((free_Rises.f k l4).bind fun t206 => (if t206 = true then ((slices_ContainsFunc_uint32_uint32_56.f k l4).bind fun t207 => (if t207 = true then (free_Page.j0 k a0 a1 a2 a3 l4 true) else ((free_Page_1.f a1).bind fun t208 => (if t208 = true then (free_Page.j0 k a0 a1 a2 a3 l4 true) else (if a2 = 0 then (free_Page.j0 k a0 a1 a2 a3 l4 (decide (a3 > 4611686018427387904))) else ((free_Page_1.f a2).bind fun t209 => (if t209 = true then (free_Page.j0 k a0 a1 a2 a3 l4 true) else (free_Page.j0 k a0 a1 a2 a3 l4 (decide (a3 > 4611686018427387904)))))))))) else (free_Page.j0 k a0 a1 a2 a3 l4 true))))))
end Go.Proofs.Ytlkfcabklaaacaa.P

namespace Go.Proofs.YtlkfcabklaaacaaO
set_option linter.unusedVariables false
set_option linter.unusedSimpArgs false
open Go.RowKit Go.Proofs.YtlkfcabklaaacaaW.PrintWords
/-- As a step of its own (no unfolding: the kernel is not to compare what stands on both sides). -/
theorem bs {α β : Type} (a : α) (f : α → Option β) : (some a).bind f = f a := Eq.trans (Option.bind_some a f) (Eq.refl (f a))
/-- Numbers that are bytes. -/
def isB (l : List Int) : Prop := ∀ x ∈ l, 0 ≤ x ∧ x < 256
theorem isB_take {l : List Int} (h : isB l) (n : Nat) : isB (l.take n) := fun x hx => h x (List.mem_of_mem_take hx)
/-- A string's bytes. -/
abbrev B (s : ByteArray) : List Int := bytesOf s
theorem isB_B (s : ByteArray) : isB (B s) := by
  intro x hx
  simp only [bytesOf, List.mem_map] at hx
  obtain ⟨b, _, rfl⟩ := hx
  have := b.toNat_lt
  omega
theorem B_length (s : ByteArray) : (B s).length = s.size := bytesOf_length s
theorem B_inj {s t : ByteArray} (h : B s = B t) : s = t := by
  have h2 : s.data.toList = t.data.toList := by
    refine List.map_inj_right (fun a b hab => ?_) |>.1 h
    exact UInt8.toNat_inj.1 (Int.ofNat_inj.1 hab)
  cases s; cases t
  simp only [ByteArray.mk.injEq]
  exact Array.toList_inj.1 h2
theorem toList_iff {s t : ByteArray} : s.toList = t.toList ↔ B s = B t := by
  rw [Lib.toList_data, Lib.toList_data]
  refine ⟨fun h => by simp only [bytesOf, h], fun h => by rw [B_inj h]⟩
theorem toList_eq_iff {s t : ByteArray} : s.toList = t.toList ↔ s = t := ⟨fun h => B_inj (toList_iff.1 h), fun h => by rw [h]⟩
theorem B_extract (s : ByteArray) (a b : Nat) : B (s.extract a b) = ((B s).take b).drop a := by
  simp only [bytesOf, Lib.extract_data, List.map_take, List.map_drop]
  rw [List.drop_take]
theorem B_take (s : ByteArray) (b : Nat) : B (s.extract 0 b) = (B s).take b := by
  rw [B_extract, List.drop_zero]
theorem B_empty : B ⟨#[]⟩ = [] := rfl
theorem size_str (l : List Int) : (strOfNums l).size = l.length := strOfNums_size l
theorem bt_B (s : ByteArray) (i : Int) : bt s i = rd (B s) i := (rd_bytesOf s i).symm
theorem rd_get {l : List Int} {i : Nat} (h : i < l.length) : rd l (i : Int) = l[i] := by simp [rd, h]
/-! ### numbers, the least byte first -/
def le : Int → Nat → List Int
  | _, 0 => []
  | n, k + 1 => n % 256 :: le (n / 256) k
def ofLe : List Int → Int
  | [] => 0
  | b :: l => b + ofLe l * 256
theorem le_length : ∀ (k : Nat) (n : Int), (le n k).length = k
  | 0, _ => rfl
  | k + 1, n => by simp [le, le_length k]
theorem pow_succ256 (k : Nat) : (256 : Int) ^ (k + 1) = 256 * 256 ^ k := by rw [Int.pow_succ, Int.mul_comm]
theorem pow_pos256 (k : Nat) : (0 : Int) < 256 ^ k := Int.pow_pos (by decide)
theorem ofLe_nonneg : ∀ {l : List Int}, isB l → 0 ≤ ofLe l
  | [], _ => Int.le_refl _
  | b :: l, h => by
    have h1 := h b (List.mem_cons_self ..)
    have h2 := ofLe_nonneg (l := l) (fun x hx => h x (List.mem_cons_of_mem _ hx))
    simp only [ofLe]
    omega
theorem ofLe_lt : ∀ {l : List Int}, isB l → ofLe l < 256 ^ l.length
  | [], _ => by simp [ofLe]
  | b :: l, h => by
    have h1 := h b (List.mem_cons_self ..)
    have h2 := ofLe_lt (l := l) (fun x hx => h x (List.mem_cons_of_mem _ hx))
    simp only [ofLe, List.length_cons]
    rw [pow_succ256]
    omega
theorem ofLe_snoc : ∀ (l : List Int) (b : Int), ofLe (l ++ [b]) = ofLe l + b * 256 ^ l.length
  | [], b => by simp [ofLe]
  | a :: l, b => by
    simp only [List.cons_append, ofLe, List.length_cons]
    rw [ofLe_snoc l b, pow_succ256, Int.add_mul, Int.mul_assoc b, Int.mul_comm (256 : Int) (256 ^ l.length), ← Int.mul_assoc b]
    omega
end Go.Proofs.YtlkfcabklaaacaaO

namespace Go.Proofs.Ytlkfcabklaaacaa.Q
set_option linter.unusedVariables false
set_option linter.unusedSimpArgs false
open Go.RowKit Go.Proofs.Ytlkfcabklaaacaa.P Go.Proofs.YtlkfcabklaaacaaW.PrintWords Go.Proofs.YtlkfcabklaaacaaW.PrintLast Go.Proofs.YtlkfcabklaaacaaW.PrintMore Go.Proofs.YtlkfcabklaaacaaO
/-- The sizes of pages. -/
def goodS (a : Int) : Bool := decide (128 ≤ a) && decide (a ≤ 4096) && (Int.tmod a 64 == 0)
def roomS (a : Int) : Int := if goodS a = true then a - 24 else 0
theorem roomS_range (a : Int) : 0 ≤ roomS a ∧ roomS a ≤ 4072 := by
  unfold roomS goodS
  split
  · rename_i h
    simp only [Bool.and_eq_true, decide_eq_true_eq, beq_iff_eq] at h
    omega
  · omega
theorem good_is (a : Int) : device_Good.f a = some (goodS a) := by
  unfold device_Good.f goodS
  by_cases h1 : a ≥ 128
  · by_cases h2 : a ≤ 4096
    · simp [h1, h2]
    · simp [h1, h2]
  · have h3 : ¬ (128 ≤ a) := by omega
    simp [h3]
theorem room_is (a : Int) : frame_Room.f a = some (roomS a) := by
  unfold frame_Room.f
  rw [good_is, bs]
  unfold roomS
  by_cases h : goodS a = true
  · rw [if_pos h, if_pos h]
    unfold goodS at h
    simp only [Bool.and_eq_true, decide_eq_true_eq, beq_iff_eq] at h
    congr 1
    unfold wrap64
    omega
  · rw [if_neg h, if_neg h]
theorem rgood_is (a : Int) : careenageref03_Good.f a = some (goodS a) := by
  unfold careenageref03_Good.f goodS
  by_cases h1 : a ≥ 128
  · by_cases h2 : a ≤ 4096
    · simp [h1, h2]
    · simp [h1, h2]
  · have h3 : ¬ (128 ≤ a) := by omega
    simp [h3]
theorem rroom_is (a : Int) : careenageref04_Room.f a = some (roomS a) := by
  unfold careenageref04_Room.f
  rw [rgood_is, bs]
  unfold roomS
  by_cases h : goodS a = true
  · rw [if_pos h, if_pos h]
    unfold goodS at h
    simp only [Bool.and_eq_true, decide_eq_true_eq, beq_iff_eq] at h
    congr 1
    unfold wrap64
    omega
  · rw [if_neg h, if_neg h]
def numB (x : Int) : Bool := decide (2 ≤ x) && decide (x ≤ 2147483647)
theorem rnumber_is (a : Int) : careenageref04_Number.f a = some (numB a) := by
  unfold careenageref04_Number.f numB
  by_cases h : a ≥ 2
  · rw [if_pos h]
    simp [show (2 : Int) ≤ a from h]
  · rw [if_neg h]
    simp [show ¬ (2 : Int) ≤ a from h]
end Go.Proofs.Ytlkfcabklaaacaa.Q

namespace Go.Proofs.Ytlkfcabklaaacaa.Q
set_option linter.unusedVariables false
set_option linter.unusedSimpArgs false
open Go.RowKit Go.Proofs.Ytlkfcabklaaacaa.P Go.Proofs.YtlkfcabklaaacaaW.PrintWords Go.Proofs.YtlkfcabklaaacaaW.PrintLast Go.Proofs.YtlkfcabklaaacaaW.PrintMore Go.Proofs.YtlkfcabklaaacaaO
theorem w64 {x : Int} (h0 : -9223372036854775808 ≤ x) (h1 : x ≤ 9223372036854775807) : wrap64 x = x := by
  unfold wrap64
  omega
theorem u64w {x : Int} (h0 : 0 ≤ x) (h1 : x < 18446744073709551616) : IntKind.u64.wrap x = x := by
  rw [IntKind.wrap_u64]
  omega
theorem pow8 (i : Nat) : (2 : Int) ^ (8 * i) = 256 ^ i := by
  rw [Int.pow_mul]
  rfl
theorem pow256_le {i : Nat} (h : i ≤ 8) : (256 : Int) ^ i ≤ 18446744073709551616 := by
  have : i = 0 ∨ i = 1 ∨ i = 2 ∨ i = 3 ∨ i = 4 ∨ i = 5 ∨ i = 6 ∨ i = 7 ∨ i = 8 := by omega
  rcases this with rfl | rfl | rfl | rfl | rfl | rfl | rfl | rfl | rfl <;> decide
theorem shr_byte (n : Int) (i : Nat) (h : i ≤ 8) : shr .u64 n (8 * (i : Int)) = n / 256 ^ i := by
  unfold shr
  rw [show min (8 * (i : Int)).toNat IntKind.u64.bits = 8 * i by simp only [IntKind.bits]; omega, pow8]
theorem shl_byte (b : Int) (i : Nat) (h : i ≤ 7) (hb : 0 ≤ b ∧ b < 256) : shl .u64 b (8 * (i : Int)) = b * 256 ^ i := by
  unfold shl
  rw [show min (8 * (i : Int)).toNat IntKind.u64.bits = 8 * i by simp only [IntKind.bits]; omega, pow8]
  have h1 := pow256_le (i := i + 1) (by omega)
  rw [pow_succ256] at h1
  have h2 := pow_pos256 i
  refine u64w (Int.mul_nonneg hb.1 (Int.le_of_lt h2)) ?_
  have h3 : b * 256 ^ i ≤ 255 * 256 ^ i := Int.mul_le_mul_of_nonneg_right (by omega) (Int.le_of_lt h2)
  omega
theorem or_byte (v b : Int) (i : Nat) (h : i ≤ 7) (hv : 0 ≤ v ∧ v < 256 ^ i) (hb : 0 ≤ b ∧ b < 256) : Go.bits .or .u64 v (b * 256 ^ i) = v + b * 256 ^ i := by
  have h1 := pow256_le (i := i + 1) (by omega)
  rw [pow_succ256] at h1
  have h2 := pow_pos256 i
  have h3 : b * 256 ^ i ≤ 255 * 256 ^ i := Int.mul_le_mul_of_nonneg_right (by omega) (Int.le_of_lt h2)
  have h4 : 0 ≤ b * 256 ^ i := Int.mul_nonneg hb.1 (Int.le_of_lt h2)
  rw [u64_or _ _ hv.1 (by omega) h4 (by omega)]
  obtain ⟨v, rfl⟩ := Int.eq_ofNat_of_zero_le hv.1
  obtain ⟨b, rfl⟩ := Int.eq_ofNat_of_zero_le hb.1
  have e : ((b : Int) * 256 ^ i) = ((b * 256 ^ i : Nat) : Int) := by rw [Int.natCast_mul, Int.natCast_pow]; rfl
  have hv2 : v < 2 ^ (8 * i) := by
    have := hv.2
    rw [Nat.pow_mul]
    have e2 : ((256 : Int) ^ i) = (((2 ^ 8) ^ i : Nat) : Int) := by rw [Int.natCast_pow]; rfl
    rw [e2] at this
    exact Int.ofNat_lt.1 this
  rw [e, Int.toNat_natCast, Int.toNat_natCast, Nat.or_comm, nat_join (8 * i) (b * 256 ^ i) v (by rw [Nat.pow_mul]; exact Nat.mul_mod_left _ _) hv2]
  omega
theorem le_drop : ∀ (K i : Nat) (n : Int), i < K → (le n K).drop i = (n / 256 ^ i % 256) :: (le n K).drop (i + 1)
  | 0, i, n, h => by omega
  | K + 1, 0, n, h => by simp [le]
  | K + 1, i + 1, n, h => by
    simp only [le, List.drop_succ_cons]
    rw [le_drop K i _ (by omega), pow_succ256, Int.ediv_ediv_of_nonneg (by decide)]
theorem put_l0 (n : Int) (K : Nat) (hK : K ≤ 8) : ∀ (d k i : Nat) (x : List Int), i + d = K → d < k → x.length + d ≤ 140737488355327 → octet_Put.l0 k n x K i = some (x ++ (le n K).drop i)
  | 0, k + 1, i, x, h, _, _ => by
    simp only [octet_Put.l0]
    rw [if_neg (by omega), List.drop_eq_nil_of_le (by rw [le_length]; omega), List.append_nil]
  | d + 1, k + 1, i, x, h, hk, hl => by
    simp only [octet_Put.l0]
    have e1 : wrap64 (8 * (i : Int)) = 8 * (i : Int) := w64 (by omega) (by omega)
    have e2 : wrap64 ((i : Int) + 1) = ((i + 1 : Nat) : Int) := by rw [w64 (by omega) (by omega)]; rfl
    rw [if_pos (by omega), e1, if_pos (by omega), if_pos (by omega), shr_byte n i (by omega), e2,
      put_l0 n K hK d k (i + 1) _ (by omega) (by omega) (by simp; omega), le_drop K i n (by omega)]
    simp
theorem rput_l0 (n : Int) (K : Nat) (hK : K ≤ 8) : ∀ (d k i : Nat) (x : List Int), i + d = K → d < k → x.length + d ≤ 140737488355327 → careenageref01_Put.l0 k n K x i = some (x ++ (le n K).drop i)
  | 0, k + 1, i, x, h, _, _ => by
    simp only [careenageref01_Put.l0]
    rw [if_neg (by omega), List.drop_eq_nil_of_le (by rw [le_length]; omega), List.append_nil]
  | d + 1, k + 1, i, x, h, hk, hl => by
    simp only [careenageref01_Put.l0]
    have e1 : IntKind.u64.wrap (wrap64 (8 * (i : Int))) = 8 * (i : Int) := by rw [w64 (by omega) (by omega), u64w (by omega) (by omega)]
    have e2 : wrap64 ((i : Int) + 1) = ((i + 1 : Nat) : Int) := by rw [w64 (by omega) (by omega)]; rfl
    rw [if_pos (by omega), e1, if_pos (by omega), if_pos (by omega), shr_byte n i (by omega), e2,
      rput_l0 n K hK d k (i + 1) _ (by omega) (by omega) (by simp; omega), le_drop K i n (by omega)]
    simp
/-- What Put answers. -/
def putL (l : List Int) (n K : Int) : List Int := if 1 ≤ K ∧ K ≤ 8 then l ++ le n K.toNat else l
theorem put_is (k : Nat) (l : List Int) (n K : Int) (hk : 12 ≤ k) (hl : l.length ≤ 140737488355000) : octet_Put.f k l n K = some (putL l n K) := by
  obtain ⟨k, rfl⟩ : ∃ m, k = m + 2 := ⟨k - 2, by omega⟩
  unfold octet_Put.f putL
  have e1 : wrap64 ((l.length : Int) + 8) = (l.length : Int) + 8 := w64 (by omega) (by omega)
  rw [e1, if_pos (by omega), if_pos (by omega)]
  simp only [bs, List.nil_append]
  rw [if_pos (by simp; omega)]
  by_cases h1 : K < 1
  · rw [if_pos h1, if_neg (by omega)]
    simp [octet_Put.j0]
  · rw [if_neg h1]
    by_cases h2 : K > 8
    · rw [if_neg (by omega)]
      simp [octet_Put.j0, h2]
    · rw [if_pos (by omega)]
      obtain ⟨K, rfl⟩ := Int.eq_ofNat_of_zero_le (show 0 ≤ K by omega)
      simp only [octet_Put.j0, h2, decide_false]
      rw [if_neg (by decide), show (0 : Int) = ((0 : Nat) : Int) from rfl, put_l0 n K (by omega) K (k + 1) 0 l (by omega) (by omega) (by omega)]
      simp
theorem rput_is (k : Nat) (l : List Int) (n K : Int) (hk : 12 ≤ k) (hl : l.length ≤ 140737488355000) : careenageref01_Put.f k l n K = some (putL l n K) := by
  obtain ⟨k, rfl⟩ : ∃ m, k = m + 2 := ⟨k - 2, by omega⟩
  unfold careenageref01_Put.f putL
  simp only [bs, List.nil_append]
  rw [if_pos (by simp; omega)]
  by_cases h1 : K < 1
  · rw [if_pos h1, if_neg (by omega)]
    simp [careenageref01_Put.j0]
  · rw [if_neg h1]
    by_cases h2 : K > 8
    · rw [if_neg (by omega)]
      simp [careenageref01_Put.j0, h2]
    · rw [if_pos (by omega)]
      obtain ⟨K, rfl⟩ := Int.eq_ofNat_of_zero_le (show 0 ≤ K by omega)
      simp only [careenageref01_Put.j0, h2, decide_false]
      rw [if_neg (by decide), show (0 : Int) = ((0 : Nat) : Int) from rfl, rput_l0 n K (by omega) K (k + 1) 0 l (by omega) (by omega) (by omega)]
      simp
end Go.Proofs.Ytlkfcabklaaacaa.Q

namespace Go.Proofs.Ytlkfcabklaaacaa.Q
set_option linter.unusedVariables false
set_option linter.unusedSimpArgs false
open Go.RowKit Go.Proofs.Ytlkfcabklaaacaa.P Go.Proofs.YtlkfcabklaaacaaW.PrintWords Go.Proofs.YtlkfcabklaaacaaW.PrintLast Go.Proofs.YtlkfcabklaaacaaW.PrintMore Go.Proofs.YtlkfcabklaaacaaO
theorem put4 (l : List Int) (n : Int) : putL l n 4 = l ++ le n 4 := by
  unfold putL
  rw [if_pos (by decide)]
  rfl
/-- The bytes, and zeros behind them, as many as there is room for. -/
def padS (m : Int) (l : List Int) : ByteArray := strOfNums (l ++ List.replicate (m.toNat - l.length) 0)
theorem body_is (s : Int) (l : List Int) (hg : goodS s = true) (hl : (l.length : Int) ≤ roomS s) : frame_Body.f s l = some (padS (roomS s) l, 0) := by
  have hr := roomS_range s
  unfold frame_Body.f padded padS
  rw [good_is, bs, if_pos hg, room_is, bs, if_neg (by omega), if_pos (by omega)]
  rw [show min l.length (roomS s).toNat = l.length by omega, List.take_length, List.drop_replicate]
theorem strOfNums_append (l m : List Int) : strOfNums (l ++ m) = strOfNums l ++ strOfNums m := by
  apply ByteArray.ext
  simp [strOfNums, ByteArray.data_append]
theorem rbody_is (s : Int) (l : List Int) (hg : goodS s = true) (hl : (l.length : Int) ≤ roomS s) : careenageref04_Body.f s l = some (padS (roomS s) l, 0) := by
  have hr := roomS_range s
  have hw : wrap64 (roomS s - (l.length : Int)) = roomS s - (l.length : Int) := by unfold wrap64; omega
  unfold careenageref04_Body.f padS
  rw [rgood_is, bs, if_pos hg, rroom_is, bs, if_neg (by omega), bs, hw, if_pos (by omega), if_pos (by omega), bs, if_pos (by rw [size_str, size_str, List.length_replicate]; omega),
    show (roomS s - (l.length : Int)).toNat = (roomS s).toNat - l.length by omega, strOfNums_append]
end Go.Proofs.Ytlkfcabklaaacaa.Q

namespace Go.Proofs.Ytlkfcabklaaacaa.Q
set_option linter.unusedVariables false
set_option linter.unusedSimpArgs false
open Go.RowKit Go.Proofs.Ytlkfcabklaaacaa.P Go.Proofs.YtlkfcabklaaacaaW.PrintWords Go.Proofs.YtlkfcabklaaacaaW.PrintLast Go.Proofs.YtlkfcabklaaacaaW.PrintMore Go.Proofs.YtlkfcabklaaacaaO
theorem bt_get {s : ByteArray} {i : Nat} (h : i < (B s).length) : bt s (i : Int) = (B s)[i] := by rw [bt_B, rd_get h]
/-- What Bytes answers. -/
def bytesR (s : ByteArray) (n : Int) : ByteArray × Int × ByteArray :=
  if n < 0 then (⟨#[]⟩, 2, s) else if n > (s.size : Int) then (⟨#[]⟩, 7, s) else (s.extract 0 n.toNat, 0, s.extract n.toNat s.size)
theorem bytes_is (s : ByteArray) (n : Int) : octet_Reader_Bytes.f s n = some (bytesR s n) := by
  unfold octet_Reader_Bytes.f octet_Reader_take.f bytesR
  by_cases h1 : n < 0
  · simp [h1]
  · rw [if_neg h1, if_neg h1]
    by_cases h2 : n > (s.size : Int)
    · simp [h2]
    · rw [if_neg h2, if_neg h2, if_pos (by omega), if_pos (by omega)]
      rfl
/-- What Number answers. -/
def numR (s : ByteArray) (n : Int) : Int × Int × ByteArray :=
  if n < 1 ∨ n > 8 then (0, 2, s) else if (s.size : Int) < n then (0, 7, s) else (ofLe ((B s).take n.toNat), 0, s.extract n.toNat s.size)
theorem ofLe_step {l : List Int} (hl : isB l) {i : Nat} (hi : i < l.length) (h8 : i ≤ 7) : Go.bits .or .u64 (ofLe (l.take i)) (shl .u64 (IntKind.u64.wrap l[i]) (8 * (i : Int))) = ofLe (l.take (i + 1)) := by
  have hb := hl l[i] (List.getElem_mem hi)
  have hv := ofLe_lt (isB_take hl i)
  rw [List.length_take, Nat.min_eq_left (by omega)] at hv
  rw [u64w hb.1 (by omega), shl_byte _ _ h8 hb, or_byte _ _ _ h8 ⟨ofLe_nonneg (isB_take hl i), hv⟩ hb, List.take_succ_eq_append_getElem hi, ofLe_snoc, List.length_take, Nat.min_eq_left (by omega)]
theorem num_l0 (s x : ByteArray) (e : Int) (hx : x.size ≤ 8) : ∀ (d k i : Nat), i + d = x.size → d < k → octet_Reader_Number.l0 k (ofLe ((B x).take i)) e x (x.size : Int) i s = some (ofLe (B x), e, s)
  | 0, k + 1, i, h, _ => by
    simp only [octet_Reader_Number.l0]
    rw [if_neg (by omega), List.take_of_length_le (by rw [B_length]; omega)]
  | d + 1, k + 1, i, h, hk => by
    have hi : i < (B x).length := by rw [B_length]; omega
    simp only [octet_Reader_Number.l0]
    rw [if_pos (by omega), if_pos (by omega), if_pos (by omega), w64 (x := 8 * (i : Int)) (by omega) (by omega), if_pos (by omega), bt_get hi, ofLe_step (isB_B x) hi (by omega), w64 (by omega) (by omega)]
    exact num_l0 s x e hx d k (i + 1) (by omega) (by omega)
theorem num_is (s : ByteArray) (n : Int) (k : Nat) (hk : 9 < k) : octet_Reader_Number.f k s n = some (numR s n) := by
  unfold octet_Reader_Number.f numR
  by_cases h1 : n < 1
  · rw [if_pos h1, if_pos (.inl h1)]
  · rw [if_neg h1]
    by_cases h2 : n > 8
    · rw [if_pos h2, if_pos (.inr h2)]
    · rw [if_neg h2, if_neg (by omega)]
      unfold octet_Reader_take.f
      by_cases h3 : n > (s.size : Int)
      · rw [if_pos h3, if_pos h3]
        simp only [bs]
        have := num_l0 s ⟨#[]⟩ 7 (by decide) 0 k 0 rfl (by omega)
        simpa [B_empty, ofLe] using this
      · rw [if_neg h3, if_neg h3, if_pos (by omega), if_pos (by omega)]
        simp only [bs]
        have hsz : (s.extract 0 n.toNat).size = n.toNat := by rw [ByteArray.size_extract]; omega
        have := num_l0 (s.extract n.toNat s.size) (s.extract 0 n.toNat) 0 (by omega) n.toNat k 0 (by omega) (by omega)
        rw [B_take] at this
        simpa [ofLe] using this
end Go.Proofs.Ytlkfcabklaaacaa.Q

namespace Go.Proofs.Ytlkfcabklaaacaa.Q
set_option linter.unusedVariables false
set_option linter.unusedSimpArgs false
open Go.RowKit Go.Proofs.Ytlkfcabklaaacaa.P Go.Proofs.YtlkfcabklaaacaaW.PrintWords Go.Proofs.YtlkfcabklaaacaaW.PrintLast Go.Proofs.YtlkfcabklaaacaaW.PrintMore Go.Proofs.YtlkfcabklaaacaaO
abbrev SF := S46
/-- A fork's key. -/
abbrev keyF (l : List SF) (j : Nat) : List UInt8 := (rd_T46 l (j : Int)).f0.toList
def okF (l : List SF) (j : Nat) : Prop := (rd_T46 l (j : Int)).f0.size ≤ 40 ∧ numB (rd_T46 l (j : Int)).f1 = true ∧ (0 < j → Op.bytesLess (keyF l (j - 1)) (keyF l j) = true)
instance (l : List SF) (j : Nat) : Decidable (okF l j) := by unfold okF; exact inferInstance
def mayF (l : List SF) : Bool := decide (∀ j, j < l.length → okF l j) && decide (0 < l.length)
theorem bnumber_is (a : Int) : branch_number.f a = some (numB a) := by
  unfold branch_number.f numB
  by_cases h : a ≥ 2
  · rw [if_pos h]
    simp [show (2 : Int) ≤ a from h]
  · rw [if_neg h]
    simp [show ¬ (2 : Int) ≤ a from h]
theorem may_up (l : List SF) (hl : l.length < 4611686018427387904) : ∀ (d i k : Nat), i + d = l.length → d < k → branch_may.l0 k l l (l.length : Int) (i : Int) = some (decide (∀ j, j < l.length → i ≤ j → okF l j) && decide (0 < l.length))
  | d, i, 0, _, h => by omega
  | 0, i, k + 1, hi, _ => by
    rw [branch_may.l0, if_neg (by omega), decide_eq_true (by intro j a b; omega : ∀ j, j < l.length → i ≤ j → okF l j), Bool.true_and]
    congr 1
    rw [decide_eq_decide]
    omega
  | d + 1, i, k + 1, hi, hk => by
    have ih := may_up l hl d (i + 1) k (by omega) (by omega)
    have hw2 : wrap64 ((i : Int) + 1) = ((i + 1 : Nat) : Int) := by unfold wrap64; omega
    have hbad : ¬ okF l i → some false = some (decide (∀ j, j < l.length → i ≤ j → okF l j) && decide (0 < l.length)) := fun h => by
      rw [decide_eq_false (fun h2 => h (h2 i (by omega) (Nat.le_refl _))), Bool.false_and]
    have hgood : okF l i → some (decide (∀ j, j < l.length → i + 1 ≤ j → okF l j) && decide (0 < l.length)) = some (decide (∀ j, j < l.length → i ≤ j → okF l j) && decide (0 < l.length)) := fun h => by
      congr 2
      rw [decide_eq_decide]
      refine ⟨fun hh j a b => ?_, fun hh j a b => hh j a (by omega)⟩
      by_cases e : j = i
      · subst e
        exact h
      · exact hh j a (by omega)
    rw [branch_may.l0, if_pos (by omega), if_pos (by omega), if_pos (by omega)]
    unfold branch_Key.f
    rw [bs, bnumber_is]
    by_cases h1 : (rd_T46 l (i : Int)).f0.size ≤ 40
    · rw [if_pos (by rw [decide_eq_true_eq]; omega), bs]
      cases h2 : numB (rd_T46 l (i : Int)).f1 with
      | false =>
        rw [if_neg (by decide)]
        exact hbad (fun h => by rw [h.2.1] at h2; cases h2)
      | true =>
        rw [if_pos rfl]
        by_cases h3 : (i : Int) > 0
        · have hw : wrap64 ((i : Int) - 1) = ((i - 1 : Nat) : Int) := by unfold wrap64; omega
          rw [if_pos h3, hw, if_pos (by omega), if_pos (by omega)]
          by_cases h4 : Op.bytesLess (keyF l (i - 1)) (keyF l i) = true
          · rw [if_pos h4, hw2, ih]
            exact hgood ⟨h1, h2, fun _ => h4⟩
          · rw [if_neg h4]
            exact hbad (fun h => h4 (h.2.2 (by omega)))
        · rw [if_neg h3, hw2, ih]
          exact hgood ⟨h1, h2, fun h => by omega⟩
    · rw [if_neg (by rw [decide_eq_true_eq]; omega)]
      exact hbad (fun h => h1 h.1)
theorem may_is (l : List SF) (hl : l.length < 4611686018427387904) (k : Nat) (hk : l.length < k) : branch_may.f k l = some (mayF l) := by
  unfold branch_may.f
  refine Eq.trans (may_up l hl l.length 0 k (by omega) hk) ?_
  unfold mayF
  congr 2
  rw [decide_eq_decide]
  exact ⟨fun h j a => h j a (Nat.zero_le _), fun h j a _ => h j a⟩
theorem rmay_up (l : List SF) (hl : l.length < 4611686018427387904) : ∀ (d i k : Nat), i + d = l.length → d < k → careenageref07_May.l0 k l (i : Int) = some (decide (∀ j, j < l.length → i ≤ j → okF l j) && decide (0 < l.length))
  | d, i, 0, _, h => by omega
  | 0, i, k + 1, hi, _ => by
    rw [careenageref07_May.l0, if_neg (by omega), decide_eq_true (by intro j a b; omega : ∀ j, j < l.length → i ≤ j → okF l j), Bool.true_and]
    congr 1
    rw [decide_eq_decide]
    omega
  | d + 1, i, k + 1, hi, hk => by
    have ih := rmay_up l hl d (i + 1) k (by omega) (by omega)
    have hw2 : wrap64 ((i : Int) + 1) = ((i + 1 : Nat) : Int) := by unfold wrap64; omega
    have hbad : ¬ okF l i → some false = some (decide (∀ j, j < l.length → i ≤ j → okF l j) && decide (0 < l.length)) := fun h => by
      rw [decide_eq_false (fun h2 => h (h2 i (by omega) (Nat.le_refl _))), Bool.false_and]
    have hgood : okF l i → some (decide (∀ j, j < l.length → i + 1 ≤ j → okF l j) && decide (0 < l.length)) = some (decide (∀ j, j < l.length → i ≤ j → okF l j) && decide (0 < l.length)) := fun h => by
      congr 2
      rw [decide_eq_decide]
      refine ⟨fun hh j a b => ?_, fun hh j a b => hh j a (by omega)⟩
      by_cases e : j = i
      · subst e
        exact h
      · exact hh j a (by omega)
    rw [careenageref07_May.l0, if_pos (by omega), if_pos (by omega)]
    unfold careenageref07_Key.f
    rw [bs, rnumber_is]
    by_cases h1 : (rd_T46 l (i : Int)).f0.size ≤ 40
    · rw [if_pos (by rw [decide_eq_true_eq]; omega), bs]
      cases h2 : numB (rd_T46 l (i : Int)).f1 with
      | false =>
        rw [if_neg (by decide)]
        exact hbad (fun h => by rw [h.2.1] at h2; cases h2)
      | true =>
        rw [if_pos rfl]
        by_cases h3 : (i : Int) > 0
        · have hw : wrap64 ((i : Int) - 1) = ((i - 1 : Nat) : Int) := by unfold wrap64; omega
          rw [if_pos h3, hw, if_pos (by omega), if_pos (by omega)]
          by_cases h4 : Op.bytesLess (keyF l (i - 1)) (keyF l i) = true
          · rw [if_pos h4, hw2, ih]
            exact hgood ⟨h1, h2, fun _ => h4⟩
          · rw [if_neg h4]
            exact hbad (fun h => h4 (h.2.2 (by omega)))
        · rw [if_neg h3, hw2, ih]
          exact hgood ⟨h1, h2, fun h => by omega⟩
    · rw [if_neg (by rw [decide_eq_true_eq]; omega)]
      exact hbad (fun h => h1 h.1)
theorem rmay_is (l : List SF) (hl : l.length < 4611686018427387904) (k : Nat) (hk : l.length < k) : careenageref07_May.f k l = some (mayF l) := by
  unfold careenageref07_May.f
  refine Eq.trans (rmay_up l hl l.length 0 k (by omega) hk) ?_
  unfold mayF
  congr 2
  rw [decide_eq_decide]
  exact ⟨fun h j a => h j a (Nat.zero_le _), fun h j a _ => h j a⟩
/-- How great forks are, as both count it. -/
def sizeW (n : Int) (l : List SF) : Int := l.foldl (fun n f => wrap64 (n + wrap64 (5 + (f.f0.size : Int)))) n
theorem drop_F (l : List SF) (i : Nat) (h : i < l.length) : l.drop i = rd_T46 l (i : Int) :: l.drop (i + 1) := by
  rw [List.drop_eq_getElem_cons h]
  simp [rd_T46, h]
theorem size_up (l : List SF) (hl : l.length < 4611686018427387904) : ∀ (d i k : Nat) (n : Int), i + d = l.length → d < k → branch_Size.l0 k n l (l.length : Int) (i : Int) = some (sizeW n (l.drop i))
  | d, i, 0, _, _, h => by omega
  | 0, i, k + 1, n, hi, _ => by
    rw [branch_Size.l0, if_neg (by omega), List.drop_of_length_le (by omega)]
    rfl
  | d + 1, i, k + 1, n, hi, hk => by
    have hw2 : wrap64 ((i : Int) + 1) = ((i + 1 : Nat) : Int) := by unfold wrap64; omega
    rw [branch_Size.l0, if_pos (by omega), if_pos (by omega), if_pos (by omega), hw2, size_up l hl d (i + 1) k _ (by omega) (by omega), drop_F l i (by omega)]
    rfl
theorem size_is (l : List SF) (hl : l.length < 4611686018427387904) (k : Nat) (hk : l.length < k) : branch_Size.f k l = some (sizeW 0 l) := by
  unfold branch_Size.f
  exact size_up l hl l.length 0 k 0 (by omega) hk
theorem rsize_up (l : List SF) (hl : l.length < 4611686018427387904) : ∀ (d i k : Nat) (n : Int), i + d = l.length → d < k → careenageref07_Size.l0 k l n (i : Int) = some (sizeW n (l.drop i))
  | d, i, 0, _, _, h => by omega
  | 0, i, k + 1, n, hi, _ => by
    rw [careenageref07_Size.l0, if_neg (by omega), List.drop_of_length_le (by omega)]
    rfl
  | d + 1, i, k + 1, n, hi, hk => by
    have hw2 : wrap64 ((i : Int) + 1) = ((i + 1 : Nat) : Int) := by unfold wrap64; omega
    rw [careenageref07_Size.l0, if_pos (by omega), if_pos (by omega)]
    unfold careenageref07_One.f
    rw [bs, hw2, rsize_up l hl d (i + 1) k _ (by omega) (by omega), drop_F l i (by omega)]
    rfl
theorem rsize_is (l : List SF) (hl : l.length < 4611686018427387904) (k : Nat) (hk : l.length < k) : careenageref07_Size.f k l = some (sizeW 0 l) := by
  unfold careenageref07_Size.f
  exact rsize_up l hl l.length 0 k 0 (by omega) hk
/-- A fork's bytes. -/
def forkL (f : SF) : List Int := le (IntKind.u64.wrap (f.f0.size : Int)) 1 ++ bytesOf f.f0 ++ le (IntKind.u64.wrap f.f1) 4
theorem forkL_length (f : SF) : (forkL f).length = 5 + f.f0.size := by
  unfold forkL
  rw [List.length_append, List.length_append, le_length, le_length, bytesOf_length]
  omega
def sizeN (l : List SF) : Nat := (l.map (fun f => 5 + f.f0.size)).sum
theorem forks_length (l : List SF) : (l.flatMap forkL).length = sizeN l := by
  unfold sizeN
  rw [List.length_flatMap]
  congr 1
  exact List.map_congr_left (fun f _ => forkL_length f)
theorem sizeN_cons (f : SF) (l : List SF) : sizeN (f :: l) = 5 + f.f0.size + sizeN l := by simp [sizeN]
theorem sizeW_is : ∀ (l : List SF) (n : Int), 0 ≤ n → n + (sizeN l : Int) ≤ 9223372036854775807 → sizeW n l = n + (sizeN l : Int)
  | [], n, _, _ => by simp [sizeW, sizeN]
  | f :: l, n, h0, h => by
    rw [sizeN_cons] at h ⊢
    have hw : wrap64 (n + wrap64 (5 + (f.f0.size : Int))) = n + (5 + (f.f0.size : Int)) := by
      have : wrap64 (5 + (f.f0.size : Int)) = 5 + (f.f0.size : Int) := w64 (by omega) (by omega)
      rw [this]
      exact w64 (by omega) (by omega)
    show sizeW (wrap64 (n + wrap64 (5 + (f.f0.size : Int)))) l = _
    rw [hw, sizeW_is l _ (by omega) (by omega)]
    omega
theorem sizeN_bound (b : Nat) : ∀ (l : List SF), (∀ f ∈ l, f.f0.size ≤ b) → sizeN l ≤ (5 + b) * l.length
  | [], _ => by simp [sizeN]
  | f :: l, h => by
    have h1 := h f (List.mem_cons_self ..)
    have h2 := sizeN_bound b l (fun g hg => h g (List.mem_cons_of_mem _ hg))
    rw [sizeN_cons, List.length_cons, Nat.mul_succ]
    omega
theorem mayF_ok {l : List SF} (h : mayF l = true) : ∀ j, j < l.length → okF l j := by
  unfold mayF at h
  rw [Bool.and_eq_true, decide_eq_true_eq] at h
  exact h.1
theorem mayF_pos {l : List SF} (h : mayF l = true) : 0 < l.length := by
  unfold mayF at h
  rw [Bool.and_eq_true, decide_eq_true_eq, decide_eq_true_eq] at h
  exact h.2
theorem rd_mem {l : List SF} {f : SF} (h : f ∈ l) : ∃ j, j < l.length ∧ rd_T46 l (j : Int) = f := by
  obtain ⟨j, hj, rfl⟩ := List.mem_iff_getElem.1 h
  exact ⟨j, hj, by simp [rd_T46, hj]⟩
theorem mayF_keys {l : List SF} (h : mayF l = true) : ∀ f ∈ l, f.f0.size ≤ 40 := by
  intro f hf
  obtain ⟨j, hj, rfl⟩ := rd_mem hf
  exact (mayF_ok h j hj).1
theorem mayF_size {l : List SF} (h : mayF l = true) (hl : l.length ≤ 100000000000000) : sizeW 0 l = (sizeN l : Int) := by
  have := sizeN_bound 40 l (mayF_keys h)
  rw [sizeW_is l 0 (by omega) (by omega)]
  omega
theorem sizeN_length : ∀ (l : List SF), 5 * l.length ≤ sizeN l
  | [] => by simp
  | f :: l => by
    have := sizeN_length l
    rw [sizeN_cons, List.length_cons]
    omega
/-- Forks that may be a page of this size. -/
def okP (s n tx : Int) (l : List SF) : Bool := mayF l && decide (sizeW 0 l ≤ roomS s) && numB n && decide (tx ≤ 4611686018427387904)
def pageP (s n tx : Int) (l : List SF) : Int × Int × Int × Int × Int × ByteArray × Int := if okP s n tx l = true then (3, (l.length : Int), n, 0, tx, padS (roomS s) (l.flatMap forkL), 0) else (0, 0, 0, 0, 0, (⟨#[]⟩ : ByteArray), 2)
theorem put1 (l : List Int) (n : Int) : putL l n 1 = l ++ le n 1 := by
  unfold putL
  rw [if_pos (by decide)]
  rfl
theorem bpage_loop (s n tx : Int) (l : List SF) (hl : l.length < 1000000) (hs : sizeN l ≤ 100000) : ∀ (d i k : Nat) (acc : List Int), i + d = l.length → d + 13 ≤ k → acc.length + sizeN (l.drop i) ≤ 8000000 →
    branch_Page.l0 k s n tx l acc l (l.length : Int) (i : Int) = (frame_Body.f s (acc ++ (l.drop i).flatMap forkL)).bind fun bt => some (3, (l.length : Int), n, 0, tx, bt.1, 0)
  | d, i, 0, acc, _, h, _ => by omega
  | 0, i, k + 1, acc, hi, hk, ha => by
    rw [branch_Page.l0, if_neg (by omega), List.drop_of_length_le (by omega), List.flatMap_nil, List.append_nil]
  | d + 1, i, k + 1, acc, hi, hk, ha => by
    have hw2 : wrap64 ((i : Int) + 1) = ((i + 1 : Nat) : Int) := by unfold wrap64; omega
    rw [drop_F l i (by omega), sizeN_cons] at ha
    rw [branch_Page.l0, if_pos (by omega), if_pos (by omega), if_pos (by omega), put_is k acc _ 1 (by omega) (by omega), bs, put1, if_pos (by rw [List.length_append, le_length]; omega), put_is k _ _ 4 (by omega) (by rw [List.length_append, List.length_append, le_length, bytesOf_length]; omega), bs, put4, hw2,
      bpage_loop s n tx l hl hs d (i + 1) k _ (by omega) (by omega) (by rw [List.length_append, List.length_append, List.length_append, le_length, le_length, bytesOf_length]; omega), drop_F l i (by omega), List.flatMap_cons]
    congr 2
    simp only [forkL, List.append_assoc]
theorem rbpage_loop (s n tx : Int) (l : List SF) (hl : l.length < 1000000) (hs : sizeN l ≤ 100000) : ∀ (d i k : Nat) (acc : List Int), i + d = l.length → d + 13 ≤ k → acc.length + sizeN (l.drop i) ≤ 8000000 →
    careenageref07_Page.l0 k s n tx l acc (i : Int) = (careenageref04_Body.f s (acc ++ (l.drop i).flatMap forkL)).bind fun bt => some (3, (l.length : Int), n, 0, tx, bt.1, 0)
  | d, i, 0, acc, _, h, _ => by omega
  | 0, i, k + 1, acc, hi, hk, ha => by
    rw [careenageref07_Page.l0, if_neg (by omega), List.drop_of_length_le (by omega), List.flatMap_nil, List.append_nil]
  | d + 1, i, k + 1, acc, hi, hk, ha => by
    have hw2 : wrap64 ((i : Int) + 1) = ((i + 1 : Nat) : Int) := by unfold wrap64; omega
    rw [drop_F l i (by omega), sizeN_cons] at ha
    rw [careenageref07_Page.l0, if_pos (by omega), if_pos (by omega), rput_is k acc _ 1 (by omega) (by omega), bs, put1, if_pos (by rw [List.length_append, le_length]; omega), rput_is k _ _ 4 (by omega) (by rw [List.length_append, List.length_append, le_length, bytesOf_length]; omega), bs, put4, hw2,
      rbpage_loop s n tx l hl hs d (i + 1) k _ (by omega) (by omega) (by rw [List.length_append, List.length_append, List.length_append, le_length, le_length, bytesOf_length]; omega), drop_F l i (by omega), List.flatMap_cons]
    congr 2
    simp only [forkL, List.append_assoc]
theorem pageP_bad {s n tx : Int} {l : List SF} (h : okP s n tx l = false) : some (pageP s n tx l) = some (0, 0, 0, 0, 0, (⟨#[]⟩ : ByteArray), 2) := by
  unfold pageP
  rw [h, if_neg (by decide)]
theorem good_of_room {s : Int} (h : 0 < roomS s) : goodS s = true := by
  unfold roomS at h
  split at h
  · assumption
  · omega
theorem bpage_end (k : Nat) (s n tx : Int) (l : List SF) (b : Bool) (hl : l.length < 1000000) (hs : (sizeN l : Int) ≤ roomS s) (h0 : 0 < l.length) (hk : l.length + 14 ≤ k) :
    branch_Page.j0 k s n tx l b = some (if b = true then (0, 0, 0, 0, 0, (⟨#[]⟩ : ByteArray), 2) else (3, (l.length : Int), n, 0, tx, padS (roomS s) (l.flatMap forkL), 0)) := by
  have hr := roomS_range s
  have hsl := sizeN_length l
  obtain ⟨k, rfl⟩ : ∃ j, k = j + 1 := ⟨k - 1, by omega⟩
  rw [branch_Page.j0]
  cases b with
  | true => rw [if_pos rfl, if_pos rfl]
  | false =>
    rw [if_neg (by decide), if_neg (by decide), show (0 : Int) = ((0 : Nat) : Int) from rfl, bpage_loop s n tx l hl (by omega) l.length 0 k [] (by omega) (by omega) (by simp; omega), List.drop_zero, List.nil_append, body_is s _ (good_of_room (by omega)) (by rw [forks_length]; exact hs), bs]
    rfl
theorem rbpage_end (k : Nat) (s n tx : Int) (l : List SF) (b : Bool) (hl : l.length < 1000000) (hs : (sizeN l : Int) ≤ roomS s) (h0 : 0 < l.length) (hk : l.length + 14 ≤ k) :
    careenageref07_Page.j0 k s n tx l b = some (if b = true then (0, 0, 0, 0, 0, (⟨#[]⟩ : ByteArray), 2) else (3, (l.length : Int), n, 0, tx, padS (roomS s) (l.flatMap forkL), 0)) := by
  have hr := roomS_range s
  have hsl := sizeN_length l
  obtain ⟨k, rfl⟩ : ∃ j, k = j + 1 := ⟨k - 1, by omega⟩
  rw [careenageref07_Page.j0]
  cases b with
  | true => rw [if_pos rfl, if_pos rfl]
  | false =>
    rw [if_neg (by decide), if_neg (by decide), show (0 : Int) = ((0 : Nat) : Int) from rfl, rbpage_loop s n tx l hl (by omega) l.length 0 k [] (by omega) (by omega) (by simp; omega), List.drop_zero, List.nil_append, rbody_is s _ (good_of_room (by omega)) (by rw [forks_length]; exact hs), bs]
    rfl
theorem bpage_is (k : Nat) (s n tx : Int) (l : List SF) (hl : l.length ≤ 100000000000000) (hk : l.length + 1000 ≤ k) : branch_Page.f k s n tx l = some (pageP s n tx l) := by
  have hr := roomS_range s
  have hbad : branch_Page.j0 k s n tx l true = some (0, 0, 0, 0, 0, (⟨#[]⟩ : ByteArray), 2) := by
    obtain ⟨k, rfl⟩ : ∃ j, k = j + 1 := ⟨k - 1, by omega⟩
    rw [branch_Page.j0, if_pos rfl]
  unfold branch_Page.f
  rw [may_is l (by omega) k (by omega), bs]
  cases h1 : mayF l with
  | false => rw [if_neg (by decide), hbad, pageP_bad (by unfold okP; simp [h1])]
  | true =>
    rw [if_pos rfl, size_is l (by omega) k (by omega), bs, room_is, bs]
    by_cases h2 : sizeW 0 l > roomS s
    · rw [if_pos h2, hbad, pageP_bad (by unfold okP; simp [show ¬ (sizeW 0 l ≤ roomS s) by omega])]
    · rw [if_neg h2, bnumber_is, bs]
      have h3 := mayF_size h1 hl
      have h4 := sizeN_length l
      cases h5 : numB n with
      | false => rw [if_neg (by decide), hbad, pageP_bad (by unfold okP; simp [h5])]
      | true =>
        rw [if_pos rfl, bpage_end k s n tx l _ (by omega) (by omega) (mayF_pos h1) (by omega)]
        congr 1
        unfold pageP okP
        by_cases h6 : tx > 4611686018427387904
        · simp [h6, show ¬ (tx ≤ 4611686018427387904) by omega]
        · simp [h6, show tx ≤ 4611686018427387904 by omega, h1, h5, show sizeW 0 l ≤ roomS s by omega]
theorem rbpage_is (k : Nat) (s n tx : Int) (l : List SF) (hl : l.length ≤ 100000000000000) (hk : l.length + 1000 ≤ k) : careenageref07_Page.f k s n tx l = some (pageP s n tx l) := by
  have hr := roomS_range s
  have hbad : careenageref07_Page.j0 k s n tx l true = some (0, 0, 0, 0, 0, (⟨#[]⟩ : ByteArray), 2) := by
    obtain ⟨k, rfl⟩ : ∃ j, k = j + 1 := ⟨k - 1, by omega⟩
    rw [careenageref07_Page.j0, if_pos rfl]
  unfold careenageref07_Page.f
  rw [rgood_is, bs]
  cases hg : goodS s with
  | false =>
    have h0 : roomS s = 0 := by unfold roomS; rw [hg, if_neg (by decide)]
    rw [if_neg (by decide), hbad]
    cases h1 : mayF l with
    | false => rw [pageP_bad (by unfold okP; simp [h1])]
    | true =>
      have h3 := mayF_size h1 hl
      have h4 := sizeN_length l
      have h5 := mayF_pos h1
      rw [pageP_bad (by unfold okP; simp [show ¬ (sizeW 0 l ≤ roomS s) by omega])]
  | true =>
    rw [if_pos rfl, rmay_is l (by omega) k (by omega), bs]
    cases h1 : mayF l with
    | false => rw [if_neg (by decide), hbad, pageP_bad (by unfold okP; simp [h1])]
    | true =>
      rw [if_pos rfl, rsize_is l (by omega) k (by omega), bs, rroom_is, bs]
      by_cases h2 : sizeW 0 l > roomS s
      · rw [if_pos h2, hbad, pageP_bad (by unfold okP; simp [show ¬ (sizeW 0 l ≤ roomS s) by omega])]
      · rw [if_neg h2, rnumber_is, bs]
        have h3 := mayF_size h1 hl
        have h4 := sizeN_length l
        cases h5 : numB n with
        | false => rw [if_neg (by decide), hbad, pageP_bad (by unfold okP; simp [h5])]
        | true =>
          rw [if_pos rfl, rbpage_end k s n tx l _ (by omega) (by omega) (mayF_pos h1) (by omega)]
          congr 1
          unfold pageP okP
          by_cases h6 : tx > 4611686018427387904
          · simp [h6, show ¬ (tx ≤ 4611686018427387904) by omega]
          · simp [h6, show tx ≤ 4611686018427387904 by omega, h1, h5, show sizeW 0 l ≤ roomS s by omega]
/-- How many forks stand ahead of the first one that begins behind the key. -/
def fa (key : List UInt8) : List SF → Nat
  | [] => 0
  | f :: l => if Op.bytesLess key f.f0.toList = true then 0 else fa key l + 1
theorem pick_up (l : List SF) (key : ByteArray) (hl : l.length < 4611686018427387904) : ∀ (d i k : Nat), i + d = l.length → d < k → branch_Pick.l0 k key ((i - 1 : Nat) : Int) l (l.length : Int) (i : Int) = some ((i + fa key.toList (l.drop i) - 1 : Nat) : Int)
  | d, i, 0, _, h => by omega
  | 0, i, k + 1, hi, _ => by
    rw [branch_Pick.l0, if_neg (by omega), List.drop_of_length_le (by omega)]
    rfl
  | d + 1, i, k + 1, hi, hk => by
    have hw2 : wrap64 ((i : Int) + 1) = ((i + 1 : Nat) : Int) := by unfold wrap64; omega
    have ih := pick_up l key hl d (i + 1) k (by omega) (by omega)
    rw [show i + 1 - 1 = i from rfl] at ih
    rw [branch_Pick.l0, if_pos (by omega), if_pos (by omega), if_pos (by omega), drop_F l i (by omega), fa]
    by_cases h : Op.bytesLess key.toList (rd_T46 l (i : Int)).f0.toList = true
    · rw [if_pos h, if_pos h]
      rfl
    · rw [if_neg h, if_neg h, hw2, ih]
      congr 2
      omega
theorem fpick_is (l : List SF) (key : ByteArray) (hl : l.length < 4611686018427387904) (k : Nat) (hk : l.length < k) : branch_Pick.f k l key = some ((fa key.toList l - 1 : Nat) : Int) := by
  unfold branch_Pick.f
  refine Eq.trans (pick_up l key hl l.length 0 k (by omega) hk) ?_
  rw [Nat.zero_add, List.drop_zero]
theorem rpick_up (l : List SF) (key : ByteArray) (hl : l.length < 4611686018427387904) : ∀ (d i k : Nat), i + d = l.length → d < k → careenageref07_Pick.l0 k l key (i : Int) = some ((i + fa key.toList (l.drop i) - 1 : Nat) : Int)
  | d, i, 0, _, h => by omega
  | 0, i, k + 1, hi, _ => by
    have hw : wrap64 ((i : Int) - 1) = (i : Int) - 1 := w64 (by omega) (by omega)
    rw [careenageref07_Pick.l0, if_neg (by omega), List.drop_of_length_le (by omega), hw]
    congr 1
    unfold mx fa
    split <;> omega
  | d + 1, i, k + 1, hi, hk => by
    have hw2 : wrap64 ((i : Int) + 1) = ((i + 1 : Nat) : Int) := by unfold wrap64; omega
    have hw : wrap64 ((i : Int) - 1) = (i : Int) - 1 := w64 (by omega) (by omega)
    have ih := rpick_up l key hl d (i + 1) k (by omega) (by omega)
    rw [careenageref07_Pick.l0, if_pos (by omega), if_pos (by omega), drop_F l i (by omega), fa]
    by_cases h : Op.bytesLess key.toList (rd_T46 l (i : Int)).f0.toList = true
    · rw [if_pos h, if_pos h, hw]
      congr 1
      unfold mx
      split <;> omega
    · rw [if_neg h, if_neg h, hw2, ih]
      congr 2
      omega
theorem frpick_is (l : List SF) (key : ByteArray) (hl : l.length < 4611686018427387904) (k : Nat) (hk : l.length < k) : careenageref07_Pick.f k l key = some ((fa key.toList l - 1 : Nat) : Int) := by
  unfold careenageref07_Pick.f
  refine Eq.trans (rpick_up l key hl l.length 0 k (by omega) hk) ?_
  rw [Nat.zero_add, List.drop_zero]
/-- Few forks, few bytes. -/
theorem light_up (l : List SF) (hl : l.length ≤ 1000000000000000) : ∀ (d i k : Nat) (n : Int), i + d = l.length → d < k → 0 ≤ n → n ≤ 3000 * i → ∃ b, careenagelaw07_light.l0 k l n (i : Int) = some b ∧ (b = true → l.length ≤ 100 ∧ n ≤ 3000 ∧ ∀ j, j < l.length → i ≤ j → n + (mn ((rd_T46 l (j : Int)).f0.size : Int) 3000) ≤ 3000)
  | d, i, 0, _, _, h, _, _ => by omega
  | 0, i, k + 1, n, hi, _, h0, _ => by
    rw [careenagelaw07_light.l0, if_neg (by omega)]
    by_cases h : (l.length : Int) ≤ 100
    · rw [if_pos h]
      exact ⟨_, rfl, fun hb => ⟨by omega, by simpa using hb, fun j a b => by omega⟩⟩
    · rw [if_neg h]
      exact ⟨_, rfl, fun hb => by cases hb⟩
  | d + 1, i, k + 1, n, hi, hk, h0, hn => by
    have hw2 : wrap64 ((i : Int) + 1) = ((i + 1 : Nat) : Int) := by unfold wrap64; omega
    have hm : 0 ≤ mn ((rd_T46 l (i : Int)).f0.size : Int) 3000 ∧ mn ((rd_T46 l (i : Int)).f0.size : Int) 3000 ≤ 3000 := by unfold mn; split <;> omega
    have hw : wrap64 (n + mn ((rd_T46 l (i : Int)).f0.size : Int) 3000) = n + mn ((rd_T46 l (i : Int)).f0.size : Int) 3000 := w64 (by omega) (by omega)
    obtain ⟨b, hb, hi2⟩ := light_up l hl d (i + 1) k (n + mn ((rd_T46 l (i : Int)).f0.size : Int) 3000) (by omega) (by omega) (by omega) (by omega)
    rw [careenagelaw07_light.l0, if_pos (by omega), if_pos (by omega), hw, hw2, hb]
    refine ⟨b, rfl, fun h => ?_⟩
    obtain ⟨h1, h2, h3⟩ := hi2 h
    refine ⟨h1, by omega, fun j a c => ?_⟩
    by_cases e : j = i
    · subst e
      exact h2
    · have := h3 j a (by omega)
      omega
theorem light_is (l : List SF) (hl : l.length ≤ 1000000000000000) (k : Nat) (hk : l.length < k) : ∃ b, careenagelaw07_light.f k l = some b ∧ (b = true → l.length ≤ 100) := by
  obtain ⟨b, h, h2⟩ := light_up l hl l.length 0 k 0 (by omega) hk (by omega) (by omega)
  exact ⟨b, h, fun hb => (h2 hb).1⟩
end Go.Proofs.Ytlkfcabklaaacaa.Q

namespace Go.Proofs.Ytlkfcabklaaacaa.P
open Go.RowKit Go.Proofs.YtlkfcabklaaacaaW.PrintWords Go.Proofs.YtlkfcabklaaacaaW.PrintLast Go.Proofs.YtlkfcabklaaacaaW.PrintMore
attribute [local go_sem] max2_int min2_int max_two min_two max_three min_three max_four min_four   -- for this text's walks alone
open Go.Proofs.YtlkfcabklaaacaaO
attribute [local go_sem] min2_str max2_str
set_option linter.unusedVariables false
set_option linter.unusedSimpArgs false
attribute [local go_sem high] eqA39
/-! ### free_Of: function 28 -/
def free_Of.l0 : Nat → List Int → Int → Int → Int → Int → Int → Int → Int → ByteArray → ByteArray → Option (List Int × Int × Int)
  | 0, _, _, _, _, _, _, _, _, _, _ => none
  | k + 1, x2, x14, x15, x221000, x221001, x221002, x221003, x221004, x221005, x223000 => if x15 < x14 then ((octet_Reader_Number.f k x223000 4).bind fun bt223 => (if bt223.2.1 = 0 then (if x2.length < 35184372088832 then (free_Of.l0 k (x2 ++ [(bt223.1) % 4294967296]) x14 (wrap64 (x15 + 1)) x221000 x221001 x221002 x221003 x221004 x221005 bt223.2.2) else (none)) else (some (([] : List Int), 0, 4)))) else ((free_Page.f k (wrap64 ((x221005.size : Int) + 24)) x221002 x221003 x221004 x2).bind fun bt229 => (if bt229.2.2.2.2.2.2 = 0 then (if (!(bt229.1 == x221000) || (!(bt229.2.1 == x221001) || (!(bt229.2.2.1 == x221002) || (!(bt229.2.2.2.1 == x221003) || (!(bt229.2.2.2.2.1 == x221004) || (!(bt229.2.2.2.2.2.1.toList == x221005.toList))))))) = true then (some (([] : List Int), 0, 4)) else (some (x2, x221003, 0))) else (some (([] : List Int), 0, 4))))
def free_Of.f (k : Nat) (a0_0 : Int) (a0_1 : Int) (a0_2 : Int) (a0_3 : Int) (a0_4 : Int) (a0_5 : ByteArray) : Option (List Int × Int × Int) := (octet_New.f a0_5).bind fun t221 => (free_Of.l0 k ([] : List Int) a0_1 0 a0_0 a0_1 a0_2 a0_3 a0_4 a0_5 t221)
end Go.Proofs.Ytlkfcabklaaacaa.P

namespace Go.Proofs.Ytlkfcabklaaacaa.P
open Go.RowKit Go.Proofs.YtlkfcabklaaacaaW.PrintWords Go.Proofs.YtlkfcabklaaacaaW.PrintLast Go.Proofs.YtlkfcabklaaacaaW.PrintMore
attribute [local go_sem] max2_int min2_int max_two min_two max_three min_three max_four min_four   -- for this text's walks alone
open Go.Proofs.YtlkfcabklaaacaaO
attribute [local go_sem] min2_str max2_str
set_option linter.unusedVariables false
set_option linter.unusedSimpArgs false
/-! ### careenagekit_Same_uint32: function 21 -/
def careenagekit_Same_uint32.l0 : Nat → List Int → List Int → Int → Option (Bool)
  | 0, _, _, _ => none
  | k + 1, x0, x1, x5 => if x5 < (x0.length : Int) then (if 0 ≤ x5 then (if x5 < (x1.length : Int) then (if (rd x0 x5) = (rd x1 x5) then (careenagekit_Same_uint32.l0 k x0 x1 (wrap64 (x5 + 1))) else (some false)) else (none)) else (none)) else (some true)
def careenagekit_Same_uint32.f (k : Nat) (l0 : List Int) (l1 : List Int) : Option (Bool) := if (l0.length : Int) = (l1.length : Int) then (careenagekit_Same_uint32.l0 k l0 l1 0) else (some false)
end Go.Proofs.Ytlkfcabklaaacaa.P

namespace Go.Proofs.Ytlkfcabklaaacaa.P
open Go.RowKit Go.Proofs.YtlkfcabklaaacaaW.PrintWords Go.Proofs.YtlkfcabklaaacaaW.PrintLast Go.Proofs.YtlkfcabklaaacaaW.PrintMore
attribute [local go_sem] max2_int min2_int max_two min_two max_three min_three max_four min_four   -- for this text's walks alone
open Go.Proofs.YtlkfcabklaaacaaO
attribute [local go_sem] min2_str max2_str
set_option linter.unusedVariables false
set_option linter.unusedSimpArgs false
attribute [local go_sem high] eqA39
/-! ### careenageref10_Of: function 33 -/
def careenageref10_Of.l0 : Nat → List Int → Int → Int → Int → Int → Int → Int → ByteArray → ByteArray → Option (List Int × Int × Int)
  | 0, _, _, _, _, _, _, _, _, _ => none
  | k + 1, x6, x7, x361000, x361001, x361002, x361003, x361004, x361005, x363000 => if x7 < x361001 then ((careenageref01_Reader_Number.f k x363000 4).bind fun bt363 => (if bt363.2.1 = 0 then (if x6.length < 35184372088832 then (careenageref10_Of.l0 k (x6 ++ [(bt363.1) % 4294967296]) (wrap64 (x7 + 1)) x361000 x361001 x361002 x361003 x361004 x361005 bt363.2.2) else (none)) else (some (([] : List Int), 0, 4)))) else ((careenageref10_Page.f k (wrap64 ((x361005.size : Int) + 24)) x361002 x361003 x361004 x6).bind fun bt369 => (if bt369.2.2.2.2.2.2 = 0 then (if (!(bt369.1 == x361000) || (!(bt369.2.1 == x361001) || (!(bt369.2.2.1 == x361002) || (!(bt369.2.2.2.1 == x361003) || (!(bt369.2.2.2.2.1 == x361004) || (!(bt369.2.2.2.2.2.1.toList == x361005.toList))))))) = true then (some (([] : List Int), 0, 4)) else (some (x6, x361003, 0))) else (some (([] : List Int), 0, 4))))
def careenageref10_Of.f (k : Nat) (a0_0 : Int) (a0_1 : Int) (a0_2 : Int) (a0_3 : Int) (a0_4 : Int) (a0_5 : ByteArray) : Option (List Int × Int × Int) := (careenageref01_New.f a0_5).bind fun t361 => (careenageref10_Of.l0 k ([] : List Int) 0 a0_0 a0_1 a0_2 a0_3 a0_4 a0_5 t361)
end Go.Proofs.Ytlkfcabklaaacaa.P

namespace Go.Proofs.Ytlkfcabklaaacaa.P
open Go.RowKit Go.Proofs.YtlkfcabklaaacaaW.PrintWords Go.Proofs.YtlkfcabklaaacaaW.PrintLast Go.Proofs.YtlkfcabklaaacaaW.PrintMore
attribute [local go_sem] max2_int min2_int max_two min_two max_three min_three max_four min_four   -- for this text's walks alone
open Go.Proofs.YtlkfcabklaaacaaO
attribute [local go_sem] min2_str max2_str
set_option linter.unusedVariables false
set_option linter.unusedSimpArgs false
/-! ### careenagekit_Pick: function 18 -/
def careenagekit_Pick.f (a0 : Int) (a1 : Int) : Option (Int) := if a1 < 1 then (some 0) else (if a1 = 0 then (none) else (if (Int.tmod a0 a1) < 0 then (some (wrap64 ((Int.tmod a0 a1) + a1))) else (some (Int.tmod a0 a1))))
end Go.Proofs.Ytlkfcabklaaacaa.P

namespace Go.Proofs.Ytlkfcabklaaacaa.Q
set_option linter.unusedVariables false
set_option linter.unusedSimpArgs false
open Go.RowKit Go.Proofs.Ytlkfcabklaaacaa.P Go.Proofs.YtlkfcabklaaacaaW.PrintWords Go.Proofs.YtlkfcabklaaacaaW.PrintLast Go.Proofs.YtlkfcabklaaacaaW.PrintMore Go.Proofs.YtlkfcabklaaacaaO
theorem rnum_l0 (s : ByteArray) (n : Nat) (hn : n ≤ 8) (hs : n ≤ s.size) : ∀ (d k i : Nat), i + d = n → d < k → careenageref01_Reader_Number.l0 k n (ofLe ((B s).take i)) i s = some (ofLe ((B s).take n), 0, s.extract n s.size)
  | 0, k + 1, i, h, _ => by
    simp only [careenageref01_Reader_Number.l0]
    obtain rfl : i = n := by omega
    rw [if_neg (by omega), if_pos (by omega), if_pos (by omega), Int.toNat_natCast]
  | d + 1, k + 1, i, h, hk => by
    have hi : i < (B s).length := by rw [B_length]; omega
    simp only [careenageref01_Reader_Number.l0]
    rw [if_pos (by omega), if_pos (by omega), if_pos (by omega), w64 (x := 8 * (i : Int)) (by omega) (by omega), u64w (x := 8 * (i : Int)) (by omega) (by omega), if_pos (by omega), bt_get hi, ofLe_step (isB_B s) hi (by omega), w64 (by omega) (by omega)]
    exact rnum_l0 s n hn hs d k (i + 1) (by omega) (by omega)
theorem rnum_is (s : ByteArray) (n : Int) (k : Nat) (hk : 11 < k) : careenageref01_Reader_Number.f k s n = some (numR s n) := by
  obtain ⟨k, rfl⟩ : ∃ m, k = m + 1 := ⟨k - 1, by omega⟩
  unfold careenageref01_Reader_Number.f numR
  by_cases h1 : n < 1
  · rw [if_pos h1, if_pos (.inl h1), careenageref01_Reader_Number.j0, if_pos rfl]
  · rw [if_neg h1]
    by_cases h2 : n > 8
    · rw [if_pos (.inr h2), decide_eq_true h2, careenageref01_Reader_Number.j0, if_pos rfl]
    · rw [if_neg (by omega), decide_eq_false h2, careenageref01_Reader_Number.j0, if_neg (by decide)]
      by_cases h3 : (s.size : Int) < n
      · rw [if_pos h3, if_pos h3]
      · rw [if_neg h3, if_neg h3]
        obtain ⟨n, rfl⟩ := Int.eq_ofNat_of_zero_le (show 0 ≤ n by omega)
        have := rnum_l0 s n (by omega) (by omega) n k 0 (by omega) (by omega)
        simpa [ofLe] using this
theorem rbytes_is (s : ByteArray) (n : Int) : careenageref01_Reader_Bytes.f s n = some (bytesR s n) := by
  unfold careenageref01_Reader_Bytes.f bytesR
  by_cases h1 : n < 0
  · simp [h1]
  · rw [if_neg h1, if_neg h1]
    by_cases h2 : n > (s.size : Int)
    · rw [if_pos h2, if_pos (show (s.size : Int) < n from h2)]
    · rw [if_neg h2, if_neg (show ¬ (s.size : Int) < n from h2), if_pos (by omega), if_pos (by omega)]
end Go.Proofs.Ytlkfcabklaaacaa.Q

namespace Go.Proofs.Ytlkfcabklaaacaa.Q
set_option linter.unusedVariables false
set_option linter.unusedSimpArgs false
open Go.RowKit Go.Proofs.Ytlkfcabklaaacaa.P Go.Proofs.YtlkfcabklaaacaaW.PrintWords Go.Proofs.YtlkfcabklaaacaaW.PrintLast Go.Proofs.YtlkfcabklaaacaaW.PrintMore Go.Proofs.YtlkfcabklaaacaaO
theorem num4 (s : ByteArray) : numR s 4 = if s.size < 4 then (0, 7, s) else (ofLe ((B s).take 4), 0, s.extract 4 s.size) := by
  unfold numR
  rw [if_neg (by omega)]
  by_cases h : s.size < 4
  · rw [if_pos (by omega), if_pos h]
  · rw [if_neg (by omega), if_neg h]
    rfl
theorem page_same (a b c d e f : Int) (g : ByteArray) (p0 cnt p2 p3 p4 : Int) (p5 : ByteArray) (h : (!(a == p0) || (!(b == cnt) || (!(c == p2) || (!(d == p3) || (!(e == p4) || (!(g.toList == p5.toList))))))) = false) : (a, b, c, d, e, g) = (p0, cnt, p2, p3, p4, p5) := by
  simp only [Bool.or_eq_false_iff, Bool.not_eq_false', beq_iff_eq, toList_eq_iff] at h
  obtain ⟨rfl, rfl, rfl, rfl, rfl, rfl⟩ := h
  rfl
theorem page_diff (a b c d e f : Int) (g : ByteArray) (p0 cnt p2 p3 p4 : Int) (p5 : ByteArray) (h : (!(a == p0) || (!(b == cnt) || (!(c == p2) || (!(d == p3) || (!(e == p4) || (!(g.toList == p5.toList))))))) = true) : ¬ (a, b, c, d, e, g) = (p0, cnt, p2, p3, p4, p5) := by
  intro hh
  simp only [Prod.mk.injEq] at hh
  obtain ⟨rfl, rfl, rfl, rfl, rfl, rfl⟩ := hh
  simp at h
theorem fin_is (x : Int × Int × Int × Int × Int × ByteArray × Int) (p0 cnt p2 p3 p4 : Int) (p5 : ByteArray) {α : Type} (u v : α) :
    (if x.2.2.2.2.2.2 = 0 then (if (!(x.1 == p0) || (!(x.2.1 == cnt) || (!(x.2.2.1 == p2) || (!(x.2.2.2.1 == p3) || (!(x.2.2.2.2.1 == p4) || (!(x.2.2.2.2.2.1.toList == p5.toList))))))) = true then v else u) else v) = if x = (p0, cnt, p2, p3, p4, p5, 0) then u else v := by
  obtain ⟨a, b, c, d, e, g, f⟩ := x
  simp only []
  by_cases hf : f = 0
  · subst hf
    rw [if_pos rfl]
    cases h : (!(a == p0) || (!(b == cnt) || (!(c == p2) || (!(d == p3) || (!(e == p4) || (!(g.toList == p5.toList))))))) with
    | true =>
      have := page_diff a b c d e 0 g p0 cnt p2 p3 p4 p5 h
      rw [if_pos rfl, if_neg]
      intro hh
      simp only [Prod.mk.injEq] at hh this
      exact this ⟨hh.1, hh.2.1, hh.2.2.1, hh.2.2.2.1, hh.2.2.2.2.1, hh.2.2.2.2.2.1⟩
    | false =>
      have := page_same a b c d e 0 g p0 cnt p2 p3 p4 p5 h
      simp only [Prod.mk.injEq] at this
      obtain ⟨rfl, rfl, rfl, rfl, rfl, rfl⟩ := this
      rw [if_neg (by decide), if_pos rfl]
  · rw [if_neg hf, if_neg]
    intro hh
    simp only [Prod.mk.injEq] at hh
    exact hf hh.2.2.2.2.2.2
end Go.Proofs.Ytlkfcabklaaacaa.Q

namespace Go.Proofs.Ytlkfcabklaaacaa.Q
set_option linter.unusedVariables false
set_option linter.unusedSimpArgs false
open Go.RowKit Go.Proofs.Ytlkfcabklaaacaa.P Go.Proofs.YtlkfcabklaaacaaW.PrintWords Go.Proofs.YtlkfcabklaaacaaW.PrintLast Go.Proofs.YtlkfcabklaaacaaW.PrintMore Go.Proofs.YtlkfcabklaaacaaO
/-- One fork, read; none: there are too few bytes. -/
def forkR (s : ByteArray) : Option SF × ByteArray :=
  if s.size < 1 then (none, s) else
    if ((s.extract 1 s.size).size : Int) < ofLe ((B s).take 1) then (none, s.extract 1 s.size) else
      if ((s.extract 1 s.size).extract (ofLe ((B s).take 1)).toNat (s.extract 1 s.size).size).size < 4 then (none, (s.extract 1 s.size).extract (ofLe ((B s).take 1)).toNat (s.extract 1 s.size).size) else
        (some ⟨(s.extract 1 s.size).extract 0 (ofLe ((B s).take 1)).toNat, ofLe ((B ((s.extract 1 s.size).extract (ofLe ((B s).take 1)).toNat (s.extract 1 s.size).size)).take 4) % 4294967296⟩,
          ((s.extract 1 s.size).extract (ofLe ((B s).take 1)).toNat (s.extract 1 s.size).size).extract 4 ((s.extract 1 s.size).extract (ofLe ((B s).take 1)).toNat (s.extract 1 s.size).size).size)
theorem num1 (s : ByteArray) : numR s 1 = if s.size < 1 then (0, 7, s) else (ofLe ((B s).take 1), 0, s.extract 1 s.size) := by
  unfold numR
  rw [if_neg (by omega)]
  by_cases h : s.size < 1
  · rw [if_pos (by omega), if_pos h]
  · rw [if_neg (by omega), if_neg h]
    rfl
theorem bytes_nat (s : ByteArray) (n : Int) (h : 0 ≤ n) : bytesR s n = if (s.size : Int) < n then ((⟨#[]⟩ : ByteArray), 7, s) else (s.extract 0 n.toNat, 0, s.extract n.toNat s.size) := by
  unfold bytesR
  rw [if_neg (by omega)]
theorem one_byte (s : ByteArray) (h : ¬ s.size < 1) : 0 ≤ ofLe ((B s).take 1) ∧ ofLe ((B s).take 1) < 256 ∧ wrap64 (ofLe ((B s).take 1)) = ofLe ((B s).take 1) := by
  have hb := isB_take (isB_B s) 1
  have h1 := ofLe_nonneg hb
  have h2 := ofLe_lt hb
  have h3 : ((B s).take 1).length = 1 := by rw [List.length_take, B_length]; omega
  rw [h3] at h2
  exact ⟨h1, by omega, w64 (by omega) (by omega)⟩
theorem forkF_is (s : ByteArray) : forkF s = some (forkR s) := by
  unfold forkF forkR
  rw [num_is s 1 12 (by omega), bs, num1]
  by_cases h1 : s.size < 1
  · rw [if_pos h1, if_pos h1, if_neg (show ¬ ((7 : Int) = 0) by decide)]
  · obtain ⟨g0, g1, g2⟩ := one_byte s h1
    rw [if_neg h1, if_neg h1]
    simp only [if_true]
    rw [g2, bytes_is, bs, bytes_nat _ _ g0]
    by_cases h2 : ((s.extract 1 s.size).size : Int) < ofLe ((B s).take 1)
    · rw [if_pos h2, if_pos h2, if_neg (show ¬ ((7 : Int) = 0) by decide)]
    · rw [if_neg h2, if_neg h2]
      simp only [if_true]
      rw [num_is _ 4 12 (by omega), bs, num4]
      by_cases h3 : ((s.extract 1 s.size).extract (ofLe ((B s).take 1)).toNat (s.extract 1 s.size).size).size < 4
      · rw [if_pos h3, if_pos h3, if_neg (show ¬ ((7 : Int) = 0) by decide)]
      · rw [if_neg h3, if_neg h3]
        simp only [if_true]
theorem forkR_less (s : ByteArray) (f : SF) (s' : ByteArray) (h : forkR s = (some f, s')) : s'.size + 5 ≤ s.size := by
  unfold forkR at h
  split at h
  · cases h
  · split at h
    · cases h
    · split at h
      · cases h
      · simp only [Prod.mk.injEq] at h
        rename_i h1 h2 h3
        rw [← h.2]
        simp only [ByteArray.size_extract] at h3 ⊢
        omega
theorem ref_step (cnt p0 p2 p3 p4 : Int) (p5 : ByteArray) (k : Nat) (hk : 12 ≤ k) (i : Int) (acc : List SF) (s : ByteArray) (hi : i < cnt) :
    careenageref07_Of.l0 (k + 1) acc i p0 cnt p2 p3 p4 p5 s = match (forkR s).1 with
      | none => some ([], 4)
      | some f => if acc.length < 5864062014805 then careenageref07_Of.l0 k (acc ++ [f]) (wrap64 (i + 1)) p0 cnt p2 p3 p4 p5 (forkR s).2 else none := by
  rw [careenageref07_Of.l0, if_pos hi, rnum_is s 1 k (by omega), bs, num1]
  unfold forkR
  by_cases h1 : s.size < 1
  · rw [if_pos h1, if_pos h1]
    rw [rbytes_is, bs, rnum_is _ 4 k (by omega), bs, if_neg (show ¬ ((7 : Int) = 0) by decide)]
  · obtain ⟨g0, g1, g2⟩ := one_byte s h1
    rw [if_neg h1, if_neg h1]
    simp only []
    rw [g2, rbytes_is, bs, bytes_nat _ _ g0]
    by_cases h2 : ((s.extract 1 s.size).size : Int) < ofLe ((B s).take 1)
    · rw [if_pos h2, if_pos h2]
      simp only []
      rw [rnum_is _ 4 k (by omega), bs, if_pos trivial, if_neg (show ¬ ((7 : Int) = 0) by decide)]
    · rw [if_neg h2, if_neg h2]
      simp only []
      rw [rnum_is _ 4 k (by omega), bs, num4, if_pos trivial, if_pos trivial]
      by_cases h3 : ((s.extract 1 s.size).extract (ofLe ((B s).take 1)).toNat (s.extract 1 s.size).size).size < 4
      · rw [if_pos h3, if_pos h3, if_neg (show ¬ ((7 : Int) = 0) by decide)]
      · rw [if_neg h3, if_neg h3, if_pos rfl]
def finF (p0 cnt p2 p3 p4 : Int) (p5 : ByteArray) : Option (List SF) → List SF × Int
  | none => ([], 4)
  | some l => if pageP (wrap64 ((p5.size : Int) + 24)) p2 p4 l = (p0, cnt, p2, p3, p4, p5, 0) then (l, 0) else ([], 4)
theorem finF_ok {p0 cnt p2 p3 p4 : Int} {p5 : ByteArray} {l : List SF} (h : pageP (wrap64 ((p5.size : Int) + 24)) p2 p4 l = (p0, cnt, p2, p3, p4, p5, 0)) : finF p0 cnt p2 p3 p4 p5 (some l) = (l, 0) := if_pos h
theorem finF_bad {p0 cnt p2 p3 p4 : Int} {p5 : ByteArray} {l : List SF} (h : ¬ pageP (wrap64 ((p5.size : Int) + 24)) p2 p4 l = (p0, cnt, p2, p3, p4, p5, 0)) : finF p0 cnt p2 p3 p4 p5 (some l) = ([], 4) := if_neg h
theorem both_read (cnt p0 p2 p3 p4 : Int) (p5 : ByteArray) : ∀ (d j k : Nat) (i : Int) (acc : List SF) (s : ByteArray), s.size ≤ d → d < j → acc.length + d ≤ 100000 → d + 200000 ≤ k →
    ∃ r, branch_Of.l0 j i cnt acc s = some r ∧ careenageref07_Of.l0 k acc i p0 cnt p2 p3 p4 p5 s = some (finF p0 cnt p2 p3 p4 p5 r) ∧ ∀ l, r = some l → l.length ≤ 100000
  | d, 0, k, _, _, _, _, h, _, _ => by omega
  | d, j + 1, 0, i, acc, s, _, _, _, h => by omega
  | d, j + 1, k + 1, i, acc, s, hs, hj, ha, hk => by
    by_cases hi : i < cnt
    · rw [branch_Of.l0, if_pos hi, forkF_is, bs, ref_step cnt p0 p2 p3 p4 p5 k (by omega) i acc s hi]
      cases hf : forkR s with
      | mk a s' =>
        cases a with
        | none => exact ⟨none, rfl, rfl, fun l h => by cases h⟩
        | some f =>
          have hless := forkR_less s f s' hf
          obtain ⟨d, rfl⟩ : ∃ e, d = e + 1 := ⟨d - 1, by omega⟩
          simp only []
          rw [if_pos (by omega), if_pos (by omega)]
          exact both_read cnt p0 p2 p3 p4 p5 d j k (wrap64 (i + 1)) _ _ (by omega) (by omega) (by rw [List.length_append]; simp; omega) (by omega)
    · rw [branch_Of.l0, if_neg hi, careenageref07_Of.l0, if_neg hi, rbpage_is k _ _ _ acc (by omega) (by omega), bs, fin_is]
      refine ⟨some acc, rfl, ?_, fun l h => by cases h; omega⟩
      simp only [finF]
      split <;> rfl
/-- What Of answers. -/
theorem bof_is (cnt p0 p2 p3 p4 : Int) (p5 : ByteArray) (hs : p5.size ≤ 5000) : ∃ r, branch_Of.l0 (p5.size + 1) 0 cnt [] p5 = some r ∧ branch_Of.f p0 cnt p2 p3 p4 p5 = some (finF p0 cnt p2 p3 p4 p5 r) ∧ (∀ k, 210000 ≤ k → careenageref07_Of.f k p0 cnt p2 p3 p4 p5 = some (finF p0 cnt p2 p3 p4 p5 r)) ∧ ∀ l, r = some l → l.length ≤ p5.size := by
  obtain ⟨r, h1, h2, h3⟩ := both_read cnt p0 p2 p3 p4 p5 p5.size (p5.size + 1) 210000 0 [] p5 (Nat.le_refl _) (by omega) (by simp; omega) (by omega)
  have hlen : ∀ (d j : Nat) (i : Int) (acc : List SF) (s : ByteArray) (l : List SF), s.size ≤ d → branch_Of.l0 j i cnt acc s = some (some l) → l.length ≤ acc.length + d := by
    intro d
    induction d with
    | zero =>
      intro j i acc s l hs h
      cases j with
      | zero => rw [branch_Of.l0] at h; cases h
      | succ j =>
        rw [branch_Of.l0] at h
        split at h
        · rw [forkF_is, bs] at h
          have : forkR s = (none, s) := by unfold forkR; rw [if_pos (by omega)]
          rw [this] at h
          cases h
        · injection h with h
          injection h with h
          subst h
          omega
    | succ d ih =>
      intro j i acc s l hs h
      cases j with
      | zero => rw [branch_Of.l0] at h; cases h
      | succ j =>
        rw [branch_Of.l0] at h
        split at h
        · rw [forkF_is, bs] at h
          cases hf : forkR s with
          | mk a s' =>
            rw [hf] at h
            cases a with
            | none => cases h
            | some f =>
              have hless := forkR_less s f s' hf
              simp only [] at h
              split at h
              · have := ih j _ _ s' l (by omega) h
                rw [List.length_append] at this
                simp at this
                omega
              · cases h
        · injection h with h
          injection h with h
          subst h
          omega
  have hle : ∀ l, r = some l → l.length ≤ p5.size := fun l h => by
    subst h
    have := hlen p5.size _ _ _ _ l (Nat.le_refl _) h1
    simpa using this
  refine ⟨r, h1, ?_, fun k hk => ?_, hle⟩
  · unfold branch_Of.f
    rw [h1, bs]
    cases r with
    | none => rfl
    | some l =>
      simp only []
      have := hle l rfl
      rw [bpage_is _ _ _ _ l (by omega) (by omega), bs, fin_is]
      simp only [finF]
      split <;> rfl
  · obtain ⟨r2, g1, g2, _⟩ := both_read cnt p0 p2 p3 p4 p5 p5.size (p5.size + 1) k 0 [] p5 (Nat.le_refl _) (by omega) (by simp; omega) (by omega)
    rw [h1] at g1
    cases g1
    unfold careenageref07_Of.f careenageref01_New.f
    rw [bs, g2]
theorem sameF_up (l : List SF) (hl : l.length < 1000000) : ∀ (d i k : Nat), i + d = l.length → d < k → api_Fork.l0 k l l (i : Int) = some true
  | d, i, 0, _, h => by omega
  | 0, i, k + 1, hi, _ => by rw [api_Fork.l0, if_neg (by omega)]
  | d + 1, i, k + 1, hi, hk => by
    have hw2 : wrap64 ((i : Int) + 1) = ((i + 1 : Nat) : Int) := by unfold wrap64; omega
    rw [api_Fork.l0, if_pos (by omega), if_pos (by omega), if_pos (by omega)]
    simp only [beq_self_eq_true, Bool.and_self, Bool.not_true, Bool.or_self, Bool.false_eq_true, if_false, if_true, hw2]
    exact sameF_up l hl d (i + 1) k (by omega) (by omega)
theorem sameF_is (l : List SF) (hl : l.length < 1000000) (k : Nat) (hk : l.length < k) : api_Fork.f k l l = some true := by
  unfold api_Fork.f
  rw [if_pos rfl]
  exact sameF_up l hl l.length 0 k (by omega) hk
end Go.Proofs.Ytlkfcabklaaacaa.Q

namespace Go.Proofs.Ytlkfcabklaaacaa.Pure
set_option linter.unusedVariables false
set_option linter.unusedSimpArgs false
open Go.RowKit Go.Proofs.Ytlkfcabklaaacaa.P Go.Proofs.YtlkfcabklaaacaaW.PrintWords Go.Proofs.YtlkfcabklaaacaaW.PrintLast Go.Proofs.YtlkfcabklaaacaaW.PrintMore Go.Proofs.YtlkfcabklaaacaaO Go.Proofs.Ytlkfcabklaaacaa.Q
theorem lives7 (k : Nat) (hk : 5 ≤ k) : careenagelaw07_lives.f k = some true := by
  unfold careenagelaw07_lives.f careenagelaw07_row.f
  rw [bs, fpick_is _ _ (by decide) k (by simp; omega), bs, if_pos (by decide +kernel), bs, fpick_is _ _ (by decide) k (by simp; omega), bs, if_pos (by decide +kernel), bs, fpick_is _ _ (by decide) k (by simp; omega), bs]
  decide +kernel
theorem finF_len (p0 cnt p2 p3 p4 : Int) (p5 : ByteArray) (r : Option (List SF)) (h : ∀ l, r = some l → l.length ≤ p5.size) : (finF p0 cnt p2 p3 p4 p5 r).1.length ≤ p5.size := by
  cases r with
  | none => exact Nat.zero_le _
  | some l =>
    by_cases hp : pageP (wrap64 ((p5.size : Int) + 24)) p2 p4 l = (p0, cnt, p2, p3, p4, p5, 0)
    · rw [finF_ok hp]
      exact h l rfl
    · rw [finF_bad hp]
      exact Nat.zero_le _
theorem BranchCalls : careenagelaw07_BranchCalls.Pure := by
  intro s n tx l p0 p1 p2 p3 p4 p5 key w0 w1 w2 wl1 wl2 wl3 _ _ _ _ _ _ _
  refine ⟨l.length + 300000, ?_⟩
  unfold careenagelaw07_BranchCalls.f
  obtain ⟨g, hg, hg2⟩ := light_is l (by omega) (l.length + 300000) (by omega)
  rw [lives7 _ (by omega), bs, if_pos rfl, hg, bs]
  have hj : ∀ b : Bool, (b = false → g = true ∧ p5.size ≤ 4200) → careenagelaw07_BranchCalls.j0 (l.length + 300000) s n tx l key b p0 p1 p2 p3 p4 p5 = some true := by
    intro b hb
    rw [careenagelaw07_BranchCalls.j0]
    cases b with
    | true => rw [if_pos rfl]
    | false =>
      obtain ⟨rfl, h2⟩ := hb rfl
      have hl := hg2 rfl
      obtain ⟨r, _, e1, e2, e3⟩ := bof_is p1 p0 p2 p3 p4 p5 (by omega)
      have hlen := finF_len p0 p1 p2 p3 p4 p5 r e3
      rw [if_neg (by decide), bpage_is _ _ _ _ l (by omega) (by omega), bs, rbpage_is _ _ _ _ l (by omega) (by omega), bs, e1, bs, e2 _ (by omega), bs,
        if_pos (by simp), if_pos rfl, sameF_is _ (by omega) _ (by omega), bs, if_pos rfl, if_pos rfl, size_is l (by omega) _ (by omega), bs, rsize_is l (by omega) _ (by omega), bs, if_pos rfl,
        fpick_is l key (by omega) _ (by omega), bs, frpick_is l key (by omega) _ (by omega), bs, if_pos rfl]
      unfold branch_Key.f careenageref07_Key.f
      simp
  split
  · rename_i h
    subst h
    split
    · exact hj true (fun h => by cases h)
    · exact hj _ (fun _ => ⟨rfl, by omega⟩)
  · exact hj true (fun h => by cases h)
end Go.Proofs.Ytlkfcabklaaacaa.Pure
