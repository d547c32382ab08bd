/- The texts that the statement's row rests on, one behind the other. -/
import Derived.Test.YtlkfcabklaaacaaMFreeCalls0
import Derived.Test.YtlkfcabklaaacaaMFreeCalls1
import Derived.Test.YtlkfcabklaaacaaMFreeCalls2
import Derived.Lib.Strings
import Derived.Lib.Bytes
import Derived.Laws.BitsAllLaws
namespace Go.Proofs.Ytlkfcabklaaacaa.P
open Go.RowKit Go.Proofs.YtlkfcabklaaacaaW.PrintWords Go.Proofs.YtlkfcabklaaacaaW.PrintLast Go.Proofs.YtlkfcabklaaacaaW.PrintMore
attribute [local go_sem] max2_int min2_int max_two min_two max_three min_three max_four min_four   -- for this text's walks alone
open Go.Proofs.YtlkfcabklaaacaaO
attribute [local go_sem] min2_str max2_str
set_option linter.unusedVariables false
set_option linter.unusedSimpArgs false

attribute [local go_sem high] eqA39
/-! ### careenagelaw10_FreeCalls: function 7 -/
def careenagelaw10_FreeCalls.j0 : Nat → Int → Int → Int → Int → List Int → Int → Bool → Int → Int → Int → Int → Int → ByteArray → Option (Bool)
  | 0, _, _, _, _, _, _, _, _, _, _, _, _, _ => none
  | k + 1, x0, x1, x2, x3, x4, x6, x35, x380000, x380001, x380002, x380003, x380004, x380005 => if x35 = true then (some true) else ((free_Page.f k x0 x1 x2 x3 x4).bind fun bt381 => ((careenageref10_Page.f k x0 x1 x2 x3 x4).bind fun bt389 => ((free_Of.f k x380000 x380001 x380002 x380003 x380004 x380005).bind fun bt397 => ((careenageref10_Of.f k x380000 x380001 x380002 x380003 x380004 x380005).bind fun bt402 => (if (bt381.1 == bt389.1 && (bt381.2.1 == bt389.2.1 && (bt381.2.2.1 == bt389.2.2.1 && (bt381.2.2.2.1 == bt389.2.2.2.1 && (bt381.2.2.2.2.1 == bt389.2.2.2.2.1 && (bt381.2.2.2.2.2.1.toList == bt389.2.2.2.2.2.1.toList)))))) = true then (if bt381.2.2.2.2.2.2 = bt389.2.2.2.2.2.2 then ((careenagekit_Same_uint32.f k bt397.1 bt402.1).bind fun t407 => (if t407 = true then (if bt397.2.1 = bt402.2.1 then (if bt397.2.2 = bt402.2.2 then ((free_Rises.f k x4).bind fun t408 => ((careenageref10_Rises.f k x4).bind fun t409 => (if (t408 == t409) = true then ((free_Need.f x0 x6).bind fun t410 => ((careenageref10_Need.f x0 x6).bind fun t411 => (if t410 = t411 then ((free_Most.f x0).bind fun t412 => ((careenageref10_Most.f x0).bind fun t413 => (some (t412 == t413)))) else (some false)))) else (some false)))) else (some false)) else (some false)) else (some false))) else (some false)) else (some false))))))
def careenagelaw10_FreeCalls.f (k : Nat) (a0 : Int) (a1 : Int) (a2 : Int) (a3 : Int) (l4 : List Int) (a5_0 : Int) (a5_1 : Int) (a5_2 : Int) (a5_3 : Int) (a5_4 : Int) (a5_5 : ByteArray) (a6 : Int) : Option (Bool) := (careenagelaw10_lives.f k).bind fun t380 => (if t380 = true then (if (l4.length : Int) > 1200 then (careenagelaw10_FreeCalls.j0 k a0 a1 a2 a3 l4 a6 true a5_0 a5_1 a5_2 a5_3 a5_4 a5_5) else (careenagelaw10_FreeCalls.j0 k a0 a1 a2 a3 l4 a6 (decide ((a5_5.size : Int) > 4200)) a5_0 a5_1 a5_2 a5_3 a5_4 a5_5)) else (some false))
theorem careenagelaw10_FreeCalls.mono_l : ∀ k, (∀ y0 y1 y2 y3 y4 y5 y6 y7 y8 y9 y10 y11 y12, LeO (careenagelaw10_FreeCalls.j0 k y0 y1 y2 y3 y4 y5 y6 y7 y8 y9 y10 y11 y12) (careenagelaw10_FreeCalls.j0 (k + 1) y0 y1 y2 y3 y4 y5 y6 y7 y8 y9 y10 y11 y12))
  | 0 => fun _ _ _ _ _ _ _ _ _ _ _ _ _ r h => by simp [careenagelaw10_FreeCalls.j0] at h
  | k + 1 => by
    have ih0 := careenagelaw10_FreeCalls.mono_l k
    · intro y0 y1 y2 y3 y4 y5 y6 y7 y8 y9 y10 y11 y12
      unfold careenagelaw10_FreeCalls.j0
      repeat' first
      | (with_reducible exact ih0 _ _ _ _ _ _ _ _ _ _ _ _ _)
      | (with_reducible exact careenagekit_Same_uint32.mono _ _ _)
      | (with_reducible exact careenagelaw10_lives.mono _)
      | (with_reducible exact careenageref10_Of.mono _ _ _ _ _ _ _)
      | (with_reducible exact careenageref10_Page.mono _ _ _ _ _ _)
      | (with_reducible exact careenageref10_Rises.mono _ _)
      | (with_reducible exact free_Of.mono _ _ _ _ _ _ _)
      | (with_reducible exact free_Page.mono _ _ _ _ _ _)
      | (with_reducible exact free_Rises.mono _ _)
      | (with_reducible exact LeO.refl _)
      | (with_reducible exact LeO.none _)
      | (with_reducible refine LeO.ite ?_ ?_)
      | (with_reducible refine LeO.bind ?_ (fun _ => ?_))
      | exact ih0 _ _ _ _ _ _ _ _ _ _ _ _ _
      | exact careenagekit_Same_uint32.mono _ _ _
      | exact careenagelaw10_lives.mono _
      | exact careenageref10_Of.mono _ _ _ _ _ _ _
      | exact careenageref10_Page.mono _ _ _ _ _ _
      | exact careenageref10_Rises.mono _ _
      | exact free_Of.mono _ _ _ _ _ _ _
      | exact free_Page.mono _ _ _ _ _ _
      | exact free_Rises.mono _ _
      | exact LeO.none _
      | refine LeO.ite ?_ ?_
      | refine LeO.bind ?_ (fun _ => ?_)
theorem careenagelaw10_FreeCalls.mono : ∀ a0 a1 a2 a3 a4 a5 a6 a7 a8 a9 a10 a11 k, LeO (careenagelaw10_FreeCalls.f k a0 a1 a2 a3 a4 a5 a6 a7 a8 a9 a10 a11) (careenagelaw10_FreeCalls.f (k + 1) a0 a1 a2 a3 a4 a5 a6 a7 a8 a9 a10 a11) := by
  intro a0 a1 a2 a3 a4 a5 a6 a7 a8 a9 a10 a11 k
  have ih0 := careenagelaw10_FreeCalls.mono_l k
  unfold careenagelaw10_FreeCalls.f
  repeat' first
      | (with_reducible exact ih0 _ _ _ _ _ _ _ _ _ _ _ _ _)
      | (with_reducible exact careenagekit_Same_uint32.mono _ _ _)
      | (with_reducible exact careenagelaw10_lives.mono _)
      | (with_reducible exact careenageref10_Of.mono _ _ _ _ _ _ _)
      | (with_reducible exact careenageref10_Page.mono _ _ _ _ _ _)
      | (with_reducible exact careenageref10_Rises.mono _ _)
      | (with_reducible exact free_Of.mono _ _ _ _ _ _ _)
      | (with_reducible exact free_Page.mono _ _ _ _ _ _)
      | (with_reducible exact free_Rises.mono _ _)
      | (with_reducible exact LeO.refl _)
      | (with_reducible exact LeO.none _)
      | (with_reducible refine LeO.ite ?_ ?_)
      | (with_reducible refine LeO.bind ?_ (fun _ => ?_))
      | exact ih0 _ _ _ _ _ _ _ _ _ _ _ _ _
      | exact careenagekit_Same_uint32.mono _ _ _
      | exact careenagelaw10_lives.mono _
      | exact careenageref10_Of.mono _ _ _ _ _ _ _
      | exact careenageref10_Page.mono _ _ _ _ _ _
      | exact careenageref10_Rises.mono _ _
      | exact free_Of.mono _ _ _ _ _ _ _
      | exact free_Page.mono _ _ _ _ _ _
      | exact free_Rises.mono _ _
      | exact LeO.none _
      | refine LeO.ite ?_ ?_
      | refine LeO.bind ?_ (fun _ => ?_)
set_option maxHeartbeats 8000000 in
set_option maxRecDepth 100000 in
theorem careenagelaw10_FreeCalls.calls (k : Nat) (a0 : Int) (a1 : Int) (a2 : Int) (a3 : Int) (A4 : Option Addr) (c4 : Nat) (l4 : List Int) (a5_0 : Int) (a5_1 : Int) (a5_2 : Int) (a5_3 : Int) (a5_4 : Int) (a5_5 : ByteArray) (a6 : Int) (r : Bool) (w : World) (hr4 : Kd.C (Kd.int .u32) w A4 l4.length l4) (hc4 : l4.length ≤ c4) (hr_ : r = true) (h : careenagelaw10_FreeCalls.f k a0 a1 a2 a3 l4 a5_0 a5_1 a5_2 a5_3 a5_4 a5_5 a6 = some r) :
    Calls Try.prog 7 #[.int .i64 a0, .int .u32 a1, .int .u32 a2, .int .u64 a3, .slice A4 l4.length c4, .agg #[.int .i64 a5_0, .int .i64 a5_1, .int .u32 a5_2, .int .u32 a5_3, .int .u64 a5_4, .string a5_5], .int .i64 a6] w fun e w' => e = .returned (.bool r) ∧ Below w.heap.size w w' := by
  have hu39 := Try.underlying39
  have HR4 := Aside0.mk hr4
  have HC4 := Aside0.mk hc4
  clear hr4 hc4
  have HB := Aside0.mk (Below.refl w.heap.size w)
  have H : ((careenagelaw10_lives.f k).bind fun t380 => (if t380 = true then (if (l4.length : Int) > 1200 then (careenagelaw10_FreeCalls.j0 k a0 a1 a2 a3 l4 a6 true a5_0 a5_1 a5_2 a5_3 a5_4 a5_5) else (careenagelaw10_FreeCalls.j0 k a0 a1 a2 a3 l4 a6 (decide ((a5_5.size : Int) > 4200)) a5_0 a5_1 a5_2 a5_3 a5_4 a5_5)) else (some false))) = some r := h
  clear h
  have HLaw := Aside0.mk hr_
  clear hr_
  replace H := Option.bind_eq_some_iff.mp H
  obtain ⟨t380, A80, H⟩ := H
  replace H : (if t380 = true then (if (l4.length : Int) > 1200 then (careenagelaw10_FreeCalls.j0 k a0 a1 a2 a3 l4 a6 true a5_0 a5_1 a5_2 a5_3 a5_4 a5_5) else (careenagelaw10_FreeCalls.j0 k a0 a1 a2 a3 l4 a6 (decide ((a5_5.size : Int) > 4200)) a5_0 a5_1 a5_2 a5_3 a5_4 a5_5)) else (some false)) = some r := H
  have A8 := Aside0.mk A80
  clear A80
  by_cases c9 : t380 = true
  · subst c9
    have H1 : (if (l4.length : Int) > 1200 then (careenagelaw10_FreeCalls.j0 k a0 a1 a2 a3 l4 a6 true a5_0 a5_1 a5_2 a5_3 a5_4 a5_5) else (careenagelaw10_FreeCalls.j0 k a0 a1 a2 a3 l4 a6 (decide ((a5_5.size : Int) > 4200)) a5_0 a5_1 a5_2 a5_3 a5_4 a5_5)) = some r := by rw [if_pos rfl] at H; exact H
    clear H
    have H := H1
    clear H1
    have HC10 := Aside0.mk H
    clear H
    go_enter Try.func7, Try.ntmps7
    go_upto_region 3 with (first | ((with_reducible refine gate_dst (N := 12) rfl ?_); (try (refine gate_guard (by rfl) ?_; dsimp only)); refine box_event ?hg (N := 12) ?hd (cs := #[.int .i64 a5_0, .int .i64 a5_1, .int .u32 a5_2, .int .u32 a5_3, .int .u64 a5_4, .string a5_5]) (t := 39) ?hr ?_; (case hd => rfl); (case hg => rfl); (case hr => first | (go_simp; done) | (go_simp; rfl)); intro gb379 hg w11 hbox hb; have n0_ := Aside0.mk (below_step (by repeat (first | (with_reducible first | exact HB.out | apply below_alloc | apply pw_below_drewN | apply below_drew1) | exact HB.out)) hb); have n1_ := Aside0.mk (hbox); have n2_ := Aside0.mk ((by rw [hg]; exact (below_size (by repeat (first | (with_reducible first | exact HB.out | apply below_alloc | apply pw_below_drewN | apply below_drew1) | exact HB.out))) : w.heap.size ≤ gb379)); have n3_ := Aside0.mk ((by rw [hg]; exact (below_size (by repeat (first | (with_reducible first | exact HB.out | apply below_alloc | apply pw_below_drewN | apply below_drew1) | exact HB.out))) : w.heap.size ≤ gb379)); clear HB; have HB := n0_; have BK379 := n1_; have GW379 := n2_; have GE379 := n3_; clear n0_ n1_ n2_ n3_; clear hb hbox hg) | ((with_reducible refine gate_callee (f := 26) rfl ?_); refine goesL_ (some 25) rfl rfl Try.func26 (by kernel_rfl) rfl #[] rfl (by (try simp only [List.map_toArray, List.map_cons, List.map_nil]); first | done | rfl | (simp only [List.length_drop, List.length_take]; rfl)) ?_; (with_reducible refine (careenagelaw10_lives.calls k  true _ A8.out).mono ?_); rintro e w12 ⟨rfl, hb⟩; refine ⟨_, rfl, ?_⟩; have n0_ := Aside0.mk (blk_below (g := gb379) (o := .cells #[.int .i64 a5_0, .int .i64 a5_1, .int .u32 a5_2, .int .u32 a5_3, .int .u64 a5_4, .string a5_5] 39 (0, 0)) (by (with_reducible repeat (first | refine blk_drewN ?_ _ | refine blk_drew ?_ | refine blk_alloc ?_ _)); exact BK379.out) hb); have n1_ := Aside0.mk (below_step (by repeat (first | (with_reducible first | exact HB.out | apply below_alloc | apply pw_below_drewN | apply below_drew1 | refine below_set ?_ GE379.out) | exact HB.out)) hb); clear BK379; clear HB; have BK379 := n0_; have HB := n1_; clear n0_ n1_; (try clear hb); (try clear hb2); (try clear hk); (try clear hi)))
    (try simp only [Act.put, List.setIfInBounds_toArray, List.set_cons_zero, List.set_cons_succ])
    go_cut [35] (fun v35 wc => ∃ (kq : Nat) (x35_9 : Bool), v35 = .bool x35_9 ∧ Aside0 (careenagelaw10_FreeCalls.j0 kq a0 a1 a2 a3 l4 a6 x35_9 a5_0 a5_1 a5_2 a5_3 a5_4 a5_5 = some r) ∧ Aside0 (kq ≤ k) ∧ Aside0 (wc.heap[gb379]? = some (.cells #[.int .i64 a5_0, .int .i64 a5_1, .int .u32 a5_2, .int .u32 a5_3, .int .u64 a5_4, .string a5_5] 39 (0, 0))) ∧ Aside0 (Below w.heap.size w wc))
    case first =>
      have H := HC10.out
      clear HC10
      by_cases c13 : (l4.length : Int) > 1200
      · rw [if_pos c13] at H
        have c13b0 : decide (1200 < (l4.length : Int)) = true := decide_eq_true c13
        have c13b1 : decide (1200 < l4.length) = true := decide_eq_true (by omega)
        clear c13
        (first | rw [c13b0] | (simp only [i64_w, i32_w]; rw [c13b0]) | skip)
        have H' := Aside0.mk H
        clear H
        go_wp2
        go_meet
        case rel => exact ⟨_, (true), (by first | rfl | (simp; done) | (simp [*]; done)), H', ⟨by first | omega | exact Nat.le_refl _⟩, ⟨by (with_reducible repeat (first | refine blk_drewN ?_ _ | refine blk_drew ?_ | refine blk_alloc ?_ _)); exact BK379.out⟩, ⟨by repeat (first | (with_reducible first | exact HB.out | apply below_alloc | apply pw_below_drewN | apply below_drew1 | refine below_set ?_ GE379.out) | exact HB.out)⟩⟩
      · rw [if_neg c13] at H
        have c13b0 : decide (1200 < (l4.length : Int)) = false := decide_eq_false c13
        have c13b1 : decide (1200 < l4.length) = false := decide_eq_false (by omega)
        clear c13
        (first | rw [c13b0] | (simp only [i64_w, i32_w]; rw [c13b0]) | skip)
        have H' := Aside0.mk H
        clear H
        have hcz14_0 : w12.cell? ⟨gb379, 0, none⟩ = some (.int .i64 a5_0) := (blk_cell BK379.out 0).trans rfl
        have hcz14_1 : w12.cell? ⟨gb379, 1, none⟩ = some (.int .i64 a5_1) := (blk_cell BK379.out 1).trans rfl
        have hcz14_2 : w12.cell? ⟨gb379, 2, none⟩ = some (.int .u32 a5_2) := (blk_cell BK379.out 2).trans rfl
        have hcz14_3 : w12.cell? ⟨gb379, 3, none⟩ = some (.int .u32 a5_3) := (blk_cell BK379.out 3).trans rfl
        have hcz14_4 : w12.cell? ⟨gb379, 4, none⟩ = some (.int .u64 a5_4) := (blk_cell BK379.out 4).trans rfl
        have hcz14_5 : w12.cell? ⟨gb379, 5, none⟩ = some (.string a5_5) := (blk_cell BK379.out 5).trans rfl
        have hfz14_0 := blk_frozen BK379.out 0
        have hfz14_1 := blk_frozen BK379.out 1
        have hfz14_2 := blk_frozen BK379.out 2
        have hfz14_3 := blk_frozen BK379.out 3
        have hfz14_4 := blk_frozen BK379.out 4
        have hfz14_5 := blk_frozen BK379.out 5
        go_wp2
        go_meet
        case rel => exact ⟨_, (decide ((a5_5.size : Int) > 4200)), (by first | rfl | (simp; done) | (simp [*]; done)), H', ⟨by first | omega | exact Nat.le_refl _⟩, ⟨by (with_reducible repeat (first | refine blk_drewN ?_ _ | refine blk_drew ?_ | refine blk_alloc ?_ _)); exact BK379.out⟩, ⟨by repeat (first | (with_reducible first | exact HB.out | apply below_alloc | apply pw_below_drewN | apply below_drew1 | refine below_set ?_ GE379.out) | exact HB.out)⟩⟩
    case rest =>
      clear HC10
      try clear c1
      try clear c2
      try clear p2
      try clear c4
      try clear c7
      try clear c9
      try clear c13
      try clear c13b0
      try clear c13b1
      try clear hcz14_0
      try clear hcz14_1
      try clear hcz14_2
      try clear hcz14_3
      try clear hcz14_4
      try clear hcz14_5
      try clear hfz14_0
      try clear hfz14_1
      try clear hfz14_2
      try clear hfz14_3
      try clear hfz14_4
      try clear hfz14_5
      obtain ⟨kq, x35_9, rfl, HA, HJ9, BK379, HB⟩ := hcut
      cases kq with
      | zero => exact absurd HA.out (by simp [careenagelaw10_FreeCalls.j0])
      | succ kj9 =>
        have H := HA.out
        clear HA
        simp only [careenagelaw10_FreeCalls.j0] at H
        by_cases c15 : x35_9 = true
        · subst c15
          have H1 : (some true) = some r := by rw [if_pos rfl] at H; exact H
          clear H
          have H := H1
          clear H1
          obtain rfl := Option.some.inj H
          go_wp2
          go_ret
          exact ⟨by first | rfl | (simp [errW_none, errW_some] <;> rfl) | (simp [*, errW_none, errW_some] <;> rfl), by repeat (first | (with_reducible first | exact HB.out | apply below_alloc | apply pw_below_drewN | apply below_drew1 | refine below_set ?_ GE379.out) | exact HB.out)⟩
        · replace c15 := Bool.eq_false_iff.mpr c15
          subst c15
          have H1 : ((free_Page.f kj9 a0 a1 a2 a3 l4).bind fun bt381 => ((careenageref10_Page.f kj9 a0 a1 a2 a3 l4).bind fun bt389 => ((free_Of.f kj9 a5_0 a5_1 a5_2 a5_3 a5_4 a5_5).bind fun bt397 => ((careenageref10_Of.f kj9 a5_0 a5_1 a5_2 a5_3 a5_4 a5_5).bind fun bt402 => (if (bt381.1 == bt389.1 && (bt381.2.1 == bt389.2.1 && (bt381.2.2.1 == bt389.2.2.1 && (bt381.2.2.2.1 == bt389.2.2.2.1 && (bt381.2.2.2.2.1 == bt389.2.2.2.2.1 && (bt381.2.2.2.2.2.1.toList == bt389.2.2.2.2.2.1.toList)))))) = true then (if bt381.2.2.2.2.2.2 = bt389.2.2.2.2.2.2 then ((careenagekit_Same_uint32.f kj9 bt397.1 bt402.1).bind fun t407 => (if t407 = true then (if bt397.2.1 = bt402.2.1 then (if bt397.2.2 = bt402.2.2 then ((free_Rises.f kj9 l4).bind fun t408 => ((careenageref10_Rises.f kj9 l4).bind fun t409 => (if (t408 == t409) = true then ((free_Need.f a0 a6).bind fun t410 => ((careenageref10_Need.f a0 a6).bind fun t411 => (if t410 = t411 then ((free_Most.f a0).bind fun t412 => ((careenageref10_Most.f a0).bind fun t413 => (some (t412 == t413)))) else (some false)))) else (some false)))) else (some false)) else (some false)) else (some false))) else (some false)) else (some false)))))) = some r := by rw [if_neg (show ¬ (false = true) by decide)] at H; exact H
          clear H
          have H := H1
          clear H1
          replace H := Option.bind_eq_some_iff.mp H
          obtain ⟨⟨t381, t382, t383, t384, t385, t386, t387⟩, A160, H⟩ := H
          replace H : ((careenageref10_Page.f kj9 a0 a1 a2 a3 l4).bind fun bt389 => ((free_Of.f kj9 a5_0 a5_1 a5_2 a5_3 a5_4 a5_5).bind fun bt397 => ((careenageref10_Of.f kj9 a5_0 a5_1 a5_2 a5_3 a5_4 a5_5).bind fun bt402 => (if (t381 == bt389.1 && (t382 == bt389.2.1 && (t383 == bt389.2.2.1 && (t384 == bt389.2.2.2.1 && (t385 == bt389.2.2.2.2.1 && (t386.toList == bt389.2.2.2.2.2.1.toList)))))) = true then (if t387 = bt389.2.2.2.2.2.2 then ((careenagekit_Same_uint32.f kj9 bt397.1 bt402.1).bind fun t407 => (if t407 = true then (if bt397.2.1 = bt402.2.1 then (if bt397.2.2 = bt402.2.2 then ((free_Rises.f kj9 l4).bind fun t408 => ((careenageref10_Rises.f kj9 l4).bind fun t409 => (if (t408 == t409) = true then ((free_Need.f a0 a6).bind fun t410 => ((careenageref10_Need.f a0 a6).bind fun t411 => (if t410 = t411 then ((free_Most.f a0).bind fun t412 => ((careenageref10_Most.f a0).bind fun t413 => (some (t412 == t413)))) else (some false)))) else (some false)))) else (some false)) else (some false)) else (some false))) else (some false)) else (some false))))) = some r := H
          have A16 := Aside0.mk A160
          clear A160
          replace H := Option.bind_eq_some_iff.mp H
          obtain ⟨⟨t389, t390, t391, t392, t393, t394, t395⟩, A170, H⟩ := H
          replace H : ((free_Of.f kj9 a5_0 a5_1 a5_2 a5_3 a5_4 a5_5).bind fun bt397 => ((careenageref10_Of.f kj9 a5_0 a5_1 a5_2 a5_3 a5_4 a5_5).bind fun bt402 => (if (t381 == t389 && (t382 == t390 && (t383 == t391 && (t384 == t392 && (t385 == t393 && (t386.toList == t394.toList)))))) = true then (if t387 = t395 then ((careenagekit_Same_uint32.f kj9 bt397.1 bt402.1).bind fun t407 => (if t407 = true then (if bt397.2.1 = bt402.2.1 then (if bt397.2.2 = bt402.2.2 then ((free_Rises.f kj9 l4).bind fun t408 => ((careenageref10_Rises.f kj9 l4).bind fun t409 => (if (t408 == t409) = true then ((free_Need.f a0 a6).bind fun t410 => ((careenageref10_Need.f a0 a6).bind fun t411 => (if t410 = t411 then ((free_Most.f a0).bind fun t412 => ((careenageref10_Most.f a0).bind fun t413 => (some (t412 == t413)))) else (some false)))) else (some false)))) else (some false)) else (some false)) else (some false))) else (some false)) else (some false)))) = some r := H
          have A17 := Aside0.mk A170
          clear A170
          replace H := Option.bind_eq_some_iff.mp H
          obtain ⟨⟨t397, t400, t401⟩, A180, H⟩ := H
          replace H : ((careenageref10_Of.f kj9 a5_0 a5_1 a5_2 a5_3 a5_4 a5_5).bind fun bt402 => (if (t381 == t389 && (t382 == t390 && (t383 == t391 && (t384 == t392 && (t385 == t393 && (t386.toList == t394.toList)))))) = true then (if t387 = t395 then ((careenagekit_Same_uint32.f kj9 t397 bt402.1).bind fun t407 => (if t407 = true then (if t400 = bt402.2.1 then (if t401 = bt402.2.2 then ((free_Rises.f kj9 l4).bind fun t408 => ((careenageref10_Rises.f kj9 l4).bind fun t409 => (if (t408 == t409) = true then ((free_Need.f a0 a6).bind fun t410 => ((careenageref10_Need.f a0 a6).bind fun t411 => (if t410 = t411 then ((free_Most.f a0).bind fun t412 => ((careenageref10_Most.f a0).bind fun t413 => (some (t412 == t413)))) else (some false)))) else (some false)))) else (some false)) else (some false)) else (some false))) else (some false)) else (some false))) = some r := H
          have A18 := Aside0.mk A180
          clear A180
          replace H := Option.bind_eq_some_iff.mp H
          obtain ⟨⟨t402, t405, t406⟩, A190, H⟩ := H
          replace H : (if (t381 == t389 && (t382 == t390 && (t383 == t391 && (t384 == t392 && (t385 == t393 && (t386.toList == t394.toList)))))) = true then (if t387 = t395 then ((careenagekit_Same_uint32.f kj9 t397 t402).bind fun t407 => (if t407 = true then (if t400 = t405 then (if t401 = t406 then ((free_Rises.f kj9 l4).bind fun t408 => ((careenageref10_Rises.f kj9 l4).bind fun t409 => (if (t408 == t409) = true then ((free_Need.f a0 a6).bind fun t410 => ((careenageref10_Need.f a0 a6).bind fun t411 => (if t410 = t411 then ((free_Most.f a0).bind fun t412 => ((careenageref10_Most.f a0).bind fun t413 => (some (t412 == t413)))) else (some false)))) else (some false)))) else (some false)) else (some false)) else (some false))) else (some false)) else (some false)) = some r := H
          have A19 := Aside0.mk A190
          clear A190
          by_cases c20 : (t381 == t389 && (t382 == t390 && (t383 == t391 && (t384 == t392 && (t385 == t393 && (t386.toList == t394.toList)))))) = true
          · rw [if_pos c20] at H
            have c20b0 : (t381 == t389 && (t382 == t390 && (t383 == t391 && (t384 == t392 && (t385 == t393 && (t386.toList == t394.toList)))))) = true := c20
            (try (have c20b1 : (t381 = true) → (t389 && (t382 == t390 && (t383 == t391 && (t384 == t392 && (t385 == t393 && (t386.toList == t394.toList))))) = true) := by intro h_; have z_ := c20; rw [h_] at z_; revert z_; cases (t389 && (t382 == t390 && (t383 == t391 && (t384 == t392 && (t385 == t393 && (t386.toList == t394.toList)))))) <;> simp))
            (try (have c20b2 : (t381 = false) → (t389 && (t382 == t390 && (t383 == t391 && (t384 == t392 && (t385 == t393 && (t386.toList == t394.toList))))) = false) := by intro h_; have z_ := c20; rw [h_] at z_; revert z_; cases (t389 && (t382 == t390 && (t383 == t391 && (t384 == t392 && (t385 == t393 && (t386.toList == t394.toList)))))) <;> simp))
            (try (have c20b3 : (t389 && (t382 == t390 && (t383 == t391 && (t384 == t392 && (t385 == t393 && (t386.toList == t394.toList))))) = true) → (t381 = true) := by intro h_; have z_ := c20; rw [h_] at z_; revert z_; cases (t381) <;> simp))
            (try (have c20b4 : (t389 && (t382 == t390 && (t383 == t391 && (t384 == t392 && (t385 == t393 && (t386.toList == t394.toList))))) = false) → (t381 = false) := by intro h_; have z_ := c20; rw [h_] at z_; revert z_; cases (t381) <;> simp))
            (try (have c20b5 : decide (t381 = t389 && (t382 == t390 && (t383 == t391 && (t384 == t392 && (t385 == t393 && (t386.toList == t394.toList)))))) = true := by first | (simp; done) | (simp at c20; done) | simpa using c20))
            (try (have c20b6 : (t381 == t389 && (t382 == t390 && (t383 == t391 && (t384 == t392 && (t385 == t393 && (t386.toList == t394.toList)))))) = true := by first | (simp; done) | (simp at c20; done) | simpa using c20))
            clear c20
            by_cases c21 : t387 = t395
            · rw [if_pos c21] at H
              have c21b0 : (t387 == t395) = true := beq_iff_eq.mpr c21
              have c21b1 : (t387 != t395) = false := bne_eq_false_iff_eq.mpr c21
              clear c21
              replace H := Option.bind_eq_some_iff.mp H
              obtain ⟨t407, A220, H⟩ := H
              replace H : (if t407 = true then (if t400 = t405 then (if t401 = t406 then ((free_Rises.f kj9 l4).bind fun t408 => ((careenageref10_Rises.f kj9 l4).bind fun t409 => (if (t408 == t409) = true then ((free_Need.f a0 a6).bind fun t410 => ((careenageref10_Need.f a0 a6).bind fun t411 => (if t410 = t411 then ((free_Most.f a0).bind fun t412 => ((careenageref10_Most.f a0).bind fun t413 => (some (t412 == t413)))) else (some false)))) else (some false)))) else (some false)) else (some false)) else (some false)) = some r := H
              have A22 := Aside0.mk A220
              clear A220
              by_cases c23 : t407 = true
              · subst c23
                have H1 : (if t400 = t405 then (if t401 = t406 then ((free_Rises.f kj9 l4).bind fun t408 => ((careenageref10_Rises.f kj9 l4).bind fun t409 => (if (t408 == t409) = true then ((free_Need.f a0 a6).bind fun t410 => ((careenageref10_Need.f a0 a6).bind fun t411 => (if t410 = t411 then ((free_Most.f a0).bind fun t412 => ((careenageref10_Most.f a0).bind fun t413 => (some (t412 == t413)))) else (some false)))) else (some false)))) else (some false)) else (some false)) = some r := by rw [if_pos rfl] at H; exact H
                clear H
                have H := H1
                clear H1
                by_cases c24 : t400 = t405
                · rw [if_pos c24] at H
                  have c24b0 : (t400 == t405) = true := beq_iff_eq.mpr c24
                  have c24b1 : (t400 != t405) = false := bne_eq_false_iff_eq.mpr c24
                  clear c24
                  by_cases c25 : t401 = t406
                  · rw [if_pos c25] at H
                    have c25b0 : (t401 == t406) = true := beq_iff_eq.mpr c25
                    have c25b1 : (t401 != t406) = false := bne_eq_false_iff_eq.mpr c25
                    clear c25
                    replace H := Option.bind_eq_some_iff.mp H
                    obtain ⟨t408, A260, H⟩ := H
                    replace H : ((careenageref10_Rises.f kj9 l4).bind fun t409 => (if (t408 == t409) = true then ((free_Need.f a0 a6).bind fun t410 => ((careenageref10_Need.f a0 a6).bind fun t411 => (if t410 = t411 then ((free_Most.f a0).bind fun t412 => ((careenageref10_Most.f a0).bind fun t413 => (some (t412 == t413)))) else (some false)))) else (some false))) = some r := H
                    have A26 := Aside0.mk A260
                    clear A260
                    replace H := Option.bind_eq_some_iff.mp H
                    obtain ⟨t409, A270, H⟩ := H
                    replace H : (if (t408 == t409) = true then ((free_Need.f a0 a6).bind fun t410 => ((careenageref10_Need.f a0 a6).bind fun t411 => (if t410 = t411 then ((free_Most.f a0).bind fun t412 => ((careenageref10_Most.f a0).bind fun t413 => (some (t412 == t413)))) else (some false)))) else (some false)) = some r := H
                    have A27 := Aside0.mk A270
                    clear A270
                    by_cases c28 : (t408 == t409) = true
                    · rw [if_pos c28] at H
                      have c28b0 : (t408 == t409) = true := c28
                      (try (have c28b1 : (t408 = true) → (t409 = true) := by intro h_; have z_ := c28; rw [h_] at z_; revert z_; cases (t409) <;> simp))
                      (try (have c28b2 : (t408 = false) → (t409 = false) := by intro h_; have z_ := c28; rw [h_] at z_; revert z_; cases (t409) <;> simp))
                      (try (have c28b3 : (t409 = true) → (t408 = true) := by intro h_; have z_ := c28; rw [h_] at z_; revert z_; cases (t408) <;> simp))
                      (try (have c28b4 : (t409 = false) → (t408 = false) := by intro h_; have z_ := c28; rw [h_] at z_; revert z_; cases (t408) <;> simp))
                      (try (have c28b5 : decide (t408 = t409) = true := by first | (simp; done) | (simp at c28; done) | simpa using c28))
                      (try (have c28b6 : (t408 == t409) = true := by first | (simp; done) | (simp at c28; done) | simpa using c28))
                      clear c28
                      replace H := Option.bind_eq_some_iff.mp H
                      obtain ⟨t410, A290, H⟩ := H
                      replace H : ((careenageref10_Need.f a0 a6).bind fun t411 => (if t410 = t411 then ((free_Most.f a0).bind fun t412 => ((careenageref10_Most.f a0).bind fun t413 => (some (t412 == t413)))) else (some false))) = some r := H
                      have A29 := Aside0.mk A290
                      clear A290
                      replace H := Option.bind_eq_some_iff.mp H
                      obtain ⟨t411, A300, H⟩ := H
                      replace H : (if t410 = t411 then ((free_Most.f a0).bind fun t412 => ((careenageref10_Most.f a0).bind fun t413 => (some (t412 == t413)))) else (some false)) = some r := H
                      have A30 := Aside0.mk A300
                      clear A300
                      by_cases c31 : t410 = t411
                      · rw [if_pos c31] at H
                        have c31b0 : (t410 == t411) = true := beq_iff_eq.mpr c31
                        have c31b1 : (t410 != t411) = false := bne_eq_false_iff_eq.mpr c31
                        clear c31
                        replace H := Option.bind_eq_some_iff.mp H
                        obtain ⟨t412, A320, H⟩ := H
                        replace H : ((careenageref10_Most.f a0).bind fun t413 => (some (t412 == t413))) = some r := H
                        have A32 := Aside0.mk A320
                        clear A320
                        replace H := Option.bind_eq_some_iff.mp H
                        obtain ⟨t413, A330, H⟩ := H
                        replace H : (some (t412 == t413)) = some r := H
                        have A33 := Aside0.mk A330
                        clear A330
                        obtain rfl := Option.some.inj H
                        go_wp2_with (first | ((with_reducible refine gate_callee (f := 27) rfl ?_); refine goesL_ (some 42) rfl rfl Try.func27 (by kernel_rfl) rfl #[.int .i64 a0, .int .u32 a1, .int .u32 a2, .int .u64 a3, .slice A4 l4.length c4] rfl (by (try simp only [List.map_toArray, List.map_cons, List.map_nil]); first | done | rfl | (simp only [List.length_drop, List.length_take]; rfl)) ?_; (with_reducible refine (free_Page.calls kj9 a0 a1 a2 a3 _ _ l4 t381 t382 t383 t384 t385 t386 t387 _ ?side1 ?side2 A16.out).mono ?_); (case side1 => repeat (first | exact (Kd.C_below HR4.out HB.out) | (with_reducible refine Kd.C_alloc ?_ _) | (with_reducible refine Kd.C_drewN ?_ _) | (with_reducible refine Kd.C_drew ?_))); (case side2 => exact HC4.out); rintro e w34 ⟨rfl, hb⟩; refine ⟨_, rfl, ?_⟩; have n0_ := Aside0.mk (blk_below (g := gb379) (o := .cells #[.int .i64 a5_0, .int .i64 a5_1, .int .u32 a5_2, .int .u32 a5_3, .int .u64 a5_4, .string a5_5] 39 (0, 0)) (by (with_reducible repeat (first | refine blk_drewN ?_ _ | refine blk_drew ?_ | refine blk_alloc ?_ _)); exact BK379.out) hb); have n1_ := Aside0.mk (below_step (by repeat (first | (with_reducible first | exact HB.out | apply below_alloc | apply pw_below_drewN | apply below_drew1 | refine below_set ?_ GE379.out) | exact HB.out)) hb); clear BK379; clear HB; have BK379 := n0_; have HB := n1_; clear n0_ n1_; (try clear hb); (try clear hb2); (try clear hk); (try clear hi)) | ((with_reducible refine gate_dst (N := 15) rfl ?_); (try (refine gate_guard (by rfl) ?_; dsimp only)); refine box_event ?hg (N := 15) ?hd (cs := #[.int .i64 0, .int .i64 0, .int .u32 0, .int .u32 0, .int .u64 0, .string (⟨#[]⟩ : ByteArray)]) (t := 39) ?hr ?_; (case hd => rfl); (case hg => rfl); (case hr => first | (go_simp; done) | (go_simp; rfl)); intro gb388 hg w35 hbox hb; have n0_ := Aside0.mk (blk_below (g := gb379) (o := .cells #[.int .i64 a5_0, .int .i64 a5_1, .int .u32 a5_2, .int .u32 a5_3, .int .u64 a5_4, .string a5_5] 39 (0, 0)) (by (with_reducible repeat (first | refine blk_drewN ?_ _ | refine blk_drew ?_ | refine blk_alloc ?_ _)); exact BK379.out) hb); have n1_ := Aside0.mk (below_step (by repeat (first | (with_reducible first | exact HB.out | apply below_alloc | apply pw_below_drewN | apply below_drew1 | refine below_set ?_ GE379.out) | exact HB.out)) hb); have n2_ := Aside0.mk (hbox); have n3_ := Aside0.mk ((by rw [hg]; exact (below_size (by repeat (first | (with_reducible first | exact HB.out | apply below_alloc | apply pw_below_drewN | apply below_drew1 | refine below_set ?_ GE379.out) | exact HB.out))) : w.heap.size ≤ gb388)); have n4_ := Aside0.mk ((by rw [hg]; exact (below_size (by repeat (first | (with_reducible first | exact HB.out | apply below_alloc | apply pw_below_drewN | apply below_drew1 | refine below_set ?_ GE379.out) | exact HB.out))) : w.heap.size ≤ gb388)); have n5_ := Aside0.mk ((by rw [hg]; exact Nat.ne_of_lt (blk_lt (g := gb379) (o := .cells #[.int .i64 a5_0, .int .i64 a5_1, .int .u32 a5_2, .int .u32 a5_3, .int .u64 a5_4, .string a5_5] 39 (0, 0)) (by (with_reducible repeat (first | refine blk_drewN ?_ _ | refine blk_drew ?_ | refine blk_alloc ?_ _)); exact BK379.out)) : gb379 ≠ gb388)); have n6_ := Aside0.mk ((by rw [hg]; exact Nat.ne_of_gt (blk_lt (g := gb379) (o := .cells #[.int .i64 a5_0, .int .i64 a5_1, .int .u32 a5_2, .int .u32 a5_3, .int .u64 a5_4, .string a5_5] 39 (0, 0)) (by (with_reducible repeat (first | refine blk_drewN ?_ _ | refine blk_drew ?_ | refine blk_alloc ?_ _)); exact BK379.out)) : gb388 ≠ gb379)); clear BK379; clear HB; have BK379 := n0_; have HB := n1_; have BK388 := n2_; have GW388 := n3_; have GE388 := n4_; have NB379_388 := n5_; have NB388_379 := n6_; clear n0_ n1_ n2_ n3_ n4_ n5_ n6_; clear hb hbox hg; have hnb36 := NB388_379.out; have hnc36 := NB379_388.out; have hcz37_0 : w35.cell? ⟨gb388, 0, none⟩ = some (.int .i64 0) := (blk_cell BK388.out 0).trans rfl; have hcz37_1 : w35.cell? ⟨gb388, 1, none⟩ = some (.int .i64 0) := (blk_cell BK388.out 1).trans rfl; have hcz37_2 : w35.cell? ⟨gb388, 2, none⟩ = some (.int .u32 0) := (blk_cell BK388.out 2).trans rfl; have hcz37_3 : w35.cell? ⟨gb388, 3, none⟩ = some (.int .u32 0) := (blk_cell BK388.out 3).trans rfl; have hcz37_4 : w35.cell? ⟨gb388, 4, none⟩ = some (.int .u64 0) := (blk_cell BK388.out 4).trans rfl; have hcz37_5 : w35.cell? ⟨gb388, 5, none⟩ = some (.string (⟨#[]⟩ : ByteArray)) := (blk_cell BK388.out 5).trans rfl; have hfz37_0 := blk_frozen BK388.out 0; have hfz37_1 := blk_frozen BK388.out 1; have hfz37_2 := blk_frozen BK388.out 2; have hfz37_3 := blk_frozen BK388.out 3; have hfz37_4 := blk_frozen BK388.out 4; have hfz37_5 := blk_frozen BK388.out 5) | ((with_reducible refine gate_callee (f := 32) rfl ?_); refine goesL_ (some 51) rfl rfl Try.func32 (by kernel_rfl) rfl #[.int .i64 a0, .int .u32 a1, .int .u32 a2, .int .u64 a3, .slice A4 l4.length c4] rfl (by (try simp only [List.map_toArray, List.map_cons, List.map_nil]); first | done | rfl | (simp only [List.length_drop, List.length_take]; rfl)) ?_; (with_reducible refine (careenageref10_Page.calls kj9 a0 a1 a2 a3 _ _ l4 t389 t390 t391 t392 t393 t394 t395 _ ?side1 ?side2 A17.out).mono ?_); (case side1 => exact Kd.C_below HR4.out (by repeat (first | (with_reducible first | exact HB.out | apply below_alloc | apply pw_below_drewN | apply below_drew1 | refine below_set ?_ GE379.out | refine below_set ?_ GE388.out) | exact HB.out))); (case side2 => exact HC4.out); rintro e w38 ⟨rfl, hb⟩; refine ⟨_, rfl, ?_⟩; have n0_ := Aside0.mk (blk_below (g := gb379) (o := .cells #[.int .i64 a5_0, .int .i64 a5_1, .int .u32 a5_2, .int .u32 a5_3, .int .u64 a5_4, .string a5_5] 39 (0, 0)) (by (with_reducible repeat (first | refine blk_drewN ?_ _ | refine blk_drew ?_ | refine blk_alloc ?_ _)); refine blk_far ?_ NB379_388.out _; (with_reducible repeat (first | refine blk_drewN ?_ _ | refine blk_drew ?_ | refine blk_alloc ?_ _)); refine blk_far ?_ NB379_388.out _; (with_reducible repeat (first | refine blk_drewN ?_ _ | refine blk_drew ?_ | refine blk_alloc ?_ _)); refine blk_far ?_ NB379_388.out _; (with_reducible repeat (first | refine blk_drewN ?_ _ | refine blk_drew ?_ | refine blk_alloc ?_ _)); refine blk_far ?_ NB379_388.out _; (with_reducible repeat (first | refine blk_drewN ?_ _ | refine blk_drew ?_ | refine blk_alloc ?_ _)); refine blk_far ?_ NB379_388.out _; (with_reducible repeat (first | refine blk_drewN ?_ _ | refine blk_drew ?_ | refine blk_alloc ?_ _)); refine blk_far ?_ NB379_388.out _; (with_reducible repeat (first | refine blk_drewN ?_ _ | refine blk_drew ?_ | refine blk_alloc ?_ _)); exact BK379.out) hb); have n1_ := Aside0.mk (blk_below (g := gb388) (o := .cells #[.int .i64 t381, .int .i64 t382, .int .u32 t383, .int .u32 t384, .int .u64 t385, .string t386] 39 (0, 0)) (by (with_reducible repeat (first | refine blk_drewN ?_ _ | refine blk_drew ?_ | refine blk_alloc ?_ _)); refine blk_put (cs := #[.int .i64 t381, .int .i64 t382, .int .u32 t383, .int .u32 t384, .int .u64 t385, .string (⟨#[]⟩ : ByteArray)]) ?_ 5 _ rfl; (with_reducible repeat (first | refine blk_drewN ?_ _ | refine blk_drew ?_ | refine blk_alloc ?_ _)); refine blk_put (cs := #[.int .i64 t381, .int .i64 t382, .int .u32 t383, .int .u32 t384, .int .u64 0, .string (⟨#[]⟩ : ByteArray)]) ?_ 4 _ rfl; (with_reducible repeat (first | refine blk_drewN ?_ _ | refine blk_drew ?_ | refine blk_alloc ?_ _)); refine blk_put (cs := #[.int .i64 t381, .int .i64 t382, .int .u32 t383, .int .u32 0, .int .u64 0, .string (⟨#[]⟩ : ByteArray)]) ?_ 3 _ rfl; (with_reducible repeat (first | refine blk_drewN ?_ _ | refine blk_drew ?_ | refine blk_alloc ?_ _)); refine blk_put (cs := #[.int .i64 t381, .int .i64 t382, .int .u32 0, .int .u32 0, .int .u64 0, .string (⟨#[]⟩ : ByteArray)]) ?_ 2 _ rfl; (with_reducible repeat (first | refine blk_drewN ?_ _ | refine blk_drew ?_ | refine blk_alloc ?_ _)); refine blk_put (cs := #[.int .i64 t381, .int .i64 0, .int .u32 0, .int .u32 0, .int .u64 0, .string (⟨#[]⟩ : ByteArray)]) ?_ 1 _ rfl; (with_reducible repeat (first | refine blk_drewN ?_ _ | refine blk_drew ?_ | refine blk_alloc ?_ _)); refine blk_put (cs := #[.int .i64 0, .int .i64 0, .int .u32 0, .int .u32 0, .int .u64 0, .string (⟨#[]⟩ : ByteArray)]) ?_ 0 _ rfl; (with_reducible repeat (first | refine blk_drewN ?_ _ | refine blk_drew ?_ | refine blk_alloc ?_ _)); exact BK388.out) hb); have n2_ := Aside0.mk (below_step (by repeat (first | (with_reducible first | exact HB.out | apply below_alloc | apply pw_below_drewN | apply below_drew1 | refine below_set ?_ GE379.out | refine below_set ?_ GE388.out) | exact HB.out)) hb); clear BK379; clear BK388; clear HB; have BK379 := n0_; have BK388 := n1_; have HB := n2_; clear n0_ n1_ n2_; (try clear hb); (try clear hb2); (try clear hk); (try clear hi)) | ((with_reducible refine gate_dst (N := 17) rfl ?_); (try (refine gate_guard (by rfl) ?_; dsimp only)); refine box_event ?hg (N := 17) ?hd (cs := #[.int .i64 0, .int .i64 0, .int .u32 0, .int .u32 0, .int .u64 0, .string (⟨#[]⟩ : ByteArray)]) (t := 39) ?hr ?_; (case hd => rfl); (case hg => rfl); (case hr => first | (go_simp; done) | (go_simp; rfl)); intro gb396 hg w39 hbox hb; have n0_ := Aside0.mk (blk_below (g := gb379) (o := .cells #[.int .i64 a5_0, .int .i64 a5_1, .int .u32 a5_2, .int .u32 a5_3, .int .u64 a5_4, .string a5_5] 39 (0, 0)) (by (with_reducible repeat (first | refine blk_drewN ?_ _ | refine blk_drew ?_ | refine blk_alloc ?_ _)); exact BK379.out) hb); have n1_ := Aside0.mk (blk_below (g := gb388) (o := .cells #[.int .i64 t381, .int .i64 t382, .int .u32 t383, .int .u32 t384, .int .u64 t385, .string t386] 39 (0, 0)) (by (with_reducible repeat (first | refine blk_drewN ?_ _ | refine blk_drew ?_ | refine blk_alloc ?_ _)); exact BK388.out) hb); have n2_ := Aside0.mk (below_step (by repeat (first | (with_reducible first | exact HB.out | apply below_alloc | apply pw_below_drewN | apply below_drew1 | refine below_set ?_ GE379.out | refine below_set ?_ GE388.out) | exact HB.out)) hb); have n3_ := Aside0.mk (hbox); have n4_ := Aside0.mk ((by rw [hg]; exact (below_size (by repeat (first | (with_reducible first | exact HB.out | apply below_alloc | apply pw_below_drewN | apply below_drew1 | refine below_set ?_ GE379.out | refine below_set ?_ GE388.out) | exact HB.out))) : w.heap.size ≤ gb396)); have n5_ := Aside0.mk ((by rw [hg]; exact (below_size (by repeat (first | (with_reducible first | exact HB.out | apply below_alloc | apply pw_below_drewN | apply below_drew1 | refine below_set ?_ GE379.out | refine below_set ?_ GE388.out) | exact HB.out))) : w.heap.size ≤ gb396)); have n6_ := Aside0.mk ((by rw [hg]; exact Nat.ne_of_lt (blk_lt (g := gb379) (o := .cells #[.int .i64 a5_0, .int .i64 a5_1, .int .u32 a5_2, .int .u32 a5_3, .int .u64 a5_4, .string a5_5] 39 (0, 0)) (by (with_reducible repeat (first | refine blk_drewN ?_ _ | refine blk_drew ?_ | refine blk_alloc ?_ _)); exact BK379.out)) : gb379 ≠ gb396)); have n7_ := Aside0.mk ((by rw [hg]; exact Nat.ne_of_gt (blk_lt (g := gb379) (o := .cells #[.int .i64 a5_0, .int .i64 a5_1, .int .u32 a5_2, .int .u32 a5_3, .int .u64 a5_4, .string a5_5] 39 (0, 0)) (by (with_reducible repeat (first | refine blk_drewN ?_ _ | refine blk_drew ?_ | refine blk_alloc ?_ _)); exact BK379.out)) : gb396 ≠ gb379)); have n8_ := Aside0.mk ((by rw [hg]; exact Nat.ne_of_lt (blk_lt (g := gb388) (o := .cells #[.int .i64 t381, .int .i64 t382, .int .u32 t383, .int .u32 t384, .int .u64 t385, .string t386] 39 (0, 0)) (by (with_reducible repeat (first | refine blk_drewN ?_ _ | refine blk_drew ?_ | refine blk_alloc ?_ _)); exact BK388.out)) : gb388 ≠ gb396)); have n9_ := Aside0.mk ((by rw [hg]; exact Nat.ne_of_gt (blk_lt (g := gb388) (o := .cells #[.int .i64 t381, .int .i64 t382, .int .u32 t383, .int .u32 t384, .int .u64 t385, .string t386] 39 (0, 0)) (by (with_reducible repeat (first | refine blk_drewN ?_ _ | refine blk_drew ?_ | refine blk_alloc ?_ _)); exact BK388.out)) : gb396 ≠ gb388)); clear BK379; clear BK388; clear HB; have BK379 := n0_; have BK388 := n1_; have HB := n2_; have BK396 := n3_; have GW396 := n4_; have GE396 := n5_; have NB379_396 := n6_; have NB396_379 := n7_; have NB388_396 := n8_; have NB396_388 := n9_; clear n0_ n1_ n2_ n3_ n4_ n5_ n6_ n7_ n8_ n9_; clear hb hbox hg; have hnb40 := NB396_379.out; have hnc40 := NB379_396.out; have hnb41 := NB396_388.out; have hnc41 := NB388_396.out; have hcz42_0 : w39.cell? ⟨gb396, 0, none⟩ = some (.int .i64 0) := (blk_cell BK396.out 0).trans rfl; have hcz42_1 : w39.cell? ⟨gb396, 1, none⟩ = some (.int .i64 0) := (blk_cell BK396.out 1).trans rfl; have hcz42_2 : w39.cell? ⟨gb396, 2, none⟩ = some (.int .u32 0) := (blk_cell BK396.out 2).trans rfl; have hcz42_3 : w39.cell? ⟨gb396, 3, none⟩ = some (.int .u32 0) := (blk_cell BK396.out 3).trans rfl; have hcz42_4 : w39.cell? ⟨gb396, 4, none⟩ = some (.int .u64 0) := (blk_cell BK396.out 4).trans rfl; have hcz42_5 : w39.cell? ⟨gb396, 5, none⟩ = some (.string (⟨#[]⟩ : ByteArray)) := (blk_cell BK396.out 5).trans rfl; have hfz42_0 := blk_frozen BK396.out 0; have hfz42_1 := blk_frozen BK396.out 1; have hfz42_2 := blk_frozen BK396.out 2; have hfz42_3 := blk_frozen BK396.out 3; have hfz42_4 := blk_frozen BK396.out 4; have hfz42_5 := blk_frozen BK396.out 5; have hcz43_0 : w39.cell? ⟨gb379, 0, none⟩ = some (.int .i64 a5_0) := (blk_cell BK379.out 0).trans rfl; have hcz43_1 : w39.cell? ⟨gb379, 1, none⟩ = some (.int .i64 a5_1) := (blk_cell BK379.out 1).trans rfl; have hcz43_2 : w39.cell? ⟨gb379, 2, none⟩ = some (.int .u32 a5_2) := (blk_cell BK379.out 2).trans rfl; have hcz43_3 : w39.cell? ⟨gb379, 3, none⟩ = some (.int .u32 a5_3) := (blk_cell BK379.out 3).trans rfl; have hcz43_4 : w39.cell? ⟨gb379, 4, none⟩ = some (.int .u64 a5_4) := (blk_cell BK379.out 4).trans rfl; have hcz43_5 : w39.cell? ⟨gb379, 5, none⟩ = some (.string a5_5) := (blk_cell BK379.out 5).trans rfl; have hfz43_0 := blk_frozen BK379.out 0; have hfz43_1 := blk_frozen BK379.out 1; have hfz43_2 := blk_frozen BK379.out 2; have hfz43_3 := blk_frozen BK379.out 3; have hfz43_4 := blk_frozen BK379.out 4; have hfz43_5 := blk_frozen BK379.out 5) | ((with_reducible refine gate_callee (f := 28) rfl ?_); refine goesL_ (some 56) rfl rfl Try.func28 (by kernel_rfl) rfl #[.agg #[.int .i64 a5_0, .int .i64 a5_1, .int .u32 a5_2, .int .u32 a5_3, .int .u64 a5_4, .string a5_5]] rfl (by (try simp only [List.map_toArray, List.map_cons, List.map_nil]); first | done | rfl | (simp only [List.length_drop, List.length_take]; rfl)) ?_; (with_reducible refine (free_Of.calls kj9 a5_0 a5_1 a5_2 a5_3 a5_4 a5_5 t397 t400 t401 _ A18.out).mono ?_); rintro e w44 ⟨v398, rfl, ho0, hb⟩; refine ⟨_, rfl, ?_⟩; have n0_ := Aside0.mk (Kd.R_lower ho0 (below_size (by repeat (first | (with_reducible first | exact HB.out | apply below_alloc | apply pw_below_drewN | apply below_drew1 | refine below_set ?_ GE379.out | refine below_set ?_ GE388.out | refine below_set ?_ GE396.out) | exact HB.out)))); have n1_ := Aside0.mk (blk_below (g := gb379) (o := .cells #[.int .i64 a5_0, .int .i64 a5_1, .int .u32 a5_2, .int .u32 a5_3, .int .u64 a5_4, .string a5_5] 39 (0, 0)) (by (with_reducible repeat (first | refine blk_drewN ?_ _ | refine blk_drew ?_ | refine blk_alloc ?_ _)); refine blk_far ?_ NB379_396.out _; (with_reducible repeat (first | refine blk_drewN ?_ _ | refine blk_drew ?_ | refine blk_alloc ?_ _)); refine blk_far ?_ NB379_396.out _; (with_reducible repeat (first | refine blk_drewN ?_ _ | refine blk_drew ?_ | refine blk_alloc ?_ _)); refine blk_far ?_ NB379_396.out _; (with_reducible repeat (first | refine blk_drewN ?_ _ | refine blk_drew ?_ | refine blk_alloc ?_ _)); refine blk_far ?_ NB379_396.out _; (with_reducible repeat (first | refine blk_drewN ?_ _ | refine blk_drew ?_ | refine blk_alloc ?_ _)); refine blk_far ?_ NB379_396.out _; (with_reducible repeat (first | refine blk_drewN ?_ _ | refine blk_drew ?_ | refine blk_alloc ?_ _)); refine blk_far ?_ NB379_396.out _; (with_reducible repeat (first | refine blk_drewN ?_ _ | refine blk_drew ?_ | refine blk_alloc ?_ _)); exact BK379.out) hb); have n2_ := Aside0.mk (blk_below (g := gb388) (o := .cells #[.int .i64 t381, .int .i64 t382, .int .u32 t383, .int .u32 t384, .int .u64 t385, .string t386] 39 (0, 0)) (by (with_reducible repeat (first | refine blk_drewN ?_ _ | refine blk_drew ?_ | refine blk_alloc ?_ _)); refine blk_far ?_ NB388_396.out _; (with_reducible repeat (first | refine blk_drewN ?_ _ | refine blk_drew ?_ | refine blk_alloc ?_ _)); refine blk_far ?_ NB388_396.out _; (with_reducible repeat (first | refine blk_drewN ?_ _ | refine blk_drew ?_ | refine blk_alloc ?_ _)); refine blk_far ?_ NB388_396.out _; (with_reducible repeat (first | refine blk_drewN ?_ _ | refine blk_drew ?_ | refine blk_alloc ?_ _)); refine blk_far ?_ NB388_396.out _; (with_reducible repeat (first | refine blk_drewN ?_ _ | refine blk_drew ?_ | refine blk_alloc ?_ _)); refine blk_far ?_ NB388_396.out _; (with_reducible repeat (first | refine blk_drewN ?_ _ | refine blk_drew ?_ | refine blk_alloc ?_ _)); refine blk_far ?_ NB388_396.out _; (with_reducible repeat (first | refine blk_drewN ?_ _ | refine blk_drew ?_ | refine blk_alloc ?_ _)); exact BK388.out) hb); have n3_ := Aside0.mk (blk_below (g := gb396) (o := .cells #[.int .i64 t389, .int .i64 t390, .int .u32 t391, .int .u32 t392, .int .u64 t393, .string t394] 39 (0, 0)) (by (with_reducible repeat (first | refine blk_drewN ?_ _ | refine blk_drew ?_ | refine blk_alloc ?_ _)); refine blk_put (cs := #[.int .i64 t389, .int .i64 t390, .int .u32 t391, .int .u32 t392, .int .u64 t393, .string (⟨#[]⟩ : ByteArray)]) ?_ 5 _ rfl; (with_reducible repeat (first | refine blk_drewN ?_ _ | refine blk_drew ?_ | refine blk_alloc ?_ _)); refine blk_put (cs := #[.int .i64 t389, .int .i64 t390, .int .u32 t391, .int .u32 t392, .int .u64 0, .string (⟨#[]⟩ : ByteArray)]) ?_ 4 _ rfl; (with_reducible repeat (first | refine blk_drewN ?_ _ | refine blk_drew ?_ | refine blk_alloc ?_ _)); refine blk_put (cs := #[.int .i64 t389, .int .i64 t390, .int .u32 t391, .int .u32 0, .int .u64 0, .string (⟨#[]⟩ : ByteArray)]) ?_ 3 _ rfl; (with_reducible repeat (first | refine blk_drewN ?_ _ | refine blk_drew ?_ | refine blk_alloc ?_ _)); refine blk_put (cs := #[.int .i64 t389, .int .i64 t390, .int .u32 0, .int .u32 0, .int .u64 0, .string (⟨#[]⟩ : ByteArray)]) ?_ 2 _ rfl; (with_reducible repeat (first | refine blk_drewN ?_ _ | refine blk_drew ?_ | refine blk_alloc ?_ _)); refine blk_put (cs := #[.int .i64 t389, .int .i64 0, .int .u32 0, .int .u32 0, .int .u64 0, .string (⟨#[]⟩ : ByteArray)]) ?_ 1 _ rfl; (with_reducible repeat (first | refine blk_drewN ?_ _ | refine blk_drew ?_ | refine blk_alloc ?_ _)); refine blk_put (cs := #[.int .i64 0, .int .i64 0, .int .u32 0, .int .u32 0, .int .u64 0, .string (⟨#[]⟩ : ByteArray)]) ?_ 0 _ rfl; (with_reducible repeat (first | refine blk_drewN ?_ _ | refine blk_drew ?_ | refine blk_alloc ?_ _)); exact BK396.out) hb); have n4_ := Aside0.mk (below_step (by repeat (first | (with_reducible first | exact HB.out | apply below_alloc | apply pw_below_drewN | apply below_drew1 | refine below_set ?_ GE379.out | refine below_set ?_ GE388.out | refine below_set ?_ GE396.out) | exact HB.out)) hb); clear BK379; clear BK388; clear BK396; clear HB; have HO399 := n0_; have BK379 := n1_; have BK388 := n2_; have BK396 := n3_; have HB := n4_; clear n0_ n1_ n2_ n3_ n4_; (try clear hb); (try clear hb2); (try clear hk); (try clear hi); (try clear ho0); have hcz45_0 : w44.cell? ⟨gb379, 0, none⟩ = some (.int .i64 a5_0) := (blk_cell BK379.out 0).trans rfl; have hcz45_1 : w44.cell? ⟨gb379, 1, none⟩ = some (.int .i64 a5_1) := (blk_cell BK379.out 1).trans rfl; have hcz45_2 : w44.cell? ⟨gb379, 2, none⟩ = some (.int .u32 a5_2) := (blk_cell BK379.out 2).trans rfl; have hcz45_3 : w44.cell? ⟨gb379, 3, none⟩ = some (.int .u32 a5_3) := (blk_cell BK379.out 3).trans rfl; have hcz45_4 : w44.cell? ⟨gb379, 4, none⟩ = some (.int .u64 a5_4) := (blk_cell BK379.out 4).trans rfl; have hcz45_5 : w44.cell? ⟨gb379, 5, none⟩ = some (.string a5_5) := (blk_cell BK379.out 5).trans rfl; have hfz45_0 := blk_frozen BK379.out 0; have hfz45_1 := blk_frozen BK379.out 1; have hfz45_2 := blk_frozen BK379.out 2; have hfz45_3 := blk_frozen BK379.out 3; have hfz45_4 := blk_frozen BK379.out 4; have hfz45_5 := blk_frozen BK379.out 5) | ((with_reducible refine gate_callee (f := 33) rfl ?_); refine goesL_ (some 62) rfl rfl Try.func33 (by kernel_rfl) rfl #[.agg #[.int .i64 a5_0, .int .i64 a5_1, .int .u32 a5_2, .int .u32 a5_3, .int .u64 a5_4, .string a5_5]] rfl (by (try simp only [List.map_toArray, List.map_cons, List.map_nil]); first | done | rfl | (simp only [List.length_drop, List.length_take]; rfl)) ?_; (with_reducible refine (careenageref10_Of.calls kj9 a5_0 a5_1 a5_2 a5_3 a5_4 a5_5 t402 t405 t406 _ A19.out).mono ?_); rintro e w46 ⟨v403, rfl, ho0, hb⟩; refine ⟨_, rfl, ?_⟩; have n0_ := Aside0.mk (Kd.R_elder' (by (with_reducible repeat (first | apply Kd.R_alloc | apply Kd.R_drewN | apply Kd.R_drew)); exact HO399.out) (Kd.R_base ho0) hb); have n1_ := Aside0.mk (Kd.R_lower (Kd.R_new' ho0 (Kd.R_lt (by (with_reducible repeat (first | apply Kd.R_alloc | apply Kd.R_drewN | apply Kd.R_drew)); exact HO399.out))) (below_size (by repeat (first | (with_reducible first | exact HB.out | apply below_alloc | apply pw_below_drewN | apply below_drew1 | refine below_set ?_ GE379.out | refine below_set ?_ GE388.out | refine below_set ?_ GE396.out) | exact HB.out)))); have n2_ := Aside0.mk (blk_below (g := gb379) (o := .cells #[.int .i64 a5_0, .int .i64 a5_1, .int .u32 a5_2, .int .u32 a5_3, .int .u64 a5_4, .string a5_5] 39 (0, 0)) (by (with_reducible repeat (first | refine blk_drewN ?_ _ | refine blk_drew ?_ | refine blk_alloc ?_ _)); exact BK379.out) hb); have n3_ := Aside0.mk (blk_below (g := gb388) (o := .cells #[.int .i64 t381, .int .i64 t382, .int .u32 t383, .int .u32 t384, .int .u64 t385, .string t386] 39 (0, 0)) (by (with_reducible repeat (first | refine blk_drewN ?_ _ | refine blk_drew ?_ | refine blk_alloc ?_ _)); exact BK388.out) hb); have n4_ := Aside0.mk (blk_below (g := gb396) (o := .cells #[.int .i64 t389, .int .i64 t390, .int .u32 t391, .int .u32 t392, .int .u64 t393, .string t394] 39 (0, 0)) (by (with_reducible repeat (first | refine blk_drewN ?_ _ | refine blk_drew ?_ | refine blk_alloc ?_ _)); exact BK396.out) hb); have n5_ := Aside0.mk (below_step (by repeat (first | (with_reducible first | exact HB.out | apply below_alloc | apply pw_below_drewN | apply below_drew1 | refine below_set ?_ GE379.out | refine below_set ?_ GE388.out | refine below_set ?_ GE396.out) | exact HB.out)) hb); clear HO399; clear BK379; clear BK388; clear BK396; clear HB; have HO399 := n0_; have HO404 := n1_; have BK379 := n2_; have BK388 := n3_; have BK396 := n4_; have HB := n5_; clear n0_ n1_ n2_ n3_ n4_ n5_; (try clear hb); (try clear hb2); (try clear hk); (try clear hi); (try clear ho0); have hcz47_0 : w46.cell? ⟨gb388, 0, none⟩ = some (.int .i64 t381) := (blk_cell BK388.out 0).trans rfl; have hcz47_1 : w46.cell? ⟨gb388, 1, none⟩ = some (.int .i64 t382) := (blk_cell BK388.out 1).trans rfl; have hcz47_2 : w46.cell? ⟨gb388, 2, none⟩ = some (.int .u32 t383) := (blk_cell BK388.out 2).trans rfl; have hcz47_3 : w46.cell? ⟨gb388, 3, none⟩ = some (.int .u32 t384) := (blk_cell BK388.out 3).trans rfl; have hcz47_4 : w46.cell? ⟨gb388, 4, none⟩ = some (.int .u64 t385) := (blk_cell BK388.out 4).trans rfl; have hcz47_5 : w46.cell? ⟨gb388, 5, none⟩ = some (.string t386) := (blk_cell BK388.out 5).trans rfl; have hfz47_0 := blk_frozen BK388.out 0; have hfz47_1 := blk_frozen BK388.out 1; have hfz47_2 := blk_frozen BK388.out 2; have hfz47_3 := blk_frozen BK388.out 3; have hfz47_4 := blk_frozen BK388.out 4; have hfz47_5 := blk_frozen BK388.out 5; have hcz48_0 : w46.cell? ⟨gb396, 0, none⟩ = some (.int .i64 t389) := (blk_cell BK396.out 0).trans rfl; have hcz48_1 : w46.cell? ⟨gb396, 1, none⟩ = some (.int .i64 t390) := (blk_cell BK396.out 1).trans rfl; have hcz48_2 : w46.cell? ⟨gb396, 2, none⟩ = some (.int .u32 t391) := (blk_cell BK396.out 2).trans rfl; have hcz48_3 : w46.cell? ⟨gb396, 3, none⟩ = some (.int .u32 t392) := (blk_cell BK396.out 3).trans rfl; have hcz48_4 : w46.cell? ⟨gb396, 4, none⟩ = some (.int .u64 t393) := (blk_cell BK396.out 4).trans rfl; have hcz48_5 : w46.cell? ⟨gb396, 5, none⟩ = some (.string t394) := (blk_cell BK396.out 5).trans rfl; have hfz48_0 := blk_frozen BK396.out 0; have hfz48_1 := blk_frozen BK396.out 1; have hfz48_2 := blk_frozen BK396.out 2; have hfz48_3 := blk_frozen BK396.out 3; have hfz48_4 := blk_frozen BK396.out 4; have hfz48_5 := blk_frozen BK396.out 5; obtain ⟨Ao49, co49, eo49⟩ := Kd.R_slice HO399.out; subst eo49; obtain ⟨Ao50, co50, eo50⟩ := Kd.R_slice HO404.out; subst eo50) | (go_at_call 21; (with_reducible refine (careenagekit_Same_uint32.calls kj9 _ _ t397 _ _ t402 true _ ?side1 ?side2 ?side3 ?side4 A22.out).mono ?_); (case side1 => repeat (first | exact (Kd.R_reads' HO399.out).2.2 | (with_reducible refine Kd.C_alloc ?_ _) | (with_reducible refine Kd.C_drewN ?_ _) | (with_reducible refine Kd.C_drew ?_))); (case side2 => exact (Kd.R_reads' HO399.out).2.1); (case side3 => repeat (first | exact (Kd.R_reads' HO404.out).2.2 | (with_reducible refine Kd.C_alloc ?_ _) | (with_reducible refine Kd.C_drewN ?_ _) | (with_reducible refine Kd.C_drew ?_))); (case side4 => exact (Kd.R_reads' HO404.out).2.1); rintro e w' ⟨rfl, ⟨nd, rfl⟩⟩) | (go_at_call 29; (with_reducible refine (free_Rises.calls kj9 _ _ l4 t408 _ ?side1 ?side2 A26.out).mono ?_); (case side1 => repeat (first | exact (Kd.C_below HR4.out (by repeat (first | (with_reducible first | exact HB.out | apply below_alloc | apply pw_below_drewN | apply below_drew1 | refine below_set ?_ GE379.out | refine below_set ?_ GE388.out | refine below_set ?_ GE396.out) | exact HB.out))) | (with_reducible refine Kd.C_alloc ?_ _) | (with_reducible refine Kd.C_drewN ?_ _) | (with_reducible refine Kd.C_drew ?_))); (case side2 => exact HC4.out); rintro e w' ⟨rfl, ⟨nd, rfl⟩⟩) | (go_at_call 34; (with_reducible refine (careenageref10_Rises.calls kj9 _ _ l4 t409 _ ?side1 ?side2 A27.out).mono ?_); (case side1 => repeat (first | exact (Kd.C_below HR4.out (by repeat (first | (with_reducible first | exact HB.out | apply below_alloc | apply pw_below_drewN | apply below_drew1 | refine below_set ?_ GE379.out | refine below_set ?_ GE388.out | refine below_set ?_ GE396.out) | exact HB.out))) | (with_reducible refine Kd.C_alloc ?_ _) | (with_reducible refine Kd.C_drewN ?_ _) | (with_reducible refine Kd.C_drew ?_))); (case side2 => exact HC4.out); rintro e w' ⟨rfl, ⟨nd, rfl⟩⟩) | (go_at_call 30; (with_reducible refine (free_Need.calls a0 a6 t410 _ A29.out).mono ?_); rintro e w' ⟨rfl, ⟨nd, rfl⟩⟩) | (go_at_call 35; (with_reducible refine (careenageref10_Need.calls a0 a6 t411 _ A30.out).mono ?_); rintro e w' ⟨rfl, ⟨nd, rfl⟩⟩) | (go_at_call 31; (with_reducible refine (free_Most.calls a0 t412 _ A32.out).mono ?_); rintro e w' ⟨rfl, ⟨nd, rfl⟩⟩) | (go_at_call 36; (with_reducible refine (careenageref10_Most.calls a0 t413 _ A33.out).mono ?_); rintro e w' ⟨rfl, ⟨nd, rfl⟩⟩))
                        go_ret
                        exact ⟨by first | rfl | (simp [errW_none, errW_some] <;> rfl) | (simp [*, errW_none, errW_some] <;> rfl), by repeat (first | (with_reducible first | exact HB.out | apply below_alloc | apply pw_below_drewN | apply below_drew1 | refine below_set ?_ GE379.out | refine below_set ?_ GE388.out | refine below_set ?_ GE396.out) | exact HB.out)⟩
                      · rw [if_neg c31] at H
                        have c31b0 : (t410 == t411) = false := beq_eq_false_iff_ne.mpr c31
                        have c31b1 : (t410 != t411) = true := bne_iff_ne.mpr c31
                        exact absurd ((Option.some.inj H).trans HLaw.out) (by simp)
                    · rw [if_neg c28] at H
                      have c28b0 : (t408 == t409) = false := by first | (simp; done) | (simp at c28; done) | simpa using c28
                      (try (have c28b1 : (t408 = true) → (t409 = false) := by intro h_; have z_ := c28; rw [h_] at z_; revert z_; cases (t409) <;> simp))
                      (try (have c28b2 : (t408 = false) → (t409 = true) := by intro h_; have z_ := c28; rw [h_] at z_; revert z_; cases (t409) <;> simp))
                      (try (have c28b3 : (t409 = true) → (t408 = false) := by intro h_; have z_ := c28; rw [h_] at z_; revert z_; cases (t408) <;> simp))
                      (try (have c28b4 : (t409 = false) → (t408 = true) := by intro h_; have z_ := c28; rw [h_] at z_; revert z_; cases (t408) <;> simp))
                      (try (have c28b5 : decide (t408 = t409) = false := by first | (simp; done) | (simp at c28; done) | simpa using c28))
                      (try (have c28b6 : (t408 == t409) = false := by first | (simp; done) | (simp at c28; done) | simpa using c28))
                      (try (have c28b7 : ¬ (t408 = t409) := by first | (simp; done) | (simp at c28; done) | simpa using c28))
                      clear c28
                      exact absurd ((Option.some.inj H).trans HLaw.out) (by simp)
                  · rw [if_neg c25] at H
                    have c25b0 : (t401 == t406) = false := beq_eq_false_iff_ne.mpr c25
                    have c25b1 : (t401 != t406) = true := bne_iff_ne.mpr c25
                    exact absurd ((Option.some.inj H).trans HLaw.out) (by simp)
                · rw [if_neg c24] at H
                  have c24b0 : (t400 == t405) = false := beq_eq_false_iff_ne.mpr c24
                  have c24b1 : (t400 != t405) = true := bne_iff_ne.mpr c24
                  exact absurd ((Option.some.inj H).trans HLaw.out) (by simp)
              · replace c23 := Bool.eq_false_iff.mpr c23
                subst c23
                have H1 : (some false) = some r := by rw [if_neg (show ¬ (false = true) by decide)] at H; exact H
                clear H
                have H := H1
                clear H1
                exact absurd ((Option.some.inj H).trans HLaw.out) (by simp)
            · rw [if_neg c21] at H
              have c21b0 : (t387 == t395) = false := beq_eq_false_iff_ne.mpr c21
              have c21b1 : (t387 != t395) = true := bne_iff_ne.mpr c21
              exact absurd ((Option.some.inj H).trans HLaw.out) (by simp)
          · rw [if_neg c20] at H
            have c20b0 : (t381 == t389 && (t382 == t390 && (t383 == t391 && (t384 == t392 && (t385 == t393 && (t386.toList == t394.toList)))))) = false := by first | (simp; done) | (simp at c20; done) | simpa using c20
            (try (have c20b1 : (t381 = true) → (t389 && (t382 == t390 && (t383 == t391 && (t384 == t392 && (t385 == t393 && (t386.toList == t394.toList))))) = false) := by intro h_; have z_ := c20; rw [h_] at z_; revert z_; cases (t389 && (t382 == t390 && (t383 == t391 && (t384 == t392 && (t385 == t393 && (t386.toList == t394.toList)))))) <;> simp))
            (try (have c20b2 : (t381 = false) → (t389 && (t382 == t390 && (t383 == t391 && (t384 == t392 && (t385 == t393 && (t386.toList == t394.toList))))) = true) := by intro h_; have z_ := c20; rw [h_] at z_; revert z_; cases (t389 && (t382 == t390 && (t383 == t391 && (t384 == t392 && (t385 == t393 && (t386.toList == t394.toList)))))) <;> simp))
            (try (have c20b3 : (t389 && (t382 == t390 && (t383 == t391 && (t384 == t392 && (t385 == t393 && (t386.toList == t394.toList))))) = true) → (t381 = false) := by intro h_; have z_ := c20; rw [h_] at z_; revert z_; cases (t381) <;> simp))
            (try (have c20b4 : (t389 && (t382 == t390 && (t383 == t391 && (t384 == t392 && (t385 == t393 && (t386.toList == t394.toList))))) = false) → (t381 = true) := by intro h_; have z_ := c20; rw [h_] at z_; revert z_; cases (t381) <;> simp))
            (try (have c20b5 : decide (t381 = t389 && (t382 == t390 && (t383 == t391 && (t384 == t392 && (t385 == t393 && (t386.toList == t394.toList)))))) = false := by first | (simp; done) | (simp at c20; done) | simpa using c20))
            (try (have c20b6 : (t381 == t389 && (t382 == t390 && (t383 == t391 && (t384 == t392 && (t385 == t393 && (t386.toList == t394.toList)))))) = false := by first | (simp; done) | (simp at c20; done) | simpa using c20))
            (try (have c20b7 : ¬ (t381 = t389 && (t382 == t390 && (t383 == t391 && (t384 == t392 && (t385 == t393 && (t386.toList == t394.toList)))))) := by first | (simp; done) | (simp at c20; done) | simpa using c20))
            clear c20
            exact absurd ((Option.some.inj H).trans HLaw.out) (by simp)
  · replace c9 := Bool.eq_false_iff.mpr c9
    subst c9
    have H1 : (some false) = some r := by rw [if_neg (show ¬ (false = true) by decide)] at H; exact H
    clear H
    have H := H1
    clear H1
    exact absurd ((Option.some.inj H).trans HLaw.out) (by simp)

/-- THE ONE PURE STATEMENT of careenagelaw10_FreeCalls: yours. -/
def careenagelaw10_FreeCalls.Pure : Prop := ∀ (a0 : Int) (a1 : Int) (a2 : Int) (a3 : Int) (l4 : List Int) (a5_0 : Int) (a5_1 : Int) (a5_2 : Int) (a5_3 : Int) (a5_4 : Int) (a5_5 : ByteArray) (a6 : Int), (Lit.int .i64 a0).wf = true → (Lit.int .u32 a1).wf = true → (Lit.int .u32 a2).wf = true → (Lit.int .u64 a3).wf = true → l4.length ≤ maxLen → l4.length * 4 ≤ 140737488351232 → (∀ x ∈ l4, (Lit.int .u32 x).wf = true) → (Lit.int .i64 a5_0).wf = true → (Lit.int .i64 a5_1).wf = true → (Lit.int .u32 a5_2).wf = true → (Lit.int .u32 a5_3).wf = true → (Lit.int .u64 a5_4).wf = true → a5_5.size ≤ 140737488351232 → (Lit.int .i64 a6).wf = true → ∃ k, careenagelaw10_FreeCalls.f k a0 a1 a2 a3 l4 a5_0 a5_1 a5_2 a5_3 a5_4 a5_5 a6 = some true
theorem careenagelaw10_FreeCalls.walk (P : careenagelaw10_FreeCalls.Pure) (a0 : Int) (a1 : Int) (a2 : Int) (a3 : Int) (A4 : Option Addr) (c4 : Nat) (l4 : List Int) (a5_0 : Int) (a5_1 : Int) (a5_2 : Int) (a5_3 : Int) (a5_4 : Int) (a5_5 : ByteArray) (a6 : Int) (w : World)     (hC4 : Kd.C (Kd.int .u32) w A4 l4.length l4) (hc4 : l4.length ≤ c4)   (w0 : (Lit.int .i64 a0).wf = true) (w1 : (Lit.int .u32 a1).wf = true) (w2 : (Lit.int .u32 a2).wf = true) (w3 : (Lit.int .u64 a3).wf = true) (w4 : (l4.length ≤ maxLen) ∧ (l4.length * 4 ≤ 140737488351232) ∧ ((∀ x ∈ l4, (Lit.int .u32 x).wf = true))) (w5 : ((Lit.int .i64 a5_0).wf = true) ∧ ((Lit.int .i64 a5_1).wf = true) ∧ ((Lit.int .u32 a5_2).wf = true) ∧ ((Lit.int .u32 a5_3).wf = true) ∧ ((Lit.int .u64 a5_4).wf = true) ∧ (a5_5.size ≤ 140737488351232)) (w6 : (Lit.int .i64 a6).wf = true) :
    Calls Try.prog 7 #[.int .i64 a0, .int .u32 a1, .int .u32 a2, .int .u64 a3, .slice A4 l4.length c4, .agg #[.int .i64 a5_0, .int .i64 a5_1, .int .u32 a5_2, .int .u32 a5_3, .int .u64 a5_4, .string a5_5], .int .i64 a6] w fun e w' => e = .returned (.bool true) ∧ Below w.heap.size w w' := by
  obtain ⟨k, h⟩ := P a0 a1 a2 a3 l4 a5_0 a5_1 a5_2 a5_3 a5_4 a5_5 a6 w0 w1 w2 w3 w4.1 w4.2.1 w4.2.2 w5.1 w5.2.1 w5.2.2.1 w5.2.2.2.1 w5.2.2.2.2.1 w5.2.2.2.2.2 w6
  refine (careenagelaw10_FreeCalls.calls k a0 a1 a2 a3 _ _ l4 a5_0 a5_1 a5_2 a5_3 a5_4 a5_5 a6 true w hC4 hc4 rfl h).mono ?_
  rintro e w' ⟨rfl, hd⟩
  exact ⟨rfl, hd⟩

end Go.Proofs.Ytlkfcabklaaacaa.P

namespace Go.Proofs.YtlkfcabklaaacaaO
set_option linter.unusedVariables false
set_option linter.unusedSimpArgs false
open Go.RowKit
theorem bl_irrefl : ∀ l : List UInt8, Op.bytesLess l l = false
  | [] => rfl
  | a :: l => by simp [Op.bytesLess, bl_irrefl l]
theorem bl_nil (l : List UInt8) : Op.bytesLess l [] = false := by cases l <;> rfl
theorem bl_trans : ∀ {a b c : List UInt8}, Op.bytesLess a b = true → Op.bytesLess b c = true → Op.bytesLess a c = true
  | _, _, [], _, h => by rw [bl_nil] at h; cases h
  | _, [], _, h, _ => by rw [bl_nil] at h; cases h
  | [], _ :: _, _ :: _, _, _ => rfl
  | x :: a, y :: b, z :: c, h1, h2 => by
    simp only [Op.bytesLess, Bool.or_eq_true, Bool.and_eq_true, decide_eq_true_eq, beq_iff_eq] at h1 h2 ⊢
    rcases h1 with h1 | ⟨rfl, h1⟩
    · rcases h2 with h2 | ⟨rfl, h2⟩
      · exact .inl (UInt8.lt_trans h1 h2)
      · exact .inl h1
    · rcases h2 with h2 | ⟨rfl, h2⟩
      · exact .inl h2
      · exact .inr ⟨rfl, bl_trans h1 h2⟩
theorem bl_total : ∀ a b : List UInt8, Op.bytesLess a b = false → Op.bytesLess b a = false → a = b
  | [], [], _, _ => rfl
  | [], _ :: _, h, _ => by simp [Op.bytesLess] at h
  | _ :: _, [], _, h => by simp [Op.bytesLess] at h
  | x :: a, y :: b, h1, h2 => by
    simp only [Op.bytesLess, Bool.or_eq_false_iff, Bool.and_eq_false_iff, decide_eq_false_iff_not, beq_eq_false_iff_ne] at h1 h2
    have e : x = y := by
      have u := UInt8.not_lt.1 h1.1
      have v := UInt8.not_lt.1 h2.1
      exact UInt8.le_antisymm v u
    subst e
    rw [bl_total a b (h1.2.resolve_left (fun h => h rfl)) (h2.2.resolve_left (fun h => h rfl))]
theorem bl_asymm {a b : List UInt8} (h : Op.bytesLess a b = true) : Op.bytesLess b a = false := by
  cases e : Op.bytesLess b a with
  | false => rfl
  | true => have := bl_trans h e; rw [bl_irrefl] at this; cases this
/-- Not below is at or above: then what is below the one is below the other. -/
theorem bl_of_le {a b c : List UInt8} (h1 : Op.bytesLess b a = false) (h2 : Op.bytesLess b c = true) : Op.bytesLess a c = true := by
  cases e : Op.bytesLess a b with
  | true => exact bl_trans e h2
  | false => rw [bl_total a b e h1]; exact h2
theorem bl_of_lt_le {a b c : List UInt8} (h1 : Op.bytesLess a b = true) (h2 : Op.bytesLess c b = false) : Op.bytesLess a c = true := by
  cases e : Op.bytesLess b c with
  | true => exact bl_trans h1 e
  | false => rw [← bl_total b c e h2]; exact h1
theorem bl_le_trans {a b c : List UInt8} (h1 : Op.bytesLess b a = false) (h2 : Op.bytesLess c b = false) : Op.bytesLess c a = false := by
  cases e : Op.bytesLess c a with
  | false => rfl
  | true => rw [bl_of_lt_le e h1] at h2; exact h2
theorem smn_le_left (a b : ByteArray) : Op.bytesLess a.toList (smn a b).toList = false := by
  unfold smn
  split
  · exact bl_irrefl _
  · rename_i h
    simp only [Bool.or_eq_true, not_or, Bool.not_eq_true] at h
    exact h.1
theorem smn_le_right (a b : ByteArray) : Op.bytesLess b.toList (smn a b).toList = false := by
  unfold smn
  split
  · rename_i h
    simp only [Bool.or_eq_true, beq_iff_eq] at h
    rcases h with h | h
    · exact bl_asymm h
    · rw [h]; exact bl_irrefl _
  · exact bl_irrefl _
theorem smx_ge_left (a b : ByteArray) : Op.bytesLess (smx a b).toList a.toList = false := by
  unfold smx
  split
  · exact bl_irrefl _
  · rename_i h
    simp only [Bool.not_eq_true', Bool.not_eq_false] at h
    exact bl_asymm h
theorem smx_ge_right (a b : ByteArray) : Op.bytesLess (smx a b).toList b.toList = false := by
  unfold smx
  split
  · rename_i h
    simpa using h
  · exact bl_irrefl _
/-- Of the smaller and the greater, the smaller is not above the greater. -/
theorem smn_le_smx (a b : ByteArray) : Op.bytesLess (smx a b).toList (smn a b).toList = false := bl_le_trans (smn_le_left a b) (smx_ge_left a b)
end Go.Proofs.YtlkfcabklaaacaaO

namespace Go.Proofs.YtlkfcabklaaacaaO
set_option linter.unusedVariables false
set_option linter.unusedSimpArgs false
open Go.RowKit Go.Proofs.YtlkfcabklaaacaaW.PrintWords
/-- As a step of its own (no unfolding: the kernel is not to compare what stands on both sides). -/
theorem bs {α β : Type} (a : α) (f : α → Option β) : (some a).bind f = f a := Eq.trans (Option.bind_some a f) (Eq.refl (f a))
/-- Numbers that are bytes. -/
def isB (l : List Int) : Prop := ∀ x ∈ l, 0 ≤ x ∧ x < 256
theorem isB_nil : isB [] := fun _ h => by cases h
theorem isB_cons {x : Int} {l : List Int} (hx : 0 ≤ x ∧ x < 256) (h : isB l) : isB (x :: l) := by
  intro y hy
  rcases List.mem_cons.1 hy with rfl | hy
  · exact hx
  · exact h y hy
theorem isB_append {l m : List Int} (h1 : isB l) (h2 : isB m) : isB (l ++ m) := by
  intro y hy
  rcases List.mem_append.1 hy with hy | hy
  · exact h1 y hy
  · exact h2 y hy
theorem isB_left {l m : List Int} (h : isB (l ++ m)) : isB l := fun x hx => h x (List.mem_append_left _ hx)
theorem isB_right {l m : List Int} (h : isB (l ++ m)) : isB m := fun x hx => h x (List.mem_append_right _ hx)
theorem isB_take {l : List Int} (h : isB l) (n : Nat) : isB (l.take n) := fun x hx => h x (List.mem_of_mem_take hx)
theorem isB_drop {l : List Int} (h : isB l) (n : Nat) : isB (l.drop n) := fun x hx => h x (List.mem_of_mem_drop hx)
theorem isB_wf {l : List Int} (h : ∀ x ∈ l, (Lit.int .u8 x).wf = true) : isB l := by
  intro x hx
  have := h x hx
  have h1 : IntKind.u8.min = 0 := rfl
  have h2 : IntKind.u8.max = 255 := rfl
  simp [Lit.wf, h1, h2] at this
  omega
/-- A string's bytes. -/
abbrev B (s : ByteArray) : List Int := bytesOf s
theorem isB_B (s : ByteArray) : isB (B s) := by
  intro x hx
  simp only [bytesOf, List.mem_map] at hx
  obtain ⟨b, _, rfl⟩ := hx
  have := b.toNat_lt
  omega
theorem B_length (s : ByteArray) : (B s).length = s.size := bytesOf_length s
theorem B_inj {s t : ByteArray} (h : B s = B t) : s = t := by
  have h2 : s.data.toList = t.data.toList := by
    refine List.map_inj_right (fun a b hab => ?_) |>.1 h
    exact UInt8.toNat_inj.1 (Int.ofNat_inj.1 hab)
  cases s; cases t
  simp only [ByteArray.mk.injEq]
  exact Array.toList_inj.1 h2
theorem toList_iff {s t : ByteArray} : s.toList = t.toList ↔ B s = B t := by
  rw [Lib.toList_data, Lib.toList_data]
  refine ⟨fun h => by simp only [bytesOf, h], fun h => by rw [B_inj h]⟩
theorem toList_eq_iff {s t : ByteArray} : s.toList = t.toList ↔ s = t := ⟨fun h => B_inj (toList_iff.1 h), fun h => by rw [h]⟩
theorem B_append (s t : ByteArray) : B (s ++ t) = B s ++ B t := by
  simp [bytesOf, ByteArray.data_append]
theorem B_extract (s : ByteArray) (a b : Nat) : B (s.extract a b) = ((B s).take b).drop a := by
  simp only [bytesOf, Lib.extract_data, List.map_take, List.map_drop]
  rw [List.drop_take]
theorem B_drop (s : ByteArray) (a : Nat) : B (s.extract a s.size) = (B s).drop a := by
  rw [B_extract, List.take_of_length_le (by rw [B_length]; exact Nat.le_refl _)]
theorem B_take (s : ByteArray) (b : Nat) : B (s.extract 0 b) = (B s).take b := by
  rw [B_extract, List.drop_zero]
theorem B_empty : B ⟨#[]⟩ = [] := rfl
theorem B_str {l : List Int} (h : isB l) : B (strOfNums l) = l := by
  simp only [bytesOf, strOfNums_data, List.map_map]
  refine (List.map_congr_left (g := id) (fun x hx => ?_)).trans (List.map_id l)
  have := h x hx
  simp only [Function.comp, id, UInt8.toNat_ofNat']
  omega
theorem str_B (s : ByteArray) : strOfNums (B s) = s := by
  apply B_inj
  exact B_str (isB_B s)
theorem size_str (l : List Int) : (strOfNums l).size = l.length := strOfNums_size l
theorem bt_B (s : ByteArray) (i : Int) : bt s i = rd (B s) i := (rd_bytesOf s i).symm
theorem rd_nat (l : List Int) (i : Nat) : rd l (i : Int) = l.getD i 0 := by simp [rd]
theorem rd_get {l : List Int} {i : Nat} (h : i < l.length) : rd l (i : Int) = l[i] := by simp [rd, h]

/-! ### numbers, the least byte first -/
def le : Int → Nat → List Int
  | _, 0 => []
  | n, k + 1 => n % 256 :: le (n / 256) k
def ofLe : List Int → Int
  | [] => 0
  | b :: l => b + ofLe l * 256
theorem le_length : ∀ (k : Nat) (n : Int), (le n k).length = k
  | 0, _ => rfl
  | k + 1, n => by simp [le, le_length k]
theorem isB_le : ∀ (k : Nat) (n : Int), isB (le n k)
  | 0, _ => isB_nil
  | k + 1, n => isB_cons (by omega) (isB_le k _)
theorem pow_succ256 (k : Nat) : (256 : Int) ^ (k + 1) = 256 * 256 ^ k := by rw [Int.pow_succ, Int.mul_comm]
theorem pow_pos256 (k : Nat) : (0 : Int) < 256 ^ k := Int.pow_pos (by decide)
theorem ofLe_le : ∀ (k : Nat) (n : Int), ofLe (le n k) = n % 256 ^ k
  | 0, n => by simp [le, ofLe, Int.emod_one]
  | k + 1, n => by
    simp only [le, ofLe]
    rw [ofLe_le k, pow_succ256]
    rw [Int.emod_def n (256 * 256 ^ k), Int.emod_def (n / 256), ← Int.ediv_ediv_of_nonneg (by decide), Int.mul_assoc 256]
    generalize 256 ^ k * (n / 256 / 256 ^ k) = z
    omega
theorem ofLe_nonneg : ∀ {l : List Int}, isB l → 0 ≤ ofLe l
  | [], _ => Int.le_refl _
  | b :: l, h => by
    have h1 := h b (List.mem_cons_self ..)
    have h2 := ofLe_nonneg (l := l) (fun x hx => h x (List.mem_cons_of_mem _ hx))
    simp only [ofLe]
    omega
theorem ofLe_lt : ∀ {l : List Int}, isB l → ofLe l < 256 ^ l.length
  | [], _ => by simp [ofLe]
  | b :: l, h => by
    have h1 := h b (List.mem_cons_self ..)
    have h2 := ofLe_lt (l := l) (fun x hx => h x (List.mem_cons_of_mem _ hx))
    simp only [ofLe, List.length_cons]
    rw [pow_succ256]
    omega
theorem le_ofLe : ∀ {l : List Int}, isB l → le (ofLe l) l.length = l
  | [], _ => rfl
  | b :: l, h => by
    have h1 := h b (List.mem_cons_self ..)
    have h2 := le_ofLe (l := l) (fun x hx => h x (List.mem_cons_of_mem _ hx))
    simp only [ofLe, List.length_cons, le]
    rw [show (b + ofLe l * 256) % 256 = b by omega, show (b + ofLe l * 256) / 256 = ofLe l by omega, h2]
theorem ofLe_snoc : ∀ (l : List Int) (b : Int), ofLe (l ++ [b]) = ofLe l + b * 256 ^ l.length
  | [], b => by simp [ofLe]
  | a :: l, b => by
    simp only [List.cons_append, ofLe, List.length_cons]
    rw [ofLe_snoc l b, pow_succ256, Int.add_mul, Int.mul_assoc b, Int.mul_comm (256 : Int) (256 ^ l.length), ← Int.mul_assoc b]
    omega
theorem le_snoc : ∀ (k : Nat) (n : Int), le n (k + 1) = le n k ++ [n / 256 ^ k % 256]
  | 0, n => by simp [le]
  | k + 1, n => by
    have h := le_snoc k (n / 256)
    rw [le, h, le, pow_succ256, ← Int.ediv_ediv_of_nonneg (by decide)]
    rfl
end Go.Proofs.YtlkfcabklaaacaaO

namespace Go.Proofs.Ytlkfcabklaaacaa.Q
set_option linter.unusedVariables false
set_option linter.unusedSimpArgs false
open Go.RowKit Go.Proofs.Ytlkfcabklaaacaa.P Go.Proofs.YtlkfcabklaaacaaW.PrintWords Go.Proofs.YtlkfcabklaaacaaW.PrintLast Go.Proofs.YtlkfcabklaaacaaW.PrintMore Go.Proofs.YtlkfcabklaaacaaO

/-- The sizes of pages. -/
def goodS (a : Int) : Bool := decide (128 ≤ a) && decide (a ≤ 4096) && (Int.tmod a 64 == 0)
def roomS (a : Int) : Int := if goodS a = true then a - 24 else 0
theorem roomS_range (a : Int) : 0 ≤ roomS a ∧ roomS a ≤ 4072 := by
  unfold roomS goodS
  split
  · rename_i h
    simp only [Bool.and_eq_true, decide_eq_true_eq, beq_iff_eq] at h
    omega
  · omega
theorem good_is (a : Int) : device_Good.f a = some (goodS a) := by
  unfold device_Good.f goodS
  by_cases h1 : a ≥ 128
  · by_cases h2 : a ≤ 4096
    · simp [h1, h2]
    · simp [h1, h2]
  · have h3 : ¬ (128 ≤ a) := by omega
    simp [h3]
theorem room_is (a : Int) : frame_Room.f a = some (roomS a) := by
  unfold frame_Room.f
  rw [good_is, bs]
  unfold roomS
  by_cases h : goodS a = true
  · rw [if_pos h, if_pos h]
    unfold goodS at h
    simp only [Bool.and_eq_true, decide_eq_true_eq, beq_iff_eq] at h
    congr 1
    unfold wrap64
    omega
  · rw [if_neg h, if_neg h]
theorem rgood_is (a : Int) : careenageref03_Good.f a = some (goodS a) := by
  unfold careenageref03_Good.f goodS
  by_cases h1 : a ≥ 128
  · by_cases h2 : a ≤ 4096
    · simp [h1, h2]
    · simp [h1, h2]
  · have h3 : ¬ (128 ≤ a) := by omega
    simp [h3]
theorem rroom_is (a : Int) : careenageref04_Room.f a = some (roomS a) := by
  unfold careenageref04_Room.f
  rw [rgood_is, bs]
  unfold roomS
  by_cases h : goodS a = true
  · rw [if_pos h, if_pos h]
    unfold goodS at h
    simp only [Bool.and_eq_true, decide_eq_true_eq, beq_iff_eq] at h
    congr 1
    unfold wrap64
    omega
  · rw [if_neg h, if_neg h]
def mostS (a : Int) : Int := roomS a / 4
theorem most_is (a : Int) : free_Most.f a = some (mostS a) := by
  unfold free_Most.f
  rw [room_is, bs]
  have := roomS_range a
  congr 1
  rw [Int.tdiv_eq_ediv_of_nonneg this.1]
  unfold mostS wrap64
  omega
theorem rmost_is (a : Int) : careenageref10_Most.f a = some (mostS a) := by
  unfold careenageref10_Most.f
  rw [rroom_is, bs]
  have := roomS_range a
  congr 1
  rw [Int.tdiv_eq_ediv_of_nonneg this.1]
  unfold mostS wrap64
  omega
theorem mostS_zero (a : Int) : mostS a = 0 ↔ goodS a = false := by
  unfold mostS roomS goodS
  split
  · rename_i h
    simp only [Bool.and_eq_true, decide_eq_true_eq, beq_iff_eq] at h
    simp only [h, decide_true, beq_self_eq_true, Bool.and_self, Bool.true_eq_false, iff_false]
    omega
  · rename_i h
    simp only [Bool.not_eq_true] at h
    simp [h]
/-- Each number is greater than the one before it. -/
def riseP (l : List Int) : Prop := ∀ i : Nat, 0 < i → i < l.length → rd l ((i : Int) - 1) < rd l (i : Int)
theorem rises_down (l : List Int) (hl : l.length < 4611686018427387904) : ∀ (n k : Nat), n < k → n < l.length → slices_IsSortedFunc_uint32_uint32_62.l0 k l (n : Int) = some true ∨ slices_IsSortedFunc_uint32_uint32_62.l0 k l (n : Int) = some false
  | n, 0, h, _ => by omega
  | 0, k + 1, _, _ => by
    rw [slices_IsSortedFunc_uint32_uint32_62.l0, if_neg (by omega)]
    exact Or.inl rfl
  | n + 1, k + 1, h, hn => by
    have ih := rises_down l hl n k (by omega) (by omega)
    have hw : wrap64 (((n + 1 : Nat) : Int) - 1) = (n : Int) := by unfold wrap64; omega
    rw [slices_IsSortedFunc_uint32_uint32_62.l0, if_pos (by omega), if_pos (by omega), if_pos (by omega), hw, if_pos (by omega), if_pos (by omega)]
    unfold free_Rises_1.f
    split
    · rw [bs, if_neg (by omega)]
      exact ih
    · rw [bs, if_pos (by omega)]
      exact Or.inr rfl
theorem rises_iff (l : List Int) (hl : l.length < 4611686018427387904) : ∀ (n k : Nat), n < k → n < l.length → (slices_IsSortedFunc_uint32_uint32_62.l0 k l (n : Int) = some true ↔ ∀ i : Nat, 0 < i → i ≤ n → rd l ((i : Int) - 1) < rd l (i : Int))
  | n, 0, h, _ => by omega
  | 0, k + 1, _, _ => by
    rw [slices_IsSortedFunc_uint32_uint32_62.l0, if_neg (by omega)]
    exact ⟨fun _ i h0 h1 => by omega, fun _ => rfl⟩
  | n + 1, k + 1, h, hn => by
    have ih := rises_iff l hl n k (by omega) (by omega)
    have hw : wrap64 (((n + 1 : Nat) : Int) - 1) = (n : Int) := by unfold wrap64; omega
    have hn1 : ((n + 1 : Nat) : Int) - 1 = (n : Int) := by omega
    rw [slices_IsSortedFunc_uint32_uint32_62.l0, if_pos (by omega), if_pos (by omega), if_pos (by omega), hw, if_pos (by omega), if_pos (by omega)]
    unfold free_Rises_1.f
    split
    · rename_i hlt
      rw [bs, if_neg (by omega), ih]
      refine ⟨fun hh i h0 h1 => ?_, fun hh i h0 h1 => hh i h0 (by omega)⟩
      by_cases e : i = n + 1
      · subst e
        rw [hn1]
        exact hlt
      · exact hh i h0 (by omega)
    · rename_i hlt
      rw [bs, if_pos (by omega)]
      refine ⟨fun hh => (by cases hh), fun hh => absurd (hh (n + 1) (by omega) (Nat.le_refl _)) ?_⟩
      rw [hn1]
      exact hlt
def riseB (l : List Int) : Bool := (List.range l.length).all (fun i => decide (i = 0 ∨ rd l ((i : Int) - 1) < rd l (i : Int)))
theorem riseB_iff (l : List Int) : riseB l = true ↔ riseP l := by
  unfold riseB riseP
  rw [List.all_eq_true]
  refine ⟨fun h i h0 h1 => ?_, fun h i hi => ?_⟩
  · have := h i (List.mem_range.2 h1)
    simp only [decide_eq_true_eq] at this
    rcases this with h2 | h2
    · omega
    · exact h2
  · simp only [decide_eq_true_eq]
    by_cases e : i = 0
    · exact Or.inl e
    · exact Or.inr (h i (by omega) (List.mem_range.1 hi))
theorem rises_is (l : List Int) (hl : l.length < 4611686018427387904) (k : Nat) (hk : l.length ≤ k) (hk0 : 0 < k) : free_Rises.f k l = some (riseB l) := by
  unfold free_Rises.f slices_IsSortedFunc_uint32_uint32_62.f
  by_cases h0 : l.length = 0
  · have hw : wrap64 ((l.length : Int) - 1) = -1 := by unfold wrap64; omega
    obtain ⟨k, rfl⟩ : ∃ j, k = j + 1 := ⟨k - 1, by omega⟩
    rw [hw, slices_IsSortedFunc_uint32_uint32_62.l0, if_neg (by omega), bs]
    congr 1
    symm
    rw [riseB_iff]
    intro i _ hi
    omega
  · obtain ⟨n, hn⟩ : ∃ n, l.length = n + 1 := ⟨l.length - 1, by omega⟩
    have hw : wrap64 ((l.length : Int) - 1) = (n : Int) := by unfold wrap64; omega
    rw [hw]
    have h1 := rises_iff l hl n k (by omega) (by omega)
    have h2 := rises_down l hl n k (by omega) (by omega)
    have h3 : (∀ i : Nat, 0 < i → i ≤ n → rd l ((i : Int) - 1) < rd l (i : Int)) ↔ riseB l = true := by
      rw [riseB_iff]
      exact ⟨fun h i a b => h i a (by omega), fun h i a b => h i a (by omega)⟩
    rw [h3] at h1
    rcases h2 with h2 | h2
    · rw [h2, bs, h1.1 h2]
    · rw [h2, bs]
      congr 1
      cases hb : riseB l with
      | false => rfl
      | true =>
        rw [h1.2 hb] at h2
        cases h2
theorem rrises_up (l : List Int) (hl : l.length < 4611686018427387904) : ∀ (d i k : Nat), i + d = l.length → d < k → 1 ≤ i → careenageref10_Rises.l0 k l (i : Int) = some (decide (∀ j, j < l.length → i ≤ j → rd l ((j : Int) - 1) < rd l (j : Int)))
  | d, i, 0, _, h, _ => by omega
  | 0, i, k + 1, hi, _, _ => by
    rw [careenageref10_Rises.l0, if_neg (by omega)]
    congr 1
    symm
    rw [decide_eq_true_eq]
    intro j hj hij
    omega
  | d + 1, i, k + 1, hi, hk, h1 => by
    have ih := rrises_up l hl d (i + 1) k (by omega) (by omega) (by omega)
    have hw : wrap64 ((i : Int) - 1) = (i : Int) - 1 := by unfold wrap64; omega
    have hw2 : wrap64 ((i : Int) + 1) = ((i + 1 : Nat) : Int) := by unfold wrap64; omega
    rw [careenageref10_Rises.l0, if_pos (by omega), hw, if_pos (by omega), if_pos (by omega), if_pos (by omega)]
    by_cases hge : rd l ((i : Int) - 1) ≥ rd l (i : Int)
    · rw [if_pos hge]
      congr 1
      symm
      rw [decide_eq_false_iff_not]
      intro h
      have := h i (by omega) (Nat.le_refl _)
      omega
    · rw [if_neg hge, hw2, ih]
      congr 1
      rw [decide_eq_decide]
      refine ⟨fun h j hj hij => ?_, fun h j hj hij => h j hj (by omega)⟩
      by_cases e : j = i
      · subst e
        omega
      · exact h j hj (by omega)
theorem rrises_is (l : List Int) (hl : l.length < 4611686018427387904) (k : Nat) (hk : l.length ≤ k) (hk0 : 0 < k) : careenageref10_Rises.f k l = some (riseB l) := by
  unfold careenageref10_Rises.f
  by_cases h0 : l.length = 0
  · obtain ⟨k, rfl⟩ : ∃ j, k = j + 1 := ⟨k - 1, by omega⟩
    rw [careenageref10_Rises.l0, if_neg (by omega)]
    congr 1
    symm
    rw [riseB_iff]
    intro i _ hi
    omega
  · have := rrises_up l hl (l.length - 1) 1 k (by omega) (by omega) (Nat.le_refl _)
    refine Eq.trans this ?_
    congr 1
    rw [Bool.eq_iff_iff, decide_eq_true_eq, riseB_iff]
    exact ⟨fun h i a b => h i b a, fun h j a b => h j b a⟩
def numB (x : Int) : Bool := decide (2 ≤ x) && decide (x ≤ 2147483647)
theorem number_is (a : Int) : free_number.f a = some (numB a) := by
  unfold free_number.f numB
  by_cases h : a ≥ 2
  · rw [if_pos h]
    simp [show (2 : Int) ≤ a from h]
  · rw [if_neg h]
    simp [show ¬ (2 : Int) ≤ a from h]
theorem rnumber_is (a : Int) : careenageref04_Number.f a = some (numB a) := by
  unfold careenageref04_Number.f numB
  by_cases h : a ≥ 2
  · rw [if_pos h]
    simp [show (2 : Int) ≤ a from h]
  · rw [if_neg h]
    simp [show ¬ (2 : Int) ≤ a from h]
theorem odd_is (a : Int) : free_Page_1.f a = some (!numB a) := by
  unfold free_Page_1.f
  rw [number_is, bs]
def numsB (l : List Int) : Bool := l.all numB
theorem numsB_iff (l : List Int) : numsB l = true ↔ ∀ j : Nat, j < l.length → numB (rd l (j : Int)) = true := by
  unfold numsB
  rw [List.all_eq_true]
  refine ⟨fun h j hj => ?_, fun h x hx => ?_⟩
  · rw [rd_get hj]
    exact h _ (List.getElem_mem hj)
  · obtain ⟨j, hj, rfl⟩ := List.mem_iff_getElem.1 hx
    have := h j hj
    rwa [rd_get hj] at this
theorem index_up (l : List Int) (hl : l.length < 4611686018427387904) : ∀ (d i k : Nat), i + d = l.length → d < k → ∃ r, slices_IndexFunc_uint32_uint32_56.l0 k l (l.length : Int) (i : Int) = some r ∧ (0 ≤ r ↔ ∃ j : Nat, i ≤ j ∧ j < l.length ∧ numB (rd l (j : Int)) = false)
  | d, i, 0, _, h => by omega
  | 0, i, k + 1, hi, _ => by
    rw [slices_IndexFunc_uint32_uint32_56.l0, if_neg (by omega)]
    refine ⟨-1, rfl, ⟨fun h => by omega, fun ⟨j, a, b, _⟩ => by omega⟩⟩
  | d + 1, i, k + 1, hi, hk => by
    obtain ⟨r, hr, hiff⟩ := index_up l hl d (i + 1) k (by omega) (by omega)
    have hw2 : wrap64 ((i : Int) + 1) = ((i + 1 : Nat) : Int) := by unfold wrap64; omega
    rw [slices_IndexFunc_uint32_uint32_56.l0, if_pos (by omega), if_pos (by omega), if_pos (by omega), odd_is, bs]
    cases hb : numB (rd l (i : Int)) with
    | false =>
      rw [Bool.not_false, if_pos rfl]
      exact ⟨_, rfl, ⟨fun _ => ⟨i, Nat.le_refl _, by omega, hb⟩, fun _ => by omega⟩⟩
    | true =>
      rw [Bool.not_true, if_neg (by decide), hw2, hr]
      refine ⟨r, rfl, hiff.trans ⟨fun ⟨j, a, b, c⟩ => ⟨j, by omega, b, c⟩, fun ⟨j, a, b, c⟩ => ?_⟩⟩
      by_cases e : j = i
      · subst e
        rw [hb] at c
        cases c
      · exact ⟨j, by omega, b, c⟩
theorem contains_is (l : List Int) (hl : l.length < 4611686018427387904) (k : Nat) (hk : l.length < k) : slices_ContainsFunc_uint32_uint32_56.f k l = some (!numsB l) := by
  unfold slices_ContainsFunc_uint32_uint32_56.f slices_IndexFunc_uint32_uint32_56.f
  obtain ⟨r, hr, hiff⟩ := index_up l hl l.length 0 k (by omega) hk
  rw [show (0 : Int) = ((0 : Nat) : Int) from rfl, hr, bs]
  congr 1
  cases hb : numsB l with
  | true =>
    rw [Bool.not_true, decide_eq_false_iff_not]
    intro h
    obtain ⟨j, _, hj, hf⟩ := hiff.1 h
    rw [(numsB_iff l).1 hb j hj] at hf
    cases hf
  | false =>
    rw [Bool.not_false, decide_eq_true_eq]
    refine hiff.2 ?_
    refine Classical.byContradiction fun hn => ?_
    have : numsB l = true := (numsB_iff l).2 fun j hj => by
      cases hq : numB (rd l (j : Int)) with
      | true => rfl
      | false => exact absurd ⟨j, Nat.zero_le _, hj, hq⟩ hn
    rw [hb] at this
    cases this
theorem rnums_up (l : List Int) (hl : l.length < 4611686018427387904) : ∀ (d i k : Nat), i + d = l.length → d + l.length + 1 < k → careenageref10_Numbers.l0 k l (i : Int) = some (decide (∀ j : Nat, j < l.length → i ≤ j → numB (rd l (j : Int)) = true) && riseB l)
  | d, i, 0, _, h => by omega
  | 0, i, k + 1, hi, hk => by
    rw [careenageref10_Numbers.l0, if_neg (by omega), rrises_is l hl k (by omega) (by omega), bs]
    congr 1
    rw [decide_eq_true (by intro j a b; omega), Bool.true_and]
  | d + 1, i, k + 1, hi, hk => by
    have ih := rnums_up l hl d (i + 1) k (by omega) (by omega)
    have hw2 : wrap64 ((i : Int) + 1) = ((i + 1 : Nat) : Int) := by unfold wrap64; omega
    rw [careenageref10_Numbers.l0, if_pos (by omega), if_pos (by omega), rnumber_is, bs]
    cases hb : numB (rd l (i : Int)) with
    | false =>
      rw [if_neg (by decide)]
      congr 1
      symm
      rw [decide_eq_false (fun h => by rw [h i (by omega) (Nat.le_refl _)] at hb; cases hb), Bool.false_and]
    | true =>
      rw [if_pos rfl, hw2, ih]
      congr 2
      rw [decide_eq_decide]
      refine ⟨fun h j a b => ?_, fun h j a b => h j a (by omega)⟩
      by_cases e : j = i
      · subst e
        exact hb
      · exact h j a (by omega)
theorem rnums_is (l : List Int) (hl : l.length < 4611686018427387904) (k : Nat) (hk : 2 * l.length + 1 < k) : careenageref10_Numbers.f k l = some (numsB l && riseB l) := by
  unfold careenageref10_Numbers.f
  have := rnums_up l hl l.length 0 k (by omega) (by omega)
  refine Eq.trans this ?_
  congr 2
  rw [Bool.eq_iff_iff, decide_eq_true_eq, numsB_iff]
  exact ⟨fun h j a => h j a (Nat.zero_le _), fun h j a _ => h j a⟩

end Go.Proofs.Ytlkfcabklaaacaa.Q

namespace Go.Proofs.Ytlkfcabklaaacaa.Q
set_option linter.unusedVariables false
set_option linter.unusedSimpArgs false
open Go.RowKit Go.Proofs.Ytlkfcabklaaacaa.P Go.Proofs.YtlkfcabklaaacaaW.PrintWords Go.Proofs.YtlkfcabklaaacaaW.PrintLast Go.Proofs.YtlkfcabklaaacaaW.PrintMore Go.Proofs.YtlkfcabklaaacaaO

theorem w64 {x : Int} (h0 : -9223372036854775808 ≤ x) (h1 : x ≤ 9223372036854775807) : wrap64 x = x := by
  unfold wrap64
  omega
theorem u64w {x : Int} (h0 : 0 ≤ x) (h1 : x < 18446744073709551616) : IntKind.u64.wrap x = x := by
  rw [IntKind.wrap_u64]
  omega
theorem pow8 (i : Nat) : (2 : Int) ^ (8 * i) = 256 ^ i := by
  rw [Int.pow_mul]
  rfl
theorem pow256_le {i : Nat} (h : i ≤ 8) : (256 : Int) ^ i ≤ 18446744073709551616 := by
  have : i = 0 ∨ i = 1 ∨ i = 2 ∨ i = 3 ∨ i = 4 ∨ i = 5 ∨ i = 6 ∨ i = 7 ∨ i = 8 := by omega
  rcases this with rfl | rfl | rfl | rfl | rfl | rfl | rfl | rfl | rfl <;> decide
theorem shr_byte (n : Int) (i : Nat) (h : i ≤ 8) : shr .u64 n (8 * (i : Int)) = n / 256 ^ i := by
  unfold shr
  rw [show min (8 * (i : Int)).toNat IntKind.u64.bits = 8 * i by simp only [IntKind.bits]; omega, pow8]
theorem shl_byte (b : Int) (i : Nat) (h : i ≤ 7) (hb : 0 ≤ b ∧ b < 256) : shl .u64 b (8 * (i : Int)) = b * 256 ^ i := by
  unfold shl
  rw [show min (8 * (i : Int)).toNat IntKind.u64.bits = 8 * i by simp only [IntKind.bits]; omega, pow8]
  have h1 := pow256_le (i := i + 1) (by omega)
  rw [pow_succ256] at h1
  have h2 := pow_pos256 i
  refine u64w (Int.mul_nonneg hb.1 (Int.le_of_lt h2)) ?_
  have h3 : b * 256 ^ i ≤ 255 * 256 ^ i := Int.mul_le_mul_of_nonneg_right (by omega) (Int.le_of_lt h2)
  omega
theorem or_byte (v b : Int) (i : Nat) (h : i ≤ 7) (hv : 0 ≤ v ∧ v < 256 ^ i) (hb : 0 ≤ b ∧ b < 256) : Go.bits .or .u64 v (b * 256 ^ i) = v + b * 256 ^ i := by
  have h1 := pow256_le (i := i + 1) (by omega)
  rw [pow_succ256] at h1
  have h2 := pow_pos256 i
  have h3 : b * 256 ^ i ≤ 255 * 256 ^ i := Int.mul_le_mul_of_nonneg_right (by omega) (Int.le_of_lt h2)
  have h4 : 0 ≤ b * 256 ^ i := Int.mul_nonneg hb.1 (Int.le_of_lt h2)
  rw [u64_or _ _ hv.1 (by omega) h4 (by omega)]
  obtain ⟨v, rfl⟩ := Int.eq_ofNat_of_zero_le hv.1
  obtain ⟨b, rfl⟩ := Int.eq_ofNat_of_zero_le hb.1
  have e : ((b : Int) * 256 ^ i) = ((b * 256 ^ i : Nat) : Int) := by rw [Int.natCast_mul, Int.natCast_pow]; rfl
  have hv2 : v < 2 ^ (8 * i) := by
    have := hv.2
    rw [Nat.pow_mul]
    have e2 : ((256 : Int) ^ i) = (((2 ^ 8) ^ i : Nat) : Int) := by rw [Int.natCast_pow]; rfl
    rw [e2] at this
    exact Int.ofNat_lt.1 this
  rw [e, Int.toNat_natCast, Int.toNat_natCast, Nat.or_comm, nat_join (8 * i) (b * 256 ^ i) v (by rw [Nat.pow_mul]; exact Nat.mul_mod_left _ _) hv2]
  omega
theorem le_drop : ∀ (K i : Nat) (n : Int), i < K → (le n K).drop i = (n / 256 ^ i % 256) :: (le n K).drop (i + 1)
  | 0, i, n, h => by omega
  | K + 1, 0, n, h => by simp [le]
  | K + 1, i + 1, n, h => by
    simp only [le, List.drop_succ_cons]
    rw [le_drop K i _ (by omega), pow_succ256, Int.ediv_ediv_of_nonneg (by decide)]
theorem put_l0 (n : Int) (K : Nat) (hK : K ≤ 8) : ∀ (d k i : Nat) (x : List Int), i + d = K → d < k → x.length + d ≤ 140737488355327 → octet_Put.l0 k n x K i = some (x ++ (le n K).drop i)
  | 0, k + 1, i, x, h, _, _ => by
    simp only [octet_Put.l0]
    rw [if_neg (by omega), List.drop_eq_nil_of_le (by rw [le_length]; omega), List.append_nil]
  | d + 1, k + 1, i, x, h, hk, hl => by
    simp only [octet_Put.l0]
    have e1 : wrap64 (8 * (i : Int)) = 8 * (i : Int) := w64 (by omega) (by omega)
    have e2 : wrap64 ((i : Int) + 1) = ((i + 1 : Nat) : Int) := by rw [w64 (by omega) (by omega)]; rfl
    rw [if_pos (by omega), e1, if_pos (by omega), if_pos (by omega), shr_byte n i (by omega), e2,
      put_l0 n K hK d k (i + 1) _ (by omega) (by omega) (by simp; omega), le_drop K i n (by omega)]
    simp
theorem rput_l0 (n : Int) (K : Nat) (hK : K ≤ 8) : ∀ (d k i : Nat) (x : List Int), i + d = K → d < k → x.length + d ≤ 140737488355327 → careenageref01_Put.l0 k n K x i = some (x ++ (le n K).drop i)
  | 0, k + 1, i, x, h, _, _ => by
    simp only [careenageref01_Put.l0]
    rw [if_neg (by omega), List.drop_eq_nil_of_le (by rw [le_length]; omega), List.append_nil]
  | d + 1, k + 1, i, x, h, hk, hl => by
    simp only [careenageref01_Put.l0]
    have e1 : IntKind.u64.wrap (wrap64 (8 * (i : Int))) = 8 * (i : Int) := by rw [w64 (by omega) (by omega), u64w (by omega) (by omega)]
    have e2 : wrap64 ((i : Int) + 1) = ((i + 1 : Nat) : Int) := by rw [w64 (by omega) (by omega)]; rfl
    rw [if_pos (by omega), e1, if_pos (by omega), if_pos (by omega), shr_byte n i (by omega), e2,
      rput_l0 n K hK d k (i + 1) _ (by omega) (by omega) (by simp; omega), le_drop K i n (by omega)]
    simp
/-- What Put answers. -/
def putL (l : List Int) (n K : Int) : List Int := if 1 ≤ K ∧ K ≤ 8 then l ++ le n K.toNat else l
theorem put_is (k : Nat) (l : List Int) (n K : Int) (hk : 12 ≤ k) (hl : l.length ≤ 140737488355000) : octet_Put.f k l n K = some (putL l n K) := by
  obtain ⟨k, rfl⟩ : ∃ m, k = m + 2 := ⟨k - 2, by omega⟩
  unfold octet_Put.f putL
  have e1 : wrap64 ((l.length : Int) + 8) = (l.length : Int) + 8 := w64 (by omega) (by omega)
  rw [e1, if_pos (by omega), if_pos (by omega)]
  simp only [bs, List.nil_append]
  rw [if_pos (by simp; omega)]
  by_cases h1 : K < 1
  · rw [if_pos h1, if_neg (by omega)]
    simp [octet_Put.j0]
  · rw [if_neg h1]
    by_cases h2 : K > 8
    · rw [if_neg (by omega)]
      simp [octet_Put.j0, h2]
    · rw [if_pos (by omega)]
      obtain ⟨K, rfl⟩ := Int.eq_ofNat_of_zero_le (show 0 ≤ K by omega)
      simp only [octet_Put.j0, h2, decide_false]
      rw [if_neg (by decide), show (0 : Int) = ((0 : Nat) : Int) from rfl, put_l0 n K (by omega) K (k + 1) 0 l (by omega) (by omega) (by omega)]
      simp
theorem rput_is (k : Nat) (l : List Int) (n K : Int) (hk : 12 ≤ k) (hl : l.length ≤ 140737488355000) : careenageref01_Put.f k l n K = some (putL l n K) := by
  obtain ⟨k, rfl⟩ : ∃ m, k = m + 2 := ⟨k - 2, by omega⟩
  unfold careenageref01_Put.f putL
  simp only [bs, List.nil_append]
  rw [if_pos (by simp; omega)]
  by_cases h1 : K < 1
  · rw [if_pos h1, if_neg (by omega)]
    simp [careenageref01_Put.j0]
  · rw [if_neg h1]
    by_cases h2 : K > 8
    · rw [if_neg (by omega)]
      simp [careenageref01_Put.j0, h2]
    · rw [if_pos (by omega)]
      obtain ⟨K, rfl⟩ := Int.eq_ofNat_of_zero_le (show 0 ≤ K by omega)
      simp only [careenageref01_Put.j0, h2, decide_false]
      rw [if_neg (by decide), show (0 : Int) = ((0 : Nat) : Int) from rfl, rput_l0 n K (by omega) K (k + 1) 0 l (by omega) (by omega) (by omega)]
      simp

end Go.Proofs.Ytlkfcabklaaacaa.Q

namespace Go.Proofs.Ytlkfcabklaaacaa.Q
set_option linter.unusedVariables false
set_option linter.unusedSimpArgs false
open Go.RowKit Go.Proofs.Ytlkfcabklaaacaa.P Go.Proofs.YtlkfcabklaaacaaW.PrintWords Go.Proofs.YtlkfcabklaaacaaW.PrintLast Go.Proofs.YtlkfcabklaaacaaW.PrintMore Go.Proofs.YtlkfcabklaaacaaO

def numL (x : Int) : List Int := le (IntKind.u64.wrap x) 4
theorem numL_length (x : Int) : (numL x).length = 4 := le_length 4 _
theorem put4 (l : List Int) (n : Int) : putL l n 4 = l ++ le n 4 := by
  unfold putL
  rw [if_pos (by decide)]
  rfl
theorem drop_rd (l : List Int) (i : Nat) (h : i < l.length) : l.drop i = rd l (i : Int) :: l.drop (i + 1) := by
  rw [rd_get h]
  exact List.drop_eq_getElem_cons h
theorem page_loop (s n nx tx : Int) (l : List Int) (hl : l.length < 1000000) : ∀ (d i k : Nat) (acc : List Int), i + d = l.length → d + 13 ≤ k → acc.length + 4 * d ≤ 8000000 →
    free_Page.l0 k s n nx tx l acc l (l.length : Int) (i : Int) = (frame_Body.f s (acc ++ (l.drop i).flatMap numL)).bind fun bt => some (6, (l.length : Int), n, nx, tx, bt.1, 0)
  | d, i, 0, acc, _, h, _ => by omega
  | 0, i, k + 1, acc, hi, hk, ha => by
    rw [free_Page.l0, if_neg (by omega), List.drop_of_length_le (by omega), List.flatMap_nil, List.append_nil]
  | d + 1, i, k + 1, acc, hi, hk, ha => by
    have hw2 : wrap64 ((i : Int) + 1) = ((i + 1 : Nat) : Int) := by unfold wrap64; omega
    rw [free_Page.l0, if_pos (by omega), if_pos (by omega), if_pos (by omega), put_is k acc _ 4 (by omega) (by omega), bs, put4, hw2,
      page_loop s n nx tx l hl d (i + 1) k _ (by omega) (by omega) (by rw [List.length_append, le_length]; omega), drop_rd l i (by omega), List.flatMap_cons, List.append_assoc]
    rfl
theorem rpage_loop (s n nx tx : Int) (l : List Int) (hl : l.length < 1000000) : ∀ (d i k : Nat) (acc : List Int), i + d = l.length → d + 13 ≤ k → acc.length + 4 * d ≤ 8000000 →
    careenageref10_Page.l0 k s n nx tx l acc (i : Int) = (careenageref04_Body.f s (acc ++ (l.drop i).flatMap numL)).bind fun bt => some (6, (l.length : Int), n, nx, tx, bt.1, 0)
  | d, i, 0, acc, _, h, _ => by omega
  | 0, i, k + 1, acc, hi, hk, ha => by
    rw [careenageref10_Page.l0, if_neg (by omega), List.drop_of_length_le (by omega), List.flatMap_nil, List.append_nil]
  | d + 1, i, k + 1, acc, hi, hk, ha => by
    have hw2 : wrap64 ((i : Int) + 1) = ((i + 1 : Nat) : Int) := by unfold wrap64; omega
    rw [careenageref10_Page.l0, if_pos (by omega), if_pos (by omega), rput_is k acc _ 4 (by omega) (by omega), bs, put4, hw2,
      rpage_loop s n nx tx l hl d (i + 1) k _ (by omega) (by omega) (by rw [List.length_append, le_length]; omega), drop_rd l i (by omega), List.flatMap_cons, List.append_assoc]
    rfl
theorem nums_length (l : List Int) : (l.flatMap numL).length = 4 * l.length := by
  induction l with
  | nil => rfl
  | cons x l ih =>
    rw [List.flatMap_cons, List.length_append, numL_length, ih, List.length_cons]
    omega
/-- The bytes, and zeros behind them, as many as there is room for. -/
def padS (m : Int) (l : List Int) : ByteArray := strOfNums (l ++ List.replicate (m.toNat - l.length) 0)
theorem body_is (s : Int) (l : List Int) (hg : goodS s = true) (hl : (l.length : Int) ≤ roomS s) : frame_Body.f s l = some (padS (roomS s) l, 0) := by
  have hr := roomS_range s
  unfold frame_Body.f padded padS
  rw [good_is, bs, if_pos hg, room_is, bs, if_neg (by omega), if_pos (by omega)]
  rw [show min l.length (roomS s).toNat = l.length by omega, List.take_length, List.drop_replicate]
theorem strOfNums_append (l m : List Int) : strOfNums (l ++ m) = strOfNums l ++ strOfNums m := by
  apply ByteArray.ext
  simp [strOfNums, ByteArray.data_append]
theorem rbody_is (s : Int) (l : List Int) (hg : goodS s = true) (hl : (l.length : Int) ≤ roomS s) : careenageref04_Body.f s l = some (padS (roomS s) l, 0) := by
  have hr := roomS_range s
  have hw : wrap64 (roomS s - (l.length : Int)) = roomS s - (l.length : Int) := by unfold wrap64; omega
  unfold careenageref04_Body.f padS
  rw [rgood_is, bs, if_pos hg, rroom_is, bs, if_neg (by omega), bs, hw, if_pos (by omega), if_pos (by omega), bs, if_pos (by rw [size_str, size_str, List.length_replicate]; omega),
    show (roomS s - (l.length : Int)).toNat = (roomS s).toNat - l.length by omega, strOfNums_append]
def okS (s n nx tx : Int) (l : List Int) : Bool := goodS s && (numsB l && riseB l) && decide ((l.length : Int) ≤ mostS s) && numB n && (decide (nx = 0) || numB nx) && decide (tx ≤ 4611686018427387904)
def pageS (s n nx tx : Int) (l : List Int) : Int × Int × Int × Int × Int × ByteArray × Int := if okS s n nx tx l = true then (6, (l.length : Int), n, nx, tx, padS (roomS s) (l.flatMap numL), 0) else (0, 0, 0, 0, 0, (⟨#[]⟩ : ByteArray), 2)
theorem most_len (s : Int) (l : List Int) (h : (l.length : Int) ≤ mostS s) : ((l.flatMap numL).length : Int) ≤ roomS s := by
  rw [nums_length]
  unfold mostS at h
  omega
theorem page_end (k : Nat) (s n nx tx : Int) (l : List Int) (b : Bool) (hl : l.length < 1000000) (hk : l.length + 14 ≤ k) (hg : goodS s = true) (hm : (l.length : Int) ≤ mostS s) :
    free_Page.j0 k s n nx tx l b = some (if b = true then (0, 0, 0, 0, 0, (⟨#[]⟩ : ByteArray), 2) else (6, (l.length : Int), n, nx, tx, padS (roomS s) (l.flatMap numL), 0)) := by
  obtain ⟨k, rfl⟩ : ∃ j, k = j + 1 := ⟨k - 1, by omega⟩
  rw [free_Page.j0]
  cases b with
  | true => rw [if_pos rfl, if_pos rfl]
  | false =>
    rw [if_neg (by decide), if_neg (by decide), show (0 : Int) = ((0 : Nat) : Int) from rfl, page_loop s n nx tx l hl l.length 0 k [] (by omega) (by omega) (by simp; omega), List.drop_zero, List.nil_append, body_is s _ hg (most_len s l hm), bs]
    rfl
theorem page_bad (k : Nat) (s n nx tx : Int) (l : List Int) (hk : 0 < k) : free_Page.j0 k s n nx tx l true = some (0, 0, 0, 0, 0, (⟨#[]⟩ : ByteArray), 2) := by
  obtain ⟨k, rfl⟩ : ∃ j, k = j + 1 := ⟨k - 1, by omega⟩
  rw [free_Page.j0, if_pos rfl]
theorem page_is (k : Nat) (s n nx tx : Int) (l : List Int) (hl : l.length < 1000000) (hk : 2 * l.length + 14 ≤ k) : free_Page.f k s n nx tx l = some (pageS s n nx tx l) := by
  have hbad := page_bad k s n nx tx l (by omega)
  have hnot : okS s n nx tx l = false → some (pageS s n nx tx l) = some (0, 0, 0, 0, 0, (⟨#[]⟩ : ByteArray), 2) := fun h => by
    unfold pageS
    rw [h, if_neg (by decide)]
  unfold free_Page.f
  rw [most_is, bs]
  by_cases h0 : mostS s = 0
  · rw [if_pos h0, hbad, hnot (by unfold okS; simp [(mostS_zero s).1 h0])]
  · have hg : goodS s = true := by
      cases hq : goodS s with
      | true => rfl
      | false => exact absurd ((mostS_zero s).2 hq) h0
    rw [if_neg h0, bs]
    by_cases h1 : (l.length : Int) > mostS s
    · rw [if_pos h1, hbad, hnot (by unfold okS; simp [show ¬ ((l.length : Int) ≤ mostS s) by omega])]
    · rw [if_neg h1, rises_is l (by omega) k (by omega) (by omega), bs]
      cases h2 : riseB l with
      | false => rw [if_neg (by decide), hbad, hnot (by unfold okS; simp [h2])]
      | true =>
        rw [if_pos rfl, contains_is l (by omega) k (by omega), bs]
        cases h3 : numsB l with
        | false => rw [Bool.not_false, if_pos rfl, hbad, hnot (by unfold okS; simp [h3])]
        | true =>
          rw [Bool.not_true, if_neg (by decide), odd_is, bs]
          cases h4 : numB n with
          | false => rw [Bool.not_false, if_pos rfl, hbad, hnot (by unfold okS; simp [h4])]
          | true =>
            rw [Bool.not_true, if_neg (by decide)]
            have hend := page_end k s n nx tx l (decide (tx > 4611686018427387904)) hl (by omega) hg (by omega)
            by_cases h5 : nx = 0
            · rw [if_pos h5, hend]
              congr 1
              unfold pageS okS
              by_cases h6 : tx > 4611686018427387904
              · simp [h6, show ¬ (tx ≤ 4611686018427387904) by omega]
              · simp [h6, show tx ≤ 4611686018427387904 by omega, hg, h2, h3, h4, h5, show (l.length : Int) ≤ mostS s by omega]
            · rw [if_neg h5, odd_is, bs]
              cases h7 : numB nx with
              | false => rw [Bool.not_false, if_pos rfl, hbad, hnot (by unfold okS; simp [h5, h7])]
              | true =>
                rw [Bool.not_true, if_neg (by decide), hend]
                congr 1
                unfold pageS okS
                by_cases h6 : tx > 4611686018427387904
                · simp [h6, show ¬ (tx ≤ 4611686018427387904) by omega]
                · simp [h6, show tx ≤ 4611686018427387904 by omega, hg, h2, h3, h4, h7, show (l.length : Int) ≤ mostS s by omega]
theorem rpage_end (k : Nat) (s n nx tx : Int) (l : List Int) (b : Bool) (hl : l.length < 1000000) (hk : l.length + 14 ≤ k) (hg : goodS s = true) (hm : (l.length : Int) ≤ mostS s) :
    careenageref10_Page.j0 k s n nx tx l b = some (if b = true then (0, 0, 0, 0, 0, (⟨#[]⟩ : ByteArray), 2) else (6, (l.length : Int), n, nx, tx, padS (roomS s) (l.flatMap numL), 0)) := by
  obtain ⟨k, rfl⟩ : ∃ j, k = j + 1 := ⟨k - 1, by omega⟩
  rw [careenageref10_Page.j0]
  cases b with
  | true => rw [if_pos rfl, if_pos rfl]
  | false =>
    rw [if_neg (by decide), if_neg (by decide), show (0 : Int) = ((0 : Nat) : Int) from rfl, rpage_loop s n nx tx l hl l.length 0 k [] (by omega) (by omega) (by simp; omega), List.drop_zero, List.nil_append, rbody_is s _ hg (most_len s l hm), bs]
    rfl
theorem rpage_bad (k : Nat) (s n nx tx : Int) (l : List Int) (hk : 0 < k) : careenageref10_Page.j0 k s n nx tx l true = some (0, 0, 0, 0, 0, (⟨#[]⟩ : ByteArray), 2) := by
  obtain ⟨k, rfl⟩ : ∃ j, k = j + 1 := ⟨k - 1, by omega⟩
  rw [careenageref10_Page.j0, if_pos rfl]
theorem rpage_is (k : Nat) (s n nx tx : Int) (l : List Int) (hl : l.length < 1000000) (hk : 2 * l.length + 14 ≤ k) : careenageref10_Page.f k s n nx tx l = some (pageS s n nx tx l) := by
  have hbad := rpage_bad k s n nx tx l (by omega)
  have hnot : okS s n nx tx l = false → some (pageS s n nx tx l) = some (0, 0, 0, 0, 0, (⟨#[]⟩ : ByteArray), 2) := fun h => by
    unfold pageS
    rw [h, if_neg (by decide)]
  unfold careenageref10_Page.f
  rw [rgood_is, bs]
  cases hg : goodS s with
  | false => rw [if_neg (by decide), hbad, hnot (by unfold okS; simp [hg])]
  | true =>
    rw [if_pos rfl, rnums_is l (by omega) k (by omega), bs]
    cases h2 : numsB l && riseB l with
    | false => rw [if_neg (by decide), hbad, hnot (by unfold okS; simp only [h2]; simp)]
    | true =>
      rw [if_pos rfl, rmost_is, bs]
      by_cases h1 : (l.length : Int) > mostS s
      · rw [if_pos h1, hbad, hnot (by unfold okS; simp [show ¬ ((l.length : Int) ≤ mostS s) by omega])]
      · rw [if_neg h1, rnumber_is, bs]
        cases h4 : numB n with
        | false => rw [if_neg (by decide), hbad, hnot (by unfold okS; simp [h4])]
        | true =>
          rw [if_pos rfl]
          have hend := rpage_end k s n nx tx l (decide (tx > 4611686018427387904)) hl (by omega) hg (by omega)
          by_cases h5 : nx = 0
          · rw [if_pos h5, hend]
            congr 1
            unfold pageS okS
            by_cases h6 : tx > 4611686018427387904
            · simp [h6, show ¬ (tx ≤ 4611686018427387904) by omega]
            · simp only [h2]
              simp [h6, show tx ≤ 4611686018427387904 by omega, hg, h4, h5, show (l.length : Int) ≤ mostS s by omega]
          · rw [if_neg h5, rnumber_is, bs]
            cases h7 : numB nx with
            | false => rw [if_neg (by decide), hbad, hnot (by unfold okS; simp [h5, h7])]
            | true =>
              rw [if_pos rfl, hend]
              congr 1
              unfold pageS okS
              by_cases h6 : tx > 4611686018427387904
              · simp [h6, show ¬ (tx ≤ 4611686018427387904) by omega]
              · simp only [h2]
                simp [h6, show tx ≤ 4611686018427387904 by omega, hg, h4, h7, show (l.length : Int) ≤ mostS s by omega]

end Go.Proofs.Ytlkfcabklaaacaa.Q

namespace Go.Proofs.Ytlkfcabklaaacaa.Q
set_option linter.unusedVariables false
set_option linter.unusedSimpArgs false
open Go.RowKit Go.Proofs.Ytlkfcabklaaacaa.P Go.Proofs.YtlkfcabklaaacaaW.PrintWords Go.Proofs.YtlkfcabklaaacaaW.PrintLast Go.Proofs.YtlkfcabklaaacaaW.PrintMore Go.Proofs.YtlkfcabklaaacaaO

def zeroL (l : List Int) : Bool := l.all (· == 0)
theorem B_size (s : ByteArray) : (s.size : Int) = ((B s).length : Int) := by rw [B_length]
theorem bt_get {s : ByteArray} {i : Nat} (h : i < (B s).length) : bt s (i : Int) = (B s)[i] := by rw [bt_B, rd_get h]
/-- What Bytes answers. -/
def bytesR (s : ByteArray) (n : Int) : ByteArray × Int × ByteArray :=
  if n < 0 then (⟨#[]⟩, 2, s) else if n > (s.size : Int) then (⟨#[]⟩, 7, s) else (s.extract 0 n.toNat, 0, s.extract n.toNat s.size)
/-- What Number answers. -/
def numR (s : ByteArray) (n : Int) : Int × Int × ByteArray :=
  if n < 1 ∨ n > 8 then (0, 2, s) else if (s.size : Int) < n then (0, 7, s) else (ofLe ((B s).take n.toNat), 0, s.extract n.toNat s.size)
theorem ofLe_step {l : List Int} (hl : isB l) {i : Nat} (hi : i < l.length) (h8 : i ≤ 7) : Go.bits .or .u64 (ofLe (l.take i)) (shl .u64 (IntKind.u64.wrap l[i]) (8 * (i : Int))) = ofLe (l.take (i + 1)) := by
  have hb := hl l[i] (List.getElem_mem hi)
  have hv := ofLe_lt (isB_take hl i)
  rw [List.length_take, Nat.min_eq_left (by omega)] at hv
  rw [u64w hb.1 (by omega), shl_byte _ _ h8 hb, or_byte _ _ _ h8 ⟨ofLe_nonneg (isB_take hl i), hv⟩ hb, List.take_succ_eq_append_getElem hi, ofLe_snoc, List.length_take, Nat.min_eq_left (by omega)]
theorem num_l0 (s x : ByteArray) (e : Int) (hx : x.size ≤ 8) : ∀ (d k i : Nat), i + d = x.size → d < k → octet_Reader_Number.l0 k (ofLe ((B x).take i)) e x (x.size : Int) i s = some (ofLe (B x), e, s)
  | 0, k + 1, i, h, _ => by
    simp only [octet_Reader_Number.l0]
    rw [if_neg (by omega), List.take_of_length_le (by rw [B_length]; omega)]
  | d + 1, k + 1, i, h, hk => by
    have hi : i < (B x).length := by rw [B_length]; omega
    simp only [octet_Reader_Number.l0]
    rw [if_pos (by omega), if_pos (by omega), if_pos (by omega), w64 (x := 8 * (i : Int)) (by omega) (by omega), if_pos (by omega), bt_get hi, ofLe_step (isB_B x) hi (by omega), w64 (by omega) (by omega)]
    exact num_l0 s x e hx d k (i + 1) (by omega) (by omega)
theorem num_is (s : ByteArray) (n : Int) (k : Nat) (hk : 9 < k) : octet_Reader_Number.f k s n = some (numR s n) := by
  unfold octet_Reader_Number.f numR
  by_cases h1 : n < 1
  · rw [if_pos h1, if_pos (.inl h1)]
  · rw [if_neg h1]
    by_cases h2 : n > 8
    · rw [if_pos h2, if_pos (.inr h2)]
    · rw [if_neg h2, if_neg (by omega)]
      unfold octet_Reader_take.f
      by_cases h3 : n > (s.size : Int)
      · rw [if_pos h3, if_pos h3]
        simp only [bs]
        have := num_l0 s ⟨#[]⟩ 7 (by decide) 0 k 0 rfl (by omega)
        simpa [B_empty, ofLe] using this
      · rw [if_neg h3, if_neg h3, if_pos (by omega), if_pos (by omega)]
        simp only [bs]
        have hsz : (s.extract 0 n.toNat).size = n.toNat := by rw [ByteArray.size_extract]; omega
        have := num_l0 (s.extract n.toNat s.size) (s.extract 0 n.toNat) 0 (by omega) n.toNat k 0 (by omega) (by omega)
        rw [B_take] at this
        simpa [ofLe] using this

end Go.Proofs.Ytlkfcabklaaacaa.Q

namespace Go.Proofs.Ytlkfcabklaaacaa.P
open Go.RowKit Go.Proofs.YtlkfcabklaaacaaW.PrintWords Go.Proofs.YtlkfcabklaaacaaW.PrintLast Go.Proofs.YtlkfcabklaaacaaW.PrintMore
attribute [local go_sem] max2_int min2_int max_two min_two max_three min_three max_four min_four   -- for this text's walks alone
open Go.Proofs.YtlkfcabklaaacaaO
attribute [local go_sem] min2_str max2_str
set_option linter.unusedVariables false
set_option linter.unusedSimpArgs false

/-! ### careenagekit_Pick: function 18 -/
def careenagekit_Pick.f (a0 : Int) (a1 : Int) : Option (Int) := if a1 < 1 then (some 0) else (if a1 = 0 then (none) else (if (Int.tmod a0 a1) < 0 then (some (wrap64 ((Int.tmod a0 a1) + a1))) else (some (Int.tmod a0 a1))))
set_option maxHeartbeats 8000000 in
set_option maxRecDepth 100000 in
theorem careenagekit_Pick.calls (a0 : Int) (a1 : Int) (r : Int) (w : World) (h : careenagekit_Pick.f a0 a1 = some r) :
    Calls Try.prog 18 #[.int .i64 a0, .int .i64 a1] w fun e w' => e = .returned (.int .i64 r) ∧ Drawn0 w w' := by
  have H : (if a1 < 1 then (some 0) else (if a1 = 0 then (none) else (if (Int.tmod a0 a1) < 0 then (some (wrap64 ((Int.tmod a0 a1) + a1))) else (some (Int.tmod a0 a1))))) = some r := h
  clear h
  by_cases c3 : a1 < 1
  · rw [if_pos c3] at H
    have c3b0 : decide (a1 < 1) = true := decide_eq_true c3
    clear c3
    obtain rfl := Option.some.inj H
    go_enter Try.func18, Try.ntmps18
    go_wp2
    go_ret
    exact ⟨by first | rfl | (simp; done) | (simp [*]; done), by repeat (first | exact Drawn0.refl _ | apply Drawn0.step)⟩
  · rw [if_neg c3] at H
    have c3b0 : decide (a1 < 1) = false := decide_eq_false c3
    clear c3
    by_cases c4 : a1 = 0
    · rw [if_pos c4] at H
      exact absurd H (by simp)
    · rw [if_neg c4] at H
      have c4b0 : (a1 == 0) = false := beq_eq_false_iff_ne.mpr c4
      have c4b1 : (a1 != 0) = true := bne_iff_ne.mpr c4
      by_cases c5 : (Int.tmod a0 a1) < 0
      · rw [if_pos c5] at H
        have c5b0 : decide ((Int.tmod a0 a1) < 0) = true := decide_eq_true c5
        clear c5
        obtain rfl := Option.some.inj H
        go_enter Try.func18, Try.ntmps18
        go_wp2
        go_ret
        exact ⟨by first | rfl | (simp; done) | (simp [*]; done), by repeat (first | exact Drawn0.refl _ | apply Drawn0.step)⟩
      · rw [if_neg c5] at H
        have c5b0 : decide ((Int.tmod a0 a1) < 0) = false := decide_eq_false c5
        clear c5
        obtain rfl := Option.some.inj H
        go_enter Try.func18, Try.ntmps18
        go_wp2
        go_ret
        exact ⟨by first | rfl | (simp; done) | (simp [*]; done), by repeat (first | exact Drawn0.refl _ | apply Drawn0.step)⟩

end Go.Proofs.Ytlkfcabklaaacaa.P

namespace Go.Proofs.Ytlkfcabklaaacaa.P
open Go.RowKit Go.Proofs.YtlkfcabklaaacaaW.PrintWords Go.Proofs.YtlkfcabklaaacaaW.PrintLast Go.Proofs.YtlkfcabklaaacaaW.PrintMore
attribute [local go_sem] max2_int min2_int max_two min_two max_three min_three max_four min_four   -- for this text's walks alone
open Go.Proofs.YtlkfcabklaaacaaO
attribute [local go_sem] min2_str max2_str
set_option linter.unusedVariables false
set_option linter.unusedSimpArgs false

/-! ### careenageref01_Reader_Bytes: function 73 -/
def careenageref01_Reader_Bytes.f (s0_0 : ByteArray) (a1 : Int) : Option (ByteArray × Int × ByteArray) := if a1 < 0 then (some ((⟨#[]⟩ : ByteArray), 2, s0_0)) else (if (s0_0.size : Int) < a1 then (some ((⟨#[]⟩ : ByteArray), 7, s0_0)) else (if 0 ≤ a1 then (if a1 ≤ (s0_0.size : Int) then (some (s0_0.extract 0 (a1 : Int).toNat, 0, s0_0.extract (a1 : Int).toNat s0_0.size)) else (none)) else (none)))
set_option maxHeartbeats 8000000 in
set_option maxRecDepth 100000 in
theorem careenageref01_Reader_Bytes.calls (g : Nat) (s0_0 : ByteArray) (a1 : Int) (r1 : ByteArray) (r2 : Int) (r3 : ByteArray) (w0 w : World) (hI : IsS96 w0 w g s0_0) (hB : Below w0.heap.size w0 w) (h : careenageref01_Reader_Bytes.f s0_0 a1 = some (r1, r2, r3)) :
    Calls Try.prog 73 #[.pointer (some ⟨g, 0, none⟩), .int .i64 a1] w fun e w' => e = .returned (.tuple #[.string r1, .int .i64 r2]) ∧ IsS96 w0 w' g r3 ∧ Below w0.heap.size w0 w' ∧ KeepBut w w' g none := by
  have HI0 := Aside0.mk hI
  have HK := Aside0.mk (KeepBut.refl w g none)
  have HL := Aside0.mk hB.size
  clear hI
  have HW0 := Aside0.mk hB.size
  have HB := Aside0.mk hB
  clear hB
  have H : (if a1 < 0 then (some ((⟨#[]⟩ : ByteArray), 2, s0_0)) else (if (s0_0.size : Int) < a1 then (some ((⟨#[]⟩ : ByteArray), 7, s0_0)) else (if 0 ≤ a1 then (if a1 ≤ (s0_0.size : Int) then (some (s0_0.extract 0 (a1 : Int).toNat, 0, s0_0.extract (a1 : Int).toNat s0_0.size)) else (none)) else (none)))) = some (r1, r2, r3) := h
  clear h
  by_cases c3 : a1 < 0
  · rw [if_pos c3] at H
    have c3b0 : decide (a1 < 0) = true := decide_eq_true c3
    clear c3
    simp only [Option.some.injEq, Prod.mk.injEq] at H
    obtain ⟨rfl, rfl, rfl⟩ := H
    go_enter Try.func73, Try.ntmps73
    go_wp2
    go_ret2
    exact ⟨by first | rfl | (simp [errW_none, errW_some] <;> rfl) | (simp [*, errW_none, errW_some] <;> rfl), by repeat (first | (with_reducible first | exact HI0.out | apply IsS96.alloc | apply IsS96.drewN | apply IsS96.drew | apply IsS96.set_0) | exact HI0.out), by repeat (first | (with_reducible first | exact HB.out | apply below_alloc | apply pw_below_drewN | apply below_drew1 | refine below_set ?_ (IsS96.ge HI0.out)) | exact HB.out), by repeat (first | (with_reducible first | exact HK.out | apply KeepBut.set_ | apply keep_drewN | apply keep_drew | apply keep_alloc) | exact HK.out)⟩
  · rw [if_neg c3] at H
    have c3b0 : decide (a1 < 0) = false := decide_eq_false c3
    clear c3
    by_cases c4 : (s0_0.size : Int) < a1
    · rw [if_pos c4] at H
      have c4b0 : decide ((s0_0.size : Int) < a1) = true := decide_eq_true c4
      clear c4
      simp only [Option.some.injEq, Prod.mk.injEq] at H
      obtain ⟨rfl, rfl, rfl⟩ := H
      obtain ⟨HGz5, hgz5⟩ := HI0.out
      have hcz5_0 := cellS96_0 HGz5
      have hfz5_0 := blk_frozen HGz5 0
      clear HGz5 hgz5
      go_enter Try.func73, Try.ntmps73
      go_wp2
      go_ret2
      exact ⟨by first | rfl | (simp [errW_none, errW_some] <;> rfl) | (simp [*, errW_none, errW_some] <;> rfl), by repeat (first | (with_reducible first | exact HI0.out | apply IsS96.alloc | apply IsS96.drewN | apply IsS96.drew | apply IsS96.set_0) | exact HI0.out), by repeat (first | (with_reducible first | exact HB.out | apply below_alloc | apply pw_below_drewN | apply below_drew1 | refine below_set ?_ (IsS96.ge HI0.out)) | exact HB.out), by repeat (first | (with_reducible first | exact HK.out | apply KeepBut.set_ | apply keep_drewN | apply keep_drew | apply keep_alloc) | exact HK.out)⟩
    · rw [if_neg c4] at H
      have c4b0 : decide ((s0_0.size : Int) < a1) = false := decide_eq_false c4
      clear c4
      by_cases c6 : 0 ≤ a1
      · rw [if_pos c6] at H
        have c6b0 := eq_true c6
        have c6b1 : decide (0 ≤ a1) = true := decide_eq_true c6
        clear c6
        by_cases c7 : a1 ≤ (s0_0.size : Int)
        · rw [if_pos c7] at H
          have c7b0 := eq_true c7
          have c7b1 : decide (a1 ≤ (s0_0.size : Int)) = true := decide_eq_true c7
          clear c7
          have c8b0 := eq_true (of_decide_eq_true (by first | (with_reducible assumption) | assumption) : 0 ≤ a1)
          have c9b0 := eq_true (of_decide_eq_true (by first | (with_reducible assumption) | assumption) : a1 ≤ (s0_0.size : Int))
          simp only [Option.some.injEq, Prod.mk.injEq] at H
          obtain ⟨rfl, rfl, rfl⟩ := H
          obtain ⟨HGz10, hgz10⟩ := HI0.out
          have hcz10_0 := cellS96_0 HGz10
          have hfz10_0 := blk_frozen HGz10 0
          clear HGz10 hgz10
          go_enter Try.func73, Try.ntmps73
          go_wp2
          go_ret2
          exact ⟨by first | rfl | (simp [errW_none, errW_some] <;> rfl) | (simp [*, errW_none, errW_some] <;> rfl), by repeat (first | (with_reducible first | exact HI0.out | apply IsS96.alloc | apply IsS96.drewN | apply IsS96.drew | apply IsS96.set_0) | exact HI0.out), by repeat (first | (with_reducible first | exact HB.out | apply below_alloc | apply pw_below_drewN | apply below_drew1 | refine below_set ?_ (IsS96.ge HI0.out)) | exact HB.out), by repeat (first | (with_reducible first | exact HK.out | apply KeepBut.set_ | apply keep_drewN | apply keep_drew | apply keep_alloc) | exact HK.out)⟩
        · rw [if_neg c7] at H
          exact absurd H (by simp)
      · rw [if_neg c6] at H
        exact absurd H (by simp)

end Go.Proofs.Ytlkfcabklaaacaa.P

namespace Go.Proofs.Ytlkfcabklaaacaa.Q
set_option linter.unusedVariables false
set_option linter.unusedSimpArgs false
open Go.RowKit Go.Proofs.Ytlkfcabklaaacaa.P Go.Proofs.YtlkfcabklaaacaaW.PrintWords Go.Proofs.YtlkfcabklaaacaaW.PrintLast Go.Proofs.YtlkfcabklaaacaaW.PrintMore Go.Proofs.YtlkfcabklaaacaaO

theorem pick_is (n m : Int) (h1 : 1 ≤ m) (h2 : m ≤ 4611686018427387904) : careenagekit_Pick.f n m = some (n % m) := by
  unfold careenagekit_Pick.f
  rw [if_neg (by omega), if_neg (by omega)]
  have he := Int.tmod_eq_emod (a := n) (b := m)
  have hlt := Int.emod_lt_of_pos n (show 0 < m by omega)
  have hge := Int.emod_nonneg n (show m ≠ 0 by omega)
  by_cases h : n.tmod m < 0
  · rw [if_pos h]
    split at he
    · omega
    · rw [w64 (by omega) (by omega)]
      congr 1
      omega
  · rw [if_neg h]
    split at he
    · rw [he]; simp
    · congr 1
      omega
theorem rnum_l0 (s : ByteArray) (n : Nat) (hn : n ≤ 8) (hs : n ≤ s.size) : ∀ (d k i : Nat), i + d = n → d < k → careenageref01_Reader_Number.l0 k n (ofLe ((B s).take i)) i s = some (ofLe ((B s).take n), 0, s.extract n s.size)
  | 0, k + 1, i, h, _ => by
    simp only [careenageref01_Reader_Number.l0]
    obtain rfl : i = n := by omega
    rw [if_neg (by omega), if_pos (by omega), if_pos (by omega), Int.toNat_natCast]
  | d + 1, k + 1, i, h, hk => by
    have hi : i < (B s).length := by rw [B_length]; omega
    simp only [careenageref01_Reader_Number.l0]
    rw [if_pos (by omega), if_pos (by omega), if_pos (by omega), w64 (x := 8 * (i : Int)) (by omega) (by omega), u64w (x := 8 * (i : Int)) (by omega) (by omega), if_pos (by omega), bt_get hi, ofLe_step (isB_B s) hi (by omega), w64 (by omega) (by omega)]
    exact rnum_l0 s n hn hs d k (i + 1) (by omega) (by omega)
theorem rnum_is (s : ByteArray) (n : Int) (k : Nat) (hk : 11 < k) : careenageref01_Reader_Number.f k s n = some (numR s n) := by
  obtain ⟨k, rfl⟩ : ∃ m, k = m + 1 := ⟨k - 1, by omega⟩
  unfold careenageref01_Reader_Number.f numR
  by_cases h1 : n < 1
  · rw [if_pos h1, if_pos (.inl h1), careenageref01_Reader_Number.j0, if_pos rfl]
  · rw [if_neg h1]
    by_cases h2 : n > 8
    · rw [if_pos (.inr h2), decide_eq_true h2, careenageref01_Reader_Number.j0, if_pos rfl]
    · rw [if_neg (by omega), decide_eq_false h2, careenageref01_Reader_Number.j0, if_neg (by decide)]
      by_cases h3 : (s.size : Int) < n
      · rw [if_pos h3, if_pos h3]
      · rw [if_neg h3, if_neg h3]
        obtain ⟨n, rfl⟩ := Int.eq_ofNat_of_zero_le (show 0 ≤ n by omega)
        have := rnum_l0 s n (by omega) (by omega) n k 0 (by omega) (by omega)
        simpa [ofLe] using this
theorem rbytes_is (s : ByteArray) (n : Int) : careenageref01_Reader_Bytes.f s n = some (bytesR s n) := by
  unfold careenageref01_Reader_Bytes.f bytesR
  by_cases h1 : n < 0
  · simp [h1]
  · rw [if_neg h1, if_neg h1]
    by_cases h2 : n > (s.size : Int)
    · rw [if_pos h2, if_pos (show (s.size : Int) < n from h2)]
    · rw [if_neg h2, if_neg (show ¬ (s.size : Int) < n from h2), if_pos (by omega), if_pos (by omega)]

end Go.Proofs.Ytlkfcabklaaacaa.Q

namespace Go.Proofs.Ytlkfcabklaaacaa.Q
set_option linter.unusedVariables false
set_option linter.unusedSimpArgs false
open Go.RowKit Go.Proofs.Ytlkfcabklaaacaa.P Go.Proofs.YtlkfcabklaaacaaW.PrintWords Go.Proofs.YtlkfcabklaaacaaW.PrintLast Go.Proofs.YtlkfcabklaaacaaW.PrintMore Go.Proofs.YtlkfcabklaaacaaO

theorem same_up (l : List Int) (hl : l.length < 1000000) : ∀ (d i k : Nat), i + d = l.length → d < k → careenagekit_Same_uint32.l0 k l l (i : Int) = some true
  | d, i, 0, _, h => by omega
  | 0, i, k + 1, hi, _ => by rw [careenagekit_Same_uint32.l0, if_neg (by omega)]
  | d + 1, i, k + 1, hi, hk => by
    have hw2 : wrap64 ((i : Int) + 1) = ((i + 1 : Nat) : Int) := by unfold wrap64; omega
    rw [careenagekit_Same_uint32.l0, if_pos (by omega), if_pos (by omega), if_pos (by omega), if_pos rfl, hw2]
    exact same_up l hl d (i + 1) k (by omega) (by omega)
theorem same_is (l : List Int) (hl : l.length < 1000000) (k : Nat) (hk : l.length < k) : careenagekit_Same_uint32.f k l l = some true := by
  unfold careenagekit_Same_uint32.f
  rw [if_pos rfl]
  exact same_up l hl l.length 0 k (by omega) hk
theorem of_eq (cnt p0 p2 p3 p4 : Int) (p5 : ByteArray) : ∀ (d k : Nat) (i : Int) (acc : List Int) (s : ByteArray), s.size / 4 ≤ d → acc.length + d ≤ 2000 → d + 4100 ≤ k →
    ∃ r, free_Of.l0 k acc cnt i p0 cnt p2 p3 p4 p5 s = some r ∧ careenageref10_Of.l0 k acc i p0 cnt p2 p3 p4 p5 s = some r ∧ r.1.length ≤ 2000
  | d, 0, i, acc, s, _, _, h => by omega
  | d, k + 1, i, acc, s, hs, ha, hk => by
    rw [free_Of.l0, careenageref10_Of.l0]
    by_cases hi : i < cnt
    · rw [if_pos hi, if_pos hi, num_is s 4 k (by omega), rnum_is s 4 k (by omega), bs, bs]
      by_cases h4 : (s.size : Int) < 4
      · have hn : numR s 4 = (0, 7, s) := by unfold numR; rw [if_neg (by omega), if_pos h4]
        rw [hn]
        exact ⟨_, rfl, rfl, by simp⟩
      · have hn : numR s 4 = (ofLe ((B s).take (4 : Int).toNat), 0, s.extract (4 : Int).toNat s.size) := by unfold numR; rw [if_neg (by omega), if_neg h4]
        rw [hn]
        simp only [if_true]
        obtain ⟨d, rfl⟩ : ∃ e, d = e + 1 := ⟨d - 1, by omega⟩
        rw [if_pos (by omega), if_pos (by omega)]
        exact of_eq cnt p0 p2 p3 p4 p5 d k (wrap64 (i + 1)) _ _ (by rw [ByteArray.size_extract]; omega) (by rw [List.length_append]; simp; omega) (by omega)
    · rw [if_neg hi, if_neg hi, page_is k _ _ _ _ acc (by omega) (by omega), rpage_is k _ _ _ _ acc (by omega) (by omega), bs]
      split
      · split
        · exact ⟨_, rfl, rfl, by simp⟩
        · exact ⟨_, rfl, rfl, by simp; omega⟩
      · exact ⟨_, rfl, rfl, by simp⟩

end Go.Proofs.Ytlkfcabklaaacaa.Q

namespace Go.Proofs.Ytlkfcabklaaacaa.Pure
set_option linter.unusedVariables false
set_option linter.unusedSimpArgs false
open Go.RowKit Go.Proofs.Ytlkfcabklaaacaa.P Go.Proofs.YtlkfcabklaaacaaW.PrintWords Go.Proofs.YtlkfcabklaaacaaW.PrintLast Go.Proofs.YtlkfcabklaaacaaW.PrintMore Go.Proofs.YtlkfcabklaaacaaO Go.Proofs.Ytlkfcabklaaacaa.Q

theorem need_eq (s n : Int) (hn : -9223372036854775808 ≤ n ∧ n ≤ 9223372036854775807) : ∃ r, free_Need.f s n = some r ∧ careenageref10_Need.f s n = some r := by
  have hr := roomS_range s
  unfold free_Need.f careenageref10_Need.f
  rw [most_is, bs, rgood_is, bs]
  by_cases h0 : mostS s = 0
  · rw [if_pos h0, (mostS_zero s).1 h0, if_neg (by decide)]
    exact ⟨0, rfl, rfl⟩
  · have hg : goodS s = true := by
      cases hq : goodS s with
      | true => rfl
      | false => exact absurd ((mostS_zero s).2 hq) h0
    rw [if_neg h0, hg, if_pos rfl]
    by_cases h1 : n < 1
    · rw [if_pos h1, if_pos h1]
      exact ⟨0, rfl, rfl⟩
    · rw [if_neg h1, if_neg h1, rmost_is, bs, if_neg h0]
      exact ⟨_, rfl, by rw [Int.add_comm]⟩
theorem lives_is (k : Nat) (hk : 5 ≤ k) : careenagelaw10_lives.f k = some true := by
  unfold careenagelaw10_lives.f
  rw [most_is, bs, if_pos (by decide)]
  have h1 : free_Need.f 128 27 = some 2 := by
    unfold free_Need.f
    rw [most_is, bs]
    decide +kernel
  have h2 : riseB [1, 2] = true := by decide
  rw [h1, bs, if_pos rfl, rises_is _ (by decide) k (by simp; omega) (by omega), bs, h2]
theorem FreeCalls : careenagelaw10_FreeCalls.Pure := by
  intro a0 a1 a2 a3 l4 p0 p1 p2 p3 p4 p5 a6 w0 w1 w2 w3 wl1 wl2 wl3 w5 w6 w7 w8 w9 w10 w11
  refine ⟨9001, ?_⟩
  unfold careenagelaw10_FreeCalls.f
  rw [lives_is _ (by omega), bs, if_pos rfl]
  have hj : ∀ b : Bool, b = decide (1200 < l4.length ∨ 4200 < p5.size) → careenagelaw10_FreeCalls.j0 9001 a0 a1 a2 a3 l4 a6 b p0 p1 p2 p3 p4 p5 = some true := by
    intro b hb
    rw [careenagelaw10_FreeCalls.j0]
    cases b with
    | true => rw [if_pos rfl]
    | false =>
      rw [if_neg (by decide)]
      have hb2 := of_decide_eq_false hb.symm
      have h1 : l4.length ≤ 1200 := by omega
      have h2 : p5.size ≤ 4200 := by omega
      obtain ⟨r, hr1, hr2, hr3⟩ := of_eq p1 p0 p2 p3 p4 p5 1200 9000 0 [] p5 (by omega) (by simp) (by omega)
      have hf1 : free_Of.f 9000 p0 p1 p2 p3 p4 p5 = some r := by
        unfold free_Of.f octet_New.f
        rw [bs, hr1]
      have hf2 : careenageref10_Of.f 9000 p0 p1 p2 p3 p4 p5 = some r := by
        unfold careenageref10_Of.f careenageref01_New.f
        rw [bs, hr2]
      have hn : -9223372036854775808 ≤ a6 ∧ a6 ≤ 9223372036854775807 := by
        have h1 : IntKind.i64.min = -9223372036854775808 := rfl
        have h2 : IntKind.i64.max = 9223372036854775807 := rfl
        simp [Lit.wf, h1, h2] at w11
        omega
      obtain ⟨m, hm1, hm2⟩ := need_eq a0 a6 hn
      rw [page_is _ _ _ _ _ _ (by omega) (by omega), bs, rpage_is _ _ _ _ _ _ (by omega) (by omega), bs, hf1, bs, hf2, bs,
        if_pos (by simp), if_pos rfl, same_is _ (by omega) _ (by omega), bs, if_pos rfl, if_pos rfl, if_pos rfl, rises_is _ (by omega) _ (by omega) (by omega), bs,
        rrises_is _ (by omega) _ (by omega) (by omega), bs, if_pos (by simp), hm1, bs, hm2, bs, if_pos rfl, most_is, bs, rmost_is, bs]
      simp
  split
  · exact hj _ (by rename_i h; rw [decide_eq_true]; left; omega)
  · exact hj _ (by rename_i h; rw [decide_eq_decide]; omega)

end Go.Proofs.Ytlkfcabklaaacaa.Pure
