/- The texts that the statement's row rests on, one behind the other. -/
import Derived.Test.YtlkfcabklaaacaaMBranchBack1
import Derived.Test.YtlkfcabklaaacaaMBranchBack2
import Derived.Lib.Strings
import Derived.Lib.Bytes
import Derived.Laws.BitsAllLaws
namespace Go.Proofs.Ytlkfcabklaaacaa.P
open Go.RowKit Go.Proofs.YtlkfcabklaaacaaW.PrintWords Go.Proofs.YtlkfcabklaaacaaW.PrintLast Go.Proofs.YtlkfcabklaaacaaW.PrintMore
attribute [local go_sem] max2_int min2_int max_two min_two max_three min_three max_four min_four   -- for this text's walks alone
open Go.Proofs.YtlkfcabklaaacaaO
attribute [local go_sem] min2_str max2_str
set_option linter.unusedVariables false
set_option linter.unusedSimpArgs false
attribute [local go_sem high] eqA39
/-! ### careenagelaw07_BranchBack: function 12 -/
mutual
def careenagelaw07_BranchBack.j0 : Nat → Int → Int → Int → List (S46) → Bool → Int → Int → Int → Int → Int → ByteArray → Option (Bool)
  | 0, _, _, _, _, _, _, _, _, _, _, _ => none
  | k + 1, x0, x1, x2, x3, x29, x713000, x713001, x713002, x713003, x713004, x713005 => if x29 = true then (some true) else ((branch_Page.f k x0 x1 x2 x3).bind fun bt715 => (if bt715.2.2.2.2.2.2 = 0 then ((branch_Of.f bt715.1 bt715.2.1 bt715.2.2.1 bt715.2.2.2.1 bt715.2.2.2.2.1 bt715.2.2.2.2.2.1).bind fun bt723 => (if bt723.2 = 0 then ((api_Fork.f k bt723.1 x3).bind fun t727 => (if t727 = true then ((branch_Size.f k x3).bind fun t728 => (if t728 > (bt715.2.2.2.2.2.1.size : Int) then (some false) else (careenagelaw07_BranchBack.j1 k x713000 x713001 x713002 x713003 x713004 x713005))) else (some false))) else (some false))) else (careenagelaw07_BranchBack.j1 k x713000 x713001 x713002 x713003 x713004 x713005)))
def careenagelaw07_BranchBack.j1 : Nat → Int → Int → Int → Int → Int → ByteArray → Option (Bool)
  | 0, _, _, _, _, _, _ => none
  | k + 1, x713000, x713001, x713002, x713003, x713004, x713005 => (branch_Of.f x713000 x713001 x713002 x713003 x713004 x713005).bind fun bt729 => (if bt729.2 = 0 then ((branch_Page.f k (wrap64 ((x713005.size : Int) + 24)) x713002 x713004 bt729.1).bind fun bt733 => (if bt733.2.2.2.2.2.2 = 0 then (some (bt733.1 == x713000 && (bt733.2.1 == x713001 && (bt733.2.2.1 == x713002 && (bt733.2.2.2.1 == x713003 && (bt733.2.2.2.2.1 == x713004 && (bt733.2.2.2.2.2.1.toList == x713005.toList))))))) else (some false))) else (some ((bt729.1.length : Int) == 0)))
end
def careenagelaw07_BranchBack.f (k : Nat) (a0 : Int) (a1 : Int) (a2 : Int) (l3 : List (S46)) (a4_0 : Int) (a4_1 : Int) (a4_2 : Int) (a4_3 : Int) (a4_4 : Int) (a4_5 : ByteArray) : Option (Bool) := (careenagelaw07_lives.f k).bind fun t713 => (if t713 = true then ((careenagelaw07_light.f k l3).bind fun t714 => (if t714 = true then (careenagelaw07_BranchBack.j0 k a0 a1 a2 l3 (decide ((a4_5.size : Int) > 4200)) a4_0 a4_1 a4_2 a4_3 a4_4 a4_5) else (careenagelaw07_BranchBack.j0 k a0 a1 a2 l3 true a4_0 a4_1 a4_2 a4_3 a4_4 a4_5))) else (some false))
def careenagelaw07_BranchBack.T8 : Bool × List (List Nat × List Nat) := (true, [([], []), ([0], [0]), ([1], [1]), ([2], [2]), ([2], [2]), ([3, 4, 2, 2], [2, 3, 4]), ([5, 2], [2, 5]), ([2, 6], [2, 6]), ([7, 5], [7]), ([8], [8]), ([9, 8, 8], [8, 9]), ([8], [8]), ([11, 8], [8, 11]), ([12, 8], [8, 12]), ([10, 13, 8], [8, 10, 13]), ([8, 14], [8, 14])])
def careenagelaw07_BranchBack.B8 : List Nat := [0, 1, 3, 7, 7, 31, 63, 127, 255, 511, 1023, 511, 2559, 6655, 16383, 32767]
theorem careenagelaw07_BranchBack.tab8 : rtab .any (opsOf Try.f12 8) = careenagelaw07_BranchBack.T8 := by kernel_rfl
theorem careenagelaw07_BranchBack.bits8 : waitsOk careenagelaw07_BranchBack.T8.2 careenagelaw07_BranchBack.B8 = true := by kernel_rfl
set_option maxHeartbeats 8000000 in
set_option maxRecDepth 100000 in
theorem careenagelaw07_BranchBack.calls (k : Nat) (a0 : Int) (a1 : Int) (a2 : Int) (A3 : Option Addr) (c3 : Nat) (l3 : List (S46)) (a4_0 : Int) (a4_1 : Int) (a4_2 : Int) (a4_3 : Int) (a4_4 : Int) (a4_5 : ByteArray) (r : Bool) (w : World) (hr3 : Kd.C k46 w A3 l3.length l3) (hc3 : l3.length ≤ c3) (hr_ : r = true) (h : careenagelaw07_BranchBack.f k a0 a1 a2 l3 a4_0 a4_1 a4_2 a4_3 a4_4 a4_5 = some r) :
    Calls Try.prog 12 #[.int .i64 a0, .int .u32 a1, .int .u64 a2, .slice A3 l3.length c3, .agg #[.int .i64 a4_0, .int .i64 a4_1, .int .u32 a4_2, .int .u32 a4_3, .int .u64 a4_4, .string a4_5]] w fun e w' => e = .returned (.bool r) ∧ Below w.heap.size w w' := by
  have hu39 := Try.underlying39
  have HR3 := Aside0.mk hr3
  have HC3 := Aside0.mk hc3
  clear hr3 hc3
  have HB := Aside0.mk (Below.refl w.heap.size w)
  have H : ((careenagelaw07_lives.f k).bind fun t713 => (if t713 = true then ((careenagelaw07_light.f k l3).bind fun t714 => (if t714 = true then (careenagelaw07_BranchBack.j0 k a0 a1 a2 l3 (decide ((a4_5.size : Int) > 4200)) a4_0 a4_1 a4_2 a4_3 a4_4 a4_5) else (careenagelaw07_BranchBack.j0 k a0 a1 a2 l3 true a4_0 a4_1 a4_2 a4_3 a4_4 a4_5))) else (some false))) = some r := h
  clear h
  have HLaw := Aside0.mk hr_
  clear hr_
  replace H := Option.bind_eq_some_iff.mp H
  obtain ⟨t713, A60, H⟩ := H
  replace H : (if t713 = true then ((careenagelaw07_light.f k l3).bind fun t714 => (if t714 = true then (careenagelaw07_BranchBack.j0 k a0 a1 a2 l3 (decide ((a4_5.size : Int) > 4200)) a4_0 a4_1 a4_2 a4_3 a4_4 a4_5) else (careenagelaw07_BranchBack.j0 k a0 a1 a2 l3 true a4_0 a4_1 a4_2 a4_3 a4_4 a4_5))) else (some false)) = some r := H
  have A6 := Aside0.mk A60
  clear A60
  by_cases c7 : t713 = true
  · subst c7
    have H1 : ((careenagelaw07_light.f k l3).bind fun t714 => (if t714 = true then (careenagelaw07_BranchBack.j0 k a0 a1 a2 l3 (decide ((a4_5.size : Int) > 4200)) a4_0 a4_1 a4_2 a4_3 a4_4 a4_5) else (careenagelaw07_BranchBack.j0 k a0 a1 a2 l3 true a4_0 a4_1 a4_2 a4_3 a4_4 a4_5))) = some r := by rw [if_pos rfl] at H; exact H
    clear H
    have H := H1
    clear H1
    have HC8 := Aside0.mk H
    clear H
    go_enter Try.func12, Try.ntmps12
    go_upto_region 3 with (first | ((with_reducible refine gate_dst (N := 9) rfl ?_); (try (refine gate_guard (by rfl) ?_; dsimp only)); refine box_event ?hg (N := 9) ?hd (cs := #[.int .i64 a4_0, .int .i64 a4_1, .int .u32 a4_2, .int .u32 a4_3, .int .u64 a4_4, .string a4_5]) (t := 39) ?hr ?_; (case hd => rfl); (case hg => rfl); (case hr => first | (go_simp; done) | (go_simp; rfl)); intro gb712 hg w9 hbox hb; have n0_ := Aside0.mk (below_step (by repeat (first | (with_reducible first | exact HB.out | apply below_alloc | apply pw_below_drewN | apply below_drew1) | exact HB.out)) hb); have n1_ := Aside0.mk (hbox); have n2_ := Aside0.mk ((by rw [hg]; exact (below_size (by repeat (first | (with_reducible first | exact HB.out | apply below_alloc | apply pw_below_drewN | apply below_drew1) | exact HB.out))) : w.heap.size ≤ gb712)); have n3_ := Aside0.mk ((by rw [hg]; exact (below_size (by repeat (first | (with_reducible first | exact HB.out | apply below_alloc | apply pw_below_drewN | apply below_drew1) | exact HB.out))) : w.heap.size ≤ gb712)); clear HB; have HB := n0_; have BK712 := n1_; have GW712 := n2_; have GE712 := n3_; clear n0_ n1_ n2_ n3_; clear hb hbox hg) | ((with_reducible refine gate_callee (f := 22) rfl ?_); refine goesL_ (some 19) rfl rfl Try.func22 (by kernel_rfl) rfl #[] rfl (by (try simp only [List.map_toArray, List.map_cons, List.map_nil]); first | done | rfl | (simp only [List.length_drop, List.length_take]; rfl)) ?_; (with_reducible refine (careenagelaw07_lives.calls k  true _ A6.out).mono ?_); rintro e w10 ⟨rfl, hb⟩; refine ⟨_, rfl, ?_⟩; have n0_ := Aside0.mk (blk_below (g := gb712) (o := .cells #[.int .i64 a4_0, .int .i64 a4_1, .int .u32 a4_2, .int .u32 a4_3, .int .u64 a4_4, .string a4_5] 39 (0, 0)) (by (with_reducible repeat (first | refine blk_drewN ?_ _ | refine blk_drew ?_ | refine blk_alloc ?_ _)); exact BK712.out) hb); have n1_ := Aside0.mk (below_step (by repeat (first | (with_reducible first | exact HB.out | apply below_alloc | apply pw_below_drewN | apply below_drew1 | refine below_set ?_ GE712.out) | exact HB.out)) hb); clear BK712; clear HB; have BK712 := n0_; have HB := n1_; clear n0_ n1_; (try clear hb); (try clear hb2); (try clear hk); (try clear hi)))
    (try simp only [Act.put, List.setIfInBounds_toArray, List.set_cons_zero, List.set_cons_succ])
    go_cut [29] (fun v29 wc => ∃ (kq : Nat) (x29_7 : Bool), v29 = .bool x29_7 ∧ Aside0 (careenagelaw07_BranchBack.j0 kq a0 a1 a2 l3 x29_7 a4_0 a4_1 a4_2 a4_3 a4_4 a4_5 = some r) ∧ Aside0 (kq ≤ k) ∧ Aside0 (wc.heap[gb712]? = some (.cells #[.int .i64 a4_0, .int .i64 a4_1, .int .u32 a4_2, .int .u32 a4_3, .int .u64 a4_4, .string a4_5] 39 (0, 0))) ∧ Aside0 (Below w.heap.size w wc))
    case first =>
      have H := HC8.out
      clear HC8
      replace H := Option.bind_eq_some_iff.mp H
      obtain ⟨t714, A110, H⟩ := H
      replace H : (if t714 = true then (careenagelaw07_BranchBack.j0 k a0 a1 a2 l3 (decide ((a4_5.size : Int) > 4200)) a4_0 a4_1 a4_2 a4_3 a4_4 a4_5) else (careenagelaw07_BranchBack.j0 k a0 a1 a2 l3 true a4_0 a4_1 a4_2 a4_3 a4_4 a4_5)) = some r := H
      have A11 := Aside0.mk A110
      clear A110
      by_cases c12 : t714 = true
      · subst c12
        have H1 : (careenagelaw07_BranchBack.j0 k a0 a1 a2 l3 (decide ((a4_5.size : Int) > 4200)) a4_0 a4_1 a4_2 a4_3 a4_4 a4_5) = some r := by rw [if_pos rfl] at H; exact H
        clear H
        have H := H1
        clear H1
        have H' := Aside0.mk H
        clear H
        go_wp2_with (first | ((with_reducible refine gate_callee (f := 24) rfl ?_); refine goesL_ (some 22) rfl rfl Try.func24 (by kernel_rfl) rfl #[.slice A3 l3.length c3] rfl (by (try simp only [List.map_toArray, List.map_cons, List.map_nil]); first | done | rfl | (simp only [List.length_drop, List.length_take]; rfl)) ?_; (with_reducible refine (careenagelaw07_light.calls k _ _ l3 true _ ?side1 ?side2 A11.out).mono ?_); (case side1 => repeat (first | exact (Kd.C_below HR3.out HB.out) | (with_reducible refine Kd.C_alloc ?_ _) | (with_reducible refine Kd.C_drewN ?_ _) | (with_reducible refine Kd.C_drew ?_))); (case side2 => exact HC3.out); rintro e w13 ⟨rfl, hb⟩; refine ⟨_, rfl, ?_⟩; have n0_ := Aside0.mk (blk_below (g := gb712) (o := .cells #[.int .i64 a4_0, .int .i64 a4_1, .int .u32 a4_2, .int .u32 a4_3, .int .u64 a4_4, .string a4_5] 39 (0, 0)) (by (with_reducible repeat (first | refine blk_drewN ?_ _ | refine blk_drew ?_ | refine blk_alloc ?_ _)); exact BK712.out) hb); have n1_ := Aside0.mk (below_step (by repeat (first | (with_reducible first | exact HB.out | apply below_alloc | apply pw_below_drewN | apply below_drew1 | refine below_set ?_ GE712.out) | exact HB.out)) hb); clear BK712; clear HB; have BK712 := n0_; have HB := n1_; clear n0_ n1_; (try clear hb); (try clear hb2); (try clear hk); (try clear hi); have hcz14_0 : w13.cell? ⟨gb712, 0, none⟩ = some (.int .i64 a4_0) := (blk_cell BK712.out 0).trans rfl; have hcz14_1 : w13.cell? ⟨gb712, 1, none⟩ = some (.int .i64 a4_1) := (blk_cell BK712.out 1).trans rfl; have hcz14_2 : w13.cell? ⟨gb712, 2, none⟩ = some (.int .u32 a4_2) := (blk_cell BK712.out 2).trans rfl; have hcz14_3 : w13.cell? ⟨gb712, 3, none⟩ = some (.int .u32 a4_3) := (blk_cell BK712.out 3).trans rfl; have hcz14_4 : w13.cell? ⟨gb712, 4, none⟩ = some (.int .u64 a4_4) := (blk_cell BK712.out 4).trans rfl; have hcz14_5 : w13.cell? ⟨gb712, 5, none⟩ = some (.string a4_5) := (blk_cell BK712.out 5).trans rfl; have hfz14_0 := blk_frozen BK712.out 0; have hfz14_1 := blk_frozen BK712.out 1; have hfz14_2 := blk_frozen BK712.out 2; have hfz14_3 := blk_frozen BK712.out 3; have hfz14_4 := blk_frozen BK712.out 4; have hfz14_5 := blk_frozen BK712.out 5))
        go_meet
        case rel => exact ⟨_, (decide ((a4_5.size : Int) > 4200)), (by first | rfl | (simp; done) | (simp [*]; done)), H', ⟨by first | omega | exact Nat.le_refl _⟩, ⟨by (with_reducible repeat (first | refine blk_drewN ?_ _ | refine blk_drew ?_ | refine blk_alloc ?_ _)); exact BK712.out⟩, ⟨by repeat (first | (with_reducible first | exact HB.out | apply below_alloc | apply pw_below_drewN | apply below_drew1 | refine below_set ?_ GE712.out) | exact HB.out)⟩⟩
      · replace c12 := Bool.eq_false_iff.mpr c12
        subst c12
        have H1 : (careenagelaw07_BranchBack.j0 k a0 a1 a2 l3 true a4_0 a4_1 a4_2 a4_3 a4_4 a4_5) = some r := by rw [if_neg (show ¬ (false = true) by decide)] at H; exact H
        clear H
        have H := H1
        clear H1
        have H' := Aside0.mk H
        clear H
        go_wp2_with (first | ((with_reducible refine gate_callee (f := 24) rfl ?_); refine goesL_ (some 22) rfl rfl Try.func24 (by kernel_rfl) rfl #[.slice A3 l3.length c3] rfl (by (try simp only [List.map_toArray, List.map_cons, List.map_nil]); first | done | rfl | (simp only [List.length_drop, List.length_take]; rfl)) ?_; (with_reducible refine (careenagelaw07_light.calls k _ _ l3 false _ ?side1 ?side2 A11.out).mono ?_); (case side1 => repeat (first | exact (Kd.C_below HR3.out HB.out) | (with_reducible refine Kd.C_alloc ?_ _) | (with_reducible refine Kd.C_drewN ?_ _) | (with_reducible refine Kd.C_drew ?_))); (case side2 => exact HC3.out); rintro e w15 ⟨rfl, hb⟩; refine ⟨_, rfl, ?_⟩; have n0_ := Aside0.mk (blk_below (g := gb712) (o := .cells #[.int .i64 a4_0, .int .i64 a4_1, .int .u32 a4_2, .int .u32 a4_3, .int .u64 a4_4, .string a4_5] 39 (0, 0)) (by (with_reducible repeat (first | refine blk_drewN ?_ _ | refine blk_drew ?_ | refine blk_alloc ?_ _)); exact BK712.out) hb); have n1_ := Aside0.mk (below_step (by repeat (first | (with_reducible first | exact HB.out | apply below_alloc | apply pw_below_drewN | apply below_drew1 | refine below_set ?_ GE712.out) | exact HB.out)) hb); clear BK712; clear HB; have BK712 := n0_; have HB := n1_; clear n0_ n1_; (try clear hb); (try clear hb2); (try clear hk); (try clear hi)))
        go_meet
        case rel => exact ⟨_, (true), (by first | rfl | (simp; done) | (simp [*]; done)), H', ⟨by first | omega | exact Nat.le_refl _⟩, ⟨by (with_reducible repeat (first | refine blk_drewN ?_ _ | refine blk_drew ?_ | refine blk_alloc ?_ _)); exact BK712.out⟩, ⟨by repeat (first | (with_reducible first | exact HB.out | apply below_alloc | apply pw_below_drewN | apply below_drew1 | refine below_set ?_ GE712.out) | exact HB.out)⟩⟩
    case rest =>
      clear HC8
      try clear c1
      try clear c2
      try clear p2
      try clear c3
      try clear c7
      try clear c12
      try clear hcz14_0
      try clear hcz14_1
      try clear hcz14_2
      try clear hcz14_3
      try clear hcz14_4
      try clear hcz14_5
      try clear hfz14_0
      try clear hfz14_1
      try clear hfz14_2
      try clear hfz14_3
      try clear hfz14_4
      try clear hfz14_5
      obtain ⟨kq, x29_7, rfl, HA, HJ7, BK712, HB⟩ := hcut
      cases kq with
      | zero => exact absurd HA.out (by simp [careenagelaw07_BranchBack.j0])
      | succ kj7 =>
        have H := HA.out
        clear HA
        simp only [careenagelaw07_BranchBack.j0] at H
        by_cases c16 : x29_7 = true
        · subst c16
          have H1 : (some true) = some r := by rw [if_pos rfl] at H; exact H
          clear H
          have H := H1
          clear H1
          obtain rfl := Option.some.inj H
          go_wp2
          go_ret
          exact ⟨by first | rfl | (simp [errW_none, errW_some] <;> rfl) | (simp [*, errW_none, errW_some] <;> rfl), by repeat (first | (with_reducible first | exact HB.out | apply below_alloc | apply pw_below_drewN | apply below_drew1 | refine below_set ?_ GE712.out) | exact HB.out)⟩
        · replace c16 := Bool.eq_false_iff.mpr c16
          subst c16
          have H1 : ((branch_Page.f kj7 a0 a1 a2 l3).bind fun bt715 => (if bt715.2.2.2.2.2.2 = 0 then ((branch_Of.f bt715.1 bt715.2.1 bt715.2.2.1 bt715.2.2.2.1 bt715.2.2.2.2.1 bt715.2.2.2.2.2.1).bind fun bt723 => (if bt723.2 = 0 then ((api_Fork.f kj7 bt723.1 l3).bind fun t727 => (if t727 = true then ((branch_Size.f kj7 l3).bind fun t728 => (if t728 > (bt715.2.2.2.2.2.1.size : Int) then (some false) else (careenagelaw07_BranchBack.j1 kj7 a4_0 a4_1 a4_2 a4_3 a4_4 a4_5))) else (some false))) else (some false))) else (careenagelaw07_BranchBack.j1 kj7 a4_0 a4_1 a4_2 a4_3 a4_4 a4_5))) = some r := by rw [if_neg (show ¬ (false = true) by decide)] at H; exact H
          clear H
          have H := H1
          clear H1
          replace H := Option.bind_eq_some_iff.mp H
          obtain ⟨⟨t715, t716, t717, t718, t719, t720, t721⟩, A170, H⟩ := H
          replace H : (if t721 = 0 then ((branch_Of.f t715 t716 t717 t718 t719 t720).bind fun bt723 => (if bt723.2 = 0 then ((api_Fork.f kj7 bt723.1 l3).bind fun t727 => (if t727 = true then ((branch_Size.f kj7 l3).bind fun t728 => (if t728 > (t720.size : Int) then (some false) else (careenagelaw07_BranchBack.j1 kj7 a4_0 a4_1 a4_2 a4_3 a4_4 a4_5))) else (some false))) else (some false))) else (careenagelaw07_BranchBack.j1 kj7 a4_0 a4_1 a4_2 a4_3 a4_4 a4_5)) = some r := H
          have A17 := Aside0.mk A170
          clear A170
          have HC18 := Aside0.mk H
          clear H
          go_upto_if 39 with (first | ((with_reducible refine gate_callee (f := 23) rfl ?_); refine goesL_ (some 35) rfl rfl Try.func23 (by kernel_rfl) rfl #[.int .i64 a0, .int .u32 a1, .int .u64 a2, .slice A3 l3.length c3] rfl (by (try simp only [List.map_toArray, List.map_cons, List.map_nil]); first | done | rfl | (simp only [List.length_drop, List.length_take]; rfl)) ?_; (with_reducible refine (branch_Page.calls kj7 a0 a1 a2 _ _ l3 t715 t716 t717 t718 t719 t720 t721 _ ?side1 ?side2 A17.out).mono ?_); (case side1 => repeat (first | exact (Kd.C_below HR3.out HB.out) | (with_reducible refine Kd.C_alloc ?_ _) | (with_reducible refine Kd.C_drewN ?_ _) | (with_reducible refine Kd.C_drew ?_))); (case side2 => exact HC3.out); rintro e w19 ⟨rfl, hb⟩; refine ⟨_, rfl, ?_⟩; have n0_ := Aside0.mk (blk_below (g := gb712) (o := .cells #[.int .i64 a4_0, .int .i64 a4_1, .int .u32 a4_2, .int .u32 a4_3, .int .u64 a4_4, .string a4_5] 39 (0, 0)) (by (with_reducible repeat (first | refine blk_drewN ?_ _ | refine blk_drew ?_ | refine blk_alloc ?_ _)); exact BK712.out) hb); have n1_ := Aside0.mk (below_step (by repeat (first | (with_reducible first | exact HB.out | apply below_alloc | apply pw_below_drewN | apply below_drew1 | refine below_set ?_ GE712.out) | exact HB.out)) hb); clear BK712; clear HB; have BK712 := n0_; have HB := n1_; clear n0_ n1_; (try clear hb); (try clear hb2); (try clear hk); (try clear hi)) | ((with_reducible refine gate_dst (N := 11) rfl ?_); (try (refine gate_guard (by rfl) ?_; dsimp only)); refine box_event ?hg (N := 11) ?hd (cs := #[.int .i64 0, .int .i64 0, .int .u32 0, .int .u32 0, .int .u64 0, .string (⟨#[]⟩ : ByteArray)]) (t := 39) ?hr ?_; (case hd => rfl); (case hg => rfl); (case hr => first | (go_simp; done) | (go_simp; rfl)); intro gb722 hg w20 hbox hb; have n0_ := Aside0.mk (blk_below (g := gb712) (o := .cells #[.int .i64 a4_0, .int .i64 a4_1, .int .u32 a4_2, .int .u32 a4_3, .int .u64 a4_4, .string a4_5] 39 (0, 0)) (by (with_reducible repeat (first | refine blk_drewN ?_ _ | refine blk_drew ?_ | refine blk_alloc ?_ _)); exact BK712.out) hb); have n1_ := Aside0.mk (below_step (by repeat (first | (with_reducible first | exact HB.out | apply below_alloc | apply pw_below_drewN | apply below_drew1 | refine below_set ?_ GE712.out) | exact HB.out)) hb); have n2_ := Aside0.mk (hbox); have n3_ := Aside0.mk ((by rw [hg]; exact (below_size (by repeat (first | (with_reducible first | exact HB.out | apply below_alloc | apply pw_below_drewN | apply below_drew1 | refine below_set ?_ GE712.out) | exact HB.out))) : w.heap.size ≤ gb722)); have n4_ := Aside0.mk ((by rw [hg]; exact (below_size (by repeat (first | (with_reducible first | exact HB.out | apply below_alloc | apply pw_below_drewN | apply below_drew1 | refine below_set ?_ GE712.out) | exact HB.out))) : w.heap.size ≤ gb722)); have n5_ := Aside0.mk ((by rw [hg]; exact Nat.ne_of_lt (blk_lt (g := gb712) (o := .cells #[.int .i64 a4_0, .int .i64 a4_1, .int .u32 a4_2, .int .u32 a4_3, .int .u64 a4_4, .string a4_5] 39 (0, 0)) (by (with_reducible repeat (first | refine blk_drewN ?_ _ | refine blk_drew ?_ | refine blk_alloc ?_ _)); exact BK712.out)) : gb712 ≠ gb722)); have n6_ := Aside0.mk ((by rw [hg]; exact Nat.ne_of_gt (blk_lt (g := gb712) (o := .cells #[.int .i64 a4_0, .int .i64 a4_1, .int .u32 a4_2, .int .u32 a4_3, .int .u64 a4_4, .string a4_5] 39 (0, 0)) (by (with_reducible repeat (first | refine blk_drewN ?_ _ | refine blk_drew ?_ | refine blk_alloc ?_ _)); exact BK712.out)) : gb722 ≠ gb712)); clear BK712; clear HB; have BK712 := n0_; have HB := n1_; have BK722 := n2_; have GW722 := n3_; have GE722 := n4_; have NB712_722 := n5_; have NB722_712 := n6_; clear n0_ n1_ n2_ n3_ n4_ n5_ n6_; clear hb hbox hg; have hnb21 := NB722_712.out; have hnc21 := NB712_722.out; have hcz22_0 : w20.cell? ⟨gb722, 0, none⟩ = some (.int .i64 0) := (blk_cell BK722.out 0).trans rfl; have hcz22_1 : w20.cell? ⟨gb722, 1, none⟩ = some (.int .i64 0) := (blk_cell BK722.out 1).trans rfl; have hcz22_2 : w20.cell? ⟨gb722, 2, none⟩ = some (.int .u32 0) := (blk_cell BK722.out 2).trans rfl; have hcz22_3 : w20.cell? ⟨gb722, 3, none⟩ = some (.int .u32 0) := (blk_cell BK722.out 3).trans rfl; have hcz22_4 : w20.cell? ⟨gb722, 4, none⟩ = some (.int .u64 0) := (blk_cell BK722.out 4).trans rfl; have hcz22_5 : w20.cell? ⟨gb722, 5, none⟩ = some (.string (⟨#[]⟩ : ByteArray)) := (blk_cell BK722.out 5).trans rfl; have hfz22_0 := blk_frozen BK722.out 0; have hfz22_1 := blk_frozen BK722.out 1; have hfz22_2 := blk_frozen BK722.out 2; have hfz22_3 := blk_frozen BK722.out 3; have hfz22_4 := blk_frozen BK722.out 4; have hfz22_5 := blk_frozen BK722.out 5))
          (try simp only [Act.put, List.setIfInBounds_toArray, List.set_cons_zero, List.set_cons_succ])
          go_cut [] (fun wc => ∃ (kq : Nat), Aside0 (careenagelaw07_BranchBack.j1 kq a4_0 a4_1 a4_2 a4_3 a4_4 a4_5 = some r) ∧ Aside0 (kq ≤ kj7) ∧ Aside0 (wc.heap[gb712]? = some (.cells #[.int .i64 a4_0, .int .i64 a4_1, .int .u32 a4_2, .int .u32 a4_3, .int .u64 a4_4, .string a4_5] 39 (0, 0))) ∧ Aside0 (wc.heap[gb722]? = some (.cells #[.int .i64 t715, .int .i64 t716, .int .u32 t717, .int .u32 t718, .int .u64 t719, .string t720] 39 (0, 0))) ∧ Aside0 (Below w.heap.size w wc))
          case first =>
            have H := HC18.out
            clear HC18
            by_cases c23 : t721 = 0
            · rw [if_pos c23] at H
              have c23b0 : (t721 == 0) = true := beq_iff_eq.mpr c23
              have c23b1 : (t721 != 0) = false := bne_eq_false_iff_eq.mpr c23
              clear c23
              (first | rw [c23b0] | (simp only [i64_w, i32_w]; rw [c23b0]) | skip)
              replace H := Option.bind_eq_some_iff.mp H
              obtain ⟨⟨t723, t726⟩, A240, H⟩ := H
              replace H : (if t726 = 0 then ((api_Fork.f kj7 t723 l3).bind fun t727 => (if t727 = true then ((branch_Size.f kj7 l3).bind fun t728 => (if t728 > (t720.size : Int) then (some false) else (careenagelaw07_BranchBack.j1 kj7 a4_0 a4_1 a4_2 a4_3 a4_4 a4_5))) else (some false))) else (some false)) = some r := H
              have A24 := Aside0.mk A240
              clear A240
              by_cases c25 : t726 = 0
              · rw [if_pos c25] at H
                have c25b0 : (t726 == 0) = true := beq_iff_eq.mpr c25
                have c25b1 : (t726 != 0) = false := bne_eq_false_iff_eq.mpr c25
                clear c25
                replace H := Option.bind_eq_some_iff.mp H
                obtain ⟨t727, A260, H⟩ := H
                replace H : (if t727 = true then ((branch_Size.f kj7 l3).bind fun t728 => (if t728 > (t720.size : Int) then (some false) else (careenagelaw07_BranchBack.j1 kj7 a4_0 a4_1 a4_2 a4_3 a4_4 a4_5))) else (some false)) = some r := H
                have A26 := Aside0.mk A260
                clear A260
                by_cases c27 : t727 = true
                · subst c27
                  have H1 : ((branch_Size.f kj7 l3).bind fun t728 => (if t728 > (t720.size : Int) then (some false) else (careenagelaw07_BranchBack.j1 kj7 a4_0 a4_1 a4_2 a4_3 a4_4 a4_5))) = some r := by rw [if_pos rfl] at H; exact H
                  clear H
                  have H := H1
                  clear H1
                  replace H := Option.bind_eq_some_iff.mp H
                  obtain ⟨t728, A280, H⟩ := H
                  replace H : (if t728 > (t720.size : Int) then (some false) else (careenagelaw07_BranchBack.j1 kj7 a4_0 a4_1 a4_2 a4_3 a4_4 a4_5)) = some r := H
                  have A28 := Aside0.mk A280
                  clear A280
                  by_cases c29 : t728 > (t720.size : Int)
                  · rw [if_pos c29] at H
                    have c29b0 : decide ((t720.size : Int) < t728) = true := decide_eq_true c29
                    clear c29
                    exact absurd ((Option.some.inj H).trans HLaw.out) (by simp)
                  · rw [if_neg c29] at H
                    have c29b0 : decide ((t720.size : Int) < t728) = false := decide_eq_false c29
                    clear c29
                    have H' := Aside0.mk H
                    clear H
                    have hnb30 := NB722_712.out
                    have hnc30 := NB712_722.out
                    have hcz31_0 : w20.cell? ⟨gb722, 0, none⟩ = some (.int .i64 0) := (blk_cell BK722.out 0).trans rfl
                    have hcz31_1 : w20.cell? ⟨gb722, 1, none⟩ = some (.int .i64 0) := (blk_cell BK722.out 1).trans rfl
                    have hcz31_2 : w20.cell? ⟨gb722, 2, none⟩ = some (.int .u32 0) := (blk_cell BK722.out 2).trans rfl
                    have hcz31_3 : w20.cell? ⟨gb722, 3, none⟩ = some (.int .u32 0) := (blk_cell BK722.out 3).trans rfl
                    have hcz31_4 : w20.cell? ⟨gb722, 4, none⟩ = some (.int .u64 0) := (blk_cell BK722.out 4).trans rfl
                    have hcz31_5 : w20.cell? ⟨gb722, 5, none⟩ = some (.string (⟨#[]⟩ : ByteArray)) := (blk_cell BK722.out 5).trans rfl
                    have hfz31_0 := blk_frozen BK722.out 0
                    have hfz31_1 := blk_frozen BK722.out 1
                    have hfz31_2 := blk_frozen BK722.out 2
                    have hfz31_3 := blk_frozen BK722.out 3
                    have hfz31_4 := blk_frozen BK722.out 4
                    have hfz31_5 := blk_frozen BK722.out 5
                    try go_wp2_with (first | ((with_reducible refine gate_callee (f := 39) rfl ?_); refine goesL_ (some 42) rfl rfl Try.func39 (by kernel_rfl) rfl #[.agg #[.int .i64 t715, .int .i64 t716, .int .u32 t717, .int .u32 t718, .int .u64 t719, .string t720]] rfl (by (try simp only [List.map_toArray, List.map_cons, List.map_nil]); first | done | rfl | (simp only [List.length_drop, List.length_take]; rfl)) ?_; (with_reducible refine (branch_Of.calls t715 t716 t717 t718 t719 t720 t723 t726 _ A24.out).mono ?_); rintro e w32 ⟨v724, rfl, ho0, hb⟩; refine ⟨_, rfl, ?_⟩; have n0_ := Aside0.mk (Kd.R_lower ho0 (below_size (by repeat (first | (with_reducible first | exact HB.out | apply below_alloc | apply pw_below_drewN | apply below_drew1 | refine below_set ?_ GE712.out | refine below_set ?_ GE722.out) | exact HB.out)))); have n1_ := Aside0.mk (blk_below (g := gb712) (o := .cells #[.int .i64 a4_0, .int .i64 a4_1, .int .u32 a4_2, .int .u32 a4_3, .int .u64 a4_4, .string a4_5] 39 (0, 0)) (by (with_reducible repeat (first | refine blk_drewN ?_ _ | refine blk_drew ?_ | refine blk_alloc ?_ _)); refine blk_far ?_ NB712_722.out _; (with_reducible repeat (first | refine blk_drewN ?_ _ | refine blk_drew ?_ | refine blk_alloc ?_ _)); refine blk_far ?_ NB712_722.out _; (with_reducible repeat (first | refine blk_drewN ?_ _ | refine blk_drew ?_ | refine blk_alloc ?_ _)); refine blk_far ?_ NB712_722.out _; (with_reducible repeat (first | refine blk_drewN ?_ _ | refine blk_drew ?_ | refine blk_alloc ?_ _)); refine blk_far ?_ NB712_722.out _; (with_reducible repeat (first | refine blk_drewN ?_ _ | refine blk_drew ?_ | refine blk_alloc ?_ _)); refine blk_far ?_ NB712_722.out _; (with_reducible repeat (first | refine blk_drewN ?_ _ | refine blk_drew ?_ | refine blk_alloc ?_ _)); refine blk_far ?_ NB712_722.out _; (with_reducible repeat (first | refine blk_drewN ?_ _ | refine blk_drew ?_ | refine blk_alloc ?_ _)); exact BK712.out) hb); have n2_ := Aside0.mk (blk_below (g := gb722) (o := .cells #[.int .i64 t715, .int .i64 t716, .int .u32 t717, .int .u32 t718, .int .u64 t719, .string t720] 39 (0, 0)) (by (with_reducible repeat (first | refine blk_drewN ?_ _ | refine blk_drew ?_ | refine blk_alloc ?_ _)); refine blk_put (cs := #[.int .i64 t715, .int .i64 t716, .int .u32 t717, .int .u32 t718, .int .u64 t719, .string (⟨#[]⟩ : ByteArray)]) ?_ 5 _ rfl; (with_reducible repeat (first | refine blk_drewN ?_ _ | refine blk_drew ?_ | refine blk_alloc ?_ _)); refine blk_put (cs := #[.int .i64 t715, .int .i64 t716, .int .u32 t717, .int .u32 t718, .int .u64 0, .string (⟨#[]⟩ : ByteArray)]) ?_ 4 _ rfl; (with_reducible repeat (first | refine blk_drewN ?_ _ | refine blk_drew ?_ | refine blk_alloc ?_ _)); refine blk_put (cs := #[.int .i64 t715, .int .i64 t716, .int .u32 t717, .int .u32 0, .int .u64 0, .string (⟨#[]⟩ : ByteArray)]) ?_ 3 _ rfl; (with_reducible repeat (first | refine blk_drewN ?_ _ | refine blk_drew ?_ | refine blk_alloc ?_ _)); refine blk_put (cs := #[.int .i64 t715, .int .i64 t716, .int .u32 0, .int .u32 0, .int .u64 0, .string (⟨#[]⟩ : ByteArray)]) ?_ 2 _ rfl; (with_reducible repeat (first | refine blk_drewN ?_ _ | refine blk_drew ?_ | refine blk_alloc ?_ _)); refine blk_put (cs := #[.int .i64 t715, .int .i64 0, .int .u32 0, .int .u32 0, .int .u64 0, .string (⟨#[]⟩ : ByteArray)]) ?_ 1 _ rfl; (with_reducible repeat (first | refine blk_drewN ?_ _ | refine blk_drew ?_ | refine blk_alloc ?_ _)); refine blk_put (cs := #[.int .i64 0, .int .i64 0, .int .u32 0, .int .u32 0, .int .u64 0, .string (⟨#[]⟩ : ByteArray)]) ?_ 0 _ rfl; (with_reducible repeat (first | refine blk_drewN ?_ _ | refine blk_drew ?_ | refine blk_alloc ?_ _)); exact BK722.out) hb); have n3_ := Aside0.mk (below_step (by repeat (first | (with_reducible first | exact HB.out | apply below_alloc | apply pw_below_drewN | apply below_drew1 | refine below_set ?_ GE712.out | refine below_set ?_ GE722.out) | exact HB.out)) hb); clear BK712; clear BK722; clear HB; have HO725 := n0_; have BK712 := n1_; have BK722 := n2_; have HB := n3_; clear n0_ n1_ n2_ n3_; (try clear hb); (try clear hb2); (try clear hk); (try clear hi); (try clear ho0)))
                    have n0_ := Aside0.mk (Kd.R_drew HO725.out)
                    have n1_ := Aside0.mk (blk_drew BK712.out)
                    have n2_ := Aside0.mk (blk_drew BK722.out)
                    have n3_ := Aside0.mk (below_drew1 HB.out)
                    clear HO725
                    clear BK712
                    clear BK722
                    clear HB
                    have HO725 := n0_
                    have BK712 := n1_
                    have BK722 := n2_
                    have HB := n3_
                    clear n0_ n1_ n2_ n3_
                    obtain ⟨Ao34, co34, eo34⟩ := Kd.R_slice HO725.out
                    (first | subst eo34 | (injection eo34 with f1_ f2_ f3_; have f4_ := f1_.symm; have f5_ := f3_.symm; clear f1_ f2_ f3_; subst f4_; subst f5_))
                    refine start_ (n := 16) (S := fun w' => w'.cell? ⟨gb722, 0, none⟩ = some (.int .i64 t715) ∧ w'.cell? ⟨gb722, 1, none⟩ = some (.int .i64 t716) ∧ w'.cell? ⟨gb722, 2, none⟩ = some (.int .u32 t717) ∧ w'.cell? ⟨gb722, 3, none⟩ = some (.int .u32 t718) ∧ w'.cell? ⟨gb722, 4, none⟩ = some (.int .u64 t719) ∧ w'.cell? ⟨gb722, 5, none⟩ = some (.string t720)) (ds := []) #[false, false, false, false, false, false, false, false, false, false, false, false, false, false, false, false] (by kernel_rfl) rfl rfl ⟨(blk_cell BK722.out 0).trans rfl, (blk_cell BK722.out 1).trans rfl, (blk_cell BK722.out 2).trans rfl, (blk_cell BK722.out 3).trans rfl, (blk_cell BK722.out 4).trans rfl, (blk_cell BK722.out 5).trans rfl⟩ (fun hHeld => ?_); refine with_tabW careenagelaw07_BranchBack.tab8 careenagelaw07_BranchBack.bits8 (fun HT_ HW_ => ?_)
                    generalize w32.drew = w33 at HO725 BK712 BK722 HB hHeld ⊢
                    refine pure_ (i := 0) (N := some 45) (v := ?_) (a' := ?_) #[true, false, false, false, false, false, false, false, false, false, false, false, false, false, false, false] rfl rfl (any_of HT_.out (by kernel_rfl)) (fun _ _ _ h => h) (Or.inl ⟨by rfl, ?_⟩) ?_ ?_
                    rotate_left
                    · intro w'
                      go_simp
                      with_reducible rfl
                    rotate_left
                    · simp only [Act.put, List.setIfInBounds_toArray, List.set_cons_zero, List.set_cons_succ, i64_w, i32_w]
                      rfl
                    refine pure_ (i := 1) (N := some 46) (v := ?_) (a' := ?_) #[true, true, false, false, false, false, false, false, false, false, false, false, false, false, false, false] rfl rfl (any_of HT_.out (by kernel_rfl)) (fun _ _ _ h => h) (Or.inl ⟨by rfl, ?_⟩) ?_ ?_
                    rotate_left
                    · intro w'
                      go_simp
                      with_reducible rfl
                    rotate_left
                    · simp only [Act.put, List.setIfInBounds_toArray, List.set_cons_zero, List.set_cons_succ, i64_w, i32_w]
                      rfl
                    refine pure_ (i := 2) (N := some 47) (v := ?_) (a' := ?_) #[true, true, true, false, false, false, false, false, false, false, false, false, false, false, false, false] rfl rfl (any_of HT_.out (by kernel_rfl)) (fun _ _ _ h => h) (Or.inl ⟨by rfl, ?_⟩) ?_ ?_
                    rotate_left
                    · intro w'
                      go_simp
                      with_reducible rfl
                    rotate_left
                    · simp only [Act.put, List.setIfInBounds_toArray, List.set_cons_zero, List.set_cons_succ, i64_w, i32_w]
                      rfl
                    refine pure_ (i := 3) (N := some 48) (v := ?_) (a' := ?_) #[true, true, true, true, false, false, false, false, false, false, false, false, false, false, false, false] rfl rfl (any_of HT_.out (by kernel_rfl)) (fun _ _ _ h => h) (Or.inl ⟨by rfl, ?_⟩) ?_ ?_
                    rotate_left
                    · intro w'
                      go_simp
                      with_reducible rfl
                    rotate_left
                    · simp only [Act.put, List.setIfInBounds_toArray, List.set_cons_zero, List.set_cons_succ, i64_w, i32_w]
                      rfl
                    refine pure_ (i := 4) (N := some 49) (v := ?_) (a' := ?_) #[true, true, true, true, true, false, false, false, false, false, false, false, false, false, false, false] rfl rfl (any_of HT_.out (by kernel_rfl)) (fun _ _ _ h => h) (Or.inl ⟨by rfl, ?_⟩) ?_ ?_
                    rotate_left
                    · intro w'
                      go_simp
                      with_reducible rfl
                    rotate_left
                    · simp only [Act.put, List.setIfInBounds_toArray, List.set_cons_zero, List.set_cons_succ, i64_w, i32_w]
                      rfl
                    refine one_ (i := 5) (N := some 50) #[true, true, true, true, true, true, false, false, false, false, false, false, false, false, false, false] rfl rfl (one_of HT_.out (by kernel_rfl)) (by decide) (fun K hK => ?_)
                    refine goes_ Try.func41 (by kernel_rfl) rfl #[.slice Ao34 t723.length co34, .slice A3 l3.length c3] (by rfl) rfl rfl (by (try simp only [List.map_toArray, List.map_cons, List.map_nil]); first | done | rfl | (simp only [List.length_drop, List.length_take]; rfl)) ?_
                    with_reducible refine (api_Fork.calls kj7 _ _ t723 _ _ l3 true _ ?side1 ?side2 ?side3 ?side4 A26.out).mono ?_
                    (case side1 => repeat (first | exact (Kd.R_reads' HO725.out).2.2 | (with_reducible refine Kd.C_alloc ?_ _) | (with_reducible refine Kd.C_drewN ?_ _) | (with_reducible refine Kd.C_drew ?_)))
                    (case side2 => exact (Kd.R_reads' HO725.out).2.1)
                    (case side3 => repeat (first | exact (Kd.C_below HR3.out HB.out) | (with_reducible refine Kd.C_alloc ?_ _) | (with_reducible refine Kd.C_drewN ?_ _) | (with_reducible refine Kd.C_drew ?_)))
                    (case side4 => exact HC3.out)
                    rintro e w' ⟨rfl, ⟨nd, rfl⟩⟩
                    refine ⟨_, rfl, ?_⟩
                    refine hK.out _ _ ⟨(blk_cell BK722.out 0).trans rfl, (blk_cell BK722.out 1).trans rfl, (blk_cell BK722.out 2).trans rfl, (blk_cell BK722.out 3).trans rfl, (blk_cell BK722.out 4).trans rfl, (blk_cell BK722.out 5).trans rfl⟩ (fun hHeld => ?_)
                    clear hK K
                    refine norm_ (a' := ?_) ?_ ?_
                    rotate_left
                    · show Act.put _ (some 50) _ = _
                      simp only [Act.put, List.setIfInBounds_toArray, List.set_cons_zero, List.set_cons_succ, i64_w, i32_w]
                      rfl
                    refine pure_ (i := 6) (N := some 51) (v := ?_) (a' := ?_) #[true, true, true, true, true, true, true, false, false, false, false, false, false, false, false, false] rfl rfl (any_of HT_.out (by kernel_rfl)) (fun _ _ _ h => h) (Or.inl ⟨by rfl, ?_⟩) ?_ ?_
                    rotate_left
                    · intro w'
                      go_simp
                      with_reducible rfl
                    rotate_left
                    · simp only [Act.put, List.setIfInBounds_toArray, List.set_cons_zero, List.set_cons_succ, i64_w, i32_w]
                      rfl
                    refine pure_ (i := 7) (N := some 52) (v := ?_) (a' := ?_) #[true, true, true, true, true, true, true, true, false, false, false, false, false, false, false, false] rfl rfl (any_of HT_.out (by kernel_rfl)) (fun _ _ _ h => h) (Or.inl ⟨by rfl, ?_⟩) ?_ ?_
                    rotate_left
                    · intro w'
                      go_simp
                      with_reducible rfl
                    rotate_left
                    · simp only [Act.put, List.setIfInBounds_toArray, List.set_cons_zero, List.set_cons_succ, i64_w, i32_w]
                      rfl
                    refine pure_ (i := 8) (N := some 53) (v := ?_) (a' := ?_) #[true, true, true, true, true, true, true, true, true, false, false, false, false, false, false, false] rfl rfl (any_of HT_.out (by kernel_rfl)) (fun _ _ _ h => h) (Or.inl ⟨by rfl, ?_⟩) ?_ ?_
                    rotate_left
                    · intro w'
                      go_simp
                      with_reducible rfl
                    rotate_left
                    · simp only [Act.put, List.setIfInBounds_toArray, List.set_cons_zero, List.set_cons_succ, i64_w, i32_w]
                      rfl
                    refine pure_ (i := 9) (N := some 54) (v := ?_) (a' := ?_) #[true, true, true, true, true, true, true, true, true, true, false, false, false, false, false, false] rfl rfl (any_of HT_.out (by kernel_rfl)) (fun _ _ _ h => h) (Or.inl ⟨by rfl, ?_⟩) ?_ ?_
                    rotate_left
                    · intro w'
                      go_simp
                      with_reducible rfl
                    rotate_left
                    · simp only [Act.put, List.setIfInBounds_toArray, List.set_cons_zero, List.set_cons_succ, i64_w, i32_w]
                      rfl
                    refine pure_ (i := 11) (N := some 56) (v := ?_) (a' := ?_) #[true, true, true, true, true, true, true, true, true, true, false, true, false, false, false, false] rfl rfl (any_of HT_.out (by kernel_rfl)) (fun _ _ _ h => h) (Or.inl ⟨by rfl, ?_⟩) ?_ ?_
                    rotate_left
                    · intro w'
                      go_simp
                      with_reducible rfl
                    rotate_left
                    · simp only [Act.put, List.setIfInBounds_toArray, List.set_cons_zero, List.set_cons_succ, i64_w, i32_w]
                      rfl
                    refine take_ (i := 12) (N := some 57) (v := ?_) (a' := ?_) #[true, true, true, true, true, true, true, true, true, true, false, true, true, false, false, false] rfl rfl (take_ofW HT_.out HW_.out (by kernel_rfl)) (fun _ _ _ h => h) (Or.inl ⟨by rfl, ?_⟩) hHeld ?_ ?_
                    rotate_left
                    · rintro w' ⟨s0, s1, s2, s3, s4, s5⟩
                      go_simp
                      with_reducible rfl
                    rotate_left
                    · simp only [Act.put, List.setIfInBounds_toArray, List.set_cons_zero, List.set_cons_succ, i64_w, i32_w]
                      rfl
                    refine pure_ (i := 13) (N := some 58) (v := ?_) (a' := ?_) #[true, true, true, true, true, true, true, true, true, true, false, true, true, true, false, false] rfl rfl (any_of HT_.out (by kernel_rfl)) (fun _ _ _ h => h) (Or.inl ⟨by rfl, ?_⟩) ?_ ?_
                    rotate_left
                    · intro w'
                      go_simp
                      with_reducible rfl
                    rotate_left
                    · simp only [Act.put, List.setIfInBounds_toArray, List.set_cons_zero, List.set_cons_succ, i64_w, i32_w]
                      rfl
                    refine one_ (i := 10) (N := some 55) #[true, true, true, true, true, true, true, true, true, true, true, true, true, true, false, false] rfl rfl (one_of HT_.out (by kernel_rfl)) (by decide) (fun K hK => ?_)
                    refine goes_ Try.func42 (by kernel_rfl) rfl #[.slice A3 l3.length c3] (by rfl) rfl rfl (by (try simp only [List.map_toArray, List.map_cons, List.map_nil]); first | done | rfl | (simp only [List.length_drop, List.length_take]; rfl)) ?_
                    with_reducible refine (branch_Size.calls kj7 _ _ l3 t728 _ ?side1 ?side2 A28.out).mono ?_
                    (case side1 => repeat (first | exact (Kd.C_below HR3.out (by repeat (first | (with_reducible first | exact HB.out | apply below_alloc | apply pw_below_drewN | apply below_drew1 | refine below_set ?_ GE712.out | refine below_set ?_ GE722.out) | exact HB.out))) | (with_reducible refine Kd.C_alloc ?_ _) | (with_reducible refine Kd.C_drewN ?_ _) | (with_reducible refine Kd.C_drew ?_)))
                    (case side2 => exact HC3.out)
                    rintro e w35 ⟨rfl, hb⟩
                    refine ⟨_, rfl, ?_⟩
                    have n0_ := Aside0.mk (Kd.R_below (by (with_reducible repeat (first | apply Kd.R_alloc | apply Kd.R_drewN | apply Kd.R_drew)); exact HO725.out) hb)
                    have n1_ := Aside0.mk (blk_below (g := gb712) (o := .cells #[.int .i64 a4_0, .int .i64 a4_1, .int .u32 a4_2, .int .u32 a4_3, .int .u64 a4_4, .string a4_5] 39 (0, 0)) (by (with_reducible repeat (first | refine blk_drewN ?_ _ | refine blk_drew ?_ | refine blk_alloc ?_ _)); exact BK712.out) hb)
                    have n2_ := Aside0.mk (blk_below (g := gb722) (o := .cells #[.int .i64 t715, .int .i64 t716, .int .u32 t717, .int .u32 t718, .int .u64 t719, .string t720] 39 (0, 0)) (by (with_reducible repeat (first | refine blk_drewN ?_ _ | refine blk_drew ?_ | refine blk_alloc ?_ _)); exact BK722.out) hb)
                    have n3_ := Aside0.mk (below_step (by repeat (first | (with_reducible first | exact HB.out | apply below_alloc | apply pw_below_drewN | apply below_drew1 | refine below_set ?_ GE712.out | refine below_set ?_ GE722.out) | exact HB.out)) hb)
                    clear HO725
                    clear BK712
                    clear BK722
                    clear HB
                    have HO725 := n0_
                    have BK712 := n1_
                    have BK722 := n2_
                    have HB := n3_
                    clear n0_ n1_ n2_ n3_
                    (try clear hb)
                    (try clear hb2)
                    (try clear hk)
                    (try clear hi)
                    refine hK.out _ _ ⟨(blk_cell BK722.out 0).trans rfl, (blk_cell BK722.out 1).trans rfl, (blk_cell BK722.out 2).trans rfl, (blk_cell BK722.out 3).trans rfl, (blk_cell BK722.out 4).trans rfl, (blk_cell BK722.out 5).trans rfl⟩ (fun hHeld => ?_)
                    clear hK K
                    refine norm_ (a' := ?_) ?_ ?_
                    rotate_left
                    · show Act.put _ (some 55) _ = _
                      simp only [Act.put, List.setIfInBounds_toArray, List.set_cons_zero, List.set_cons_succ, i64_w, i32_w]
                      rfl
                    refine pure_ (i := 14) (N := some 59) (v := ?_) (a' := ?_) #[true, true, true, true, true, true, true, true, true, true, true, true, true, true, true, false] rfl rfl (any_of HT_.out (by kernel_rfl)) (fun _ _ _ h => h) (Or.inl ⟨by rfl, ?_⟩) ?_ ?_
                    rotate_left
                    · intro w'
                      go_simp
                      with_reducible rfl
                    rotate_left
                    · simp only [Act.put, List.setIfInBounds_toArray, List.set_cons_zero, List.set_cons_succ, i64_w, i32_w]
                      rfl
                    refine pure_ (i := 15) (N := some 60) (v := ?_) (a' := ?_) #[true, true, true, true, true, true, true, true, true, true, true, true, true, true, true, true] rfl rfl (any_of HT_.out (by kernel_rfl)) (fun _ _ _ h => h) (Or.inl ⟨by rfl, ?_⟩) ?_ ?_
                    rotate_left
                    · intro w'
                      go_simp
                      with_reducible rfl
                    rotate_left
                    · simp only [Act.put, List.setIfInBounds_toArray, List.set_cons_zero, List.set_cons_succ, i64_w, i32_w]
                      rfl
                    refine done_ (done_of HT_.out (by kernel_rfl)) ?_
                    try go_wp2
                    go_meet
                    case rel => exact ⟨_, H', ⟨by have := HJ7.out; first | omega | exact Nat.le_refl _⟩, ⟨by (with_reducible repeat (first | refine blk_drewN ?_ _ | refine blk_drew ?_ | refine blk_alloc ?_ _)); exact BK712.out⟩, ⟨by (with_reducible repeat (first | refine blk_drewN ?_ _ | refine blk_drew ?_ | refine blk_alloc ?_ _)); exact BK722.out⟩, ⟨by repeat (first | (with_reducible first | exact HB.out | apply below_alloc | apply pw_below_drewN | apply below_drew1 | refine below_set ?_ GE712.out | refine below_set ?_ GE722.out) | exact HB.out)⟩⟩
                · replace c27 := Bool.eq_false_iff.mpr c27
                  subst c27
                  have H1 : (some false) = some r := by rw [if_neg (show ¬ (false = true) by decide)] at H; exact H
                  clear H
                  have H := H1
                  clear H1
                  exact absurd ((Option.some.inj H).trans HLaw.out) (by simp)
              · rw [if_neg c25] at H
                have c25b0 : (t726 == 0) = false := beq_eq_false_iff_ne.mpr c25
                have c25b1 : (t726 != 0) = true := bne_iff_ne.mpr c25
                exact absurd ((Option.some.inj H).trans HLaw.out) (by simp)
            · rw [if_neg c23] at H
              have c23b0 : (t721 == 0) = false := beq_eq_false_iff_ne.mpr c23
              have c23b1 : (t721 != 0) = true := bne_iff_ne.mpr c23
              (first | rw [c23b0] | (simp only [i64_w, i32_w]; rw [c23b0]) | skip)
              have H' := Aside0.mk H
              clear H
              go_wp2
              go_meet
              case rel => exact ⟨_, H', ⟨by have := HJ7.out; first | omega | exact Nat.le_refl _⟩, ⟨by (with_reducible repeat (first | refine blk_drewN ?_ _ | refine blk_drew ?_ | refine blk_alloc ?_ _)); refine blk_far ?_ NB712_722.out _; (with_reducible repeat (first | refine blk_drewN ?_ _ | refine blk_drew ?_ | refine blk_alloc ?_ _)); refine blk_far ?_ NB712_722.out _; (with_reducible repeat (first | refine blk_drewN ?_ _ | refine blk_drew ?_ | refine blk_alloc ?_ _)); refine blk_far ?_ NB712_722.out _; (with_reducible repeat (first | refine blk_drewN ?_ _ | refine blk_drew ?_ | refine blk_alloc ?_ _)); refine blk_far ?_ NB712_722.out _; (with_reducible repeat (first | refine blk_drewN ?_ _ | refine blk_drew ?_ | refine blk_alloc ?_ _)); refine blk_far ?_ NB712_722.out _; (with_reducible repeat (first | refine blk_drewN ?_ _ | refine blk_drew ?_ | refine blk_alloc ?_ _)); refine blk_far ?_ NB712_722.out _; (with_reducible repeat (first | refine blk_drewN ?_ _ | refine blk_drew ?_ | refine blk_alloc ?_ _)); exact BK712.out⟩, ⟨by (with_reducible repeat (first | refine blk_drewN ?_ _ | refine blk_drew ?_ | refine blk_alloc ?_ _)); refine blk_put (cs := #[.int .i64 t715, .int .i64 t716, .int .u32 t717, .int .u32 t718, .int .u64 t719, .string (⟨#[]⟩ : ByteArray)]) ?_ 5 _ rfl; (with_reducible repeat (first | refine blk_drewN ?_ _ | refine blk_drew ?_ | refine blk_alloc ?_ _)); refine blk_put (cs := #[.int .i64 t715, .int .i64 t716, .int .u32 t717, .int .u32 t718, .int .u64 0, .string (⟨#[]⟩ : ByteArray)]) ?_ 4 _ rfl; (with_reducible repeat (first | refine blk_drewN ?_ _ | refine blk_drew ?_ | refine blk_alloc ?_ _)); refine blk_put (cs := #[.int .i64 t715, .int .i64 t716, .int .u32 t717, .int .u32 0, .int .u64 0, .string (⟨#[]⟩ : ByteArray)]) ?_ 3 _ rfl; (with_reducible repeat (first | refine blk_drewN ?_ _ | refine blk_drew ?_ | refine blk_alloc ?_ _)); refine blk_put (cs := #[.int .i64 t715, .int .i64 t716, .int .u32 0, .int .u32 0, .int .u64 0, .string (⟨#[]⟩ : ByteArray)]) ?_ 2 _ rfl; (with_reducible repeat (first | refine blk_drewN ?_ _ | refine blk_drew ?_ | refine blk_alloc ?_ _)); refine blk_put (cs := #[.int .i64 t715, .int .i64 0, .int .u32 0, .int .u32 0, .int .u64 0, .string (⟨#[]⟩ : ByteArray)]) ?_ 1 _ rfl; (with_reducible repeat (first | refine blk_drewN ?_ _ | refine blk_drew ?_ | refine blk_alloc ?_ _)); refine blk_put (cs := #[.int .i64 0, .int .i64 0, .int .u32 0, .int .u32 0, .int .u64 0, .string (⟨#[]⟩ : ByteArray)]) ?_ 0 _ rfl; (with_reducible repeat (first | refine blk_drewN ?_ _ | refine blk_drew ?_ | refine blk_alloc ?_ _)); exact BK722.out⟩, ⟨by repeat (first | (with_reducible first | exact HB.out | apply below_alloc | apply pw_below_drewN | apply below_drew1 | refine below_set ?_ GE712.out | refine below_set ?_ GE722.out) | exact HB.out)⟩⟩
          case rest =>
            clear HC18
            try clear c1
            try clear c2
            try clear p2
            try clear c3
            try clear c4
            try clear c7
            try clear c12
            try clear c16
            try clear c21
            try clear c22
            try clear c23
            try clear c23b0
            try clear c23b1
            try clear c24
            try clear c25
            try clear c25b0
            try clear c25b1
            try clear c27
            try clear c29
            try clear c29b0
            try clear c30
            try clear hcz14_0
            try clear hcz14_1
            try clear hcz14_2
            try clear hcz14_3
            try clear hcz14_4
            try clear hcz14_5
            try clear hcz22_0
            try clear hcz22_1
            try clear hcz22_2
            try clear hcz22_3
            try clear hcz22_4
            try clear hcz22_5
            try clear hcz31_0
            try clear hcz31_1
            try clear hcz31_2
            try clear hcz31_3
            try clear hcz31_4
            try clear hcz31_5
            try clear hfz14_0
            try clear hfz14_1
            try clear hfz14_2
            try clear hfz14_3
            try clear hfz14_4
            try clear hfz14_5
            try clear hfz22_0
            try clear hfz22_1
            try clear hfz22_2
            try clear hfz22_3
            try clear hfz22_4
            try clear hfz22_5
            try clear hfz31_0
            try clear hfz31_1
            try clear hfz31_2
            try clear hfz31_3
            try clear hfz31_4
            try clear hfz31_5
            try clear p2
            obtain ⟨kq, HA, HJ17, BK712, BK722, HB⟩ := hcut
            cases kq with
            | zero => exact absurd HA.out (by simp [careenagelaw07_BranchBack.j1])
            | succ kj17 =>
              have H := HA.out
              clear HA
              simp only [careenagelaw07_BranchBack.j1] at H
              replace H := Option.bind_eq_some_iff.mp H
              obtain ⟨⟨t729, t732⟩, A360, H⟩ := H
              replace H : (if t732 = 0 then ((branch_Page.f kj17 (wrap64 ((a4_5.size : Int) + 24)) a4_2 a4_4 t729).bind fun bt733 => (if bt733.2.2.2.2.2.2 = 0 then (some (bt733.1 == a4_0 && (bt733.2.1 == a4_1 && (bt733.2.2.1 == a4_2 && (bt733.2.2.2.1 == a4_3 && (bt733.2.2.2.2.1 == a4_4 && (bt733.2.2.2.2.2.1.toList == a4_5.toList))))))) else (some false))) else (some ((t729.length : Int) == 0))) = some r := H
              have A36 := Aside0.mk A360
              clear A360
              by_cases c37 : t732 = 0
              · rw [if_pos c37] at H
                have c37b0 : (t732 == 0) = true := beq_iff_eq.mpr c37
                have c37b1 : (t732 != 0) = false := bne_eq_false_iff_eq.mpr c37
                clear c37
                replace H := Option.bind_eq_some_iff.mp H
                obtain ⟨⟨t733, t734, t735, t736, t737, t738, t739⟩, A380, H⟩ := H
                replace H : (if t739 = 0 then (some (t733 == a4_0 && (t734 == a4_1 && (t735 == a4_2 && (t736 == a4_3 && (t737 == a4_4 && (t738.toList == a4_5.toList))))))) else (some false)) = some r := H
                have A38 := Aside0.mk A380
                clear A380
                by_cases c39 : t739 = 0
                · rw [if_pos c39] at H
                  have c39b0 : (t739 == 0) = true := beq_iff_eq.mpr c39
                  have c39b1 : (t739 != 0) = false := bne_eq_false_iff_eq.mpr c39
                  clear c39
                  obtain rfl := Option.some.inj H
                  have hnb40 := NB712_722.out
                  have hnc40 := NB722_712.out
                  have hcz41_0 : wc.cell? ⟨gb712, 0, none⟩ = some (.int .i64 a4_0) := (blk_cell BK712.out 0).trans rfl
                  have hcz41_1 : wc.cell? ⟨gb712, 1, none⟩ = some (.int .i64 a4_1) := (blk_cell BK712.out 1).trans rfl
                  have hcz41_2 : wc.cell? ⟨gb712, 2, none⟩ = some (.int .u32 a4_2) := (blk_cell BK712.out 2).trans rfl
                  have hcz41_3 : wc.cell? ⟨gb712, 3, none⟩ = some (.int .u32 a4_3) := (blk_cell BK712.out 3).trans rfl
                  have hcz41_4 : wc.cell? ⟨gb712, 4, none⟩ = some (.int .u64 a4_4) := (blk_cell BK712.out 4).trans rfl
                  have hcz41_5 : wc.cell? ⟨gb712, 5, none⟩ = some (.string a4_5) := (blk_cell BK712.out 5).trans rfl
                  have hfz41_0 := blk_frozen BK712.out 0
                  have hfz41_1 := blk_frozen BK712.out 1
                  have hfz41_2 := blk_frozen BK712.out 2
                  have hfz41_3 := blk_frozen BK712.out 3
                  have hfz41_4 := blk_frozen BK712.out 4
                  have hfz41_5 := blk_frozen BK712.out 5
                  go_wp2_with (first | ((with_reducible refine gate_callee (f := 39) rfl ?_); refine goesL_ (some 63) rfl rfl Try.func39 (by kernel_rfl) rfl #[.agg #[.int .i64 a4_0, .int .i64 a4_1, .int .u32 a4_2, .int .u32 a4_3, .int .u64 a4_4, .string a4_5]] rfl (by (try simp only [List.map_toArray, List.map_cons, List.map_nil]); first | done | rfl | (simp only [List.length_drop, List.length_take]; rfl)) ?_; (with_reducible refine (branch_Of.calls a4_0 a4_1 a4_2 a4_3 a4_4 a4_5 t729 t732 _ A36.out).mono ?_); rintro e w42 ⟨v730, rfl, ho0, hb⟩; refine ⟨_, rfl, ?_⟩; have n0_ := Aside0.mk (Kd.R_lower ho0 (below_size (by repeat (first | (with_reducible first | exact HB.out | apply below_alloc | apply pw_below_drewN | apply below_drew1 | refine below_set ?_ GE712.out | refine below_set ?_ GE722.out) | exact HB.out)))); have n1_ := Aside0.mk (blk_below (g := gb712) (o := .cells #[.int .i64 a4_0, .int .i64 a4_1, .int .u32 a4_2, .int .u32 a4_3, .int .u64 a4_4, .string a4_5] 39 (0, 0)) (by (with_reducible repeat (first | refine blk_drewN ?_ _ | refine blk_drew ?_ | refine blk_alloc ?_ _)); exact BK712.out) hb); have n2_ := Aside0.mk (blk_below (g := gb722) (o := .cells #[.int .i64 t715, .int .i64 t716, .int .u32 t717, .int .u32 t718, .int .u64 t719, .string t720] 39 (0, 0)) (by (with_reducible repeat (first | refine blk_drewN ?_ _ | refine blk_drew ?_ | refine blk_alloc ?_ _)); exact BK722.out) hb); have n3_ := Aside0.mk (below_step (by repeat (first | (with_reducible first | exact HB.out | apply below_alloc | apply pw_below_drewN | apply below_drew1 | refine below_set ?_ GE712.out | refine below_set ?_ GE722.out) | exact HB.out)) hb); clear BK712; clear BK722; clear HB; have HO731 := n0_; have BK712 := n1_; have BK722 := n2_; have HB := n3_; clear n0_ n1_ n2_ n3_; (try clear hb); (try clear hb2); (try clear hk); (try clear hi); (try clear ho0); have hcz43_0 : w42.cell? ⟨gb712, 0, none⟩ = some (.int .i64 a4_0) := (blk_cell BK712.out 0).trans rfl; have hcz43_1 : w42.cell? ⟨gb712, 1, none⟩ = some (.int .i64 a4_1) := (blk_cell BK712.out 1).trans rfl; have hcz43_2 : w42.cell? ⟨gb712, 2, none⟩ = some (.int .u32 a4_2) := (blk_cell BK712.out 2).trans rfl; have hcz43_3 : w42.cell? ⟨gb712, 3, none⟩ = some (.int .u32 a4_3) := (blk_cell BK712.out 3).trans rfl; have hcz43_4 : w42.cell? ⟨gb712, 4, none⟩ = some (.int .u64 a4_4) := (blk_cell BK712.out 4).trans rfl; have hcz43_5 : w42.cell? ⟨gb712, 5, none⟩ = some (.string a4_5) := (blk_cell BK712.out 5).trans rfl; have hfz43_0 := blk_frozen BK712.out 0; have hfz43_1 := blk_frozen BK712.out 1; have hfz43_2 := blk_frozen BK712.out 2; have hfz43_3 := blk_frozen BK712.out 3; have hfz43_4 := blk_frozen BK712.out 4; have hfz43_5 := blk_frozen BK712.out 5; obtain ⟨Ao44, co44, eo44⟩ := Kd.R_slice HO731.out; subst eo44) | ((with_reducible refine gate_callee (f := 23) rfl ?_); refine goesL_ (some 81) rfl rfl Try.func23 (by kernel_rfl) rfl #[.int .i64 (wrap64 ((a4_5.size : Int) + 24)), .int .u32 a4_2, .int .u64 a4_4, .slice Ao44 t729.length co44] rfl (by (try simp only [List.map_toArray, List.map_cons, List.map_nil]); first | done | rfl | (simp only [List.length_drop, List.length_take]; rfl)) ?_; (with_reducible refine (branch_Page.calls kj17 (wrap64 ((a4_5.size : Int) + 24)) a4_2 a4_4 _ _ t729 t733 t734 t735 t736 t737 t738 t739 _ ?side1 ?side2 A38.out).mono ?_); (case side1 => repeat (first | exact (Kd.R_reads' HO731.out).2.2 | (with_reducible refine Kd.C_alloc ?_ _) | (with_reducible refine Kd.C_drewN ?_ _) | (with_reducible refine Kd.C_drew ?_))); (case side2 => exact (Kd.R_reads' HO731.out).2.1); rintro e w45 ⟨rfl, hb⟩; refine ⟨_, rfl, ?_⟩; have n0_ := Aside0.mk (Kd.R_below (by (with_reducible repeat (first | apply Kd.R_alloc | apply Kd.R_drewN | apply Kd.R_drew)); exact HO731.out) hb); have n1_ := Aside0.mk (blk_below (g := gb712) (o := .cells #[.int .i64 a4_0, .int .i64 a4_1, .int .u32 a4_2, .int .u32 a4_3, .int .u64 a4_4, .string a4_5] 39 (0, 0)) (by (with_reducible repeat (first | refine blk_drewN ?_ _ | refine blk_drew ?_ | refine blk_alloc ?_ _)); exact BK712.out) hb); have n2_ := Aside0.mk (blk_below (g := gb722) (o := .cells #[.int .i64 t715, .int .i64 t716, .int .u32 t717, .int .u32 t718, .int .u64 t719, .string t720] 39 (0, 0)) (by (with_reducible repeat (first | refine blk_drewN ?_ _ | refine blk_drew ?_ | refine blk_alloc ?_ _)); exact BK722.out) hb); have n3_ := Aside0.mk (below_step (by repeat (first | (with_reducible first | exact HB.out | apply below_alloc | apply pw_below_drewN | apply below_drew1 | refine below_set ?_ GE712.out | refine below_set ?_ GE722.out) | exact HB.out)) hb); clear HO731; clear BK712; clear BK722; clear HB; have HO731 := n0_; have BK712 := n1_; have BK722 := n2_; have HB := n3_; clear n0_ n1_ n2_ n3_; (try clear hb); (try clear hb2); (try clear hk); (try clear hi)) | ((with_reducible refine gate_dst (N := 17) rfl ?_); (try (refine gate_guard (by rfl) ?_; dsimp only)); refine box_event ?hg (N := 17) ?hd (cs := #[.int .i64 0, .int .i64 0, .int .u32 0, .int .u32 0, .int .u64 0, .string (⟨#[]⟩ : ByteArray)]) (t := 39) ?hr ?_; (case hd => rfl); (case hg => rfl); (case hr => first | (go_simp; done) | (go_simp; rfl)); intro gb740 hg w46 hbox hb; have n0_ := Aside0.mk (Kd.R_below (by (with_reducible repeat (first | apply Kd.R_alloc | apply Kd.R_drewN | apply Kd.R_drew)); exact HO731.out) hb); have n1_ := Aside0.mk (blk_below (g := gb712) (o := .cells #[.int .i64 a4_0, .int .i64 a4_1, .int .u32 a4_2, .int .u32 a4_3, .int .u64 a4_4, .string a4_5] 39 (0, 0)) (by (with_reducible repeat (first | refine blk_drewN ?_ _ | refine blk_drew ?_ | refine blk_alloc ?_ _)); exact BK712.out) hb); have n2_ := Aside0.mk (blk_below (g := gb722) (o := .cells #[.int .i64 t715, .int .i64 t716, .int .u32 t717, .int .u32 t718, .int .u64 t719, .string t720] 39 (0, 0)) (by (with_reducible repeat (first | refine blk_drewN ?_ _ | refine blk_drew ?_ | refine blk_alloc ?_ _)); exact BK722.out) hb); have n3_ := Aside0.mk (below_step (by repeat (first | (with_reducible first | exact HB.out | apply below_alloc | apply pw_below_drewN | apply below_drew1 | refine below_set ?_ GE712.out | refine below_set ?_ GE722.out) | exact HB.out)) hb); have n4_ := Aside0.mk (hbox); have n5_ := Aside0.mk ((by rw [hg]; exact (below_size (by repeat (first | (with_reducible first | exact HB.out | apply below_alloc | apply pw_below_drewN | apply below_drew1 | refine below_set ?_ GE712.out | refine below_set ?_ GE722.out) | exact HB.out))) : w.heap.size ≤ gb740)); have n6_ := Aside0.mk ((by rw [hg]; exact (below_size (by repeat (first | (with_reducible first | exact HB.out | apply below_alloc | apply pw_below_drewN | apply below_drew1 | refine below_set ?_ GE712.out | refine below_set ?_ GE722.out) | exact HB.out))) : w.heap.size ≤ gb740)); have n7_ := Aside0.mk ((by rw [hg]; exact Nat.ne_of_lt (blk_lt (g := gb712) (o := .cells #[.int .i64 a4_0, .int .i64 a4_1, .int .u32 a4_2, .int .u32 a4_3, .int .u64 a4_4, .string a4_5] 39 (0, 0)) (by (with_reducible repeat (first | refine blk_drewN ?_ _ | refine blk_drew ?_ | refine blk_alloc ?_ _)); exact BK712.out)) : gb712 ≠ gb740)); have n8_ := Aside0.mk ((by rw [hg]; exact Nat.ne_of_gt (blk_lt (g := gb712) (o := .cells #[.int .i64 a4_0, .int .i64 a4_1, .int .u32 a4_2, .int .u32 a4_3, .int .u64 a4_4, .string a4_5] 39 (0, 0)) (by (with_reducible repeat (first | refine blk_drewN ?_ _ | refine blk_drew ?_ | refine blk_alloc ?_ _)); exact BK712.out)) : gb740 ≠ gb712)); have n9_ := Aside0.mk ((by rw [hg]; exact Nat.ne_of_lt (blk_lt (g := gb722) (o := .cells #[.int .i64 t715, .int .i64 t716, .int .u32 t717, .int .u32 t718, .int .u64 t719, .string t720] 39 (0, 0)) (by (with_reducible repeat (first | refine blk_drewN ?_ _ | refine blk_drew ?_ | refine blk_alloc ?_ _)); exact BK722.out)) : gb722 ≠ gb740)); have n10_ := Aside0.mk ((by rw [hg]; exact Nat.ne_of_gt (blk_lt (g := gb722) (o := .cells #[.int .i64 t715, .int .i64 t716, .int .u32 t717, .int .u32 t718, .int .u64 t719, .string t720] 39 (0, 0)) (by (with_reducible repeat (first | refine blk_drewN ?_ _ | refine blk_drew ?_ | refine blk_alloc ?_ _)); exact BK722.out)) : gb740 ≠ gb722)); clear HO731; clear BK712; clear BK722; clear HB; have HO731 := n0_; have BK712 := n1_; have BK722 := n2_; have HB := n3_; have BK740 := n4_; have GW740 := n5_; have GE740 := n6_; have NB712_740 := n7_; have NB740_712 := n8_; have NB722_740 := n9_; have NB740_722 := n10_; clear n0_ n1_ n2_ n3_ n4_ n5_ n6_ n7_ n8_ n9_ n10_; clear hb hbox hg; have hnb47 := NB740_712.out; have hnc47 := NB712_740.out; have hnb48 := NB740_722.out; have hnc48 := NB722_740.out; have hcz49_0 : w46.cell? ⟨gb740, 0, none⟩ = some (.int .i64 0) := (blk_cell BK740.out 0).trans rfl; have hcz49_1 : w46.cell? ⟨gb740, 1, none⟩ = some (.int .i64 0) := (blk_cell BK740.out 1).trans rfl; have hcz49_2 : w46.cell? ⟨gb740, 2, none⟩ = some (.int .u32 0) := (blk_cell BK740.out 2).trans rfl; have hcz49_3 : w46.cell? ⟨gb740, 3, none⟩ = some (.int .u32 0) := (blk_cell BK740.out 3).trans rfl; have hcz49_4 : w46.cell? ⟨gb740, 4, none⟩ = some (.int .u64 0) := (blk_cell BK740.out 4).trans rfl; have hcz49_5 : w46.cell? ⟨gb740, 5, none⟩ = some (.string (⟨#[]⟩ : ByteArray)) := (blk_cell BK740.out 5).trans rfl; have hfz49_0 := blk_frozen BK740.out 0; have hfz49_1 := blk_frozen BK740.out 1; have hfz49_2 := blk_frozen BK740.out 2; have hfz49_3 := blk_frozen BK740.out 3; have hfz49_4 := blk_frozen BK740.out 4; have hfz49_5 := blk_frozen BK740.out 5; have hcz50_0 : w46.cell? ⟨gb712, 0, none⟩ = some (.int .i64 a4_0) := (blk_cell BK712.out 0).trans rfl; have hcz50_1 : w46.cell? ⟨gb712, 1, none⟩ = some (.int .i64 a4_1) := (blk_cell BK712.out 1).trans rfl; have hcz50_2 : w46.cell? ⟨gb712, 2, none⟩ = some (.int .u32 a4_2) := (blk_cell BK712.out 2).trans rfl; have hcz50_3 : w46.cell? ⟨gb712, 3, none⟩ = some (.int .u32 a4_3) := (blk_cell BK712.out 3).trans rfl; have hcz50_4 : w46.cell? ⟨gb712, 4, none⟩ = some (.int .u64 a4_4) := (blk_cell BK712.out 4).trans rfl; have hcz50_5 : w46.cell? ⟨gb712, 5, none⟩ = some (.string a4_5) := (blk_cell BK712.out 5).trans rfl; have hfz50_0 := blk_frozen BK712.out 0; have hfz50_1 := blk_frozen BK712.out 1; have hfz50_2 := blk_frozen BK712.out 2; have hfz50_3 := blk_frozen BK712.out 3; have hfz50_4 := blk_frozen BK712.out 4; have hfz50_5 := blk_frozen BK712.out 5))
                  go_ret
                  exact ⟨by first | rfl | (simp [errW_none, errW_some] <;> rfl) | (simp [*, errW_none, errW_some] <;> rfl), by repeat (first | (with_reducible first | exact HB.out | apply below_alloc | apply pw_below_drewN | apply below_drew1 | refine below_set ?_ GE712.out | refine below_set ?_ GE722.out | refine below_set ?_ GE740.out) | exact HB.out)⟩
                · rw [if_neg c39] at H
                  have c39b0 : (t739 == 0) = false := beq_eq_false_iff_ne.mpr c39
                  have c39b1 : (t739 != 0) = true := bne_iff_ne.mpr c39
                  exact absurd ((Option.some.inj H).trans HLaw.out) (by simp)
              · rw [if_neg c37] at H
                have c37b0 : (t732 == 0) = false := beq_eq_false_iff_ne.mpr c37
                have c37b1 : (t732 != 0) = true := bne_iff_ne.mpr c37
                obtain rfl := Option.some.inj H
                have hnb51 := NB712_722.out
                have hnc51 := NB722_712.out
                have hcz52_0 : wc.cell? ⟨gb712, 0, none⟩ = some (.int .i64 a4_0) := (blk_cell BK712.out 0).trans rfl
                have hcz52_1 : wc.cell? ⟨gb712, 1, none⟩ = some (.int .i64 a4_1) := (blk_cell BK712.out 1).trans rfl
                have hcz52_2 : wc.cell? ⟨gb712, 2, none⟩ = some (.int .u32 a4_2) := (blk_cell BK712.out 2).trans rfl
                have hcz52_3 : wc.cell? ⟨gb712, 3, none⟩ = some (.int .u32 a4_3) := (blk_cell BK712.out 3).trans rfl
                have hcz52_4 : wc.cell? ⟨gb712, 4, none⟩ = some (.int .u64 a4_4) := (blk_cell BK712.out 4).trans rfl
                have hcz52_5 : wc.cell? ⟨gb712, 5, none⟩ = some (.string a4_5) := (blk_cell BK712.out 5).trans rfl
                have hfz52_0 := blk_frozen BK712.out 0
                have hfz52_1 := blk_frozen BK712.out 1
                have hfz52_2 := blk_frozen BK712.out 2
                have hfz52_3 := blk_frozen BK712.out 3
                have hfz52_4 := blk_frozen BK712.out 4
                have hfz52_5 := blk_frozen BK712.out 5
                go_wp2_with (first | ((with_reducible refine gate_callee (f := 39) rfl ?_); refine goesL_ (some 63) rfl rfl Try.func39 (by kernel_rfl) rfl #[.agg #[.int .i64 a4_0, .int .i64 a4_1, .int .u32 a4_2, .int .u32 a4_3, .int .u64 a4_4, .string a4_5]] rfl (by (try simp only [List.map_toArray, List.map_cons, List.map_nil]); first | done | rfl | (simp only [List.length_drop, List.length_take]; rfl)) ?_; (with_reducible refine (branch_Of.calls a4_0 a4_1 a4_2 a4_3 a4_4 a4_5 t729 t732 _ A36.out).mono ?_); rintro e w53 ⟨v730, rfl, ho0, hb⟩; refine ⟨_, rfl, ?_⟩; have n0_ := Aside0.mk (Kd.R_lower ho0 (below_size (by repeat (first | (with_reducible first | exact HB.out | apply below_alloc | apply pw_below_drewN | apply below_drew1 | refine below_set ?_ GE712.out | refine below_set ?_ GE722.out) | exact HB.out)))); have n1_ := Aside0.mk (blk_below (g := gb712) (o := .cells #[.int .i64 a4_0, .int .i64 a4_1, .int .u32 a4_2, .int .u32 a4_3, .int .u64 a4_4, .string a4_5] 39 (0, 0)) (by (with_reducible repeat (first | refine blk_drewN ?_ _ | refine blk_drew ?_ | refine blk_alloc ?_ _)); exact BK712.out) hb); have n2_ := Aside0.mk (blk_below (g := gb722) (o := .cells #[.int .i64 t715, .int .i64 t716, .int .u32 t717, .int .u32 t718, .int .u64 t719, .string t720] 39 (0, 0)) (by (with_reducible repeat (first | refine blk_drewN ?_ _ | refine blk_drew ?_ | refine blk_alloc ?_ _)); exact BK722.out) hb); have n3_ := Aside0.mk (below_step (by repeat (first | (with_reducible first | exact HB.out | apply below_alloc | apply pw_below_drewN | apply below_drew1 | refine below_set ?_ GE712.out | refine below_set ?_ GE722.out) | exact HB.out)) hb); clear BK712; clear BK722; clear HB; have HO731 := n0_; have BK712 := n1_; have BK722 := n2_; have HB := n3_; clear n0_ n1_ n2_ n3_; (try clear hb); (try clear hb2); (try clear hk); (try clear hi); (try clear ho0); obtain ⟨Ao54, co54, eo54⟩ := Kd.R_slice HO731.out; subst eo54))
                go_ret
                exact ⟨by first | rfl | (simp [errW_none, errW_some] <;> rfl) | (simp [*, errW_none, errW_some] <;> rfl), by repeat (first | (with_reducible first | exact HB.out | apply below_alloc | apply pw_below_drewN | apply below_drew1 | refine below_set ?_ GE712.out | refine below_set ?_ GE722.out) | exact HB.out)⟩
  · replace c7 := Bool.eq_false_iff.mpr c7
    subst c7
    have H1 : (some false) = some r := by rw [if_neg (show ¬ (false = true) by decide)] at H; exact H
    clear H
    have H := H1
    clear H1
    exact absurd ((Option.some.inj H).trans HLaw.out) (by simp)
/-- THE ONE PURE STATEMENT of careenagelaw07_BranchBack: yours. -/
def careenagelaw07_BranchBack.Pure : Prop := ∀ (a0 : Int) (a1 : Int) (a2 : Int) (l3 : List (S46)) (a4_0 : Int) (a4_1 : Int) (a4_2 : Int) (a4_3 : Int) (a4_4 : Int) (a4_5 : ByteArray), (Lit.int .i64 a0).wf = true → (Lit.int .u32 a1).wf = true → (Lit.int .u64 a2).wf = true → l3.length ≤ maxLen → l3.length * 24 ≤ 140737488351232 → (∀ x ∈ l3, (x.f0.size ≤ 140737488351232) ∧ ((Lit.int .u32 x.f1).wf = true)) → (Lit.int .i64 a4_0).wf = true → (Lit.int .i64 a4_1).wf = true → (Lit.int .u32 a4_2).wf = true → (Lit.int .u32 a4_3).wf = true → (Lit.int .u64 a4_4).wf = true → a4_5.size ≤ 140737488351232 → ∃ k, careenagelaw07_BranchBack.f k a0 a1 a2 l3 a4_0 a4_1 a4_2 a4_3 a4_4 a4_5 = some true
theorem careenagelaw07_BranchBack.walk (P : careenagelaw07_BranchBack.Pure) (a0 : Int) (a1 : Int) (a2 : Int) (A3 : Option Addr) (c3 : Nat) (l3 : List (S46)) (a4_0 : Int) (a4_1 : Int) (a4_2 : Int) (a4_3 : Int) (a4_4 : Int) (a4_5 : ByteArray) (w : World)    (hC3 : Kd.C k46 w A3 l3.length l3) (hc3 : l3.length ≤ c3)  (w0 : (Lit.int .i64 a0).wf = true) (w1 : (Lit.int .u32 a1).wf = true) (w2 : (Lit.int .u64 a2).wf = true) (w3 : (l3.length ≤ maxLen) ∧ (l3.length * 24 ≤ 140737488351232) ∧ ((∀ x ∈ l3, (x.f0.size ≤ 140737488351232) ∧ ((Lit.int .u32 x.f1).wf = true)))) (w4 : ((Lit.int .i64 a4_0).wf = true) ∧ ((Lit.int .i64 a4_1).wf = true) ∧ ((Lit.int .u32 a4_2).wf = true) ∧ ((Lit.int .u32 a4_3).wf = true) ∧ ((Lit.int .u64 a4_4).wf = true) ∧ (a4_5.size ≤ 140737488351232)) :
    Calls Try.prog 12 #[.int .i64 a0, .int .u32 a1, .int .u64 a2, .slice A3 l3.length c3, .agg #[.int .i64 a4_0, .int .i64 a4_1, .int .u32 a4_2, .int .u32 a4_3, .int .u64 a4_4, .string a4_5]] w fun e w' => e = .returned (.bool true) ∧ Below w.heap.size w w' := by
  obtain ⟨k, h⟩ := P a0 a1 a2 l3 a4_0 a4_1 a4_2 a4_3 a4_4 a4_5 w0 w1 w2 w3.1 w3.2.1 w3.2.2 w4.1 w4.2.1 w4.2.2.1 w4.2.2.2.1 w4.2.2.2.2.1 w4.2.2.2.2.2
  refine (careenagelaw07_BranchBack.calls k a0 a1 a2 _ _ l3 a4_0 a4_1 a4_2 a4_3 a4_4 a4_5 true w hC3 hc3 rfl h).mono ?_
  rintro e w' ⟨rfl, hd⟩
  exact ⟨rfl, hd⟩
end Go.Proofs.Ytlkfcabklaaacaa.P

namespace Go.Proofs.Ytlkfcabklaaacaa.P
open Go.RowKit Go.Proofs.YtlkfcabklaaacaaW.PrintWords Go.Proofs.YtlkfcabklaaacaaW.PrintLast Go.Proofs.YtlkfcabklaaacaaW.PrintMore
attribute [local go_sem] max2_int min2_int max_two min_two max_three min_three max_four min_four   -- for this text's walks alone
open Go.Proofs.YtlkfcabklaaacaaO
attribute [local go_sem] min2_str max2_str
set_option linter.unusedVariables false
set_option linter.unusedSimpArgs false
/-! ### careenageref01_New: function 68 -/
def careenageref01_New.f (a0 : ByteArray) : Option (ByteArray) := some a0
end Go.Proofs.Ytlkfcabklaaacaa.P

namespace Go.Proofs.Ytlkfcabklaaacaa.P
open Go.RowKit Go.Proofs.YtlkfcabklaaacaaW.PrintWords Go.Proofs.YtlkfcabklaaacaaW.PrintLast Go.Proofs.YtlkfcabklaaacaaW.PrintMore
attribute [local go_sem] max2_int min2_int max_two min_two max_three min_three max_four min_four   -- for this text's walks alone
open Go.Proofs.YtlkfcabklaaacaaO
attribute [local go_sem] min2_str max2_str
set_option linter.unusedVariables false
set_option linter.unusedSimpArgs false
/-! ### careenageref01_Reader_Number: function 69 -/
mutual
def careenageref01_Reader_Number.j0 : Nat → Int → Bool → ByteArray → Option (Int × Int × ByteArray)
  | 0, _, _, _ => none
  | k + 1, x1, x13, x1000 => if x13 = true then (some (0, 2, x1000)) else (if (x1000.size : Int) < x1 then (some (0, 7, x1000)) else (careenageref01_Reader_Number.l0 k x1 0 0 x1000))
def careenageref01_Reader_Number.l0 : Nat → Int → Int → Int → ByteArray → Option (Int × Int × ByteArray)
  | 0, _, _, _, _ => none
  | k + 1, x1, x6, x7, x1000 => if x7 < x1 then (if 0 ≤ x7 then (if x7 < (x1000.size : Int) then (if 0 ≤ (IntKind.u64.wrap (wrap64 (8 * x7))) then (careenageref01_Reader_Number.l0 k x1 (Go.bits .or .u64 x6 (shl .u64 (IntKind.u64.wrap (bt x1000 x7)) (IntKind.u64.wrap (wrap64 (8 * x7))))) (wrap64 (x7 + 1)) x1000) else (none)) else (none)) else (none)) else (if 0 ≤ x1 then (if x1 ≤ (x1000.size : Int) then (some (x6, 0, x1000.extract (x1 : Int).toNat x1000.size)) else (none)) else (none))
end
def careenageref01_Reader_Number.f (k : Nat) (s0_0 : ByteArray) (a1 : Int) : Option (Int × Int × ByteArray) := if a1 < 1 then (careenageref01_Reader_Number.j0 k a1 true s0_0) else (careenageref01_Reader_Number.j0 k a1 (decide (a1 > 8)) s0_0)
end Go.Proofs.Ytlkfcabklaaacaa.P

namespace Go.Proofs.Ytlkfcabklaaacaa.P
open Go.RowKit Go.Proofs.YtlkfcabklaaacaaW.PrintWords Go.Proofs.YtlkfcabklaaacaaW.PrintLast Go.Proofs.YtlkfcabklaaacaaW.PrintMore
attribute [local go_sem] max2_int min2_int max_two min_two max_three min_three max_four min_four   -- for this text's walks alone
open Go.Proofs.YtlkfcabklaaacaaO
attribute [local go_sem] min2_str max2_str
set_option linter.unusedVariables false
set_option linter.unusedSimpArgs false
/-! ### careenageref03_Good: function 63 -/
def careenageref03_Good.f (a0 : Int) : Option (Bool) := if a0 ≥ 128 then (if a0 ≤ 4096 then (some ((Int.tmod a0 64) == 0)) else (some false)) else (some false)
end Go.Proofs.Ytlkfcabklaaacaa.P

namespace Go.Proofs.Ytlkfcabklaaacaa.P
open Go.RowKit Go.Proofs.YtlkfcabklaaacaaW.PrintWords Go.Proofs.YtlkfcabklaaacaaW.PrintLast Go.Proofs.YtlkfcabklaaacaaW.PrintMore
attribute [local go_sem] max2_int min2_int max_two min_two max_three min_three max_four min_four   -- for this text's walks alone
open Go.Proofs.YtlkfcabklaaacaaO
attribute [local go_sem] min2_str max2_str
set_option linter.unusedVariables false
set_option linter.unusedSimpArgs false
/-! ### careenageref04_Room: function 37 -/
def careenageref04_Room.f (a0 : Int) : Option (Int) := (careenageref03_Good.f a0).bind fun t325 => (if t325 = true then (some (wrap64 (a0 - 24))) else (some 0))
end Go.Proofs.Ytlkfcabklaaacaa.P

namespace Go.Proofs.Ytlkfcabklaaacaa.P
open Go.RowKit Go.Proofs.YtlkfcabklaaacaaW.PrintWords Go.Proofs.YtlkfcabklaaacaaW.PrintLast Go.Proofs.YtlkfcabklaaacaaW.PrintMore
attribute [local go_sem] max2_int min2_int max_two min_two max_three min_three max_four min_four   -- for this text's walks alone
open Go.Proofs.YtlkfcabklaaacaaO
attribute [local go_sem] min2_str max2_str
set_option linter.unusedVariables false
set_option linter.unusedSimpArgs false
/-! ### careenageref04_Number: function 65 -/
def careenageref04_Number.f (a0 : Int) : Option (Bool) := if a0 ≥ 2 then (some (decide (a0 ≤ 2147483647))) else (some false)
end Go.Proofs.Ytlkfcabklaaacaa.P

namespace Go.Proofs.Ytlkfcabklaaacaa.P
open Go.RowKit Go.Proofs.YtlkfcabklaaacaaW.PrintWords Go.Proofs.YtlkfcabklaaacaaW.PrintLast Go.Proofs.YtlkfcabklaaacaaW.PrintMore
attribute [local go_sem] max2_int min2_int max_two min_two max_three min_three max_four min_four   -- for this text's walks alone
open Go.Proofs.YtlkfcabklaaacaaO
attribute [local go_sem] min2_str max2_str
set_option linter.unusedVariables false
set_option linter.unusedSimpArgs false
/-! ### careenageref01_Put: function 66 -/
mutual
def careenageref01_Put.j0 : Nat → Int → Int → List Int → Bool → Option (List Int)
  | 0, _, _, _, _ => none
  | k + 1, x1, x2, x7, x17 => if x17 = true then (some x7) else (careenageref01_Put.l0 k x1 x2 x7 0)
def careenageref01_Put.l0 : Nat → Int → Int → List Int → Int → Option (List Int)
  | 0, _, _, _, _ => none
  | k + 1, x1, x2, x7, x8 => if x8 < x2 then (if 0 ≤ (IntKind.u64.wrap (wrap64 (8 * x8))) then (if x7.length < 140737488355328 then (careenageref01_Put.l0 k x1 x2 (x7 ++ [(shr .u64 x1 (IntKind.u64.wrap (wrap64 (8 * x8)))) % 256]) (wrap64 (x8 + 1))) else (none)) else (none)) else (some x7)
end
def careenageref01_Put.f (k : Nat) (l0 : List Int) (a1 : Int) (a2 : Int) : Option (List Int) := (some (([] : List Int) : List Int)).bind fun y332 => (if y332.length + l0.length < 140737488355328 then ((some (y332 ++ l0 : List Int)).bind fun y335 => (if a2 < 1 then (careenageref01_Put.j0 k a1 a2 y335 true) else (careenageref01_Put.j0 k a1 a2 y335 (decide (a2 > 8))))) else (none))
end Go.Proofs.Ytlkfcabklaaacaa.P

namespace Go.Proofs.Ytlkfcabklaaacaa.P
open Go.RowKit Go.Proofs.YtlkfcabklaaacaaW.PrintWords Go.Proofs.YtlkfcabklaaacaaW.PrintLast Go.Proofs.YtlkfcabklaaacaaW.PrintMore
attribute [local go_sem] max2_int min2_int max_two min_two max_three min_three max_four min_four   -- for this text's walks alone
open Go.Proofs.YtlkfcabklaaacaaO
attribute [local go_sem] min2_str max2_str
set_option linter.unusedVariables false
set_option linter.unusedSimpArgs false
/-! ### careenageref04_Body: function 67 -/
def careenageref04_Body.f (a0 : Int) (l1 : List Int) : Option (ByteArray × Int) := (careenageref03_Good.f a0).bind fun t341 => (if t341 = true then ((careenageref04_Room.f a0).bind fun t342 => (if (l1.length : Int) > t342 then (some ((⟨#[]⟩ : ByteArray), 3)) else ((careenageref04_Room.f a0).bind fun t343 => (if 0 ≤ (wrap64 (t343 - (l1.length : Int))) then (if (wrap64 (t343 - (l1.length : Int)) : Int).toNat ≤ 281474976710656 then ((some (List.replicate (wrap64 (t343 - (l1.length : Int)) : Int).toNat 0 : List Int)).bind fun y344 => (if (strOfNums l1).size + (strOfNums y344).size ≤ 9223372036854775807 then (some ((strOfNums l1) ++ (strOfNums y344), 0)) else (none))) else (none)) else (none))))) else (some ((⟨#[]⟩ : ByteArray), 2)))
end Go.Proofs.Ytlkfcabklaaacaa.P

namespace Go.Proofs.Ytlkfcabklaaacaa.P
open Go.RowKit Go.Proofs.YtlkfcabklaaacaaW.PrintWords Go.Proofs.YtlkfcabklaaacaaW.PrintLast Go.Proofs.YtlkfcabklaaacaaW.PrintMore
attribute [local go_sem] max2_int min2_int max_two min_two max_three min_three max_four min_four   -- for this text's walks alone
open Go.Proofs.YtlkfcabklaaacaaO
attribute [local go_sem] min2_str max2_str
set_option linter.unusedVariables false
set_option linter.unusedSimpArgs false
/-! ### careenageref07_One: function 74 -/
def careenageref07_One.f (a0_0 : ByteArray) (a0_1 : Int) : Option (Int) := some (wrap64 (5 + (a0_0.size : Int)))
end Go.Proofs.Ytlkfcabklaaacaa.P

namespace Go.Proofs.Ytlkfcabklaaacaa.P
open Go.RowKit Go.Proofs.YtlkfcabklaaacaaW.PrintWords Go.Proofs.YtlkfcabklaaacaaW.PrintLast Go.Proofs.YtlkfcabklaaacaaW.PrintMore
attribute [local go_sem] max2_int min2_int max_two min_two max_three min_three max_four min_four   -- for this text's walks alone
open Go.Proofs.YtlkfcabklaaacaaO
attribute [local go_sem] min2_str max2_str
set_option linter.unusedVariables false
set_option linter.unusedSimpArgs false
/-! ### careenageref07_Size: function 46 -/
def careenageref07_Size.l0 : Nat → List (S46) → Int → Int → Option (Int)
  | 0, _, _, _ => none
  | k + 1, x0, x3, x4 => if x4 < (x0.length : Int) then (if 0 ≤ x4 then ((careenageref07_One.f ((rd_T46 x0 x4).f0) ((rd_T46 x0 x4).f1)).bind fun t627 => (careenageref07_Size.l0 k x0 (wrap64 (x3 + t627)) (wrap64 (x4 + 1)))) else (none)) else (some x3)
def careenageref07_Size.f (k : Nat) (l0 : List (S46)) : Option (Int) := careenageref07_Size.l0 k l0 0 0
end Go.Proofs.Ytlkfcabklaaacaa.P

namespace Go.Proofs.Ytlkfcabklaaacaa.P
open Go.RowKit Go.Proofs.YtlkfcabklaaacaaW.PrintWords Go.Proofs.YtlkfcabklaaacaaW.PrintLast Go.Proofs.YtlkfcabklaaacaaW.PrintMore
attribute [local go_sem] max2_int min2_int max_two min_two max_three min_three max_four min_four   -- for this text's walks alone
open Go.Proofs.YtlkfcabklaaacaaO
attribute [local go_sem] min2_str max2_str
set_option linter.unusedVariables false
set_option linter.unusedSimpArgs false
/-! ### careenageref07_Key: function 48 -/
def careenageref07_Key.f (a0 : ByteArray) : Option (Bool) := some (decide ((a0.size : Int) ≤ 40))
end Go.Proofs.Ytlkfcabklaaacaa.P

namespace Go.Proofs.Ytlkfcabklaaacaa.P
open Go.RowKit Go.Proofs.YtlkfcabklaaacaaW.PrintWords Go.Proofs.YtlkfcabklaaacaaW.PrintLast Go.Proofs.YtlkfcabklaaacaaW.PrintMore
attribute [local go_sem] max2_int min2_int max_two min_two max_three min_three max_four min_four   -- for this text's walks alone
open Go.Proofs.YtlkfcabklaaacaaO
attribute [local go_sem] min2_str max2_str
set_option linter.unusedVariables false
set_option linter.unusedSimpArgs false
/-! ### careenageref07_May: function 72 -/
def careenageref07_May.l0 : Nat → List (S46) → Int → Option (Bool)
  | 0, _, _ => none
  | k + 1, x0, x3 => if x3 < (x0.length : Int) then (if 0 ≤ x3 then ((careenageref07_Key.f ((rd_T46 x0 x3).f0)).bind fun t629 => (if t629 = true then ((careenageref04_Number.f ((rd_T46 x0 x3).f1)).bind fun t631 => (if t631 = true then (if x3 > 0 then (if 0 ≤ (wrap64 (x3 - 1)) then (if (wrap64 (x3 - 1)) < (x0.length : Int) then (if ((Op.bytesLess (((rd_T46 x0 (wrap64 (x3 - 1))).f0).toList) (((rd_T46 x0 x3).f0).toList)) = true) then (careenageref07_May.l0 k x0 (wrap64 (x3 + 1))) else (some false)) else (none)) else (none)) else (careenageref07_May.l0 k x0 (wrap64 (x3 + 1)))) else (some false))) else (some false))) else (none)) else (some (decide ((x0.length : Int) > 0)))
def careenageref07_May.f (k : Nat) (l0 : List (S46)) : Option (Bool) := careenageref07_May.l0 k l0 0
end Go.Proofs.Ytlkfcabklaaacaa.P

namespace Go.Proofs.Ytlkfcabklaaacaa.P
open Go.RowKit Go.Proofs.YtlkfcabklaaacaaW.PrintWords Go.Proofs.YtlkfcabklaaacaaW.PrintLast Go.Proofs.YtlkfcabklaaacaaW.PrintMore
attribute [local go_sem] max2_int min2_int max_two min_two max_three min_three max_four min_four   -- for this text's walks alone
open Go.Proofs.YtlkfcabklaaacaaO
attribute [local go_sem] min2_str max2_str
set_option linter.unusedVariables false
set_option linter.unusedSimpArgs false
/-! ### careenageref07_Page: function 44 -/
mutual
def careenageref07_Page.j0 : Nat → Int → Int → Int → List (S46) → Bool → Option (Int × Int × Int × Int × Int × ByteArray × Int)
  | 0, _, _, _, _, _ => none
  | k + 1, x0, x1, x2, x3, x37 => if x37 = true then (some (0, 0, 0, 0, 0, (⟨#[]⟩ : ByteArray), 2)) else (careenageref07_Page.l0 k x0 x1 x2 x3 ([] : List Int) 0)
def careenageref07_Page.l0 : Nat → Int → Int → Int → List (S46) → List Int → Int → Option (Int × Int × Int × Int × Int × ByteArray × Int)
  | 0, _, _, _, _, _, _ => none
  | k + 1, x0, x1, x2, x3, x10, x11 => if x11 < (x3.length : Int) then (if 0 ≤ x11 then ((careenageref01_Put.f k x10 (IntKind.u64.wrap ((((rd_T46 x3 x11).f0).size : Int))) 1).bind fun t641 => (if t641.length + ((rd_T46 x3 x11).f0).size < 140737488355328 then ((careenageref01_Put.f k (t641 ++ bytesOf ((rd_T46 x3 x11).f0)) (IntKind.u64.wrap ((rd_T46 x3 x11).f1)) 4).bind fun t649 => (careenageref07_Page.l0 k x0 x1 x2 x3 t649 (wrap64 (x11 + 1)))) else (none))) else (none)) else ((careenageref04_Body.f x0 x10).bind fun bt652 => (some (3, (x3.length : Int), x1, 0, x2, bt652.1, 0)))
end
def careenageref07_Page.f (k : Nat) (a0 : Int) (a1 : Int) (a2 : Int) (l3 : List (S46)) : Option (Int × Int × Int × Int × Int × ByteArray × Int) := (careenageref03_Good.f a0).bind fun t635 => (if t635 = true then ((careenageref07_May.f k l3).bind fun t636 => (if t636 = true then ((careenageref07_Size.f k l3).bind fun t637 => ((careenageref04_Room.f a0).bind fun t638 => (if t637 > t638 then (careenageref07_Page.j0 k a0 a1 a2 l3 true) else ((careenageref04_Number.f a1).bind fun t639 => (if t639 = true then (careenageref07_Page.j0 k a0 a1 a2 l3 (decide (a2 > 4611686018427387904))) else (careenageref07_Page.j0 k a0 a1 a2 l3 true)))))) else (careenageref07_Page.j0 k a0 a1 a2 l3 true))) else (careenageref07_Page.j0 k a0 a1 a2 l3 true))
end Go.Proofs.Ytlkfcabklaaacaa.P

namespace Go.Proofs.Ytlkfcabklaaacaa.P
open Go.RowKit Go.Proofs.YtlkfcabklaaacaaW.PrintWords Go.Proofs.YtlkfcabklaaacaaW.PrintLast Go.Proofs.YtlkfcabklaaacaaW.PrintMore
attribute [local go_sem] max2_int min2_int max_two min_two max_three min_three max_four min_four   -- for this text's walks alone
open Go.Proofs.YtlkfcabklaaacaaO
attribute [local go_sem] min2_str max2_str
set_option linter.unusedVariables false
set_option linter.unusedSimpArgs false
/-! ### careenageref01_Reader_Bytes: function 73 -/
def careenageref01_Reader_Bytes.f (s0_0 : ByteArray) (a1 : Int) : Option (ByteArray × Int × ByteArray) := if a1 < 0 then (some ((⟨#[]⟩ : ByteArray), 2, s0_0)) else (if (s0_0.size : Int) < a1 then (some ((⟨#[]⟩ : ByteArray), 7, s0_0)) else (if 0 ≤ a1 then (if a1 ≤ (s0_0.size : Int) then (some (s0_0.extract 0 (a1 : Int).toNat, 0, s0_0.extract (a1 : Int).toNat s0_0.size)) else (none)) else (none)))
end Go.Proofs.Ytlkfcabklaaacaa.P

namespace Go.Proofs.Ytlkfcabklaaacaa.P
open Go.RowKit Go.Proofs.YtlkfcabklaaacaaW.PrintWords Go.Proofs.YtlkfcabklaaacaaW.PrintLast Go.Proofs.YtlkfcabklaaacaaW.PrintMore
attribute [local go_sem] max2_int min2_int max_two min_two max_three min_three max_four min_four   -- for this text's walks alone
open Go.Proofs.YtlkfcabklaaacaaO
attribute [local go_sem] min2_str max2_str
set_option linter.unusedVariables false
set_option linter.unusedSimpArgs false
attribute [local go_sem high] eqA39
/-! ### careenageref07_Of: function 45 -/
def careenageref07_Of.l0 : Nat → List (S46) → Int → Int → Int → Int → Int → Int → ByteArray → ByteArray → Option ((List (S46)) × Int)
  | 0, _, _, _, _, _, _, _, _, _ => none
  | k + 1, x5, x6, x655000, x655001, x655002, x655003, x655004, x655005, x657000 => if x6 < x655001 then ((careenageref01_Reader_Number.f k x657000 1).bind fun bt665 => ((careenageref01_Reader_Bytes.f bt665.2.2 (wrap64 (bt665.1))).bind fun bt668 => ((careenageref01_Reader_Number.f k bt668.2.2 4).bind fun bt671 => (if bt665.2.1 = 0 then (if bt668.2.1 = 0 then (if bt671.2.1 = 0 then (if x5.length < 5864062014805 then (careenageref07_Of.l0 k (x5 ++ [(⟨bt668.1, (bt671.1) % 4294967296⟩ : S46)]) (wrap64 (x6 + 1)) x655000 x655001 x655002 x655003 x655004 x655005 bt671.2.2) else (none)) else (some (([] : List (S46)), 4))) else (some (([] : List (S46)), 4))) else (some (([] : List (S46)), 4)))))) else ((careenageref07_Page.f k (wrap64 ((x655005.size : Int) + 24)) x655002 x655004 x5).bind fun bt657 => (if bt657.2.2.2.2.2.2 = 0 then (if (!(bt657.1 == x655000) || (!(bt657.2.1 == x655001) || (!(bt657.2.2.1 == x655002) || (!(bt657.2.2.2.1 == x655003) || (!(bt657.2.2.2.2.1 == x655004) || (!(bt657.2.2.2.2.2.1.toList == x655005.toList))))))) = true then (some (([] : List (S46)), 4)) else (some (x5, 0))) else (some (([] : List (S46)), 4))))
def careenageref07_Of.f (k : Nat) (a0_0 : Int) (a0_1 : Int) (a0_2 : Int) (a0_3 : Int) (a0_4 : Int) (a0_5 : ByteArray) : Option ((List (S46)) × Int) := (careenageref01_New.f a0_5).bind fun t655 => (careenageref07_Of.l0 k ([] : List (S46)) 0 a0_0 a0_1 a0_2 a0_3 a0_4 a0_5 t655)
end Go.Proofs.Ytlkfcabklaaacaa.P

namespace Go.Proofs.Ytlkfcabklaaacaa.P
open Go.RowKit Go.Proofs.YtlkfcabklaaacaaW.PrintWords Go.Proofs.YtlkfcabklaaacaaW.PrintLast Go.Proofs.YtlkfcabklaaacaaW.PrintMore
attribute [local go_sem] max2_int min2_int max_two min_two max_three min_three max_four min_four   -- for this text's walks alone
open Go.Proofs.YtlkfcabklaaacaaO
attribute [local go_sem] min2_str max2_str
attribute [local go_sem high] str_gtr str_leq
set_option linter.unusedVariables false
set_option linter.unusedSimpArgs false
/-! ### careenageref07_Pick: function 47 -/
def careenageref07_Pick.l0 : Nat → List (S46) → ByteArray → Int → Option (Int)
  | 0, _, _, _ => none
  | k + 1, x0, x1, x5 => if x5 < (x0.length : Int) then (if 0 ≤ x5 then (if ((Op.bytesLess x1.toList (((rd_T46 x0 x5).f0).toList)) = true) then (some (mx 0 (wrap64 (x5 - 1)))) else (careenageref07_Pick.l0 k x0 x1 (wrap64 (x5 + 1)))) else (none)) else (some (mx 0 (wrap64 (x5 - 1))))
def careenageref07_Pick.f (k : Nat) (l0 : List (S46)) (a1 : ByteArray) : Option (Int) := careenageref07_Pick.l0 k l0 a1 0
end Go.Proofs.Ytlkfcabklaaacaa.P

namespace Go.Proofs.Ytlkfcabklaaacaa.P
open Go.RowKit Go.Proofs.YtlkfcabklaaacaaW.PrintWords Go.Proofs.YtlkfcabklaaacaaW.PrintLast Go.Proofs.YtlkfcabklaaacaaW.PrintMore
attribute [local go_sem] max2_int min2_int max_two min_two max_three min_three max_four min_four   -- for this text's walks alone
open Go.Proofs.YtlkfcabklaaacaaO
attribute [local go_sem] min2_str max2_str
set_option linter.unusedVariables false
set_option linter.unusedSimpArgs false
/-! ### careenageref10_Most: function 36 -/
def careenageref10_Most.f (a0 : Int) : Option (Int) := (careenageref04_Room.f a0).bind fun t326 => (some (wrap64 (Int.tdiv t326 4)))
end Go.Proofs.Ytlkfcabklaaacaa.P

namespace Go.Proofs.Ytlkfcabklaaacaa.P
open Go.RowKit Go.Proofs.YtlkfcabklaaacaaW.PrintWords Go.Proofs.YtlkfcabklaaacaaW.PrintLast Go.Proofs.YtlkfcabklaaacaaW.PrintMore
attribute [local go_sem] max2_int min2_int max_two min_two max_three min_three max_four min_four   -- for this text's walks alone
open Go.Proofs.YtlkfcabklaaacaaO
attribute [local go_sem] min2_str max2_str
set_option linter.unusedVariables false
set_option linter.unusedSimpArgs false
/-! ### careenageref10_Rises: function 34 -/
def careenageref10_Rises.l0 : Nat → List Int → Int → Option (Bool)
  | 0, _, _ => none
  | k + 1, x0, x3 => if x3 < (x0.length : Int) then (if 0 ≤ (wrap64 (x3 - 1)) then (if (wrap64 (x3 - 1)) < (x0.length : Int) then (if 0 ≤ x3 then (if (rd x0 (wrap64 (x3 - 1))) ≥ (rd x0 x3) then (some false) else (careenageref10_Rises.l0 k x0 (wrap64 (x3 + 1)))) else (none)) else (none)) else (none)) else (some true)
def careenageref10_Rises.f (k : Nat) (l0 : List Int) : Option (Bool) := careenageref10_Rises.l0 k l0 1
end Go.Proofs.Ytlkfcabklaaacaa.P

namespace Go.Proofs.Ytlkfcabklaaacaa.P
open Go.RowKit Go.Proofs.YtlkfcabklaaacaaW.PrintWords Go.Proofs.YtlkfcabklaaacaaW.PrintLast Go.Proofs.YtlkfcabklaaacaaW.PrintMore
attribute [local go_sem] max2_int min2_int max_two min_two max_three min_three max_four min_four   -- for this text's walks alone
open Go.Proofs.YtlkfcabklaaacaaO
attribute [local go_sem] min2_str max2_str
set_option linter.unusedVariables false
set_option linter.unusedSimpArgs false
/-! ### careenageref10_Numbers: function 64 -/
def careenageref10_Numbers.l0 : Nat → List Int → Int → Option (Bool)
  | 0, _, _ => none
  | k + 1, x0, x3 => if x3 < (x0.length : Int) then (if 0 ≤ x3 then ((careenageref04_Number.f (rd x0 x3)).bind fun t330 => (if t330 = true then (careenageref10_Numbers.l0 k x0 (wrap64 (x3 + 1))) else (some false))) else (none)) else ((careenageref10_Rises.f k x0).bind fun t331 => (some t331))
def careenageref10_Numbers.f (k : Nat) (l0 : List Int) : Option (Bool) := careenageref10_Numbers.l0 k l0 0
end Go.Proofs.Ytlkfcabklaaacaa.P

namespace Go.Proofs.Ytlkfcabklaaacaa.P
open Go.RowKit Go.Proofs.YtlkfcabklaaacaaW.PrintWords Go.Proofs.YtlkfcabklaaacaaW.PrintLast Go.Proofs.YtlkfcabklaaacaaW.PrintMore
attribute [local go_sem] max2_int min2_int max_two min_two max_three min_three max_four min_four   -- for this text's walks alone
open Go.Proofs.YtlkfcabklaaacaaO
attribute [local go_sem] min2_str max2_str
set_option linter.unusedVariables false
set_option linter.unusedSimpArgs false
/-! ### careenageref10_Page: function 32 -/
mutual
def careenageref10_Page.j0 : Nat → Int → Int → Int → Int → List Int → Bool → Option (Int × Int × Int × Int × Int × ByteArray × Int)
  | 0, _, _, _, _, _, _ => none
  | k + 1, x0, x1, x2, x3, x4, x48 => if x48 = true then (some (0, 0, 0, 0, 0, (⟨#[]⟩ : ByteArray), 2)) else (careenageref10_Page.l0 k x0 x1 x2 x3 x4 ([] : List Int) 0)
def careenageref10_Page.l0 : Nat → Int → Int → Int → Int → List Int → List Int → Int → Option (Int × Int × Int × Int × Int × ByteArray × Int)
  | 0, _, _, _, _, _, _, _ => none
  | k + 1, x0, x1, x2, x3, x4, x12, x13 => if x13 < (x4.length : Int) then (if 0 ≤ x13 then ((careenageref01_Put.f k x12 (IntKind.u64.wrap (rd x4 x13)) 4).bind fun t354 => (careenageref10_Page.l0 k x0 x1 x2 x3 x4 t354 (wrap64 (x13 + 1)))) else (none)) else ((careenageref04_Body.f x0 x12).bind fun bt357 => (some (6, (x4.length : Int), x1, x2, x3, bt357.1, 0)))
end
def careenageref10_Page.f (k : Nat) (a0 : Int) (a1 : Int) (a2 : Int) (a3 : Int) (l4 : List Int) : Option (Int × Int × Int × Int × Int × ByteArray × Int) := (careenageref03_Good.f a0).bind fun t348 => (if t348 = true then ((careenageref10_Numbers.f k l4).bind fun t349 => (if t349 = true then ((careenageref10_Most.f a0).bind fun t350 => (if (l4.length : Int) > t350 then (careenageref10_Page.j0 k a0 a1 a2 a3 l4 true) else ((careenageref04_Number.f a1).bind fun t351 => (if t351 = true then (if a2 = 0 then (careenageref10_Page.j0 k a0 a1 a2 a3 l4 (decide (a3 > 4611686018427387904))) else ((careenageref04_Number.f a2).bind fun t352 => (if t352 = true then (careenageref10_Page.j0 k a0 a1 a2 a3 l4 (decide (a3 > 4611686018427387904))) else (careenageref10_Page.j0 k a0 a1 a2 a3 l4 true)))) else (careenageref10_Page.j0 k a0 a1 a2 a3 l4 true))))) else (careenageref10_Page.j0 k a0 a1 a2 a3 l4 true))) else (careenageref10_Page.j0 k a0 a1 a2 a3 l4 true))
end Go.Proofs.Ytlkfcabklaaacaa.P

namespace Go.Proofs.Ytlkfcabklaaacaa.P
open Go.RowKit Go.Proofs.YtlkfcabklaaacaaW.PrintWords Go.Proofs.YtlkfcabklaaacaaW.PrintLast Go.Proofs.YtlkfcabklaaacaaW.PrintMore
attribute [local go_sem] max2_int min2_int max_two min_two max_three min_three max_four min_four   -- for this text's walks alone
open Go.Proofs.YtlkfcabklaaacaaO
attribute [local go_sem] min2_str max2_str
set_option linter.unusedVariables false
set_option linter.unusedSimpArgs false
/-! ### free_Rises_1: function 62 -/
def free_Rises_1.f (a0 : Int) (a1 : Int) : Option (Int) := if a0 > a1 then (some 1) else (some (-1))
end Go.Proofs.Ytlkfcabklaaacaa.P

namespace Go.Proofs.Ytlkfcabklaaacaa.P
open Go.RowKit Go.Proofs.YtlkfcabklaaacaaW.PrintWords Go.Proofs.YtlkfcabklaaacaaW.PrintLast Go.Proofs.YtlkfcabklaaacaaW.PrintMore
attribute [local go_sem] max2_int min2_int max_two min_two max_three min_three max_four min_four   -- for this text's walks alone
open Go.Proofs.YtlkfcabklaaacaaO
attribute [local go_sem] min2_str max2_str
set_option linter.unusedVariables false
set_option linter.unusedSimpArgs false
/-! ### slices_IsSortedFunc_uint32_uint32_62: function 61 -/
def slices_IsSortedFunc_uint32_uint32_62.l0 : Nat → List Int → Int → Option (Bool)
  | 0, _, _ => none
  | k + 1, x0, x5 => if x5 > 0 then (if 0 ≤ x5 then (if x5 < (x0.length : Int) then (if 0 ≤ (wrap64 (x5 - 1)) then (if (wrap64 (x5 - 1)) < (x0.length : Int) then ((free_Rises_1.f (rd x0 x5) (rd x0 (wrap64 (x5 - 1)))).bind fun t189 => (if t189 < 0 then (some false) else (slices_IsSortedFunc_uint32_uint32_62.l0 k x0 (wrap64 (x5 - 1))))) else (none)) else (none)) else (none)) else (none)) else (some true)
def slices_IsSortedFunc_uint32_uint32_62.f (k : Nat) (l0 : List Int)  : Option (Bool) := slices_IsSortedFunc_uint32_uint32_62.l0 k l0 (wrap64 ((l0.length : Int) - 1))
end Go.Proofs.Ytlkfcabklaaacaa.P

namespace Go.Proofs.Ytlkfcabklaaacaa.P
open Go.RowKit Go.Proofs.YtlkfcabklaaacaaW.PrintWords Go.Proofs.YtlkfcabklaaacaaW.PrintLast Go.Proofs.YtlkfcabklaaacaaW.PrintMore
attribute [local go_sem] max2_int min2_int max_two min_two max_three min_three max_four min_four   -- for this text's walks alone
open Go.Proofs.YtlkfcabklaaacaaO
attribute [local go_sem] min2_str max2_str
set_option linter.unusedVariables false
set_option linter.unusedSimpArgs false
/-! ### free_Rises: function 29 -/
def free_Rises.f (k : Nat) (l0 : List Int) : Option (Bool) := (slices_IsSortedFunc_uint32_uint32_62.f k l0).bind fun t190 => (some t190)
end Go.Proofs.Ytlkfcabklaaacaa.P

namespace Go.Proofs.Ytlkfcabklaaacaa.P
open Go.RowKit Go.Proofs.YtlkfcabklaaacaaW.PrintWords Go.Proofs.YtlkfcabklaaacaaW.PrintLast Go.Proofs.YtlkfcabklaaacaaW.PrintMore
attribute [local go_sem] max2_int min2_int max_two min_two max_three min_three max_four min_four   -- for this text's walks alone
open Go.Proofs.YtlkfcabklaaacaaO
attribute [local go_sem] min2_str max2_str
set_option linter.unusedVariables false
set_option linter.unusedSimpArgs false
/-! ### free_Most: function 31 -/
def free_Most.f (a0 : Int) : Option (Int) := (frame_Room.f a0).bind fun t191 => (some (wrap64 (Int.tdiv t191 4)))
end Go.Proofs.Ytlkfcabklaaacaa.P

namespace Go.Proofs.Ytlkfcabklaaacaa.P
open Go.RowKit Go.Proofs.YtlkfcabklaaacaaW.PrintWords Go.Proofs.YtlkfcabklaaacaaW.PrintLast Go.Proofs.YtlkfcabklaaacaaW.PrintMore
attribute [local go_sem] max2_int min2_int max_two min_two max_three min_three max_four min_four   -- for this text's walks alone
open Go.Proofs.YtlkfcabklaaacaaO
attribute [local go_sem] min2_str max2_str
set_option linter.unusedVariables false
set_option linter.unusedSimpArgs false
/-! ### free_number: function 57 -/
def free_number.f (a0 : Int) : Option (Bool) := if a0 ≥ 2 then (some (decide (a0 ≤ 2147483647))) else (some false)
end Go.Proofs.Ytlkfcabklaaacaa.P

namespace Go.Proofs.Ytlkfcabklaaacaa.P
open Go.RowKit Go.Proofs.YtlkfcabklaaacaaW.PrintWords Go.Proofs.YtlkfcabklaaacaaW.PrintLast Go.Proofs.YtlkfcabklaaacaaW.PrintMore
attribute [local go_sem] max2_int min2_int max_two min_two max_three min_three max_four min_four   -- for this text's walks alone
open Go.Proofs.YtlkfcabklaaacaaO
attribute [local go_sem] min2_str max2_str
set_option linter.unusedVariables false
set_option linter.unusedSimpArgs false
/-! ### free_Page_1: function 56 -/
def free_Page_1.f (a0 : Int) : Option (Bool) := (free_number.f a0).bind fun t199 => (some (!t199))
end Go.Proofs.Ytlkfcabklaaacaa.P

namespace Go.Proofs.Ytlkfcabklaaacaa.P
open Go.RowKit Go.Proofs.YtlkfcabklaaacaaW.PrintWords Go.Proofs.YtlkfcabklaaacaaW.PrintLast Go.Proofs.YtlkfcabklaaacaaW.PrintMore
attribute [local go_sem] max2_int min2_int max_two min_two max_three min_three max_four min_four   -- for this text's walks alone
open Go.Proofs.YtlkfcabklaaacaaO
attribute [local go_sem] min2_str max2_str
set_option linter.unusedVariables false
set_option linter.unusedSimpArgs false
/-! ### slices_IndexFunc_uint32_uint32_56: function 77 -/
def slices_IndexFunc_uint32_uint32_56.l0 : Nat → List Int → Int → Int → Option (Int)
  | 0, _, _, _ => none
  | k + 1, x0, x7, x8 => if x8 < x7 then (if 0 ≤ x8 then (if x8 < (x0.length : Int) then ((free_Page_1.f (rd x0 x8)).bind fun t201 => (if t201 = true then (some x8) else (slices_IndexFunc_uint32_uint32_56.l0 k x0 x7 (wrap64 (x8 + 1))))) else (none)) else (none)) else (some (-1))
def slices_IndexFunc_uint32_uint32_56.f (k : Nat) (l0 : List Int)  : Option (Int) := slices_IndexFunc_uint32_uint32_56.l0 k l0 (l0.length : Int) 0
end Go.Proofs.Ytlkfcabklaaacaa.P

namespace Go.Proofs.Ytlkfcabklaaacaa.P
open Go.RowKit Go.Proofs.YtlkfcabklaaacaaW.PrintWords Go.Proofs.YtlkfcabklaaacaaW.PrintLast Go.Proofs.YtlkfcabklaaacaaW.PrintMore
attribute [local go_sem] max2_int min2_int max_two min_two max_three min_three max_four min_four   -- for this text's walks alone
open Go.Proofs.YtlkfcabklaaacaaO
attribute [local go_sem] min2_str max2_str
set_option linter.unusedVariables false
set_option linter.unusedSimpArgs false
/-! ### slices_ContainsFunc_uint32_uint32_56: function 58 -/
def slices_ContainsFunc_uint32_uint32_56.f (k : Nat) (l0 : List Int)  : Option (Bool) := (slices_IndexFunc_uint32_uint32_56.f k l0).bind fun t202 => (some (decide (t202 ≥ 0)))
end Go.Proofs.Ytlkfcabklaaacaa.P

namespace Go.Proofs.Ytlkfcabklaaacaa.P
open Go.RowKit Go.Proofs.YtlkfcabklaaacaaW.PrintWords Go.Proofs.YtlkfcabklaaacaaW.PrintLast Go.Proofs.YtlkfcabklaaacaaW.PrintMore
attribute [local go_sem] max2_int min2_int max_two min_two max_three min_three max_four min_four   -- for this text's walks alone
open Go.Proofs.YtlkfcabklaaacaaO
attribute [local go_sem] min2_str max2_str
set_option linter.unusedVariables false
set_option linter.unusedSimpArgs false
/-! ### free_Page: function 27 -/
mutual
def free_Page.j0 : Nat → Int → Int → Int → Int → List Int → Bool → Option (Int × Int × Int × Int × Int × ByteArray × Int)
  | 0, _, _, _, _, _, _ => none
  | k + 1, x0, x1, x2, x3, x4, x55 => if x55 = true then (some (0, 0, 0, 0, 0, (⟨#[]⟩ : ByteArray), 2)) else (free_Page.l0 k x0 x1 x2 x3 x4 ([] : List Int) x4 (x4.length : Int) 0)
def free_Page.l0 : Nat → Int → Int → Int → Int → List Int → List Int → List Int → Int → Int → Option (Int × Int × Int × Int × Int × ByteArray × Int)
  | 0, _, _, _, _, _, _, _, _, _ => none
  | k + 1, x0, x1, x2, x3, x4, x13, x57, x58, x59 => if x59 < x58 then (if 0 ≤ x59 then (if x59 < (x57.length : Int) then ((octet_Put.f k x13 (IntKind.u64.wrap (rd x57 x59)) 4).bind fun t211 => (free_Page.l0 k x0 x1 x2 x3 x4 t211 x57 x58 (wrap64 (x59 + 1)))) else (none)) else (none)) else ((frame_Body.f x0 x13).bind fun bt214 => (some (6, (x4.length : Int), x1, x2, x3, bt214.1, 0)))
end
def free_Page.f (k : Nat) (a0 : Int) (a1 : Int) (a2 : Int) (a3 : Int) (l4 : List Int) : Option (Int × Int × Int × Int × Int × ByteArray × Int) := (free_Most.f a0).bind fun t204 => (if t204 = 0 then (free_Page.j0 k a0 a1 a2 a3 l4 true) else ((free_Most.f a0).bind fun t205 => (if (l4.length : Int) > t205 then (free_Page.j0 k a0 a1 a2 a3 l4 true) else ((free_Rises.f k l4).bind fun t206 => (if t206 = true then ((slices_ContainsFunc_uint32_uint32_56.f k l4).bind fun t207 => (if t207 = true then (free_Page.j0 k a0 a1 a2 a3 l4 true) else ((free_Page_1.f a1).bind fun t208 => (if t208 = true then (free_Page.j0 k a0 a1 a2 a3 l4 true) else (if a2 = 0 then (free_Page.j0 k a0 a1 a2 a3 l4 (decide (a3 > 4611686018427387904))) else ((free_Page_1.f a2).bind fun t209 => (if t209 = true then (free_Page.j0 k a0 a1 a2 a3 l4 true) else (free_Page.j0 k a0 a1 a2 a3 l4 (decide (a3 > 4611686018427387904)))))))))) else (free_Page.j0 k a0 a1 a2 a3 l4 true))))))
end Go.Proofs.Ytlkfcabklaaacaa.P

namespace Go.Proofs.YtlkfcabklaaacaaO
set_option linter.unusedVariables false
set_option linter.unusedSimpArgs false
open Go.RowKit Go.Proofs.YtlkfcabklaaacaaW.PrintWords
/-- As a step of its own (no unfolding: the kernel is not to compare what stands on both sides). -/
theorem bs {α β : Type} (a : α) (f : α → Option β) : (some a).bind f = f a := Eq.trans (Option.bind_some a f) (Eq.refl (f a))
/-- Numbers that are bytes. -/
def isB (l : List Int) : Prop := ∀ x ∈ l, 0 ≤ x ∧ x < 256
theorem isB_nil : isB [] := fun _ h => by cases h
theorem isB_cons {x : Int} {l : List Int} (hx : 0 ≤ x ∧ x < 256) (h : isB l) : isB (x :: l) := by
  intro y hy
  rcases List.mem_cons.1 hy with rfl | hy
  · exact hx
  · exact h y hy
theorem isB_append {l m : List Int} (h1 : isB l) (h2 : isB m) : isB (l ++ m) := by
  intro y hy
  rcases List.mem_append.1 hy with hy | hy
  · exact h1 y hy
  · exact h2 y hy
theorem isB_take {l : List Int} (h : isB l) (n : Nat) : isB (l.take n) := fun x hx => h x (List.mem_of_mem_take hx)
/-- A string's bytes. -/
abbrev B (s : ByteArray) : List Int := bytesOf s
theorem isB_B (s : ByteArray) : isB (B s) := by
  intro x hx
  simp only [bytesOf, List.mem_map] at hx
  obtain ⟨b, _, rfl⟩ := hx
  have := b.toNat_lt
  omega
theorem B_length (s : ByteArray) : (B s).length = s.size := bytesOf_length s
theorem B_inj {s t : ByteArray} (h : B s = B t) : s = t := by
  have h2 : s.data.toList = t.data.toList := by
    refine List.map_inj_right (fun a b hab => ?_) |>.1 h
    exact UInt8.toNat_inj.1 (Int.ofNat_inj.1 hab)
  cases s; cases t
  simp only [ByteArray.mk.injEq]
  exact Array.toList_inj.1 h2
theorem toList_iff {s t : ByteArray} : s.toList = t.toList ↔ B s = B t := by
  rw [Lib.toList_data, Lib.toList_data]
  refine ⟨fun h => by simp only [bytesOf, h], fun h => by rw [B_inj h]⟩
theorem toList_eq_iff {s t : ByteArray} : s.toList = t.toList ↔ s = t := ⟨fun h => B_inj (toList_iff.1 h), fun h => by rw [h]⟩
theorem B_extract (s : ByteArray) (a b : Nat) : B (s.extract a b) = ((B s).take b).drop a := by
  simp only [bytesOf, Lib.extract_data, List.map_take, List.map_drop]
  rw [List.drop_take]
theorem B_drop (s : ByteArray) (a : Nat) : B (s.extract a s.size) = (B s).drop a := by
  rw [B_extract, List.take_of_length_le (by rw [B_length]; exact Nat.le_refl _)]
theorem B_take (s : ByteArray) (b : Nat) : B (s.extract 0 b) = (B s).take b := by
  rw [B_extract, List.drop_zero]
theorem B_empty : B ⟨#[]⟩ = [] := rfl
theorem B_str {l : List Int} (h : isB l) : B (strOfNums l) = l := by
  simp only [bytesOf, strOfNums_data, List.map_map]
  refine (List.map_congr_left (g := id) (fun x hx => ?_)).trans (List.map_id l)
  have := h x hx
  simp only [Function.comp, id, UInt8.toNat_ofNat']
  omega
theorem size_str (l : List Int) : (strOfNums l).size = l.length := strOfNums_size l
theorem bt_B (s : ByteArray) (i : Int) : bt s i = rd (B s) i := (rd_bytesOf s i).symm
theorem rd_get {l : List Int} {i : Nat} (h : i < l.length) : rd l (i : Int) = l[i] := by simp [rd, h]
/-! ### numbers, the least byte first -/
def le : Int → Nat → List Int
  | _, 0 => []
  | n, k + 1 => n % 256 :: le (n / 256) k
def ofLe : List Int → Int
  | [] => 0
  | b :: l => b + ofLe l * 256
theorem le_length : ∀ (k : Nat) (n : Int), (le n k).length = k
  | 0, _ => rfl
  | k + 1, n => by simp [le, le_length k]
theorem isB_le : ∀ (k : Nat) (n : Int), isB (le n k)
  | 0, _ => isB_nil
  | k + 1, n => isB_cons (by omega) (isB_le k _)
theorem pow_succ256 (k : Nat) : (256 : Int) ^ (k + 1) = 256 * 256 ^ k := by rw [Int.pow_succ, Int.mul_comm]
theorem pow_pos256 (k : Nat) : (0 : Int) < 256 ^ k := Int.pow_pos (by decide)
theorem ofLe_le : ∀ (k : Nat) (n : Int), ofLe (le n k) = n % 256 ^ k
  | 0, n => by simp [le, ofLe, Int.emod_one]
  | k + 1, n => by
    simp only [le, ofLe]
    rw [ofLe_le k, pow_succ256]
    rw [Int.emod_def n (256 * 256 ^ k), Int.emod_def (n / 256), ← Int.ediv_ediv_of_nonneg (by decide), Int.mul_assoc 256]
    generalize 256 ^ k * (n / 256 / 256 ^ k) = z
    omega
theorem ofLe_nonneg : ∀ {l : List Int}, isB l → 0 ≤ ofLe l
  | [], _ => Int.le_refl _
  | b :: l, h => by
    have h1 := h b (List.mem_cons_self ..)
    have h2 := ofLe_nonneg (l := l) (fun x hx => h x (List.mem_cons_of_mem _ hx))
    simp only [ofLe]
    omega
theorem ofLe_lt : ∀ {l : List Int}, isB l → ofLe l < 256 ^ l.length
  | [], _ => by simp [ofLe]
  | b :: l, h => by
    have h1 := h b (List.mem_cons_self ..)
    have h2 := ofLe_lt (l := l) (fun x hx => h x (List.mem_cons_of_mem _ hx))
    simp only [ofLe, List.length_cons]
    rw [pow_succ256]
    omega
theorem ofLe_snoc : ∀ (l : List Int) (b : Int), ofLe (l ++ [b]) = ofLe l + b * 256 ^ l.length
  | [], b => by simp [ofLe]
  | a :: l, b => by
    simp only [List.cons_append, ofLe, List.length_cons]
    rw [ofLe_snoc l b, pow_succ256, Int.add_mul, Int.mul_assoc b, Int.mul_comm (256 : Int) (256 ^ l.length), ← Int.mul_assoc b]
    omega
end Go.Proofs.YtlkfcabklaaacaaO

namespace Go.Proofs.Ytlkfcabklaaacaa.Q
set_option linter.unusedVariables false
set_option linter.unusedSimpArgs false
open Go.RowKit Go.Proofs.Ytlkfcabklaaacaa.P Go.Proofs.YtlkfcabklaaacaaW.PrintWords Go.Proofs.YtlkfcabklaaacaaW.PrintLast Go.Proofs.YtlkfcabklaaacaaW.PrintMore Go.Proofs.YtlkfcabklaaacaaO
/-- The sizes of pages. -/
def goodS (a : Int) : Bool := decide (128 ≤ a) && decide (a ≤ 4096) && (Int.tmod a 64 == 0)
def roomS (a : Int) : Int := if goodS a = true then a - 24 else 0
theorem roomS_range (a : Int) : 0 ≤ roomS a ∧ roomS a ≤ 4072 := by
  unfold roomS goodS
  split
  · rename_i h
    simp only [Bool.and_eq_true, decide_eq_true_eq, beq_iff_eq] at h
    omega
  · omega
theorem good_is (a : Int) : device_Good.f a = some (goodS a) := by
  unfold device_Good.f goodS
  by_cases h1 : a ≥ 128
  · by_cases h2 : a ≤ 4096
    · simp [h1, h2]
    · simp [h1, h2]
  · have h3 : ¬ (128 ≤ a) := by omega
    simp [h3]
theorem room_is (a : Int) : frame_Room.f a = some (roomS a) := by
  unfold frame_Room.f
  rw [good_is, bs]
  unfold roomS
  by_cases h : goodS a = true
  · rw [if_pos h, if_pos h]
    unfold goodS at h
    simp only [Bool.and_eq_true, decide_eq_true_eq, beq_iff_eq] at h
    congr 1
    unfold wrap64
    omega
  · rw [if_neg h, if_neg h]
theorem rgood_is (a : Int) : careenageref03_Good.f a = some (goodS a) := by
  unfold careenageref03_Good.f goodS
  by_cases h1 : a ≥ 128
  · by_cases h2 : a ≤ 4096
    · simp [h1, h2]
    · simp [h1, h2]
  · have h3 : ¬ (128 ≤ a) := by omega
    simp [h3]
theorem rroom_is (a : Int) : careenageref04_Room.f a = some (roomS a) := by
  unfold careenageref04_Room.f
  rw [rgood_is, bs]
  unfold roomS
  by_cases h : goodS a = true
  · rw [if_pos h, if_pos h]
    unfold goodS at h
    simp only [Bool.and_eq_true, decide_eq_true_eq, beq_iff_eq] at h
    congr 1
    unfold wrap64
    omega
  · rw [if_neg h, if_neg h]
def numB (x : Int) : Bool := decide (2 ≤ x) && decide (x ≤ 2147483647)
theorem rnumber_is (a : Int) : careenageref04_Number.f a = some (numB a) := by
  unfold careenageref04_Number.f numB
  by_cases h : a ≥ 2
  · rw [if_pos h]
    simp [show (2 : Int) ≤ a from h]
  · rw [if_neg h]
    simp [show ¬ (2 : Int) ≤ a from h]
end Go.Proofs.Ytlkfcabklaaacaa.Q

namespace Go.Proofs.Ytlkfcabklaaacaa.Q
set_option linter.unusedVariables false
set_option linter.unusedSimpArgs false
open Go.RowKit Go.Proofs.Ytlkfcabklaaacaa.P Go.Proofs.YtlkfcabklaaacaaW.PrintWords Go.Proofs.YtlkfcabklaaacaaW.PrintLast Go.Proofs.YtlkfcabklaaacaaW.PrintMore Go.Proofs.YtlkfcabklaaacaaO
theorem w64 {x : Int} (h0 : -9223372036854775808 ≤ x) (h1 : x ≤ 9223372036854775807) : wrap64 x = x := by
  unfold wrap64
  omega
theorem u64w {x : Int} (h0 : 0 ≤ x) (h1 : x < 18446744073709551616) : IntKind.u64.wrap x = x := by
  rw [IntKind.wrap_u64]
  omega
theorem pow8 (i : Nat) : (2 : Int) ^ (8 * i) = 256 ^ i := by
  rw [Int.pow_mul]
  rfl
theorem pow256_le {i : Nat} (h : i ≤ 8) : (256 : Int) ^ i ≤ 18446744073709551616 := by
  have : i = 0 ∨ i = 1 ∨ i = 2 ∨ i = 3 ∨ i = 4 ∨ i = 5 ∨ i = 6 ∨ i = 7 ∨ i = 8 := by omega
  rcases this with rfl | rfl | rfl | rfl | rfl | rfl | rfl | rfl | rfl <;> decide
theorem shr_byte (n : Int) (i : Nat) (h : i ≤ 8) : shr .u64 n (8 * (i : Int)) = n / 256 ^ i := by
  unfold shr
  rw [show min (8 * (i : Int)).toNat IntKind.u64.bits = 8 * i by simp only [IntKind.bits]; omega, pow8]
theorem shl_byte (b : Int) (i : Nat) (h : i ≤ 7) (hb : 0 ≤ b ∧ b < 256) : shl .u64 b (8 * (i : Int)) = b * 256 ^ i := by
  unfold shl
  rw [show min (8 * (i : Int)).toNat IntKind.u64.bits = 8 * i by simp only [IntKind.bits]; omega, pow8]
  have h1 := pow256_le (i := i + 1) (by omega)
  rw [pow_succ256] at h1
  have h2 := pow_pos256 i
  refine u64w (Int.mul_nonneg hb.1 (Int.le_of_lt h2)) ?_
  have h3 : b * 256 ^ i ≤ 255 * 256 ^ i := Int.mul_le_mul_of_nonneg_right (by omega) (Int.le_of_lt h2)
  omega
theorem or_byte (v b : Int) (i : Nat) (h : i ≤ 7) (hv : 0 ≤ v ∧ v < 256 ^ i) (hb : 0 ≤ b ∧ b < 256) : Go.bits .or .u64 v (b * 256 ^ i) = v + b * 256 ^ i := by
  have h1 := pow256_le (i := i + 1) (by omega)
  rw [pow_succ256] at h1
  have h2 := pow_pos256 i
  have h3 : b * 256 ^ i ≤ 255 * 256 ^ i := Int.mul_le_mul_of_nonneg_right (by omega) (Int.le_of_lt h2)
  have h4 : 0 ≤ b * 256 ^ i := Int.mul_nonneg hb.1 (Int.le_of_lt h2)
  rw [u64_or _ _ hv.1 (by omega) h4 (by omega)]
  obtain ⟨v, rfl⟩ := Int.eq_ofNat_of_zero_le hv.1
  obtain ⟨b, rfl⟩ := Int.eq_ofNat_of_zero_le hb.1
  have e : ((b : Int) * 256 ^ i) = ((b * 256 ^ i : Nat) : Int) := by rw [Int.natCast_mul, Int.natCast_pow]; rfl
  have hv2 : v < 2 ^ (8 * i) := by
    have := hv.2
    rw [Nat.pow_mul]
    have e2 : ((256 : Int) ^ i) = (((2 ^ 8) ^ i : Nat) : Int) := by rw [Int.natCast_pow]; rfl
    rw [e2] at this
    exact Int.ofNat_lt.1 this
  rw [e, Int.toNat_natCast, Int.toNat_natCast, Nat.or_comm, nat_join (8 * i) (b * 256 ^ i) v (by rw [Nat.pow_mul]; exact Nat.mul_mod_left _ _) hv2]
  omega
theorem le_drop : ∀ (K i : Nat) (n : Int), i < K → (le n K).drop i = (n / 256 ^ i % 256) :: (le n K).drop (i + 1)
  | 0, i, n, h => by omega
  | K + 1, 0, n, h => by simp [le]
  | K + 1, i + 1, n, h => by
    simp only [le, List.drop_succ_cons]
    rw [le_drop K i _ (by omega), pow_succ256, Int.ediv_ediv_of_nonneg (by decide)]
theorem put_l0 (n : Int) (K : Nat) (hK : K ≤ 8) : ∀ (d k i : Nat) (x : List Int), i + d = K → d < k → x.length + d ≤ 140737488355327 → octet_Put.l0 k n x K i = some (x ++ (le n K).drop i)
  | 0, k + 1, i, x, h, _, _ => by
    simp only [octet_Put.l0]
    rw [if_neg (by omega), List.drop_eq_nil_of_le (by rw [le_length]; omega), List.append_nil]
  | d + 1, k + 1, i, x, h, hk, hl => by
    simp only [octet_Put.l0]
    have e1 : wrap64 (8 * (i : Int)) = 8 * (i : Int) := w64 (by omega) (by omega)
    have e2 : wrap64 ((i : Int) + 1) = ((i + 1 : Nat) : Int) := by rw [w64 (by omega) (by omega)]; rfl
    rw [if_pos (by omega), e1, if_pos (by omega), if_pos (by omega), shr_byte n i (by omega), e2,
      put_l0 n K hK d k (i + 1) _ (by omega) (by omega) (by simp; omega), le_drop K i n (by omega)]
    simp
theorem rput_l0 (n : Int) (K : Nat) (hK : K ≤ 8) : ∀ (d k i : Nat) (x : List Int), i + d = K → d < k → x.length + d ≤ 140737488355327 → careenageref01_Put.l0 k n K x i = some (x ++ (le n K).drop i)
  | 0, k + 1, i, x, h, _, _ => by
    simp only [careenageref01_Put.l0]
    rw [if_neg (by omega), List.drop_eq_nil_of_le (by rw [le_length]; omega), List.append_nil]
  | d + 1, k + 1, i, x, h, hk, hl => by
    simp only [careenageref01_Put.l0]
    have e1 : IntKind.u64.wrap (wrap64 (8 * (i : Int))) = 8 * (i : Int) := by rw [w64 (by omega) (by omega), u64w (by omega) (by omega)]
    have e2 : wrap64 ((i : Int) + 1) = ((i + 1 : Nat) : Int) := by rw [w64 (by omega) (by omega)]; rfl
    rw [if_pos (by omega), e1, if_pos (by omega), if_pos (by omega), shr_byte n i (by omega), e2,
      rput_l0 n K hK d k (i + 1) _ (by omega) (by omega) (by simp; omega), le_drop K i n (by omega)]
    simp
/-- What Put answers. -/
def putL (l : List Int) (n K : Int) : List Int := if 1 ≤ K ∧ K ≤ 8 then l ++ le n K.toNat else l
theorem put_is (k : Nat) (l : List Int) (n K : Int) (hk : 12 ≤ k) (hl : l.length ≤ 140737488355000) : octet_Put.f k l n K = some (putL l n K) := by
  obtain ⟨k, rfl⟩ : ∃ m, k = m + 2 := ⟨k - 2, by omega⟩
  unfold octet_Put.f putL
  have e1 : wrap64 ((l.length : Int) + 8) = (l.length : Int) + 8 := w64 (by omega) (by omega)
  rw [e1, if_pos (by omega), if_pos (by omega)]
  simp only [bs, List.nil_append]
  rw [if_pos (by simp; omega)]
  by_cases h1 : K < 1
  · rw [if_pos h1, if_neg (by omega)]
    simp [octet_Put.j0]
  · rw [if_neg h1]
    by_cases h2 : K > 8
    · rw [if_neg (by omega)]
      simp [octet_Put.j0, h2]
    · rw [if_pos (by omega)]
      obtain ⟨K, rfl⟩ := Int.eq_ofNat_of_zero_le (show 0 ≤ K by omega)
      simp only [octet_Put.j0, h2, decide_false]
      rw [if_neg (by decide), show (0 : Int) = ((0 : Nat) : Int) from rfl, put_l0 n K (by omega) K (k + 1) 0 l (by omega) (by omega) (by omega)]
      simp
theorem rput_is (k : Nat) (l : List Int) (n K : Int) (hk : 12 ≤ k) (hl : l.length ≤ 140737488355000) : careenageref01_Put.f k l n K = some (putL l n K) := by
  obtain ⟨k, rfl⟩ : ∃ m, k = m + 2 := ⟨k - 2, by omega⟩
  unfold careenageref01_Put.f putL
  simp only [bs, List.nil_append]
  rw [if_pos (by simp; omega)]
  by_cases h1 : K < 1
  · rw [if_pos h1, if_neg (by omega)]
    simp [careenageref01_Put.j0]
  · rw [if_neg h1]
    by_cases h2 : K > 8
    · rw [if_neg (by omega)]
      simp [careenageref01_Put.j0, h2]
    · rw [if_pos (by omega)]
      obtain ⟨K, rfl⟩ := Int.eq_ofNat_of_zero_le (show 0 ≤ K by omega)
      simp only [careenageref01_Put.j0, h2, decide_false]
      rw [if_neg (by decide), show (0 : Int) = ((0 : Nat) : Int) from rfl, rput_l0 n K (by omega) K (k + 1) 0 l (by omega) (by omega) (by omega)]
      simp
end Go.Proofs.Ytlkfcabklaaacaa.Q

namespace Go.Proofs.Ytlkfcabklaaacaa.Q
set_option linter.unusedVariables false
set_option linter.unusedSimpArgs false
open Go.RowKit Go.Proofs.Ytlkfcabklaaacaa.P Go.Proofs.YtlkfcabklaaacaaW.PrintWords Go.Proofs.YtlkfcabklaaacaaW.PrintLast Go.Proofs.YtlkfcabklaaacaaW.PrintMore Go.Proofs.YtlkfcabklaaacaaO
theorem put4 (l : List Int) (n : Int) : putL l n 4 = l ++ le n 4 := by
  unfold putL
  rw [if_pos (by decide)]
  rfl
/-- The bytes, and zeros behind them, as many as there is room for. -/
def padS (m : Int) (l : List Int) : ByteArray := strOfNums (l ++ List.replicate (m.toNat - l.length) 0)
theorem body_is (s : Int) (l : List Int) (hg : goodS s = true) (hl : (l.length : Int) ≤ roomS s) : frame_Body.f s l = some (padS (roomS s) l, 0) := by
  have hr := roomS_range s
  unfold frame_Body.f padded padS
  rw [good_is, bs, if_pos hg, room_is, bs, if_neg (by omega), if_pos (by omega)]
  rw [show min l.length (roomS s).toNat = l.length by omega, List.take_length, List.drop_replicate]
theorem strOfNums_append (l m : List Int) : strOfNums (l ++ m) = strOfNums l ++ strOfNums m := by
  apply ByteArray.ext
  simp [strOfNums, ByteArray.data_append]
theorem rbody_is (s : Int) (l : List Int) (hg : goodS s = true) (hl : (l.length : Int) ≤ roomS s) : careenageref04_Body.f s l = some (padS (roomS s) l, 0) := by
  have hr := roomS_range s
  have hw : wrap64 (roomS s - (l.length : Int)) = roomS s - (l.length : Int) := by unfold wrap64; omega
  unfold careenageref04_Body.f padS
  rw [rgood_is, bs, if_pos hg, rroom_is, bs, if_neg (by omega), bs, hw, if_pos (by omega), if_pos (by omega), bs, if_pos (by rw [size_str, size_str, List.length_replicate]; omega),
    show (roomS s - (l.length : Int)).toNat = (roomS s).toNat - l.length by omega, strOfNums_append]
end Go.Proofs.Ytlkfcabklaaacaa.Q

namespace Go.Proofs.Ytlkfcabklaaacaa.Q
set_option linter.unusedVariables false
set_option linter.unusedSimpArgs false
open Go.RowKit Go.Proofs.Ytlkfcabklaaacaa.P Go.Proofs.YtlkfcabklaaacaaW.PrintWords Go.Proofs.YtlkfcabklaaacaaW.PrintLast Go.Proofs.YtlkfcabklaaacaaW.PrintMore Go.Proofs.YtlkfcabklaaacaaO
theorem bt_get {s : ByteArray} {i : Nat} (h : i < (B s).length) : bt s (i : Int) = (B s)[i] := by rw [bt_B, rd_get h]
/-- What Bytes answers. -/
def bytesR (s : ByteArray) (n : Int) : ByteArray × Int × ByteArray :=
  if n < 0 then (⟨#[]⟩, 2, s) else if n > (s.size : Int) then (⟨#[]⟩, 7, s) else (s.extract 0 n.toNat, 0, s.extract n.toNat s.size)
theorem bytes_is (s : ByteArray) (n : Int) : octet_Reader_Bytes.f s n = some (bytesR s n) := by
  unfold octet_Reader_Bytes.f octet_Reader_take.f bytesR
  by_cases h1 : n < 0
  · simp [h1]
  · rw [if_neg h1, if_neg h1]
    by_cases h2 : n > (s.size : Int)
    · simp [h2]
    · rw [if_neg h2, if_neg h2, if_pos (by omega), if_pos (by omega)]
      rfl
/-- What Number answers. -/
def numR (s : ByteArray) (n : Int) : Int × Int × ByteArray :=
  if n < 1 ∨ n > 8 then (0, 2, s) else if (s.size : Int) < n then (0, 7, s) else (ofLe ((B s).take n.toNat), 0, s.extract n.toNat s.size)
theorem ofLe_step {l : List Int} (hl : isB l) {i : Nat} (hi : i < l.length) (h8 : i ≤ 7) : Go.bits .or .u64 (ofLe (l.take i)) (shl .u64 (IntKind.u64.wrap l[i]) (8 * (i : Int))) = ofLe (l.take (i + 1)) := by
  have hb := hl l[i] (List.getElem_mem hi)
  have hv := ofLe_lt (isB_take hl i)
  rw [List.length_take, Nat.min_eq_left (by omega)] at hv
  rw [u64w hb.1 (by omega), shl_byte _ _ h8 hb, or_byte _ _ _ h8 ⟨ofLe_nonneg (isB_take hl i), hv⟩ hb, List.take_succ_eq_append_getElem hi, ofLe_snoc, List.length_take, Nat.min_eq_left (by omega)]
theorem num_l0 (s x : ByteArray) (e : Int) (hx : x.size ≤ 8) : ∀ (d k i : Nat), i + d = x.size → d < k → octet_Reader_Number.l0 k (ofLe ((B x).take i)) e x (x.size : Int) i s = some (ofLe (B x), e, s)
  | 0, k + 1, i, h, _ => by
    simp only [octet_Reader_Number.l0]
    rw [if_neg (by omega), List.take_of_length_le (by rw [B_length]; omega)]
  | d + 1, k + 1, i, h, hk => by
    have hi : i < (B x).length := by rw [B_length]; omega
    simp only [octet_Reader_Number.l0]
    rw [if_pos (by omega), if_pos (by omega), if_pos (by omega), w64 (x := 8 * (i : Int)) (by omega) (by omega), if_pos (by omega), bt_get hi, ofLe_step (isB_B x) hi (by omega), w64 (by omega) (by omega)]
    exact num_l0 s x e hx d k (i + 1) (by omega) (by omega)
theorem num_is (s : ByteArray) (n : Int) (k : Nat) (hk : 9 < k) : octet_Reader_Number.f k s n = some (numR s n) := by
  unfold octet_Reader_Number.f numR
  by_cases h1 : n < 1
  · rw [if_pos h1, if_pos (.inl h1)]
  · rw [if_neg h1]
    by_cases h2 : n > 8
    · rw [if_pos h2, if_pos (.inr h2)]
    · rw [if_neg h2, if_neg (by omega)]
      unfold octet_Reader_take.f
      by_cases h3 : n > (s.size : Int)
      · rw [if_pos h3, if_pos h3]
        simp only [bs]
        have := num_l0 s ⟨#[]⟩ 7 (by decide) 0 k 0 rfl (by omega)
        simpa [B_empty, ofLe] using this
      · rw [if_neg h3, if_neg h3, if_pos (by omega), if_pos (by omega)]
        simp only [bs]
        have hsz : (s.extract 0 n.toNat).size = n.toNat := by rw [ByteArray.size_extract]; omega
        have := num_l0 (s.extract n.toNat s.size) (s.extract 0 n.toNat) 0 (by omega) n.toNat k 0 (by omega) (by omega)
        rw [B_take] at this
        simpa [ofLe] using this
end Go.Proofs.Ytlkfcabklaaacaa.Q

namespace Go.Proofs.Ytlkfcabklaaacaa.Q
set_option linter.unusedVariables false
set_option linter.unusedSimpArgs false
open Go.RowKit Go.Proofs.Ytlkfcabklaaacaa.P Go.Proofs.YtlkfcabklaaacaaW.PrintWords Go.Proofs.YtlkfcabklaaacaaW.PrintLast Go.Proofs.YtlkfcabklaaacaaW.PrintMore Go.Proofs.YtlkfcabklaaacaaO
abbrev SF := S46
/-- A fork's key. -/
abbrev keyF (l : List SF) (j : Nat) : List UInt8 := (rd_T46 l (j : Int)).f0.toList
def okF (l : List SF) (j : Nat) : Prop := (rd_T46 l (j : Int)).f0.size ≤ 40 ∧ numB (rd_T46 l (j : Int)).f1 = true ∧ (0 < j → Op.bytesLess (keyF l (j - 1)) (keyF l j) = true)
instance (l : List SF) (j : Nat) : Decidable (okF l j) := by unfold okF; exact inferInstance
def mayF (l : List SF) : Bool := decide (∀ j, j < l.length → okF l j) && decide (0 < l.length)
theorem bnumber_is (a : Int) : branch_number.f a = some (numB a) := by
  unfold branch_number.f numB
  by_cases h : a ≥ 2
  · rw [if_pos h]
    simp [show (2 : Int) ≤ a from h]
  · rw [if_neg h]
    simp [show ¬ (2 : Int) ≤ a from h]
theorem may_up (l : List SF) (hl : l.length < 4611686018427387904) : ∀ (d i k : Nat), i + d = l.length → d < k → branch_may.l0 k l l (l.length : Int) (i : Int) = some (decide (∀ j, j < l.length → i ≤ j → okF l j) && decide (0 < l.length))
  | d, i, 0, _, h => by omega
  | 0, i, k + 1, hi, _ => by
    rw [branch_may.l0, if_neg (by omega), decide_eq_true (by intro j a b; omega : ∀ j, j < l.length → i ≤ j → okF l j), Bool.true_and]
    congr 1
    rw [decide_eq_decide]
    omega
  | d + 1, i, k + 1, hi, hk => by
    have ih := may_up l hl d (i + 1) k (by omega) (by omega)
    have hw2 : wrap64 ((i : Int) + 1) = ((i + 1 : Nat) : Int) := by unfold wrap64; omega
    have hbad : ¬ okF l i → some false = some (decide (∀ j, j < l.length → i ≤ j → okF l j) && decide (0 < l.length)) := fun h => by
      rw [decide_eq_false (fun h2 => h (h2 i (by omega) (Nat.le_refl _))), Bool.false_and]
    have hgood : okF l i → some (decide (∀ j, j < l.length → i + 1 ≤ j → okF l j) && decide (0 < l.length)) = some (decide (∀ j, j < l.length → i ≤ j → okF l j) && decide (0 < l.length)) := fun h => by
      congr 2
      rw [decide_eq_decide]
      refine ⟨fun hh j a b => ?_, fun hh j a b => hh j a (by omega)⟩
      by_cases e : j = i
      · subst e
        exact h
      · exact hh j a (by omega)
    rw [branch_may.l0, if_pos (by omega), if_pos (by omega), if_pos (by omega)]
    unfold branch_Key.f
    rw [bs, bnumber_is]
    by_cases h1 : (rd_T46 l (i : Int)).f0.size ≤ 40
    · rw [if_pos (by rw [decide_eq_true_eq]; omega), bs]
      cases h2 : numB (rd_T46 l (i : Int)).f1 with
      | false =>
        rw [if_neg (by decide)]
        exact hbad (fun h => by rw [h.2.1] at h2; cases h2)
      | true =>
        rw [if_pos rfl]
        by_cases h3 : (i : Int) > 0
        · have hw : wrap64 ((i : Int) - 1) = ((i - 1 : Nat) : Int) := by unfold wrap64; omega
          rw [if_pos h3, hw, if_pos (by omega), if_pos (by omega)]
          by_cases h4 : Op.bytesLess (keyF l (i - 1)) (keyF l i) = true
          · rw [if_pos h4, hw2, ih]
            exact hgood ⟨h1, h2, fun _ => h4⟩
          · rw [if_neg h4]
            exact hbad (fun h => h4 (h.2.2 (by omega)))
        · rw [if_neg h3, hw2, ih]
          exact hgood ⟨h1, h2, fun h => by omega⟩
    · rw [if_neg (by rw [decide_eq_true_eq]; omega)]
      exact hbad (fun h => h1 h.1)
theorem may_is (l : List SF) (hl : l.length < 4611686018427387904) (k : Nat) (hk : l.length < k) : branch_may.f k l = some (mayF l) := by
  unfold branch_may.f
  refine Eq.trans (may_up l hl l.length 0 k (by omega) hk) ?_
  unfold mayF
  congr 2
  rw [decide_eq_decide]
  exact ⟨fun h j a => h j a (Nat.zero_le _), fun h j a _ => h j a⟩
theorem rmay_up (l : List SF) (hl : l.length < 4611686018427387904) : ∀ (d i k : Nat), i + d = l.length → d < k → careenageref07_May.l0 k l (i : Int) = some (decide (∀ j, j < l.length → i ≤ j → okF l j) && decide (0 < l.length))
  | d, i, 0, _, h => by omega
  | 0, i, k + 1, hi, _ => by
    rw [careenageref07_May.l0, if_neg (by omega), decide_eq_true (by intro j a b; omega : ∀ j, j < l.length → i ≤ j → okF l j), Bool.true_and]
    congr 1
    rw [decide_eq_decide]
    omega
  | d + 1, i, k + 1, hi, hk => by
    have ih := rmay_up l hl d (i + 1) k (by omega) (by omega)
    have hw2 : wrap64 ((i : Int) + 1) = ((i + 1 : Nat) : Int) := by unfold wrap64; omega
    have hbad : ¬ okF l i → some false = some (decide (∀ j, j < l.length → i ≤ j → okF l j) && decide (0 < l.length)) := fun h => by
      rw [decide_eq_false (fun h2 => h (h2 i (by omega) (Nat.le_refl _))), Bool.false_and]
    have hgood : okF l i → some (decide (∀ j, j < l.length → i + 1 ≤ j → okF l j) && decide (0 < l.length)) = some (decide (∀ j, j < l.length → i ≤ j → okF l j) && decide (0 < l.length)) := fun h => by
      congr 2
      rw [decide_eq_decide]
      refine ⟨fun hh j a b => ?_, fun hh j a b => hh j a (by omega)⟩
      by_cases e : j = i
      · subst e
        exact h
      · exact hh j a (by omega)
    rw [careenageref07_May.l0, if_pos (by omega), if_pos (by omega)]
    unfold careenageref07_Key.f
    rw [bs, rnumber_is]
    by_cases h1 : (rd_T46 l (i : Int)).f0.size ≤ 40
    · rw [if_pos (by rw [decide_eq_true_eq]; omega), bs]
      cases h2 : numB (rd_T46 l (i : Int)).f1 with
      | false =>
        rw [if_neg (by decide)]
        exact hbad (fun h => by rw [h.2.1] at h2; cases h2)
      | true =>
        rw [if_pos rfl]
        by_cases h3 : (i : Int) > 0
        · have hw : wrap64 ((i : Int) - 1) = ((i - 1 : Nat) : Int) := by unfold wrap64; omega
          rw [if_pos h3, hw, if_pos (by omega), if_pos (by omega)]
          by_cases h4 : Op.bytesLess (keyF l (i - 1)) (keyF l i) = true
          · rw [if_pos h4, hw2, ih]
            exact hgood ⟨h1, h2, fun _ => h4⟩
          · rw [if_neg h4]
            exact hbad (fun h => h4 (h.2.2 (by omega)))
        · rw [if_neg h3, hw2, ih]
          exact hgood ⟨h1, h2, fun h => by omega⟩
    · rw [if_neg (by rw [decide_eq_true_eq]; omega)]
      exact hbad (fun h => h1 h.1)
theorem rmay_is (l : List SF) (hl : l.length < 4611686018427387904) (k : Nat) (hk : l.length < k) : careenageref07_May.f k l = some (mayF l) := by
  unfold careenageref07_May.f
  refine Eq.trans (rmay_up l hl l.length 0 k (by omega) hk) ?_
  unfold mayF
  congr 2
  rw [decide_eq_decide]
  exact ⟨fun h j a => h j a (Nat.zero_le _), fun h j a _ => h j a⟩
/-- How great forks are, as both count it. -/
def sizeW (n : Int) (l : List SF) : Int := l.foldl (fun n f => wrap64 (n + wrap64 (5 + (f.f0.size : Int)))) n
theorem drop_F (l : List SF) (i : Nat) (h : i < l.length) : l.drop i = rd_T46 l (i : Int) :: l.drop (i + 1) := by
  rw [List.drop_eq_getElem_cons h]
  simp [rd_T46, h]
theorem size_up (l : List SF) (hl : l.length < 4611686018427387904) : ∀ (d i k : Nat) (n : Int), i + d = l.length → d < k → branch_Size.l0 k n l (l.length : Int) (i : Int) = some (sizeW n (l.drop i))
  | d, i, 0, _, _, h => by omega
  | 0, i, k + 1, n, hi, _ => by
    rw [branch_Size.l0, if_neg (by omega), List.drop_of_length_le (by omega)]
    rfl
  | d + 1, i, k + 1, n, hi, hk => by
    have hw2 : wrap64 ((i : Int) + 1) = ((i + 1 : Nat) : Int) := by unfold wrap64; omega
    rw [branch_Size.l0, if_pos (by omega), if_pos (by omega), if_pos (by omega), hw2, size_up l hl d (i + 1) k _ (by omega) (by omega), drop_F l i (by omega)]
    rfl
theorem size_is (l : List SF) (hl : l.length < 4611686018427387904) (k : Nat) (hk : l.length < k) : branch_Size.f k l = some (sizeW 0 l) := by
  unfold branch_Size.f
  exact size_up l hl l.length 0 k 0 (by omega) hk
theorem rsize_up (l : List SF) (hl : l.length < 4611686018427387904) : ∀ (d i k : Nat) (n : Int), i + d = l.length → d < k → careenageref07_Size.l0 k l n (i : Int) = some (sizeW n (l.drop i))
  | d, i, 0, _, _, h => by omega
  | 0, i, k + 1, n, hi, _ => by
    rw [careenageref07_Size.l0, if_neg (by omega), List.drop_of_length_le (by omega)]
    rfl
  | d + 1, i, k + 1, n, hi, hk => by
    have hw2 : wrap64 ((i : Int) + 1) = ((i + 1 : Nat) : Int) := by unfold wrap64; omega
    rw [careenageref07_Size.l0, if_pos (by omega), if_pos (by omega)]
    unfold careenageref07_One.f
    rw [bs, hw2, rsize_up l hl d (i + 1) k _ (by omega) (by omega), drop_F l i (by omega)]
    rfl
theorem rsize_is (l : List SF) (hl : l.length < 4611686018427387904) (k : Nat) (hk : l.length < k) : careenageref07_Size.f k l = some (sizeW 0 l) := by
  unfold careenageref07_Size.f
  exact rsize_up l hl l.length 0 k 0 (by omega) hk
/-- A fork's bytes. -/
def forkL (f : SF) : List Int := le (IntKind.u64.wrap (f.f0.size : Int)) 1 ++ bytesOf f.f0 ++ le (IntKind.u64.wrap f.f1) 4
theorem forkL_length (f : SF) : (forkL f).length = 5 + f.f0.size := by
  unfold forkL
  rw [List.length_append, List.length_append, le_length, le_length, bytesOf_length]
  omega
def sizeN (l : List SF) : Nat := (l.map (fun f => 5 + f.f0.size)).sum
theorem forks_length (l : List SF) : (l.flatMap forkL).length = sizeN l := by
  unfold sizeN
  rw [List.length_flatMap]
  congr 1
  exact List.map_congr_left (fun f _ => forkL_length f)
theorem sizeN_cons (f : SF) (l : List SF) : sizeN (f :: l) = 5 + f.f0.size + sizeN l := by simp [sizeN]
theorem sizeW_is : ∀ (l : List SF) (n : Int), 0 ≤ n → n + (sizeN l : Int) ≤ 9223372036854775807 → sizeW n l = n + (sizeN l : Int)
  | [], n, _, _ => by simp [sizeW, sizeN]
  | f :: l, n, h0, h => by
    rw [sizeN_cons] at h ⊢
    have hw : wrap64 (n + wrap64 (5 + (f.f0.size : Int))) = n + (5 + (f.f0.size : Int)) := by
      have : wrap64 (5 + (f.f0.size : Int)) = 5 + (f.f0.size : Int) := w64 (by omega) (by omega)
      rw [this]
      exact w64 (by omega) (by omega)
    show sizeW (wrap64 (n + wrap64 (5 + (f.f0.size : Int)))) l = _
    rw [hw, sizeW_is l _ (by omega) (by omega)]
    omega
theorem sizeN_bound (b : Nat) : ∀ (l : List SF), (∀ f ∈ l, f.f0.size ≤ b) → sizeN l ≤ (5 + b) * l.length
  | [], _ => by simp [sizeN]
  | f :: l, h => by
    have h1 := h f (List.mem_cons_self ..)
    have h2 := sizeN_bound b l (fun g hg => h g (List.mem_cons_of_mem _ hg))
    rw [sizeN_cons, List.length_cons, Nat.mul_succ]
    omega
theorem mayF_ok {l : List SF} (h : mayF l = true) : ∀ j, j < l.length → okF l j := by
  unfold mayF at h
  rw [Bool.and_eq_true, decide_eq_true_eq] at h
  exact h.1
theorem mayF_pos {l : List SF} (h : mayF l = true) : 0 < l.length := by
  unfold mayF at h
  rw [Bool.and_eq_true, decide_eq_true_eq, decide_eq_true_eq] at h
  exact h.2
theorem rd_mem {l : List SF} {f : SF} (h : f ∈ l) : ∃ j, j < l.length ∧ rd_T46 l (j : Int) = f := by
  obtain ⟨j, hj, rfl⟩ := List.mem_iff_getElem.1 h
  exact ⟨j, hj, by simp [rd_T46, hj]⟩
theorem mayF_keys {l : List SF} (h : mayF l = true) : ∀ f ∈ l, f.f0.size ≤ 40 := by
  intro f hf
  obtain ⟨j, hj, rfl⟩ := rd_mem hf
  exact (mayF_ok h j hj).1
theorem mayF_size {l : List SF} (h : mayF l = true) (hl : l.length ≤ 100000000000000) : sizeW 0 l = (sizeN l : Int) := by
  have := sizeN_bound 40 l (mayF_keys h)
  rw [sizeW_is l 0 (by omega) (by omega)]
  omega
theorem sizeN_length : ∀ (l : List SF), 5 * l.length ≤ sizeN l
  | [] => by simp
  | f :: l => by
    have := sizeN_length l
    rw [sizeN_cons, List.length_cons]
    omega
/-- Forks that may be a page of this size. -/
def okP (s n tx : Int) (l : List SF) : Bool := mayF l && decide (sizeW 0 l ≤ roomS s) && numB n && decide (tx ≤ 4611686018427387904)
def pageP (s n tx : Int) (l : List SF) : Int × Int × Int × Int × Int × ByteArray × Int := if okP s n tx l = true then (3, (l.length : Int), n, 0, tx, padS (roomS s) (l.flatMap forkL), 0) else (0, 0, 0, 0, 0, (⟨#[]⟩ : ByteArray), 2)
theorem put1 (l : List Int) (n : Int) : putL l n 1 = l ++ le n 1 := by
  unfold putL
  rw [if_pos (by decide)]
  rfl
theorem bpage_loop (s n tx : Int) (l : List SF) (hl : l.length < 1000000) (hs : sizeN l ≤ 100000) : ∀ (d i k : Nat) (acc : List Int), i + d = l.length → d + 13 ≤ k → acc.length + sizeN (l.drop i) ≤ 8000000 →
    branch_Page.l0 k s n tx l acc l (l.length : Int) (i : Int) = (frame_Body.f s (acc ++ (l.drop i).flatMap forkL)).bind fun bt => some (3, (l.length : Int), n, 0, tx, bt.1, 0)
  | d, i, 0, acc, _, h, _ => by omega
  | 0, i, k + 1, acc, hi, hk, ha => by
    rw [branch_Page.l0, if_neg (by omega), List.drop_of_length_le (by omega), List.flatMap_nil, List.append_nil]
  | d + 1, i, k + 1, acc, hi, hk, ha => by
    have hw2 : wrap64 ((i : Int) + 1) = ((i + 1 : Nat) : Int) := by unfold wrap64; omega
    rw [drop_F l i (by omega), sizeN_cons] at ha
    rw [branch_Page.l0, if_pos (by omega), if_pos (by omega), if_pos (by omega), put_is k acc _ 1 (by omega) (by omega), bs, put1, if_pos (by rw [List.length_append, le_length]; omega), put_is k _ _ 4 (by omega) (by rw [List.length_append, List.length_append, le_length, bytesOf_length]; omega), bs, put4, hw2,
      bpage_loop s n tx l hl hs d (i + 1) k _ (by omega) (by omega) (by rw [List.length_append, List.length_append, List.length_append, le_length, le_length, bytesOf_length]; omega), drop_F l i (by omega), List.flatMap_cons]
    congr 2
    simp only [forkL, List.append_assoc]
theorem rbpage_loop (s n tx : Int) (l : List SF) (hl : l.length < 1000000) (hs : sizeN l ≤ 100000) : ∀ (d i k : Nat) (acc : List Int), i + d = l.length → d + 13 ≤ k → acc.length + sizeN (l.drop i) ≤ 8000000 →
    careenageref07_Page.l0 k s n tx l acc (i : Int) = (careenageref04_Body.f s (acc ++ (l.drop i).flatMap forkL)).bind fun bt => some (3, (l.length : Int), n, 0, tx, bt.1, 0)
  | d, i, 0, acc, _, h, _ => by omega
  | 0, i, k + 1, acc, hi, hk, ha => by
    rw [careenageref07_Page.l0, if_neg (by omega), List.drop_of_length_le (by omega), List.flatMap_nil, List.append_nil]
  | d + 1, i, k + 1, acc, hi, hk, ha => by
    have hw2 : wrap64 ((i : Int) + 1) = ((i + 1 : Nat) : Int) := by unfold wrap64; omega
    rw [drop_F l i (by omega), sizeN_cons] at ha
    rw [careenageref07_Page.l0, if_pos (by omega), if_pos (by omega), rput_is k acc _ 1 (by omega) (by omega), bs, put1, if_pos (by rw [List.length_append, le_length]; omega), rput_is k _ _ 4 (by omega) (by rw [List.length_append, List.length_append, le_length, bytesOf_length]; omega), bs, put4, hw2,
      rbpage_loop s n tx l hl hs d (i + 1) k _ (by omega) (by omega) (by rw [List.length_append, List.length_append, List.length_append, le_length, le_length, bytesOf_length]; omega), drop_F l i (by omega), List.flatMap_cons]
    congr 2
    simp only [forkL, List.append_assoc]
theorem pageP_bad {s n tx : Int} {l : List SF} (h : okP s n tx l = false) : some (pageP s n tx l) = some (0, 0, 0, 0, 0, (⟨#[]⟩ : ByteArray), 2) := by
  unfold pageP
  rw [h, if_neg (by decide)]
theorem good_of_room {s : Int} (h : 0 < roomS s) : goodS s = true := by
  unfold roomS at h
  split at h
  · assumption
  · omega
theorem bpage_end (k : Nat) (s n tx : Int) (l : List SF) (b : Bool) (hl : l.length < 1000000) (hs : (sizeN l : Int) ≤ roomS s) (h0 : 0 < l.length) (hk : l.length + 14 ≤ k) :
    branch_Page.j0 k s n tx l b = some (if b = true then (0, 0, 0, 0, 0, (⟨#[]⟩ : ByteArray), 2) else (3, (l.length : Int), n, 0, tx, padS (roomS s) (l.flatMap forkL), 0)) := by
  have hr := roomS_range s
  have hsl := sizeN_length l
  obtain ⟨k, rfl⟩ : ∃ j, k = j + 1 := ⟨k - 1, by omega⟩
  rw [branch_Page.j0]
  cases b with
  | true => rw [if_pos rfl, if_pos rfl]
  | false =>
    rw [if_neg (by decide), if_neg (by decide), show (0 : Int) = ((0 : Nat) : Int) from rfl, bpage_loop s n tx l hl (by omega) l.length 0 k [] (by omega) (by omega) (by simp; omega), List.drop_zero, List.nil_append, body_is s _ (good_of_room (by omega)) (by rw [forks_length]; exact hs), bs]
    rfl
theorem rbpage_end (k : Nat) (s n tx : Int) (l : List SF) (b : Bool) (hl : l.length < 1000000) (hs : (sizeN l : Int) ≤ roomS s) (h0 : 0 < l.length) (hk : l.length + 14 ≤ k) :
    careenageref07_Page.j0 k s n tx l b = some (if b = true then (0, 0, 0, 0, 0, (⟨#[]⟩ : ByteArray), 2) else (3, (l.length : Int), n, 0, tx, padS (roomS s) (l.flatMap forkL), 0)) := by
  have hr := roomS_range s
  have hsl := sizeN_length l
  obtain ⟨k, rfl⟩ : ∃ j, k = j + 1 := ⟨k - 1, by omega⟩
  rw [careenageref07_Page.j0]
  cases b with
  | true => rw [if_pos rfl, if_pos rfl]
  | false =>
    rw [if_neg (by decide), if_neg (by decide), show (0 : Int) = ((0 : Nat) : Int) from rfl, rbpage_loop s n tx l hl (by omega) l.length 0 k [] (by omega) (by omega) (by simp; omega), List.drop_zero, List.nil_append, rbody_is s _ (good_of_room (by omega)) (by rw [forks_length]; exact hs), bs]
    rfl
theorem bpage_is (k : Nat) (s n tx : Int) (l : List SF) (hl : l.length ≤ 100000000000000) (hk : l.length + 1000 ≤ k) : branch_Page.f k s n tx l = some (pageP s n tx l) := by
  have hr := roomS_range s
  have hbad : branch_Page.j0 k s n tx l true = some (0, 0, 0, 0, 0, (⟨#[]⟩ : ByteArray), 2) := by
    obtain ⟨k, rfl⟩ : ∃ j, k = j + 1 := ⟨k - 1, by omega⟩
    rw [branch_Page.j0, if_pos rfl]
  unfold branch_Page.f
  rw [may_is l (by omega) k (by omega), bs]
  cases h1 : mayF l with
  | false => rw [if_neg (by decide), hbad, pageP_bad (by unfold okP; simp [h1])]
  | true =>
    rw [if_pos rfl, size_is l (by omega) k (by omega), bs, room_is, bs]
    by_cases h2 : sizeW 0 l > roomS s
    · rw [if_pos h2, hbad, pageP_bad (by unfold okP; simp [show ¬ (sizeW 0 l ≤ roomS s) by omega])]
    · rw [if_neg h2, bnumber_is, bs]
      have h3 := mayF_size h1 hl
      have h4 := sizeN_length l
      cases h5 : numB n with
      | false => rw [if_neg (by decide), hbad, pageP_bad (by unfold okP; simp [h5])]
      | true =>
        rw [if_pos rfl, bpage_end k s n tx l _ (by omega) (by omega) (mayF_pos h1) (by omega)]
        congr 1
        unfold pageP okP
        by_cases h6 : tx > 4611686018427387904
        · simp [h6, show ¬ (tx ≤ 4611686018427387904) by omega]
        · simp [h6, show tx ≤ 4611686018427387904 by omega, h1, h5, show sizeW 0 l ≤ roomS s by omega]
theorem rbpage_is (k : Nat) (s n tx : Int) (l : List SF) (hl : l.length ≤ 100000000000000) (hk : l.length + 1000 ≤ k) : careenageref07_Page.f k s n tx l = some (pageP s n tx l) := by
  have hr := roomS_range s
  have hbad : careenageref07_Page.j0 k s n tx l true = some (0, 0, 0, 0, 0, (⟨#[]⟩ : ByteArray), 2) := by
    obtain ⟨k, rfl⟩ : ∃ j, k = j + 1 := ⟨k - 1, by omega⟩
    rw [careenageref07_Page.j0, if_pos rfl]
  unfold careenageref07_Page.f
  rw [rgood_is, bs]
  cases hg : goodS s with
  | false =>
    have h0 : roomS s = 0 := by unfold roomS; rw [hg, if_neg (by decide)]
    rw [if_neg (by decide), hbad]
    cases h1 : mayF l with
    | false => rw [pageP_bad (by unfold okP; simp [h1])]
    | true =>
      have h3 := mayF_size h1 hl
      have h4 := sizeN_length l
      have h5 := mayF_pos h1
      rw [pageP_bad (by unfold okP; simp [show ¬ (sizeW 0 l ≤ roomS s) by omega])]
  | true =>
    rw [if_pos rfl, rmay_is l (by omega) k (by omega), bs]
    cases h1 : mayF l with
    | false => rw [if_neg (by decide), hbad, pageP_bad (by unfold okP; simp [h1])]
    | true =>
      rw [if_pos rfl, rsize_is l (by omega) k (by omega), bs, rroom_is, bs]
      by_cases h2 : sizeW 0 l > roomS s
      · rw [if_pos h2, hbad, pageP_bad (by unfold okP; simp [show ¬ (sizeW 0 l ≤ roomS s) by omega])]
      · rw [if_neg h2, rnumber_is, bs]
        have h3 := mayF_size h1 hl
        have h4 := sizeN_length l
        cases h5 : numB n with
        | false => rw [if_neg (by decide), hbad, pageP_bad (by unfold okP; simp [h5])]
        | true =>
          rw [if_pos rfl, rbpage_end k s n tx l _ (by omega) (by omega) (mayF_pos h1) (by omega)]
          congr 1
          unfold pageP okP
          by_cases h6 : tx > 4611686018427387904
          · simp [h6, show ¬ (tx ≤ 4611686018427387904) by omega]
          · simp [h6, show tx ≤ 4611686018427387904 by omega, h1, h5, show sizeW 0 l ≤ roomS s by omega]
/-- How many forks stand ahead of the first one that begins behind the key. -/
def fa (key : List UInt8) : List SF → Nat
  | [] => 0
  | f :: l => if Op.bytesLess key f.f0.toList = true then 0 else fa key l + 1
theorem pick_up (l : List SF) (key : ByteArray) (hl : l.length < 4611686018427387904) : ∀ (d i k : Nat), i + d = l.length → d < k → branch_Pick.l0 k key ((i - 1 : Nat) : Int) l (l.length : Int) (i : Int) = some ((i + fa key.toList (l.drop i) - 1 : Nat) : Int)
  | d, i, 0, _, h => by omega
  | 0, i, k + 1, hi, _ => by
    rw [branch_Pick.l0, if_neg (by omega), List.drop_of_length_le (by omega)]
    rfl
  | d + 1, i, k + 1, hi, hk => by
    have hw2 : wrap64 ((i : Int) + 1) = ((i + 1 : Nat) : Int) := by unfold wrap64; omega
    have ih := pick_up l key hl d (i + 1) k (by omega) (by omega)
    rw [show i + 1 - 1 = i from rfl] at ih
    rw [branch_Pick.l0, if_pos (by omega), if_pos (by omega), if_pos (by omega), drop_F l i (by omega), fa]
    by_cases h : Op.bytesLess key.toList (rd_T46 l (i : Int)).f0.toList = true
    · rw [if_pos h, if_pos h]
      rfl
    · rw [if_neg h, if_neg h, hw2, ih]
      congr 2
      omega
theorem fpick_is (l : List SF) (key : ByteArray) (hl : l.length < 4611686018427387904) (k : Nat) (hk : l.length < k) : branch_Pick.f k l key = some ((fa key.toList l - 1 : Nat) : Int) := by
  unfold branch_Pick.f
  refine Eq.trans (pick_up l key hl l.length 0 k (by omega) hk) ?_
  rw [Nat.zero_add, List.drop_zero]
/-- Few forks, few bytes. -/
theorem light_up (l : List SF) (hl : l.length ≤ 1000000000000000) : ∀ (d i k : Nat) (n : Int), i + d = l.length → d < k → 0 ≤ n → n ≤ 3000 * i → ∃ b, careenagelaw07_light.l0 k l n (i : Int) = some b ∧ (b = true → l.length ≤ 100 ∧ n ≤ 3000 ∧ ∀ j, j < l.length → i ≤ j → n + (mn ((rd_T46 l (j : Int)).f0.size : Int) 3000) ≤ 3000)
  | d, i, 0, _, _, h, _, _ => by omega
  | 0, i, k + 1, n, hi, _, h0, _ => by
    rw [careenagelaw07_light.l0, if_neg (by omega)]
    by_cases h : (l.length : Int) ≤ 100
    · rw [if_pos h]
      exact ⟨_, rfl, fun hb => ⟨by omega, by simpa using hb, fun j a b => by omega⟩⟩
    · rw [if_neg h]
      exact ⟨_, rfl, fun hb => by cases hb⟩
  | d + 1, i, k + 1, n, hi, hk, h0, hn => by
    have hw2 : wrap64 ((i : Int) + 1) = ((i + 1 : Nat) : Int) := by unfold wrap64; omega
    have hm : 0 ≤ mn ((rd_T46 l (i : Int)).f0.size : Int) 3000 ∧ mn ((rd_T46 l (i : Int)).f0.size : Int) 3000 ≤ 3000 := by unfold mn; split <;> omega
    have hw : wrap64 (n + mn ((rd_T46 l (i : Int)).f0.size : Int) 3000) = n + mn ((rd_T46 l (i : Int)).f0.size : Int) 3000 := w64 (by omega) (by omega)
    obtain ⟨b, hb, hi2⟩ := light_up l hl d (i + 1) k (n + mn ((rd_T46 l (i : Int)).f0.size : Int) 3000) (by omega) (by omega) (by omega) (by omega)
    rw [careenagelaw07_light.l0, if_pos (by omega), if_pos (by omega), hw, hw2, hb]
    refine ⟨b, rfl, fun h => ?_⟩
    obtain ⟨h1, h2, h3⟩ := hi2 h
    refine ⟨h1, by omega, fun j a c => ?_⟩
    by_cases e : j = i
    · subst e
      exact h2
    · have := h3 j a (by omega)
      omega
theorem light_is (l : List SF) (hl : l.length ≤ 1000000000000000) (k : Nat) (hk : l.length < k) : ∃ b, careenagelaw07_light.f k l = some b ∧ (b = true → l.length ≤ 100) := by
  obtain ⟨b, h, h2⟩ := light_up l hl l.length 0 k 0 (by omega) hk (by omega) (by omega)
  exact ⟨b, h, fun hb => (h2 hb).1⟩
end Go.Proofs.Ytlkfcabklaaacaa.Q

namespace Go.Proofs.Ytlkfcabklaaacaa.P
open Go.RowKit Go.Proofs.YtlkfcabklaaacaaW.PrintWords Go.Proofs.YtlkfcabklaaacaaW.PrintLast Go.Proofs.YtlkfcabklaaacaaW.PrintMore
attribute [local go_sem] max2_int min2_int max_two min_two max_three min_three max_four min_four   -- for this text's walks alone
open Go.Proofs.YtlkfcabklaaacaaO
attribute [local go_sem] min2_str max2_str
set_option linter.unusedVariables false
set_option linter.unusedSimpArgs false
attribute [local go_sem high] eqA39
/-! ### free_Of: function 28 -/
def free_Of.l0 : Nat → List Int → Int → Int → Int → Int → Int → Int → Int → ByteArray → ByteArray → Option (List Int × Int × Int)
  | 0, _, _, _, _, _, _, _, _, _, _ => none
  | k + 1, x2, x14, x15, x221000, x221001, x221002, x221003, x221004, x221005, x223000 => if x15 < x14 then ((octet_Reader_Number.f k x223000 4).bind fun bt223 => (if bt223.2.1 = 0 then (if x2.length < 35184372088832 then (free_Of.l0 k (x2 ++ [(bt223.1) % 4294967296]) x14 (wrap64 (x15 + 1)) x221000 x221001 x221002 x221003 x221004 x221005 bt223.2.2) else (none)) else (some (([] : List Int), 0, 4)))) else ((free_Page.f k (wrap64 ((x221005.size : Int) + 24)) x221002 x221003 x221004 x2).bind fun bt229 => (if bt229.2.2.2.2.2.2 = 0 then (if (!(bt229.1 == x221000) || (!(bt229.2.1 == x221001) || (!(bt229.2.2.1 == x221002) || (!(bt229.2.2.2.1 == x221003) || (!(bt229.2.2.2.2.1 == x221004) || (!(bt229.2.2.2.2.2.1.toList == x221005.toList))))))) = true then (some (([] : List Int), 0, 4)) else (some (x2, x221003, 0))) else (some (([] : List Int), 0, 4))))
def free_Of.f (k : Nat) (a0_0 : Int) (a0_1 : Int) (a0_2 : Int) (a0_3 : Int) (a0_4 : Int) (a0_5 : ByteArray) : Option (List Int × Int × Int) := (octet_New.f a0_5).bind fun t221 => (free_Of.l0 k ([] : List Int) a0_1 0 a0_0 a0_1 a0_2 a0_3 a0_4 a0_5 t221)
end Go.Proofs.Ytlkfcabklaaacaa.P

namespace Go.Proofs.Ytlkfcabklaaacaa.P
open Go.RowKit Go.Proofs.YtlkfcabklaaacaaW.PrintWords Go.Proofs.YtlkfcabklaaacaaW.PrintLast Go.Proofs.YtlkfcabklaaacaaW.PrintMore
attribute [local go_sem] max2_int min2_int max_two min_two max_three min_three max_four min_four   -- for this text's walks alone
open Go.Proofs.YtlkfcabklaaacaaO
attribute [local go_sem] min2_str max2_str
set_option linter.unusedVariables false
set_option linter.unusedSimpArgs false
/-! ### careenagekit_Same_uint32: function 21 -/
def careenagekit_Same_uint32.l0 : Nat → List Int → List Int → Int → Option (Bool)
  | 0, _, _, _ => none
  | k + 1, x0, x1, x5 => if x5 < (x0.length : Int) then (if 0 ≤ x5 then (if x5 < (x1.length : Int) then (if (rd x0 x5) = (rd x1 x5) then (careenagekit_Same_uint32.l0 k x0 x1 (wrap64 (x5 + 1))) else (some false)) else (none)) else (none)) else (some true)
def careenagekit_Same_uint32.f (k : Nat) (l0 : List Int) (l1 : List Int) : Option (Bool) := if (l0.length : Int) = (l1.length : Int) then (careenagekit_Same_uint32.l0 k l0 l1 0) else (some false)
end Go.Proofs.Ytlkfcabklaaacaa.P

namespace Go.Proofs.Ytlkfcabklaaacaa.P
open Go.RowKit Go.Proofs.YtlkfcabklaaacaaW.PrintWords Go.Proofs.YtlkfcabklaaacaaW.PrintLast Go.Proofs.YtlkfcabklaaacaaW.PrintMore
attribute [local go_sem] max2_int min2_int max_two min_two max_three min_three max_four min_four   -- for this text's walks alone
open Go.Proofs.YtlkfcabklaaacaaO
attribute [local go_sem] min2_str max2_str
set_option linter.unusedVariables false
set_option linter.unusedSimpArgs false
attribute [local go_sem high] eqA39
/-! ### careenageref10_Of: function 33 -/
def careenageref10_Of.l0 : Nat → List Int → Int → Int → Int → Int → Int → Int → ByteArray → ByteArray → Option (List Int × Int × Int)
  | 0, _, _, _, _, _, _, _, _, _ => none
  | k + 1, x6, x7, x361000, x361001, x361002, x361003, x361004, x361005, x363000 => if x7 < x361001 then ((careenageref01_Reader_Number.f k x363000 4).bind fun bt363 => (if bt363.2.1 = 0 then (if x6.length < 35184372088832 then (careenageref10_Of.l0 k (x6 ++ [(bt363.1) % 4294967296]) (wrap64 (x7 + 1)) x361000 x361001 x361002 x361003 x361004 x361005 bt363.2.2) else (none)) else (some (([] : List Int), 0, 4)))) else ((careenageref10_Page.f k (wrap64 ((x361005.size : Int) + 24)) x361002 x361003 x361004 x6).bind fun bt369 => (if bt369.2.2.2.2.2.2 = 0 then (if (!(bt369.1 == x361000) || (!(bt369.2.1 == x361001) || (!(bt369.2.2.1 == x361002) || (!(bt369.2.2.2.1 == x361003) || (!(bt369.2.2.2.2.1 == x361004) || (!(bt369.2.2.2.2.2.1.toList == x361005.toList))))))) = true then (some (([] : List Int), 0, 4)) else (some (x6, x361003, 0))) else (some (([] : List Int), 0, 4))))
def careenageref10_Of.f (k : Nat) (a0_0 : Int) (a0_1 : Int) (a0_2 : Int) (a0_3 : Int) (a0_4 : Int) (a0_5 : ByteArray) : Option (List Int × Int × Int) := (careenageref01_New.f a0_5).bind fun t361 => (careenageref10_Of.l0 k ([] : List Int) 0 a0_0 a0_1 a0_2 a0_3 a0_4 a0_5 t361)
end Go.Proofs.Ytlkfcabklaaacaa.P

namespace Go.Proofs.Ytlkfcabklaaacaa.P
open Go.RowKit Go.Proofs.YtlkfcabklaaacaaW.PrintWords Go.Proofs.YtlkfcabklaaacaaW.PrintLast Go.Proofs.YtlkfcabklaaacaaW.PrintMore
attribute [local go_sem] max2_int min2_int max_two min_two max_three min_three max_four min_four   -- for this text's walks alone
open Go.Proofs.YtlkfcabklaaacaaO
attribute [local go_sem] min2_str max2_str
set_option linter.unusedVariables false
set_option linter.unusedSimpArgs false
/-! ### careenagekit_Pick: function 18 -/
def careenagekit_Pick.f (a0 : Int) (a1 : Int) : Option (Int) := if a1 < 1 then (some 0) else (if a1 = 0 then (none) else (if (Int.tmod a0 a1) < 0 then (some (wrap64 ((Int.tmod a0 a1) + a1))) else (some (Int.tmod a0 a1))))
end Go.Proofs.Ytlkfcabklaaacaa.P

namespace Go.Proofs.Ytlkfcabklaaacaa.Q
set_option linter.unusedVariables false
set_option linter.unusedSimpArgs false
open Go.RowKit Go.Proofs.Ytlkfcabklaaacaa.P Go.Proofs.YtlkfcabklaaacaaW.PrintWords Go.Proofs.YtlkfcabklaaacaaW.PrintLast Go.Proofs.YtlkfcabklaaacaaW.PrintMore Go.Proofs.YtlkfcabklaaacaaO
theorem rnum_l0 (s : ByteArray) (n : Nat) (hn : n ≤ 8) (hs : n ≤ s.size) : ∀ (d k i : Nat), i + d = n → d < k → careenageref01_Reader_Number.l0 k n (ofLe ((B s).take i)) i s = some (ofLe ((B s).take n), 0, s.extract n s.size)
  | 0, k + 1, i, h, _ => by
    simp only [careenageref01_Reader_Number.l0]
    obtain rfl : i = n := by omega
    rw [if_neg (by omega), if_pos (by omega), if_pos (by omega), Int.toNat_natCast]
  | d + 1, k + 1, i, h, hk => by
    have hi : i < (B s).length := by rw [B_length]; omega
    simp only [careenageref01_Reader_Number.l0]
    rw [if_pos (by omega), if_pos (by omega), if_pos (by omega), w64 (x := 8 * (i : Int)) (by omega) (by omega), u64w (x := 8 * (i : Int)) (by omega) (by omega), if_pos (by omega), bt_get hi, ofLe_step (isB_B s) hi (by omega), w64 (by omega) (by omega)]
    exact rnum_l0 s n hn hs d k (i + 1) (by omega) (by omega)
theorem rnum_is (s : ByteArray) (n : Int) (k : Nat) (hk : 11 < k) : careenageref01_Reader_Number.f k s n = some (numR s n) := by
  obtain ⟨k, rfl⟩ : ∃ m, k = m + 1 := ⟨k - 1, by omega⟩
  unfold careenageref01_Reader_Number.f numR
  by_cases h1 : n < 1
  · rw [if_pos h1, if_pos (.inl h1), careenageref01_Reader_Number.j0, if_pos rfl]
  · rw [if_neg h1]
    by_cases h2 : n > 8
    · rw [if_pos (.inr h2), decide_eq_true h2, careenageref01_Reader_Number.j0, if_pos rfl]
    · rw [if_neg (by omega), decide_eq_false h2, careenageref01_Reader_Number.j0, if_neg (by decide)]
      by_cases h3 : (s.size : Int) < n
      · rw [if_pos h3, if_pos h3]
      · rw [if_neg h3, if_neg h3]
        obtain ⟨n, rfl⟩ := Int.eq_ofNat_of_zero_le (show 0 ≤ n by omega)
        have := rnum_l0 s n (by omega) (by omega) n k 0 (by omega) (by omega)
        simpa [ofLe] using this
theorem rbytes_is (s : ByteArray) (n : Int) : careenageref01_Reader_Bytes.f s n = some (bytesR s n) := by
  unfold careenageref01_Reader_Bytes.f bytesR
  by_cases h1 : n < 0
  · simp [h1]
  · rw [if_neg h1, if_neg h1]
    by_cases h2 : n > (s.size : Int)
    · rw [if_pos h2, if_pos (show (s.size : Int) < n from h2)]
    · rw [if_neg h2, if_neg (show ¬ (s.size : Int) < n from h2), if_pos (by omega), if_pos (by omega)]
end Go.Proofs.Ytlkfcabklaaacaa.Q

namespace Go.Proofs.Ytlkfcabklaaacaa.Q
set_option linter.unusedVariables false
set_option linter.unusedSimpArgs false
open Go.RowKit Go.Proofs.Ytlkfcabklaaacaa.P Go.Proofs.YtlkfcabklaaacaaW.PrintWords Go.Proofs.YtlkfcabklaaacaaW.PrintLast Go.Proofs.YtlkfcabklaaacaaW.PrintMore Go.Proofs.YtlkfcabklaaacaaO
theorem num4 (s : ByteArray) : numR s 4 = if s.size < 4 then (0, 7, s) else (ofLe ((B s).take 4), 0, s.extract 4 s.size) := by
  unfold numR
  rw [if_neg (by omega)]
  by_cases h : s.size < 4
  · rw [if_pos (by omega), if_pos h]
  · rw [if_neg (by omega), if_neg h]
    rfl
theorem page_same (a b c d e f : Int) (g : ByteArray) (p0 cnt p2 p3 p4 : Int) (p5 : ByteArray) (h : (!(a == p0) || (!(b == cnt) || (!(c == p2) || (!(d == p3) || (!(e == p4) || (!(g.toList == p5.toList))))))) = false) : (a, b, c, d, e, g) = (p0, cnt, p2, p3, p4, p5) := by
  simp only [Bool.or_eq_false_iff, Bool.not_eq_false', beq_iff_eq, toList_eq_iff] at h
  obtain ⟨rfl, rfl, rfl, rfl, rfl, rfl⟩ := h
  rfl
theorem page_diff (a b c d e f : Int) (g : ByteArray) (p0 cnt p2 p3 p4 : Int) (p5 : ByteArray) (h : (!(a == p0) || (!(b == cnt) || (!(c == p2) || (!(d == p3) || (!(e == p4) || (!(g.toList == p5.toList))))))) = true) : ¬ (a, b, c, d, e, g) = (p0, cnt, p2, p3, p4, p5) := by
  intro hh
  simp only [Prod.mk.injEq] at hh
  obtain ⟨rfl, rfl, rfl, rfl, rfl, rfl⟩ := hh
  simp at h
theorem fin_is (x : Int × Int × Int × Int × Int × ByteArray × Int) (p0 cnt p2 p3 p4 : Int) (p5 : ByteArray) {α : Type} (u v : α) :
    (if x.2.2.2.2.2.2 = 0 then (if (!(x.1 == p0) || (!(x.2.1 == cnt) || (!(x.2.2.1 == p2) || (!(x.2.2.2.1 == p3) || (!(x.2.2.2.2.1 == p4) || (!(x.2.2.2.2.2.1.toList == p5.toList))))))) = true then v else u) else v) = if x = (p0, cnt, p2, p3, p4, p5, 0) then u else v := by
  obtain ⟨a, b, c, d, e, g, f⟩ := x
  simp only []
  by_cases hf : f = 0
  · subst hf
    rw [if_pos rfl]
    cases h : (!(a == p0) || (!(b == cnt) || (!(c == p2) || (!(d == p3) || (!(e == p4) || (!(g.toList == p5.toList))))))) with
    | true =>
      have := page_diff a b c d e 0 g p0 cnt p2 p3 p4 p5 h
      rw [if_pos rfl, if_neg]
      intro hh
      simp only [Prod.mk.injEq] at hh this
      exact this ⟨hh.1, hh.2.1, hh.2.2.1, hh.2.2.2.1, hh.2.2.2.2.1, hh.2.2.2.2.2.1⟩
    | false =>
      have := page_same a b c d e 0 g p0 cnt p2 p3 p4 p5 h
      simp only [Prod.mk.injEq] at this
      obtain ⟨rfl, rfl, rfl, rfl, rfl, rfl⟩ := this
      rw [if_neg (by decide), if_pos rfl]
  · rw [if_neg hf, if_neg]
    intro hh
    simp only [Prod.mk.injEq] at hh
    exact hf hh.2.2.2.2.2.2
theorem isB_zeros (n : Nat) : isB (List.replicate n 0) := by
  intro x hx
  have := (List.mem_replicate.1 hx).2
  omega
theorem B_padS (m : Int) {l : List Int} (h : isB l) : B (padS m l) = l ++ List.replicate (m.toNat - l.length) 0 := B_str (isB_append h (isB_zeros _))
theorem size_padS (m : Int) (l : List Int) (h : (l.length : Int) ≤ m) : ((padS m l).size : Int) = m := by
  unfold padS
  rw [size_str, List.length_append, List.length_replicate]
  omega
theorem numB_lt {x : Int} (h : numB x = true) : 0 ≤ x ∧ x < 4294967296 := by
  unfold numB at h
  simp only [Bool.and_eq_true, decide_eq_true_eq] at h
  omega
theorem room_size {s : Int} (h : goodS s = true) : wrap64 (roomS s + 24) = s := by
  unfold roomS
  rw [if_pos h]
  unfold goodS at h
  simp only [Bool.and_eq_true, decide_eq_true_eq, beq_iff_eq] at h
  unfold wrap64
  omega
end Go.Proofs.Ytlkfcabklaaacaa.Q
