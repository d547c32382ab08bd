/- The texts that the statement's row rests on, one behind the other. -/
import Derived.Test.YtlkfcabklaaacaaMBranchFits1
import Derived.Test.YtlkfcabklaaacaaMBranchFits2
namespace Go.Proofs.Ytlkfcabklaaacaa.P
open Go.RowKit Go.Proofs.YtlkfcabklaaacaaW.PrintWords Go.Proofs.YtlkfcabklaaacaaW.PrintLast Go.Proofs.YtlkfcabklaaacaaW.PrintMore
attribute [local go_sem] max2_int min2_int max_two min_two max_three min_three max_four min_four   -- for this text's walks alone
open Go.Proofs.YtlkfcabklaaacaaO
attribute [local go_sem] min2_str max2_str
set_option linter.unusedVariables false
set_option linter.unusedSimpArgs false
/-! ### careenagelaw07_BranchFits: function 13 -/
mutual
def careenagelaw07_BranchFits.j0 : Nat → Int → List (S46) → Int → Int → Bool → Option (Bool)
  | 0, _, _, _, _, _ => none
  | k + 1, x0, x1, x2, x3, x27 => if x27 = true then (some true) else ((branch_Page.f k 4096 2 0 x1).bind fun bt743 => ((branch_Page.f k x0 2 0 x1).bind fun bt751 => (if x0 ≥ 128 then (if x0 ≤ 4096 then (careenagelaw07_BranchFits.j1 k x0 x1 x2 x3 bt743.2.2.2.2.2.2 bt751.2.2.2.2.2.2 ((Int.tmod x0 64) == 0)) else (careenagelaw07_BranchFits.j1 k x0 x1 x2 x3 bt743.2.2.2.2.2.2 bt751.2.2.2.2.2.2 false)) else (careenagelaw07_BranchFits.j1 k x0 x1 x2 x3 bt743.2.2.2.2.2.2 bt751.2.2.2.2.2.2 false))))
def careenagelaw07_BranchFits.j1 : Nat → Int → List (S46) → Int → Int → Int → Int → Bool → Option (Bool)
  | 0, _, _, _, _, _, _, _ => none
  | k + 1, x0, x1, x2, x3, x10, x12, x13 => if x10 = 0 then (if x13 = true then ((branch_Size.f k x1).bind fun t759 => (if ((x12 == 0) != (decide (t759 ≤ (wrap64 (x0 - 24))))) = true then (careenagelaw07_BranchFits.j2 k x0 x1 x2 x3 x12 true) else (careenagelaw07_BranchFits.j2 k x0 x1 x2 x3 x12 false))) else (careenagelaw07_BranchFits.j2 k x0 x1 x2 x3 x12 (x12 != 2))) else (if x13 = true then (careenagelaw07_BranchFits.j2 k x0 x1 x2 x3 x12 false) else (careenagelaw07_BranchFits.j2 k x0 x1 x2 x3 x12 (x12 != 2)))
def careenagelaw07_BranchFits.j2 : Nat → Int → List (S46) → Int → Int → Int → Bool → Option (Bool)
  | 0, _, _, _, _, _, _ => none
  | k + 1, x0, x1, x2, x3, x12, x72 => if x72 = true then (some false) else ((careenagekit_Pick.f x2 (x1.length : Int)).bind fun t760 => ((careenagekit_Pick.f x3 (wrap64 ((x1.length : Int) - t760))).bind fun t761 => (if 0 ≤ t760 then (if t760 ≤ (wrap64 ((wrap64 (t760 + 1)) + t761)) then (if (wrap64 ((wrap64 (t760 + 1)) + t761)) ≤ (x1.length : Int) then ((branch_Page.f k x0 2 0 ((x1.take ((wrap64 ((wrap64 (t760 + 1)) + t761)) : Int).toNat).drop (t760 : Int).toNat)).bind fun bt766 => (if x12 = 0 then ((branch_Of.f bt766.1 bt766.2.1 bt766.2.2.1 bt766.2.2.2.1 bt766.2.2.2.2.1 bt766.2.2.2.2.2.1).bind fun bt774 => (if bt766.2.2.2.2.2.2 = 0 then (if bt774.2 = 0 then ((api_Fork.f k bt774.1 ((x1.take ((wrap64 ((wrap64 (t760 + 1)) + t761)) : Int).toNat).drop (t760 : Int).toNat)).bind fun t782 => (if t782 = true then (if t760 ≤ (x1.length : Int) then ((branch_Size.f k (x1.take (t760 : Int).toNat)).bind fun t787 => ((branch_Size.f k (x1.drop (t760 : Int).toNat)).bind fun t792 => ((branch_Size.f k x1).bind fun t793 => (some ((wrap64 (t787 + t792)) == t793))))) else (none)) else (some false))) else (some false)) else (some false))) else (some true))) else (none)) else (none)) else (none))))
end
def careenagelaw07_BranchFits.f (k : Nat) (a0 : Int) (l1 : List (S46)) (a2 : Int) (a3 : Int) : Option (Bool) := (careenagelaw07_lives.f k).bind fun t741 => (if t741 = true then ((careenagelaw07_light.f k l1).bind fun t742 => (if t742 = true then (careenagelaw07_BranchFits.j0 k a0 l1 a2 a3 ((l1.length : Int) == 0)) else (careenagelaw07_BranchFits.j0 k a0 l1 a2 a3 true))) else (some false))
def careenagelaw07_BranchFits.T16 : Bool × List (List Nat × List Nat) := (true, [([], []), ([0], [0]), ([1], [1]), ([2], [2]), ([3, 2], [2, 3]), ([2, 4], [2, 4]), ([5, 2], [5]), ([6], [6]), ([6], [6]), ([6], [6]), ([6], [6]), ([8, 9, 10, 6], [6, 8, 9, 10]), ([7, 11, 6, 6], [6, 7, 11]), ([6, 12], [6, 12]), ([13, 12], [13]), ([14], [14]), ([14], [14]), ([15, 16, 14], [14, 15, 16]), ([17, 14, 14], [14, 17]), ([14], [14]), ([14], [14]), ([19, 20, 14], [14, 19, 20]), ([21, 18, 14], [14, 21]), ([18, 22, 14], [14, 18, 22]), ([14], [14]), ([24, 22, 14], [14, 24]), ([23, 25, 14], [14, 23, 25]), ([14, 26], [14, 26]), ([27, 25, 0, 1, 2, 3, 4, 5, 6, 7, 8, 9, 10, 11, 12, 13, 14, 15, 16, 17, 18, 19, 20, 21, 22, 23, 24, 25, 26, 27], [27])])
def careenagelaw07_BranchFits.B16 : List Nat := [0, 1, 3, 7, 15, 31, 63, 127, 127, 127, 127, 1919, 4095, 8191, 16383, 32767, 32767, 131071, 262143, 32767, 32767, 1605631, 4194303, 8388607, 32767, 25165823, 67108863, 134217727, 268435455]
theorem careenagelaw07_BranchFits.tab16 : rtab .any (opsOf Try.f13 16) = careenagelaw07_BranchFits.T16 := by kernel_rfl
theorem careenagelaw07_BranchFits.bits16 : waitsOk careenagelaw07_BranchFits.T16.2 careenagelaw07_BranchFits.B16 = true := by kernel_rfl
set_option maxHeartbeats 8000000 in
set_option maxRecDepth 100000 in
theorem careenagelaw07_BranchFits.calls (k : Nat) (a0 : Int) (A1 : Option Addr) (c1 : Nat) (l1 : List (S46)) (a2 : Int) (a3 : Int) (r : Bool) (w : World) (hr1 : Kd.C k46 w A1 l1.length l1) (hc1 : l1.length ≤ c1) (hr_ : r = true) (h : careenagelaw07_BranchFits.f k a0 l1 a2 a3 = some r) :
    Calls Try.prog 13 #[.int .i64 a0, .slice A1 l1.length c1, .int .i64 a2, .int .i64 a3] w fun e w' => e = .returned (.bool r) ∧ Below w.heap.size w w' := by
  have hu39 := Try.underlying39
  have HR1 := Aside0.mk hr1
  have HC1 := Aside0.mk hc1
  clear hr1 hc1
  have HB := Aside0.mk (Below.refl w.heap.size w)
  have H : ((careenagelaw07_lives.f k).bind fun t741 => (if t741 = true then ((careenagelaw07_light.f k l1).bind fun t742 => (if t742 = true then (careenagelaw07_BranchFits.j0 k a0 l1 a2 a3 ((l1.length : Int) == 0)) else (careenagelaw07_BranchFits.j0 k a0 l1 a2 a3 true))) else (some false))) = some r := h
  clear h
  have HLaw := Aside0.mk hr_
  clear hr_
  replace H := Option.bind_eq_some_iff.mp H
  obtain ⟨t741, A50, H⟩ := H
  replace H : (if t741 = true then ((careenagelaw07_light.f k l1).bind fun t742 => (if t742 = true then (careenagelaw07_BranchFits.j0 k a0 l1 a2 a3 ((l1.length : Int) == 0)) else (careenagelaw07_BranchFits.j0 k a0 l1 a2 a3 true))) else (some false)) = some r := H
  have A5 := Aside0.mk A50
  clear A50
  by_cases c6 : t741 = true
  · subst c6
    have H1 : ((careenagelaw07_light.f k l1).bind fun t742 => (if t742 = true then (careenagelaw07_BranchFits.j0 k a0 l1 a2 a3 ((l1.length : Int) == 0)) else (careenagelaw07_BranchFits.j0 k a0 l1 a2 a3 true))) = some r := by rw [if_pos rfl] at H; exact H
    clear H
    have H := H1
    clear H1
    have HC7 := Aside0.mk H
    clear H
    go_enter Try.func13, Try.ntmps13
    go_upto_region 3 with (first | ((with_reducible refine gate_callee (f := 22) rfl ?_); refine goesL_ (some 18) rfl rfl Try.func22 (by kernel_rfl) rfl #[] rfl (by (try simp only [List.map_toArray, List.map_cons, List.map_nil]); first | done | rfl | (simp only [List.length_drop, List.length_take]; rfl)) ?_; (with_reducible refine (careenagelaw07_lives.calls k  true _ A5.out).mono ?_); rintro e w8 ⟨rfl, hb⟩; refine ⟨_, rfl, ?_⟩; have n0_ := Aside0.mk (below_step (by repeat (first | (with_reducible first | exact HB.out | apply below_alloc | apply pw_below_drewN | apply below_drew1) | exact HB.out)) hb); clear HB; have HB := n0_; clear n0_; (try clear hb); (try clear hb2); (try clear hk); (try clear hi)))
    (try simp only [Act.put, List.setIfInBounds_toArray, List.set_cons_zero, List.set_cons_succ])
    go_cut [27] (fun v27 wc => ∃ (kq : Nat) (x27_6 : Bool), v27 = .bool x27_6 ∧ Aside0 (careenagelaw07_BranchFits.j0 kq a0 l1 a2 a3 x27_6 = some r) ∧ Aside0 (kq ≤ k) ∧ Aside0 (Below w.heap.size w wc))
    case first =>
      have H := HC7.out
      clear HC7
      replace H := Option.bind_eq_some_iff.mp H
      obtain ⟨t742, A90, H⟩ := H
      replace H : (if t742 = true then (careenagelaw07_BranchFits.j0 k a0 l1 a2 a3 ((l1.length : Int) == 0)) else (careenagelaw07_BranchFits.j0 k a0 l1 a2 a3 true)) = some r := H
      have A9 := Aside0.mk A90
      clear A90
      by_cases c10 : t742 = true
      · subst c10
        have H1 : (careenagelaw07_BranchFits.j0 k a0 l1 a2 a3 ((l1.length : Int) == 0)) = some r := by rw [if_pos rfl] at H; exact H
        clear H
        have H := H1
        clear H1
        have H' := Aside0.mk H
        clear H
        go_wp2_with (first | ((with_reducible refine gate_callee (f := 24) rfl ?_); refine goesL_ (some 21) rfl rfl Try.func24 (by kernel_rfl) rfl #[.slice A1 l1.length c1] rfl (by (try simp only [List.map_toArray, List.map_cons, List.map_nil]); first | done | rfl | (simp only [List.length_drop, List.length_take]; rfl)) ?_; (with_reducible refine (careenagelaw07_light.calls k _ _ l1 true _ ?side1 ?side2 A9.out).mono ?_); (case side1 => repeat (first | exact (Kd.C_below HR1.out HB.out) | (with_reducible refine Kd.C_alloc ?_ _) | (with_reducible refine Kd.C_drewN ?_ _) | (with_reducible refine Kd.C_drew ?_))); (case side2 => exact HC1.out); rintro e w11 ⟨rfl, hb⟩; refine ⟨_, rfl, ?_⟩; have n0_ := Aside0.mk (below_step (by repeat (first | (with_reducible first | exact HB.out | apply below_alloc | apply pw_below_drewN | apply below_drew1) | exact HB.out)) hb); clear HB; have HB := n0_; clear n0_; (try clear hb); (try clear hb2); (try clear hk); (try clear hi)))
        go_meet
        case rel => exact ⟨_, (((l1.length : Int) == 0)), (by first | rfl | (simp; done) | (simp [*]; done)), H', ⟨by first | omega | exact Nat.le_refl _⟩, ⟨by repeat (first | (with_reducible first | exact HB.out | apply below_alloc | apply pw_below_drewN | apply below_drew1) | exact HB.out)⟩⟩
      · replace c10 := Bool.eq_false_iff.mpr c10
        subst c10
        have H1 : (careenagelaw07_BranchFits.j0 k a0 l1 a2 a3 true) = some r := by rw [if_neg (show ¬ (false = true) by decide)] at H; exact H
        clear H
        have H := H1
        clear H1
        have H' := Aside0.mk H
        clear H
        go_wp2_with (first | ((with_reducible refine gate_callee (f := 24) rfl ?_); refine goesL_ (some 21) rfl rfl Try.func24 (by kernel_rfl) rfl #[.slice A1 l1.length c1] rfl (by (try simp only [List.map_toArray, List.map_cons, List.map_nil]); first | done | rfl | (simp only [List.length_drop, List.length_take]; rfl)) ?_; (with_reducible refine (careenagelaw07_light.calls k _ _ l1 false _ ?side1 ?side2 A9.out).mono ?_); (case side1 => repeat (first | exact (Kd.C_below HR1.out HB.out) | (with_reducible refine Kd.C_alloc ?_ _) | (with_reducible refine Kd.C_drewN ?_ _) | (with_reducible refine Kd.C_drew ?_))); (case side2 => exact HC1.out); rintro e w12 ⟨rfl, hb⟩; refine ⟨_, rfl, ?_⟩; have n0_ := Aside0.mk (below_step (by repeat (first | (with_reducible first | exact HB.out | apply below_alloc | apply pw_below_drewN | apply below_drew1) | exact HB.out)) hb); clear HB; have HB := n0_; clear n0_; (try clear hb); (try clear hb2); (try clear hk); (try clear hi)))
        go_meet
        case rel => exact ⟨_, (true), (by first | rfl | (simp; done) | (simp [*]; done)), H', ⟨by first | omega | exact Nat.le_refl _⟩, ⟨by repeat (first | (with_reducible first | exact HB.out | apply below_alloc | apply pw_below_drewN | apply below_drew1) | exact HB.out)⟩⟩
    case rest =>
      clear HC7
      try clear c1
      try clear c2
      try clear p2
      try clear c6
      try clear c10
      obtain ⟨kq, x27_6, rfl, HA, HJ6, HB⟩ := hcut
      cases kq with
      | zero => exact absurd HA.out (by simp [careenagelaw07_BranchFits.j0])
      | succ kj6 =>
        have H := HA.out
        clear HA
        simp only [careenagelaw07_BranchFits.j0] at H
        by_cases c13 : x27_6 = true
        · subst c13
          have H1 : (some true) = some r := by rw [if_pos rfl] at H; exact H
          clear H
          have H := H1
          clear H1
          obtain rfl := Option.some.inj H
          go_wp2
          all_goals (go_ret; exact ⟨by first | rfl | (simp [errW_none, errW_some] <;> rfl) | (simp [*, errW_none, errW_some] <;> rfl), by repeat (first | (with_reducible first | exact HB.out | apply below_alloc | apply pw_below_drewN | apply below_drew1) | exact HB.out)⟩)
        · replace c13 := Bool.eq_false_iff.mpr c13
          subst c13
          have H1 : ((branch_Page.f kj6 4096 2 0 l1).bind fun bt743 => ((branch_Page.f kj6 a0 2 0 l1).bind fun bt751 => (if a0 ≥ 128 then (if a0 ≤ 4096 then (careenagelaw07_BranchFits.j1 kj6 a0 l1 a2 a3 bt743.2.2.2.2.2.2 bt751.2.2.2.2.2.2 ((Int.tmod a0 64) == 0)) else (careenagelaw07_BranchFits.j1 kj6 a0 l1 a2 a3 bt743.2.2.2.2.2.2 bt751.2.2.2.2.2.2 false)) else (careenagelaw07_BranchFits.j1 kj6 a0 l1 a2 a3 bt743.2.2.2.2.2.2 bt751.2.2.2.2.2.2 false)))) = some r := by rw [if_neg (show ¬ (false = true) by decide)] at H; exact H
          clear H
          have H := H1
          clear H1
          replace H := Option.bind_eq_some_iff.mp H
          obtain ⟨⟨t743, t744, t745, t746, t747, t748, t749⟩, A140, H⟩ := H
          replace H : ((branch_Page.f kj6 a0 2 0 l1).bind fun bt751 => (if a0 ≥ 128 then (if a0 ≤ 4096 then (careenagelaw07_BranchFits.j1 kj6 a0 l1 a2 a3 t749 bt751.2.2.2.2.2.2 ((Int.tmod a0 64) == 0)) else (careenagelaw07_BranchFits.j1 kj6 a0 l1 a2 a3 t749 bt751.2.2.2.2.2.2 false)) else (careenagelaw07_BranchFits.j1 kj6 a0 l1 a2 a3 t749 bt751.2.2.2.2.2.2 false))) = some r := H
          have A14 := Aside0.mk A140
          clear A140
          replace H := Option.bind_eq_some_iff.mp H
          obtain ⟨⟨t751, t752, t753, t754, t755, t756, t757⟩, A150, H⟩ := H
          replace H : (if a0 ≥ 128 then (if a0 ≤ 4096 then (careenagelaw07_BranchFits.j1 kj6 a0 l1 a2 a3 t749 t757 ((Int.tmod a0 64) == 0)) else (careenagelaw07_BranchFits.j1 kj6 a0 l1 a2 a3 t749 t757 false)) else (careenagelaw07_BranchFits.j1 kj6 a0 l1 a2 a3 t749 t757 false)) = some r := H
          have A15 := Aside0.mk A150
          clear A150
          have HC16 := Aside0.mk H
          clear H
          go_upto_region 7 with (first | ((with_reducible refine gate_callee (f := 23) rfl ?_); refine goesL_ (some 30) rfl rfl Try.func23 (by kernel_rfl) rfl #[.int .i64 4096, .int .u32 2, .int .u64 0, .slice A1 l1.length c1] rfl (by (try simp only [List.map_toArray, List.map_cons, List.map_nil]); first | done | rfl | (simp only [List.length_drop, List.length_take]; rfl)) ?_; (with_reducible refine (branch_Page.calls kj6 4096 2 0 _ _ l1 t743 t744 t745 t746 t747 t748 t749 _ ?side1 ?side2 A14.out).mono ?_); (case side1 => repeat (first | exact (Kd.C_below HR1.out HB.out) | (with_reducible refine Kd.C_alloc ?_ _) | (with_reducible refine Kd.C_drewN ?_ _) | (with_reducible refine Kd.C_drew ?_))); (case side2 => exact HC1.out); rintro e w17 ⟨rfl, hb⟩; refine ⟨_, rfl, ?_⟩; have n0_ := Aside0.mk (below_step (by repeat (first | (with_reducible first | exact HB.out | apply below_alloc | apply pw_below_drewN | apply below_drew1) | exact HB.out)) hb); clear HB; have HB := n0_; clear n0_; (try clear hb); (try clear hb2); (try clear hk); (try clear hi)) | ((with_reducible refine gate_dst (N := 9) rfl ?_); (try (refine gate_guard (by rfl) ?_; dsimp only)); refine box_event ?hg (N := 9) ?hd (cs := #[.int .i64 0, .int .i64 0, .int .u32 0, .int .u32 0, .int .u64 0, .string (⟨#[]⟩ : ByteArray)]) (t := 39) ?hr ?_; (case hd => rfl); (case hg => rfl); (case hr => first | (go_simp; done) | (go_simp; rfl)); intro gb750 hg w18 hbox hb; have n0_ := Aside0.mk (below_step (by repeat (first | (with_reducible first | exact HB.out | apply below_alloc | apply pw_below_drewN | apply below_drew1) | exact HB.out)) hb); have n1_ := Aside0.mk (hbox); have n2_ := Aside0.mk ((by rw [hg]; exact (below_size (by repeat (first | (with_reducible first | exact HB.out | apply below_alloc | apply pw_below_drewN | apply below_drew1) | exact HB.out))) : w.heap.size ≤ gb750)); have n3_ := Aside0.mk ((by rw [hg]; exact (below_size (by repeat (first | (with_reducible first | exact HB.out | apply below_alloc | apply pw_below_drewN | apply below_drew1) | exact HB.out))) : w.heap.size ≤ gb750)); clear HB; have HB := n0_; have BK750 := n1_; have GW750 := n2_; have GE750 := n3_; clear n0_ n1_ n2_ n3_; clear hb hbox hg; have hcz19_0 : w18.cell? ⟨gb750, 0, none⟩ = some (.int .i64 0) := (blk_cell BK750.out 0).trans rfl; have hcz19_1 : w18.cell? ⟨gb750, 1, none⟩ = some (.int .i64 0) := (blk_cell BK750.out 1).trans rfl; have hcz19_2 : w18.cell? ⟨gb750, 2, none⟩ = some (.int .u32 0) := (blk_cell BK750.out 2).trans rfl; have hcz19_3 : w18.cell? ⟨gb750, 3, none⟩ = some (.int .u32 0) := (blk_cell BK750.out 3).trans rfl; have hcz19_4 : w18.cell? ⟨gb750, 4, none⟩ = some (.int .u64 0) := (blk_cell BK750.out 4).trans rfl; have hcz19_5 : w18.cell? ⟨gb750, 5, none⟩ = some (.string (⟨#[]⟩ : ByteArray)) := (blk_cell BK750.out 5).trans rfl; have hfz19_0 := blk_frozen BK750.out 0; have hfz19_1 := blk_frozen BK750.out 1; have hfz19_2 := blk_frozen BK750.out 2; have hfz19_3 := blk_frozen BK750.out 3; have hfz19_4 := blk_frozen BK750.out 4; have hfz19_5 := blk_frozen BK750.out 5) | ((with_reducible refine gate_callee (f := 23) rfl ?_); refine goesL_ (some 36) rfl rfl Try.func23 (by kernel_rfl) rfl #[.int .i64 a0, .int .u32 2, .int .u64 0, .slice A1 l1.length c1] rfl (by (try simp only [List.map_toArray, List.map_cons, List.map_nil]); first | done | rfl | (simp only [List.length_drop, List.length_take]; rfl)) ?_; (with_reducible refine (branch_Page.calls kj6 a0 2 0 _ _ l1 t751 t752 t753 t754 t755 t756 t757 _ ?side1 ?side2 A15.out).mono ?_); (case side1 => exact Kd.C_below HR1.out (by repeat (first | (with_reducible first | exact HB.out | apply below_alloc | apply pw_below_drewN | apply below_drew1 | refine below_set ?_ GE750.out) | exact HB.out))); (case side2 => exact HC1.out); rintro e w20 ⟨rfl, hb⟩; refine ⟨_, rfl, ?_⟩; have n0_ := Aside0.mk (blk_below (g := gb750) (o := .cells #[.int .i64 t743, .int .i64 t744, .int .u32 t745, .int .u32 t746, .int .u64 t747, .string t748] 39 (0, 0)) (by (with_reducible repeat (first | refine blk_drewN ?_ _ | refine blk_drew ?_ | refine blk_alloc ?_ _)); refine blk_put (cs := #[.int .i64 t743, .int .i64 t744, .int .u32 t745, .int .u32 t746, .int .u64 t747, .string (⟨#[]⟩ : ByteArray)]) ?_ 5 _ rfl; (with_reducible repeat (first | refine blk_drewN ?_ _ | refine blk_drew ?_ | refine blk_alloc ?_ _)); refine blk_put (cs := #[.int .i64 t743, .int .i64 t744, .int .u32 t745, .int .u32 t746, .int .u64 0, .string (⟨#[]⟩ : ByteArray)]) ?_ 4 _ rfl; (with_reducible repeat (first | refine blk_drewN ?_ _ | refine blk_drew ?_ | refine blk_alloc ?_ _)); refine blk_put (cs := #[.int .i64 t743, .int .i64 t744, .int .u32 t745, .int .u32 0, .int .u64 0, .string (⟨#[]⟩ : ByteArray)]) ?_ 3 _ rfl; (with_reducible repeat (first | refine blk_drewN ?_ _ | refine blk_drew ?_ | refine blk_alloc ?_ _)); refine blk_put (cs := #[.int .i64 t743, .int .i64 t744, .int .u32 0, .int .u32 0, .int .u64 0, .string (⟨#[]⟩ : ByteArray)]) ?_ 2 _ rfl; (with_reducible repeat (first | refine blk_drewN ?_ _ | refine blk_drew ?_ | refine blk_alloc ?_ _)); refine blk_put (cs := #[.int .i64 t743, .int .i64 0, .int .u32 0, .int .u32 0, .int .u64 0, .string (⟨#[]⟩ : ByteArray)]) ?_ 1 _ rfl; (with_reducible repeat (first | refine blk_drewN ?_ _ | refine blk_drew ?_ | refine blk_alloc ?_ _)); refine blk_put (cs := #[.int .i64 0, .int .i64 0, .int .u32 0, .int .u32 0, .int .u64 0, .string (⟨#[]⟩ : ByteArray)]) ?_ 0 _ rfl; (with_reducible repeat (first | refine blk_drewN ?_ _ | refine blk_drew ?_ | refine blk_alloc ?_ _)); exact BK750.out) hb); have n1_ := Aside0.mk (below_step (by repeat (first | (with_reducible first | exact HB.out | apply below_alloc | apply pw_below_drewN | apply below_drew1 | refine below_set ?_ GE750.out) | exact HB.out)) hb); clear BK750; clear HB; have BK750 := n0_; have HB := n1_; clear n0_ n1_; (try clear hb); (try clear hb2); (try clear hk); (try clear hi)) | ((with_reducible refine gate_dst (N := 11) rfl ?_); (try (refine gate_guard (by rfl) ?_; dsimp only)); refine box_event ?hg (N := 11) ?hd (cs := #[.int .i64 0, .int .i64 0, .int .u32 0, .int .u32 0, .int .u64 0, .string (⟨#[]⟩ : ByteArray)]) (t := 39) ?hr ?_; (case hd => rfl); (case hg => rfl); (case hr => first | (go_simp; done) | (go_simp; rfl)); intro gb758 hg w21 hbox hb; have n0_ := Aside0.mk (blk_below (g := gb750) (o := .cells #[.int .i64 t743, .int .i64 t744, .int .u32 t745, .int .u32 t746, .int .u64 t747, .string t748] 39 (0, 0)) (by (with_reducible repeat (first | refine blk_drewN ?_ _ | refine blk_drew ?_ | refine blk_alloc ?_ _)); exact BK750.out) hb); have n1_ := Aside0.mk (below_step (by repeat (first | (with_reducible first | exact HB.out | apply below_alloc | apply pw_below_drewN | apply below_drew1 | refine below_set ?_ GE750.out) | exact HB.out)) hb); have n2_ := Aside0.mk (hbox); have n3_ := Aside0.mk ((by rw [hg]; exact (below_size (by repeat (first | (with_reducible first | exact HB.out | apply below_alloc | apply pw_below_drewN | apply below_drew1 | refine below_set ?_ GE750.out) | exact HB.out))) : w.heap.size ≤ gb758)); have n4_ := Aside0.mk ((by rw [hg]; exact (below_size (by repeat (first | (with_reducible first | exact HB.out | apply below_alloc | apply pw_below_drewN | apply below_drew1 | refine below_set ?_ GE750.out) | exact HB.out))) : w.heap.size ≤ gb758)); have n5_ := Aside0.mk ((by rw [hg]; exact Nat.ne_of_lt (blk_lt (g := gb750) (o := .cells #[.int .i64 t743, .int .i64 t744, .int .u32 t745, .int .u32 t746, .int .u64 t747, .string t748] 39 (0, 0)) (by (with_reducible repeat (first | refine blk_drewN ?_ _ | refine blk_drew ?_ | refine blk_alloc ?_ _)); exact BK750.out)) : gb750 ≠ gb758)); have n6_ := Aside0.mk ((by rw [hg]; exact Nat.ne_of_gt (blk_lt (g := gb750) (o := .cells #[.int .i64 t743, .int .i64 t744, .int .u32 t745, .int .u32 t746, .int .u64 t747, .string t748] 39 (0, 0)) (by (with_reducible repeat (first | refine blk_drewN ?_ _ | refine blk_drew ?_ | refine blk_alloc ?_ _)); exact BK750.out)) : gb758 ≠ gb750)); clear BK750; clear HB; have BK750 := n0_; have HB := n1_; have BK758 := n2_; have GW758 := n3_; have GE758 := n4_; have NB750_758 := n5_; have NB758_750 := n6_; clear n0_ n1_ n2_ n3_ n4_ n5_ n6_; clear hb hbox hg; have hnb22 := NB758_750.out; have hnc22 := NB750_758.out; have hcz23_0 : w21.cell? ⟨gb758, 0, none⟩ = some (.int .i64 0) := (blk_cell BK758.out 0).trans rfl; have hcz23_1 : w21.cell? ⟨gb758, 1, none⟩ = some (.int .i64 0) := (blk_cell BK758.out 1).trans rfl; have hcz23_2 : w21.cell? ⟨gb758, 2, none⟩ = some (.int .u32 0) := (blk_cell BK758.out 2).trans rfl; have hcz23_3 : w21.cell? ⟨gb758, 3, none⟩ = some (.int .u32 0) := (blk_cell BK758.out 3).trans rfl; have hcz23_4 : w21.cell? ⟨gb758, 4, none⟩ = some (.int .u64 0) := (blk_cell BK758.out 4).trans rfl; have hcz23_5 : w21.cell? ⟨gb758, 5, none⟩ = some (.string (⟨#[]⟩ : ByteArray)) := (blk_cell BK758.out 5).trans rfl; have hfz23_0 := blk_frozen BK758.out 0; have hfz23_1 := blk_frozen BK758.out 1; have hfz23_2 := blk_frozen BK758.out 2; have hfz23_3 := blk_frozen BK758.out 3; have hfz23_4 := blk_frozen BK758.out 4; have hfz23_5 := blk_frozen BK758.out 5))
          (try simp only [Act.put, List.setIfInBounds_toArray, List.set_cons_zero, List.set_cons_succ])
          go_cut [13] (fun v13 wc => ∃ (kq : Nat) (x13_15 : Bool), v13 = .bool x13_15 ∧ Aside0 (careenagelaw07_BranchFits.j1 kq a0 l1 a2 a3 t749 t757 x13_15 = some r) ∧ Aside0 (kq ≤ kj6) ∧ Aside0 (wc.heap[gb750]? = some (.cells #[.int .i64 t743, .int .i64 t744, .int .u32 t745, .int .u32 t746, .int .u64 t747, .string t748] 39 (0, 0))) ∧ Aside0 (wc.heap[gb758]? = some (.cells #[.int .i64 t751, .int .i64 t752, .int .u32 t753, .int .u32 t754, .int .u64 t755, .string t756] 39 (0, 0))) ∧ Aside0 (Below w.heap.size w wc))
          case first =>
            have H := HC16.out
            clear HC16
            by_cases c24 : a0 ≥ 128
            · rw [if_pos c24] at H
              have c24b0 : decide (128 ≤ a0) = true := decide_eq_true c24
              clear c24
              (first | rw [c24b0] | (simp only [i64_w, i32_w]; rw [c24b0]) | skip)
              by_cases c25 : a0 ≤ 4096
              · rw [if_pos c25] at H
                have c25b0 : decide (a0 ≤ 4096) = true := decide_eq_true c25
                clear c25
                have H' := Aside0.mk H
                clear H
                go_wp2
                go_meet
                case rel => exact ⟨_, (((Int.tmod a0 64) == 0)), (by first | rfl | (simp; done) | (simp [*]; done)), H', ⟨by have := HJ6.out; first | omega | exact Nat.le_refl _⟩, ⟨by (with_reducible repeat (first | refine blk_drewN ?_ _ | refine blk_drew ?_ | refine blk_alloc ?_ _)); refine blk_far ?_ NB750_758.out _; (with_reducible repeat (first | refine blk_drewN ?_ _ | refine blk_drew ?_ | refine blk_alloc ?_ _)); refine blk_far ?_ NB750_758.out _; (with_reducible repeat (first | refine blk_drewN ?_ _ | refine blk_drew ?_ | refine blk_alloc ?_ _)); refine blk_far ?_ NB750_758.out _; (with_reducible repeat (first | refine blk_drewN ?_ _ | refine blk_drew ?_ | refine blk_alloc ?_ _)); refine blk_far ?_ NB750_758.out _; (with_reducible repeat (first | refine blk_drewN ?_ _ | refine blk_drew ?_ | refine blk_alloc ?_ _)); refine blk_far ?_ NB750_758.out _; (with_reducible repeat (first | refine blk_drewN ?_ _ | refine blk_drew ?_ | refine blk_alloc ?_ _)); refine blk_far ?_ NB750_758.out _; (with_reducible repeat (first | refine blk_drewN ?_ _ | refine blk_drew ?_ | refine blk_alloc ?_ _)); exact BK750.out⟩, ⟨by (with_reducible repeat (first | refine blk_drewN ?_ _ | refine blk_drew ?_ | refine blk_alloc ?_ _)); refine blk_put (cs := #[.int .i64 t751, .int .i64 t752, .int .u32 t753, .int .u32 t754, .int .u64 t755, .string (⟨#[]⟩ : ByteArray)]) ?_ 5 _ rfl; (with_reducible repeat (first | refine blk_drewN ?_ _ | refine blk_drew ?_ | refine blk_alloc ?_ _)); refine blk_put (cs := #[.int .i64 t751, .int .i64 t752, .int .u32 t753, .int .u32 t754, .int .u64 0, .string (⟨#[]⟩ : ByteArray)]) ?_ 4 _ rfl; (with_reducible repeat (first | refine blk_drewN ?_ _ | refine blk_drew ?_ | refine blk_alloc ?_ _)); refine blk_put (cs := #[.int .i64 t751, .int .i64 t752, .int .u32 t753, .int .u32 0, .int .u64 0, .string (⟨#[]⟩ : ByteArray)]) ?_ 3 _ rfl; (with_reducible repeat (first | refine blk_drewN ?_ _ | refine blk_drew ?_ | refine blk_alloc ?_ _)); refine blk_put (cs := #[.int .i64 t751, .int .i64 t752, .int .u32 0, .int .u32 0, .int .u64 0, .string (⟨#[]⟩ : ByteArray)]) ?_ 2 _ rfl; (with_reducible repeat (first | refine blk_drewN ?_ _ | refine blk_drew ?_ | refine blk_alloc ?_ _)); refine blk_put (cs := #[.int .i64 t751, .int .i64 0, .int .u32 0, .int .u32 0, .int .u64 0, .string (⟨#[]⟩ : ByteArray)]) ?_ 1 _ rfl; (with_reducible repeat (first | refine blk_drewN ?_ _ | refine blk_drew ?_ | refine blk_alloc ?_ _)); refine blk_put (cs := #[.int .i64 0, .int .i64 0, .int .u32 0, .int .u32 0, .int .u64 0, .string (⟨#[]⟩ : ByteArray)]) ?_ 0 _ rfl; (with_reducible repeat (first | refine blk_drewN ?_ _ | refine blk_drew ?_ | refine blk_alloc ?_ _)); exact BK758.out⟩, ⟨by repeat (first | (with_reducible first | exact HB.out | apply below_alloc | apply pw_below_drewN | apply below_drew1 | refine below_set ?_ GE750.out | refine below_set ?_ GE758.out) | exact HB.out)⟩⟩
              · rw [if_neg c25] at H
                have c25b0 : decide (a0 ≤ 4096) = false := decide_eq_false c25
                clear c25
                have H' := Aside0.mk H
                clear H
                go_wp2
                go_meet
                case rel => exact ⟨_, (false), (by first | rfl | (simp; done) | (simp [*]; done)), H', ⟨by have := HJ6.out; first | omega | exact Nat.le_refl _⟩, ⟨by (with_reducible repeat (first | refine blk_drewN ?_ _ | refine blk_drew ?_ | refine blk_alloc ?_ _)); refine blk_far ?_ NB750_758.out _; (with_reducible repeat (first | refine blk_drewN ?_ _ | refine blk_drew ?_ | refine blk_alloc ?_ _)); refine blk_far ?_ NB750_758.out _; (with_reducible repeat (first | refine blk_drewN ?_ _ | refine blk_drew ?_ | refine blk_alloc ?_ _)); refine blk_far ?_ NB750_758.out _; (with_reducible repeat (first | refine blk_drewN ?_ _ | refine blk_drew ?_ | refine blk_alloc ?_ _)); refine blk_far ?_ NB750_758.out _; (with_reducible repeat (first | refine blk_drewN ?_ _ | refine blk_drew ?_ | refine blk_alloc ?_ _)); refine blk_far ?_ NB750_758.out _; (with_reducible repeat (first | refine blk_drewN ?_ _ | refine blk_drew ?_ | refine blk_alloc ?_ _)); refine blk_far ?_ NB750_758.out _; (with_reducible repeat (first | refine blk_drewN ?_ _ | refine blk_drew ?_ | refine blk_alloc ?_ _)); exact BK750.out⟩, ⟨by (with_reducible repeat (first | refine blk_drewN ?_ _ | refine blk_drew ?_ | refine blk_alloc ?_ _)); refine blk_put (cs := #[.int .i64 t751, .int .i64 t752, .int .u32 t753, .int .u32 t754, .int .u64 t755, .string (⟨#[]⟩ : ByteArray)]) ?_ 5 _ rfl; (with_reducible repeat (first | refine blk_drewN ?_ _ | refine blk_drew ?_ | refine blk_alloc ?_ _)); refine blk_put (cs := #[.int .i64 t751, .int .i64 t752, .int .u32 t753, .int .u32 t754, .int .u64 0, .string (⟨#[]⟩ : ByteArray)]) ?_ 4 _ rfl; (with_reducible repeat (first | refine blk_drewN ?_ _ | refine blk_drew ?_ | refine blk_alloc ?_ _)); refine blk_put (cs := #[.int .i64 t751, .int .i64 t752, .int .u32 t753, .int .u32 0, .int .u64 0, .string (⟨#[]⟩ : ByteArray)]) ?_ 3 _ rfl; (with_reducible repeat (first | refine blk_drewN ?_ _ | refine blk_drew ?_ | refine blk_alloc ?_ _)); refine blk_put (cs := #[.int .i64 t751, .int .i64 t752, .int .u32 0, .int .u32 0, .int .u64 0, .string (⟨#[]⟩ : ByteArray)]) ?_ 2 _ rfl; (with_reducible repeat (first | refine blk_drewN ?_ _ | refine blk_drew ?_ | refine blk_alloc ?_ _)); refine blk_put (cs := #[.int .i64 t751, .int .i64 0, .int .u32 0, .int .u32 0, .int .u64 0, .string (⟨#[]⟩ : ByteArray)]) ?_ 1 _ rfl; (with_reducible repeat (first | refine blk_drewN ?_ _ | refine blk_drew ?_ | refine blk_alloc ?_ _)); refine blk_put (cs := #[.int .i64 0, .int .i64 0, .int .u32 0, .int .u32 0, .int .u64 0, .string (⟨#[]⟩ : ByteArray)]) ?_ 0 _ rfl; (with_reducible repeat (first | refine blk_drewN ?_ _ | refine blk_drew ?_ | refine blk_alloc ?_ _)); exact BK758.out⟩, ⟨by repeat (first | (with_reducible first | exact HB.out | apply below_alloc | apply pw_below_drewN | apply below_drew1 | refine below_set ?_ GE750.out | refine below_set ?_ GE758.out) | exact HB.out)⟩⟩
            · rw [if_neg c24] at H
              have c24b0 : decide (128 ≤ a0) = false := decide_eq_false c24
              clear c24
              (first | rw [c24b0] | (simp only [i64_w, i32_w]; rw [c24b0]) | skip)
              have H' := Aside0.mk H
              clear H
              go_wp2
              go_meet
              case rel => exact ⟨_, (false), (by first | rfl | (simp; done) | (simp [*]; done)), H', ⟨by have := HJ6.out; first | omega | exact Nat.le_refl _⟩, ⟨by (with_reducible repeat (first | refine blk_drewN ?_ _ | refine blk_drew ?_ | refine blk_alloc ?_ _)); refine blk_far ?_ NB750_758.out _; (with_reducible repeat (first | refine blk_drewN ?_ _ | refine blk_drew ?_ | refine blk_alloc ?_ _)); refine blk_far ?_ NB750_758.out _; (with_reducible repeat (first | refine blk_drewN ?_ _ | refine blk_drew ?_ | refine blk_alloc ?_ _)); refine blk_far ?_ NB750_758.out _; (with_reducible repeat (first | refine blk_drewN ?_ _ | refine blk_drew ?_ | refine blk_alloc ?_ _)); refine blk_far ?_ NB750_758.out _; (with_reducible repeat (first | refine blk_drewN ?_ _ | refine blk_drew ?_ | refine blk_alloc ?_ _)); refine blk_far ?_ NB750_758.out _; (with_reducible repeat (first | refine blk_drewN ?_ _ | refine blk_drew ?_ | refine blk_alloc ?_ _)); refine blk_far ?_ NB750_758.out _; (with_reducible repeat (first | refine blk_drewN ?_ _ | refine blk_drew ?_ | refine blk_alloc ?_ _)); exact BK750.out⟩, ⟨by (with_reducible repeat (first | refine blk_drewN ?_ _ | refine blk_drew ?_ | refine blk_alloc ?_ _)); refine blk_put (cs := #[.int .i64 t751, .int .i64 t752, .int .u32 t753, .int .u32 t754, .int .u64 t755, .string (⟨#[]⟩ : ByteArray)]) ?_ 5 _ rfl; (with_reducible repeat (first | refine blk_drewN ?_ _ | refine blk_drew ?_ | refine blk_alloc ?_ _)); refine blk_put (cs := #[.int .i64 t751, .int .i64 t752, .int .u32 t753, .int .u32 t754, .int .u64 0, .string (⟨#[]⟩ : ByteArray)]) ?_ 4 _ rfl; (with_reducible repeat (first | refine blk_drewN ?_ _ | refine blk_drew ?_ | refine blk_alloc ?_ _)); refine blk_put (cs := #[.int .i64 t751, .int .i64 t752, .int .u32 t753, .int .u32 0, .int .u64 0, .string (⟨#[]⟩ : ByteArray)]) ?_ 3 _ rfl; (with_reducible repeat (first | refine blk_drewN ?_ _ | refine blk_drew ?_ | refine blk_alloc ?_ _)); refine blk_put (cs := #[.int .i64 t751, .int .i64 t752, .int .u32 0, .int .u32 0, .int .u64 0, .string (⟨#[]⟩ : ByteArray)]) ?_ 2 _ rfl; (with_reducible repeat (first | refine blk_drewN ?_ _ | refine blk_drew ?_ | refine blk_alloc ?_ _)); refine blk_put (cs := #[.int .i64 t751, .int .i64 0, .int .u32 0, .int .u32 0, .int .u64 0, .string (⟨#[]⟩ : ByteArray)]) ?_ 1 _ rfl; (with_reducible repeat (first | refine blk_drewN ?_ _ | refine blk_drew ?_ | refine blk_alloc ?_ _)); refine blk_put (cs := #[.int .i64 0, .int .i64 0, .int .u32 0, .int .u32 0, .int .u64 0, .string (⟨#[]⟩ : ByteArray)]) ?_ 0 _ rfl; (with_reducible repeat (first | refine blk_drewN ?_ _ | refine blk_drew ?_ | refine blk_alloc ?_ _)); exact BK758.out⟩, ⟨by repeat (first | (with_reducible first | exact HB.out | apply below_alloc | apply pw_below_drewN | apply below_drew1 | refine below_set ?_ GE750.out | refine below_set ?_ GE758.out) | exact HB.out)⟩⟩
          case rest =>
            clear HC16
            try clear c1
            try clear c2
            try clear p2
            try clear c6
            try clear c10
            try clear c13
            try clear c22
            try clear c23
            try clear c24
            try clear c24b0
            try clear c25
            try clear c25b0
            try clear hcz19_0
            try clear hcz19_1
            try clear hcz19_2
            try clear hcz19_3
            try clear hcz19_4
            try clear hcz19_5
            try clear hcz23_0
            try clear hcz23_1
            try clear hcz23_2
            try clear hcz23_3
            try clear hcz23_4
            try clear hcz23_5
            try clear hfz19_0
            try clear hfz19_1
            try clear hfz19_2
            try clear hfz19_3
            try clear hfz19_4
            try clear hfz19_5
            try clear hfz23_0
            try clear hfz23_1
            try clear hfz23_2
            try clear hfz23_3
            try clear hfz23_4
            try clear hfz23_5
            try clear p2
            obtain ⟨kq, x13_15, rfl, HA, HJ15, BK750, BK758, HB⟩ := hcut
            cases kq with
            | zero => exact absurd HA.out (by simp [careenagelaw07_BranchFits.j1])
            | succ kj15 =>
              have H := HA.out
              clear HA
              simp only [careenagelaw07_BranchFits.j1] at H
              have HC26 := Aside0.mk H
              clear H
              go_upto_region 8 with (fail)
              go_cut [72] (fun v72 wc => ∃ (kq : Nat) (x72_25 : Bool), v72 = .bool x72_25 ∧ Aside0 (careenagelaw07_BranchFits.j2 kq a0 l1 a2 a3 t757 x72_25 = some r) ∧ Aside0 (kq ≤ kj15) ∧ Aside0 (wc.heap[gb750]? = some (.cells #[.int .i64 t743, .int .i64 t744, .int .u32 t745, .int .u32 t746, .int .u64 t747, .string t748] 39 (0, 0))) ∧ Aside0 (wc.heap[gb758]? = some (.cells #[.int .i64 t751, .int .i64 t752, .int .u32 t753, .int .u32 t754, .int .u64 t755, .string t756] 39 (0, 0))) ∧ Aside0 (Below w.heap.size w wc))
              case first =>
                have H := HC26.out
                clear HC26
                by_cases c27 : t749 = 0
                · rw [if_pos c27] at H
                  have c27b0 : (t749 == 0) = true := beq_iff_eq.mpr c27
                  have c27b1 : (t749 != 0) = false := bne_eq_false_iff_eq.mpr c27
                  clear c27
                  (first | rw [c27b0] | (simp only [i64_w, i32_w]; rw [c27b0]) | skip)
                  by_cases c28 : x13_15 = true
                  · subst c28
                    have H1 : ((branch_Size.f kj15 l1).bind fun t759 => (if ((t757 == 0) != (decide (t759 ≤ (wrap64 (a0 - 24))))) = true then (careenagelaw07_BranchFits.j2 kj15 a0 l1 a2 a3 t757 true) else (careenagelaw07_BranchFits.j2 kj15 a0 l1 a2 a3 t757 false))) = some r := by rw [if_pos rfl] at H; exact H
                    clear H
                    have H := H1
                    clear H1
                    replace H := Option.bind_eq_some_iff.mp H
                    obtain ⟨t759, A290, H⟩ := H
                    replace H : (if ((t757 == 0) != (decide (t759 ≤ (wrap64 (a0 - 24))))) = true then (careenagelaw07_BranchFits.j2 kj15 a0 l1 a2 a3 t757 true) else (careenagelaw07_BranchFits.j2 kj15 a0 l1 a2 a3 t757 false)) = some r := H
                    have A29 := Aside0.mk A290
                    clear A290
                    by_cases c30 : ((t757 == 0) != (decide (t759 ≤ (wrap64 (a0 - 24))))) = true
                    · rw [if_pos c30] at H
                      have c30b0 : ((t757 == 0) != (decide (t759 ≤ (wrap64 (a0 - 24))))) = true := c30
                      (try (have c30b1 : ((t757 == 0) = true) → ((decide (t759 ≤ (wrap64 (a0 - 24)))) = false) := by intro h_; have z_ := c30; rw [h_] at z_; revert z_; cases ((decide (t759 ≤ (wrap64 (a0 - 24))))) <;> simp))
                      (try (have c30b2 : ((t757 == 0) = false) → ((decide (t759 ≤ (wrap64 (a0 - 24)))) = true) := by intro h_; have z_ := c30; rw [h_] at z_; revert z_; cases ((decide (t759 ≤ (wrap64 (a0 - 24))))) <;> simp))
                      (try (have c30b3 : ((decide (t759 ≤ (wrap64 (a0 - 24)))) = true) → ((t757 == 0) = false) := by intro h_; have z_ := c30; rw [h_] at z_; revert z_; cases ((t757 == 0)) <;> simp))
                      (try (have c30b4 : ((decide (t759 ≤ (wrap64 (a0 - 24)))) = false) → ((t757 == 0) = true) := by intro h_; have z_ := c30; rw [h_] at z_; revert z_; cases ((t757 == 0)) <;> simp))
                      (try (have c30b5 : decide ((t757 == 0) = (decide (t759 ≤ (wrap64 (a0 - 24))))) = false := by first | (simp; done) | (simp at c30; done) | simpa using c30))
                      (try (have c30b6 : ((t757 == 0) == (decide (t759 ≤ (wrap64 (a0 - 24))))) = false := by first | (simp; done) | (simp at c30; done) | simpa using c30))
                      (try (have c30b7 : ¬ ((t757 == 0) = (decide (t759 ≤ (wrap64 (a0 - 24))))) := by first | (simp; done) | (simp at c30; done) | simpa using c30))
                      clear c30
                      have H' := Aside0.mk H
                      clear H
                      go_wp2_with (first | ((with_reducible refine gate_dst (N := 59) rfl ?_); (try (refine gate_guard (by rfl) ?_; dsimp only)); (try (refine gate_guard (by rfl) ?_; dsimp only)); (with_reducible refine gate_callee (f := 42) rfl ?_); refine goesL_ (some 59) rfl rfl Try.func42 (by kernel_rfl) rfl #[.slice A1 l1.length c1] rfl (by (try simp only [List.map_toArray, List.map_cons, List.map_nil]); first | done | rfl | (simp only [List.length_drop, List.length_take]; rfl)) ?_; (with_reducible refine (branch_Size.calls kj15 _ _ l1 t759 _ ?side1 ?side2 A29.out).mono ?_); (case side1 => repeat (first | exact (Kd.C_below HR1.out HB.out) | (with_reducible refine Kd.C_alloc ?_ _) | (with_reducible refine Kd.C_drewN ?_ _) | (with_reducible refine Kd.C_drew ?_))); (case side2 => exact HC1.out); rintro e w31 ⟨rfl, hb⟩; refine ⟨_, rfl, ?_⟩; have n0_ := Aside0.mk (blk_below (g := gb750) (o := .cells #[.int .i64 t743, .int .i64 t744, .int .u32 t745, .int .u32 t746, .int .u64 t747, .string t748] 39 (0, 0)) (by (with_reducible repeat (first | refine blk_drewN ?_ _ | refine blk_drew ?_ | refine blk_alloc ?_ _)); exact BK750.out) hb); have n1_ := Aside0.mk (blk_below (g := gb758) (o := .cells #[.int .i64 t751, .int .i64 t752, .int .u32 t753, .int .u32 t754, .int .u64 t755, .string t756] 39 (0, 0)) (by (with_reducible repeat (first | refine blk_drewN ?_ _ | refine blk_drew ?_ | refine blk_alloc ?_ _)); exact BK758.out) hb); have n2_ := Aside0.mk (below_step (by repeat (first | (with_reducible first | exact HB.out | apply below_alloc | apply pw_below_drewN | apply below_drew1 | refine below_set ?_ GE750.out | refine below_set ?_ GE758.out) | exact HB.out)) hb); clear BK750; clear BK758; clear HB; have BK750 := n0_; have BK758 := n1_; have HB := n2_; clear n0_ n1_ n2_; (try clear hb); (try clear hb2); (try clear hk); (try clear hi)))
                      go_meet
                      case rel => exact ⟨_, (true), (by first | rfl | (simp; done) | (simp [*]; done)), H', ⟨by have := HJ6.out; have := HJ15.out; first | omega | exact Nat.le_refl _⟩, ⟨by (with_reducible repeat (first | refine blk_drewN ?_ _ | refine blk_drew ?_ | refine blk_alloc ?_ _)); exact BK750.out⟩, ⟨by (with_reducible repeat (first | refine blk_drewN ?_ _ | refine blk_drew ?_ | refine blk_alloc ?_ _)); exact BK758.out⟩, ⟨by repeat (first | (with_reducible first | exact HB.out | apply below_alloc | apply pw_below_drewN | apply below_drew1 | refine below_set ?_ GE750.out | refine below_set ?_ GE758.out) | exact HB.out)⟩⟩
                    · rw [if_neg c30] at H
                      have c30b0 : ((t757 == 0) != (decide (t759 ≤ (wrap64 (a0 - 24))))) = false := by first | (simp; done) | (simp at c30; done) | simpa using c30
                      (try (have c30b1 : ((t757 == 0) = true) → ((decide (t759 ≤ (wrap64 (a0 - 24)))) = true) := by intro h_; have z_ := c30; rw [h_] at z_; revert z_; cases ((decide (t759 ≤ (wrap64 (a0 - 24))))) <;> simp))
                      (try (have c30b2 : ((t757 == 0) = false) → ((decide (t759 ≤ (wrap64 (a0 - 24)))) = false) := by intro h_; have z_ := c30; rw [h_] at z_; revert z_; cases ((decide (t759 ≤ (wrap64 (a0 - 24))))) <;> simp))
                      (try (have c30b3 : ((decide (t759 ≤ (wrap64 (a0 - 24)))) = true) → ((t757 == 0) = true) := by intro h_; have z_ := c30; rw [h_] at z_; revert z_; cases ((t757 == 0)) <;> simp))
                      (try (have c30b4 : ((decide (t759 ≤ (wrap64 (a0 - 24)))) = false) → ((t757 == 0) = false) := by intro h_; have z_ := c30; rw [h_] at z_; revert z_; cases ((t757 == 0)) <;> simp))
                      (try (have c30b5 : decide ((t757 == 0) = (decide (t759 ≤ (wrap64 (a0 - 24))))) = true := by first | (simp; done) | (simp at c30; done) | simpa using c30))
                      (try (have c30b6 : ((t757 == 0) == (decide (t759 ≤ (wrap64 (a0 - 24))))) = true := by first | (simp; done) | (simp at c30; done) | simpa using c30))
                      clear c30
                      have H' := Aside0.mk H
                      clear H
                      go_wp2_with (first | ((with_reducible refine gate_dst (N := 59) rfl ?_); (try (refine gate_guard (by rfl) ?_; dsimp only)); (try (refine gate_guard (by rfl) ?_; dsimp only)); (with_reducible refine gate_callee (f := 42) rfl ?_); refine goesL_ (some 59) rfl rfl Try.func42 (by kernel_rfl) rfl #[.slice A1 l1.length c1] rfl (by (try simp only [List.map_toArray, List.map_cons, List.map_nil]); first | done | rfl | (simp only [List.length_drop, List.length_take]; rfl)) ?_; (with_reducible refine (branch_Size.calls kj15 _ _ l1 t759 _ ?side1 ?side2 A29.out).mono ?_); (case side1 => repeat (first | exact (Kd.C_below HR1.out HB.out) | (with_reducible refine Kd.C_alloc ?_ _) | (with_reducible refine Kd.C_drewN ?_ _) | (with_reducible refine Kd.C_drew ?_))); (case side2 => exact HC1.out); rintro e w32 ⟨rfl, hb⟩; refine ⟨_, rfl, ?_⟩; have n0_ := Aside0.mk (blk_below (g := gb750) (o := .cells #[.int .i64 t743, .int .i64 t744, .int .u32 t745, .int .u32 t746, .int .u64 t747, .string t748] 39 (0, 0)) (by (with_reducible repeat (first | refine blk_drewN ?_ _ | refine blk_drew ?_ | refine blk_alloc ?_ _)); exact BK750.out) hb); have n1_ := Aside0.mk (blk_below (g := gb758) (o := .cells #[.int .i64 t751, .int .i64 t752, .int .u32 t753, .int .u32 t754, .int .u64 t755, .string t756] 39 (0, 0)) (by (with_reducible repeat (first | refine blk_drewN ?_ _ | refine blk_drew ?_ | refine blk_alloc ?_ _)); exact BK758.out) hb); have n2_ := Aside0.mk (below_step (by repeat (first | (with_reducible first | exact HB.out | apply below_alloc | apply pw_below_drewN | apply below_drew1 | refine below_set ?_ GE750.out | refine below_set ?_ GE758.out) | exact HB.out)) hb); clear BK750; clear BK758; clear HB; have BK750 := n0_; have BK758 := n1_; have HB := n2_; clear n0_ n1_ n2_; (try clear hb); (try clear hb2); (try clear hk); (try clear hi)))
                      go_meet
                      case rel => exact ⟨_, (false), (by first | rfl | (simp; done) | (simp [*]; done)), H', ⟨by have := HJ6.out; have := HJ15.out; first | omega | exact Nat.le_refl _⟩, ⟨by (with_reducible repeat (first | refine blk_drewN ?_ _ | refine blk_drew ?_ | refine blk_alloc ?_ _)); exact BK750.out⟩, ⟨by (with_reducible repeat (first | refine blk_drewN ?_ _ | refine blk_drew ?_ | refine blk_alloc ?_ _)); exact BK758.out⟩, ⟨by repeat (first | (with_reducible first | exact HB.out | apply below_alloc | apply pw_below_drewN | apply below_drew1 | refine below_set ?_ GE750.out | refine below_set ?_ GE758.out) | exact HB.out)⟩⟩
                  · replace c28 := Bool.eq_false_iff.mpr c28
                    subst c28
                    have H1 : (careenagelaw07_BranchFits.j2 kj15 a0 l1 a2 a3 t757 (t757 != 2)) = some r := by rw [if_neg (show ¬ (false = true) by decide)] at H; exact H
                    clear H
                    have H := H1
                    clear H1
                    have H' := Aside0.mk H
                    clear H
                    go_wp2
                    go_meet
                    case rel => exact ⟨_, ((t757 != 2)), (by first | rfl | (simp; done) | (simp [*]; done)), H', ⟨by have := HJ6.out; have := HJ15.out; first | omega | exact Nat.le_refl _⟩, ⟨by (with_reducible repeat (first | refine blk_drewN ?_ _ | refine blk_drew ?_ | refine blk_alloc ?_ _)); exact BK750.out⟩, ⟨by (with_reducible repeat (first | refine blk_drewN ?_ _ | refine blk_drew ?_ | refine blk_alloc ?_ _)); exact BK758.out⟩, ⟨by repeat (first | (with_reducible first | exact HB.out | apply below_alloc | apply pw_below_drewN | apply below_drew1 | refine below_set ?_ GE750.out | refine below_set ?_ GE758.out) | exact HB.out)⟩⟩
                · rw [if_neg c27] at H
                  have c27b0 : (t749 == 0) = false := beq_eq_false_iff_ne.mpr c27
                  have c27b1 : (t749 != 0) = true := bne_iff_ne.mpr c27
                  (first | rw [c27b0] | (simp only [i64_w, i32_w]; rw [c27b0]) | skip)
                  by_cases c33 : x13_15 = true
                  · subst c33
                    have H1 : (careenagelaw07_BranchFits.j2 kj15 a0 l1 a2 a3 t757 false) = some r := by rw [if_pos rfl] at H; exact H
                    clear H
                    have H := H1
                    clear H1
                    have H' := Aside0.mk H
                    clear H
                    go_wp2
                    go_meet
                    case rel => exact ⟨_, (false), (by first | rfl | (simp; done) | (simp [*]; done)), H', ⟨by have := HJ6.out; have := HJ15.out; first | omega | exact Nat.le_refl _⟩, ⟨by (with_reducible repeat (first | refine blk_drewN ?_ _ | refine blk_drew ?_ | refine blk_alloc ?_ _)); exact BK750.out⟩, ⟨by (with_reducible repeat (first | refine blk_drewN ?_ _ | refine blk_drew ?_ | refine blk_alloc ?_ _)); exact BK758.out⟩, ⟨by repeat (first | (with_reducible first | exact HB.out | apply below_alloc | apply pw_below_drewN | apply below_drew1 | refine below_set ?_ GE750.out | refine below_set ?_ GE758.out) | exact HB.out)⟩⟩
                  · replace c33 := Bool.eq_false_iff.mpr c33
                    subst c33
                    have H1 : (careenagelaw07_BranchFits.j2 kj15 a0 l1 a2 a3 t757 (t757 != 2)) = some r := by rw [if_neg (show ¬ (false = true) by decide)] at H; exact H
                    clear H
                    have H := H1
                    clear H1
                    have H' := Aside0.mk H
                    clear H
                    go_wp2
                    go_meet
                    case rel => exact ⟨_, ((t757 != 2)), (by first | rfl | (simp; done) | (simp [*]; done)), H', ⟨by have := HJ6.out; have := HJ15.out; first | omega | exact Nat.le_refl _⟩, ⟨by (with_reducible repeat (first | refine blk_drewN ?_ _ | refine blk_drew ?_ | refine blk_alloc ?_ _)); exact BK750.out⟩, ⟨by (with_reducible repeat (first | refine blk_drewN ?_ _ | refine blk_drew ?_ | refine blk_alloc ?_ _)); exact BK758.out⟩, ⟨by repeat (first | (with_reducible first | exact HB.out | apply below_alloc | apply pw_below_drewN | apply below_drew1 | refine below_set ?_ GE750.out | refine below_set ?_ GE758.out) | exact HB.out)⟩⟩
              case rest =>
                clear HC26
                try clear c1
                try clear c2
                try clear p2
                try clear c3
                try clear c4
                try clear c6
                try clear p6
                try clear c10
                try clear c13
                try clear c22
                try clear c23
                try clear c24
                try clear c24b0
                try clear c25
                try clear c25b0
                try clear c27
                try clear c27b0
                try clear c27b1
                try clear c28
                try clear c30
                try clear c30b0
                try clear c30b1
                try clear c30b2
                try clear c33
                try clear hcz19_0
                try clear hcz19_1
                try clear hcz19_2
                try clear hcz19_3
                try clear hcz19_4
                try clear hcz19_5
                try clear hcz23_0
                try clear hcz23_1
                try clear hcz23_2
                try clear hcz23_3
                try clear hcz23_4
                try clear hcz23_5
                try clear hfz19_0
                try clear hfz19_1
                try clear hfz19_2
                try clear hfz19_3
                try clear hfz19_4
                try clear hfz19_5
                try clear hfz23_0
                try clear hfz23_1
                try clear hfz23_2
                try clear hfz23_3
                try clear hfz23_4
                try clear hfz23_5
                try clear p2
                obtain ⟨kq, x72_25, rfl, HA, HJ25, BK750, BK758, HB⟩ := hcut
                cases kq with
                | zero => exact absurd HA.out (by simp [careenagelaw07_BranchFits.j2])
                | succ kj25 =>
                  have H := HA.out
                  clear HA
                  simp only [careenagelaw07_BranchFits.j2] at H
                  by_cases c34 : x72_25 = true
                  · subst c34
                    have H1 : (some false) = some r := by rw [if_pos rfl] at H; exact H
                    clear H
                    have H := H1
                    clear H1
                    exact absurd ((Option.some.inj H).trans HLaw.out) (by simp)
                  · replace c34 := Bool.eq_false_iff.mpr c34
                    subst c34
                    have H1 : ((careenagekit_Pick.f a2 (l1.length : Int)).bind fun t760 => ((careenagekit_Pick.f a3 (wrap64 ((l1.length : Int) - t760))).bind fun t761 => (if 0 ≤ t760 then (if t760 ≤ (wrap64 ((wrap64 (t760 + 1)) + t761)) then (if (wrap64 ((wrap64 (t760 + 1)) + t761)) ≤ (l1.length : Int) then ((branch_Page.f kj25 a0 2 0 ((l1.take ((wrap64 ((wrap64 (t760 + 1)) + t761)) : Int).toNat).drop (t760 : Int).toNat)).bind fun bt766 => (if t757 = 0 then ((branch_Of.f bt766.1 bt766.2.1 bt766.2.2.1 bt766.2.2.2.1 bt766.2.2.2.2.1 bt766.2.2.2.2.2.1).bind fun bt774 => (if bt766.2.2.2.2.2.2 = 0 then (if bt774.2 = 0 then ((api_Fork.f kj25 bt774.1 ((l1.take ((wrap64 ((wrap64 (t760 + 1)) + t761)) : Int).toNat).drop (t760 : Int).toNat)).bind fun t782 => (if t782 = true then (if t760 ≤ (l1.length : Int) then ((branch_Size.f kj25 (l1.take (t760 : Int).toNat)).bind fun t787 => ((branch_Size.f kj25 (l1.drop (t760 : Int).toNat)).bind fun t792 => ((branch_Size.f kj25 l1).bind fun t793 => (some ((wrap64 (t787 + t792)) == t793))))) else (none)) else (some false))) else (some false)) else (some false))) else (some true))) else (none)) else (none)) else (none)))) = some r := by rw [if_neg (show ¬ (false = true) by decide)] at H; exact H
                    clear H
                    have H := H1
                    clear H1
                    replace H := Option.bind_eq_some_iff.mp H
                    obtain ⟨t760, A350, H⟩ := H
                    replace H : ((careenagekit_Pick.f a3 (wrap64 ((l1.length : Int) - t760))).bind fun t761 => (if 0 ≤ t760 then (if t760 ≤ (wrap64 ((wrap64 (t760 + 1)) + t761)) then (if (wrap64 ((wrap64 (t760 + 1)) + t761)) ≤ (l1.length : Int) then ((branch_Page.f kj25 a0 2 0 ((l1.take ((wrap64 ((wrap64 (t760 + 1)) + t761)) : Int).toNat).drop (t760 : Int).toNat)).bind fun bt766 => (if t757 = 0 then ((branch_Of.f bt766.1 bt766.2.1 bt766.2.2.1 bt766.2.2.2.1 bt766.2.2.2.2.1 bt766.2.2.2.2.2.1).bind fun bt774 => (if bt766.2.2.2.2.2.2 = 0 then (if bt774.2 = 0 then ((api_Fork.f kj25 bt774.1 ((l1.take ((wrap64 ((wrap64 (t760 + 1)) + t761)) : Int).toNat).drop (t760 : Int).toNat)).bind fun t782 => (if t782 = true then (if t760 ≤ (l1.length : Int) then ((branch_Size.f kj25 (l1.take (t760 : Int).toNat)).bind fun t787 => ((branch_Size.f kj25 (l1.drop (t760 : Int).toNat)).bind fun t792 => ((branch_Size.f kj25 l1).bind fun t793 => (some ((wrap64 (t787 + t792)) == t793))))) else (none)) else (some false))) else (some false)) else (some false))) else (some true))) else (none)) else (none)) else (none))) = some r := H
                    have A35 := Aside0.mk A350
                    clear A350
                    replace H := Option.bind_eq_some_iff.mp H
                    obtain ⟨t761, A360, H⟩ := H
                    replace H : (if 0 ≤ t760 then (if t760 ≤ (wrap64 ((wrap64 (t760 + 1)) + t761)) then (if (wrap64 ((wrap64 (t760 + 1)) + t761)) ≤ (l1.length : Int) then ((branch_Page.f kj25 a0 2 0 ((l1.take ((wrap64 ((wrap64 (t760 + 1)) + t761)) : Int).toNat).drop (t760 : Int).toNat)).bind fun bt766 => (if t757 = 0 then ((branch_Of.f bt766.1 bt766.2.1 bt766.2.2.1 bt766.2.2.2.1 bt766.2.2.2.2.1 bt766.2.2.2.2.2.1).bind fun bt774 => (if bt766.2.2.2.2.2.2 = 0 then (if bt774.2 = 0 then ((api_Fork.f kj25 bt774.1 ((l1.take ((wrap64 ((wrap64 (t760 + 1)) + t761)) : Int).toNat).drop (t760 : Int).toNat)).bind fun t782 => (if t782 = true then (if t760 ≤ (l1.length : Int) then ((branch_Size.f kj25 (l1.take (t760 : Int).toNat)).bind fun t787 => ((branch_Size.f kj25 (l1.drop (t760 : Int).toNat)).bind fun t792 => ((branch_Size.f kj25 l1).bind fun t793 => (some ((wrap64 (t787 + t792)) == t793))))) else (none)) else (some false))) else (some false)) else (some false))) else (some true))) else (none)) else (none)) else (none)) = some r := H
                    have A36 := Aside0.mk A360
                    clear A360
                    by_cases c37 : 0 ≤ t760
                    · rw [if_pos c37] at H
                      have c37b0 := eq_true c37
                      have c37b1 : decide (0 ≤ t760) = true := decide_eq_true c37
                      clear c37
                      by_cases c38 : t760 ≤ (wrap64 ((wrap64 (t760 + 1)) + t761))
                      · rw [if_pos c38] at H
                        have c38b0 := eq_true c38
                        have c38b1 : decide (t760 ≤ (wrap64 ((wrap64 (t760 + 1)) + t761))) = true := decide_eq_true c38
                        by_cases c39 : (wrap64 ((wrap64 (t760 + 1)) + t761)) ≤ (l1.length : Int)
                        · rw [if_pos c39] at H
                          have c39b0 := eq_true c39
                          have c39b1 : decide ((wrap64 ((wrap64 (t760 + 1)) + t761)) ≤ (l1.length : Int)) = true := decide_eq_true c39
                          obtain ⟨y762, hy762⟩ : ∃ y_ : List (S46), y_ = ((l1.take ((wrap64 ((wrap64 (t760 + 1)) + t761)) : Int).toNat).drop (t760 : Int).toNat) := ⟨_, rfl⟩
                          replace H : ((branch_Page.f kj25 a0 2 0 y762).bind fun bt766 => (if t757 = 0 then ((branch_Of.f bt766.1 bt766.2.1 bt766.2.2.1 bt766.2.2.2.1 bt766.2.2.2.2.1 bt766.2.2.2.2.2.1).bind fun bt774 => (if bt766.2.2.2.2.2.2 = 0 then (if bt774.2 = 0 then ((api_Fork.f kj25 bt774.1 ((l1.take ((wrap64 ((wrap64 (t760 + 1)) + t761)) : Int).toNat).drop (t760 : Int).toNat)).bind fun t782 => (if t782 = true then (if t760 ≤ (l1.length : Int) then ((branch_Size.f kj25 (l1.take (t760 : Int).toNat)).bind fun t787 => ((branch_Size.f kj25 (l1.drop (t760 : Int).toNat)).bind fun t792 => ((branch_Size.f kj25 l1).bind fun t793 => (some ((wrap64 (t787 + t792)) == t793))))) else (none)) else (some false))) else (some false)) else (some false))) else (some true))) = some r := by first | (rw [hy762]; with_reducible exact H) | (have H2_ := (Option.bind_some _ _).symm.trans H; rw [hy762]; with_reducible exact H2_) | (have H2_ := (Option.bind_some _ _).symm.trans H; with_reducible exact H2_) | with_reducible exact H | (rw [hy762]; exact H) | exact H
                          have Ny762 := Aside0.mk hy762
                          clear hy762
                          replace H := Option.bind_eq_some_iff.mp H
                          obtain ⟨⟨t766, t767, t768, t769, t770, t771, t772⟩, A400, H⟩ := H
                          replace H : (if t757 = 0 then ((branch_Of.f t766 t767 t768 t769 t770 t771).bind fun bt774 => (if t772 = 0 then (if bt774.2 = 0 then ((api_Fork.f kj25 bt774.1 ((l1.take ((wrap64 ((wrap64 (t760 + 1)) + t761)) : Int).toNat).drop (t760 : Int).toNat)).bind fun t782 => (if t782 = true then (if t760 ≤ (l1.length : Int) then ((branch_Size.f kj25 (l1.take (t760 : Int).toNat)).bind fun t787 => ((branch_Size.f kj25 (l1.drop (t760 : Int).toNat)).bind fun t792 => ((branch_Size.f kj25 l1).bind fun t793 => (some ((wrap64 (t787 + t792)) == t793))))) else (none)) else (some false))) else (some false)) else (some false))) else (some true)) = some r := H
                          have A40 := Aside0.mk A400
                          clear A400
                          by_cases c41 : t757 = 0
                          · rw [if_pos c41] at H
                            have c41b0 : (t757 == 0) = true := beq_iff_eq.mpr c41
                            have c41b1 : (t757 != 0) = false := bne_eq_false_iff_eq.mpr c41
                            clear c41
                            replace H := Option.bind_eq_some_iff.mp H
                            obtain ⟨⟨t774, t777⟩, A420, H⟩ := H
                            replace H : (if t772 = 0 then (if t777 = 0 then ((api_Fork.f kj25 t774 ((l1.take ((wrap64 ((wrap64 (t760 + 1)) + t761)) : Int).toNat).drop (t760 : Int).toNat)).bind fun t782 => (if t782 = true then (if t760 ≤ (l1.length : Int) then ((branch_Size.f kj25 (l1.take (t760 : Int).toNat)).bind fun t787 => ((branch_Size.f kj25 (l1.drop (t760 : Int).toNat)).bind fun t792 => ((branch_Size.f kj25 l1).bind fun t793 => (some ((wrap64 (t787 + t792)) == t793))))) else (none)) else (some false))) else (some false)) else (some false)) = some r := H
                            have A42 := Aside0.mk A420
                            clear A420
                            by_cases c43 : t772 = 0
                            · rw [if_pos c43] at H
                              have c43b0 : (t772 == 0) = true := beq_iff_eq.mpr c43
                              have c43b1 : (t772 != 0) = false := bne_eq_false_iff_eq.mpr c43
                              clear c43
                              by_cases c44 : t777 = 0
                              · rw [if_pos c44] at H
                                have c44b0 : (t777 == 0) = true := beq_iff_eq.mpr c44
                                have c44b1 : (t777 != 0) = false := bne_eq_false_iff_eq.mpr c44
                                clear c44
                                have c45b0 := eq_true (of_decide_eq_true (by first | (with_reducible assumption) | assumption) : 0 ≤ t760)
                                have c46b0 := eq_true (of_decide_eq_true (by first | (with_reducible assumption) | assumption) : t760 ≤ (wrap64 ((wrap64 (t760 + 1)) + t761)))
                                have c47b0 := eq_true (of_decide_eq_true (by first | (with_reducible assumption) | assumption) : (wrap64 ((wrap64 (t760 + 1)) + t761)) ≤ (l1.length : Int))
                                obtain ⟨y778, hy778⟩ : ∃ y_ : List (S46), y_ = ((l1.take ((wrap64 ((wrap64 (t760 + 1)) + t761)) : Int).toNat).drop (t760 : Int).toNat) := ⟨_, rfl⟩
                                replace H : ((api_Fork.f kj25 t774 y778).bind fun t782 => (if t782 = true then (if t760 ≤ (l1.length : Int) then ((branch_Size.f kj25 (l1.take (t760 : Int).toNat)).bind fun t787 => ((branch_Size.f kj25 (l1.drop (t760 : Int).toNat)).bind fun t792 => ((branch_Size.f kj25 l1).bind fun t793 => (some ((wrap64 (t787 + t792)) == t793))))) else (none)) else (some false))) = some r := by first | (rw [hy778]; with_reducible exact H) | (have H2_ := (Option.bind_some _ _).symm.trans H; rw [hy778]; with_reducible exact H2_) | (have H2_ := (Option.bind_some _ _).symm.trans H; with_reducible exact H2_) | with_reducible exact H | (rw [hy778]; exact H) | exact H
                                have Ny778 := Aside0.mk hy778
                                clear hy778
                                replace H := Option.bind_eq_some_iff.mp H
                                obtain ⟨t782, A480, H⟩ := H
                                replace H : (if t782 = true then (if t760 ≤ (l1.length : Int) then ((branch_Size.f kj25 (l1.take (t760 : Int).toNat)).bind fun t787 => ((branch_Size.f kj25 (l1.drop (t760 : Int).toNat)).bind fun t792 => ((branch_Size.f kj25 l1).bind fun t793 => (some ((wrap64 (t787 + t792)) == t793))))) else (none)) else (some false)) = some r := H
                                have A48 := Aside0.mk A480
                                clear A480
                                by_cases c49 : t782 = true
                                · subst c49
                                  have H1 : (if t760 ≤ (l1.length : Int) then ((branch_Size.f kj25 (l1.take (t760 : Int).toNat)).bind fun t787 => ((branch_Size.f kj25 (l1.drop (t760 : Int).toNat)).bind fun t792 => ((branch_Size.f kj25 l1).bind fun t793 => (some ((wrap64 (t787 + t792)) == t793))))) else (none)) = some r := by rw [if_pos rfl] at H; exact H
                                  clear H
                                  have H := H1
                                  clear H1
                                  have c50b0 := eq_true (of_decide_eq_true (by first | (with_reducible assumption) | assumption) : 0 ≤ t760)
                                  by_cases c51 : t760 ≤ (l1.length : Int)
                                  · rw [if_pos c51] at H
                                    have c51b0 := eq_true c51
                                    have c51b1 : decide (t760 ≤ (l1.length : Int)) = true := decide_eq_true c51
                                    clear c51
                                    obtain ⟨y783, hy783⟩ : ∃ y_ : List (S46), y_ = (l1.take (t760 : Int).toNat) := ⟨_, rfl⟩
                                    replace H : ((branch_Size.f kj25 y783).bind fun t787 => ((branch_Size.f kj25 (l1.drop (t760 : Int).toNat)).bind fun t792 => ((branch_Size.f kj25 l1).bind fun t793 => (some ((wrap64 (t787 + t792)) == t793))))) = some r := by first | (rw [hy783]; with_reducible exact H) | (have H2_ := (Option.bind_some _ _).symm.trans H; rw [hy783]; with_reducible exact H2_) | (have H2_ := (Option.bind_some _ _).symm.trans H; with_reducible exact H2_) | with_reducible exact H | (rw [hy783]; exact H) | exact H
                                    have Ny783 := Aside0.mk hy783
                                    clear hy783
                                    replace H := Option.bind_eq_some_iff.mp H
                                    obtain ⟨t787, A520, H⟩ := H
                                    replace H : ((branch_Size.f kj25 (l1.drop (t760 : Int).toNat)).bind fun t792 => ((branch_Size.f kj25 l1).bind fun t793 => (some ((wrap64 (t787 + t792)) == t793)))) = some r := H
                                    have A52 := Aside0.mk A520
                                    clear A520
                                    have c53b0 := eq_true (of_decide_eq_true (by first | (with_reducible assumption) | assumption) : 0 ≤ t760)
                                    have c54b0 := eq_true (of_decide_eq_true (by first | (with_reducible assumption) | assumption) : t760 ≤ (l1.length : Int))
                                    obtain ⟨y788, hy788⟩ : ∃ y_ : List (S46), y_ = (l1.drop (t760 : Int).toNat) := ⟨_, rfl⟩
                                    replace H : ((branch_Size.f kj25 y788).bind fun t792 => ((branch_Size.f kj25 l1).bind fun t793 => (some ((wrap64 (t787 + t792)) == t793)))) = some r := by first | (rw [hy788]; with_reducible exact H) | (have H2_ := (Option.bind_some _ _).symm.trans H; rw [hy788]; with_reducible exact H2_) | (have H2_ := (Option.bind_some _ _).symm.trans H; with_reducible exact H2_) | with_reducible exact H | (rw [hy788]; exact H) | exact H
                                    have Ny788 := Aside0.mk hy788
                                    clear hy788
                                    replace H := Option.bind_eq_some_iff.mp H
                                    obtain ⟨t792, A550, H⟩ := H
                                    replace H : ((branch_Size.f kj25 l1).bind fun t793 => (some ((wrap64 (t787 + t792)) == t793))) = some r := H
                                    have A55 := Aside0.mk A550
                                    clear A550
                                    replace H := Option.bind_eq_some_iff.mp H
                                    obtain ⟨t793, A560, H⟩ := H
                                    replace H : (some ((wrap64 (t787 + t792)) == t793)) = some r := H
                                    have A56 := Aside0.mk A560
                                    clear A560
                                    obtain rfl := Option.some.inj H
                                    try go_wp2_with (first | ((with_reducible refine gate_callee (f := 18) rfl ?_); refine goesL_ (some 76) rfl rfl Try.func18 (by kernel_rfl) rfl #[.int .i64 a2, .int .i64 (l1.length : Int)] rfl (by (try simp only [List.map_toArray, List.map_cons, List.map_nil]); first | done | rfl | (simp only [List.length_drop, List.length_take]; rfl)) ?_; (with_reducible refine (careenagekit_Pick.calls a2 (l1.length : Int) t760 _ A35.out).mono ?_); rintro e w' ⟨rfl, ⟨nd, rfl⟩⟩; refine ⟨_, rfl, ?_⟩; (try (rw [drewN_self wc]; generalize hq_ : World.drewN wc _ = wc; have n0_ : Aside0 (wc.heap[gb750]? = some (.cells #[.int .i64 t743, .int .i64 t744, .int .u32 t745, .int .u32 t746, .int .u64 t747, .string t748] 39 (0, 0))) := ⟨by rw [← hq_]; exact (by (with_reducible repeat (first | refine blk_drewN ?_ _ | refine blk_drew ?_ | refine blk_alloc ?_ _)); exact BK750.out)⟩; have n1_ : Aside0 (wc.heap[gb758]? = some (.cells #[.int .i64 t751, .int .i64 t752, .int .u32 t753, .int .u32 t754, .int .u64 t755, .string t756] 39 (0, 0))) := ⟨by rw [← hq_]; exact (by (with_reducible repeat (first | refine blk_drewN ?_ _ | refine blk_drew ?_ | refine blk_alloc ?_ _)); exact BK758.out)⟩; have n2_ : Aside0 (Below w.heap.size w wc) := ⟨by rw [← hq_]; exact (by repeat (first | (with_reducible first | exact HB.out | apply below_alloc | apply pw_below_drewN | apply below_drew1 | refine below_set ?_ GE750.out | refine below_set ?_ GE758.out) | exact HB.out))⟩; clear BK750 BK758 HB hq_; have BK750 := n0_; have BK758 := n1_; have HB := n2_; clear n0_ n1_ n2_))) | ((with_reducible refine gate_callee (f := 18) rfl ?_); refine goesL_ (some 84) rfl rfl Try.func18 (by kernel_rfl) rfl #[.int .i64 a3, .int .i64 (wrap64 ((l1.length : Int) - t760))] rfl (by (try simp only [List.map_toArray, List.map_cons, List.map_nil]); first | done | rfl | (simp only [List.length_drop, List.length_take]; rfl)) ?_; (with_reducible refine (careenagekit_Pick.calls a3 (wrap64 ((l1.length : Int) - t760)) t761 _ A36.out).mono ?_); rintro e w' ⟨rfl, ⟨nd, rfl⟩⟩; refine ⟨_, rfl, ?_⟩; (try (rw [drewN_self wc]; generalize hq_ : World.drewN wc _ = wc; have n0_ : Aside0 (wc.heap[gb750]? = some (.cells #[.int .i64 t743, .int .i64 t744, .int .u32 t745, .int .u32 t746, .int .u64 t747, .string t748] 39 (0, 0))) := ⟨by rw [← hq_]; exact (by (with_reducible repeat (first | refine blk_drewN ?_ _ | refine blk_drew ?_ | refine blk_alloc ?_ _)); exact BK750.out)⟩; have n1_ : Aside0 (wc.heap[gb758]? = some (.cells #[.int .i64 t751, .int .i64 t752, .int .u32 t753, .int .u32 t754, .int .u64 t755, .string t756] 39 (0, 0))) := ⟨by rw [← hq_]; exact (by (with_reducible repeat (first | refine blk_drewN ?_ _ | refine blk_drew ?_ | refine blk_alloc ?_ _)); exact BK758.out)⟩; have n2_ : Aside0 (Below w.heap.size w wc) := ⟨by rw [← hq_]; exact (by repeat (first | (with_reducible first | exact HB.out | apply below_alloc | apply pw_below_drewN | apply below_drew1 | refine below_set ?_ GE750.out | refine below_set ?_ GE758.out) | exact HB.out))⟩; clear BK750 BK758 HB hq_; have BK750 := n0_; have BK758 := n1_; have HB := n2_; clear n0_ n1_ n2_)); have q57 : ((wrap64 ((wrap64 (t760 + 1)) + t761)) : Int) ≤ ((l1.length : Int) : Int) := of_decide_eq_true (by first | (with_reducible assumption) | assumption); obtain ⟨i057, hi057, _, hsz57, _⟩ := info_parts info46; have hroom57 : l1.length ≤ c1 := HC1.out; have hC57 : Kd.C k46 _ A1 l1.length l1 := HR1.out; have ql57 : (t760 : Int) ≤ ((wrap64 ((wrap64 (t760 + 1)) + t761)) : Int) := of_decide_eq_true (by first | (with_reducible assumption) | assumption); have q057 : (0 : Int) ≤ (t760 : Int) := of_decide_eq_true (by first | (with_reducible assumption) | assumption); have hcut57 := cut_mid (P := Try.prog) 36 46 .i64 .i64 Try.underlying36 hi057 2 hsz57 A1 l1.length c1 t760 (wrap64 ((wrap64 (t760 + 1)) + t761)) q057 ql57 q57 hroom57; have hr57 := Kd.C_mid (lo := (t760 : Int).toNat) (hi := ((wrap64 ((wrap64 (t760 + 1)) + t761)) : Int).toNat) (c := c1) hC57 (by omega) (by omega) hroom57; obtain ⟨A57, hA57⟩ : ∃ Az_, Az_ = (if c1 = (t760 : Int).toNat then A1 else (A1 : Option Addr).map (·.add ((t760 : Int).toNat * 2))) := ⟨_, rfl⟩; obtain ⟨c57, hc57⟩ : ∃ cz_, cz_ = c1 - (t760 : Int).toNat := ⟨_, rfl⟩; have hy57 : y762.length = ((wrap64 ((wrap64 (t760 + 1)) + t761)) : Int).toNat - (t760 : Int).toNat := (by rw [Ny762.out, List.length_drop, List.length_take] <;> omega); rw [show ((l1).take ((wrap64 ((wrap64 (t760 + 1)) + t761)) : Int).toNat).drop (t760 : Int).toNat = y762 from Ny762.out.symm] at hr57; replace hr57 : Kd.C k46 _ A57 y762.length y762 := (by rw [hA57]; exact hr57); rw [← hy57, ← hA57, ← hc57] at hcut57; have HR765 := Aside0.mk hr57; have HC765 := Aside0.mk (show y762.length ≤ c57 from by rw [hy57, hc57]; exact Nat.sub_le_sub_right (Nat.le_trans (by omega) hroom57) _); clear hr57 hC57 hroom57 hi057 hsz57 hc57; have KY57 := Aside0.mk hy57; have KA57 := Aside0.mk hA57; clear hy57 hA57; replace q57 := eq_true q57) | ((with_reducible refine gate_callee (f := 23) rfl ?_); refine goesL_ (some 92) rfl rfl Try.func23 (by kernel_rfl) rfl #[.int .i64 a0, .int .u32 2, .int .u64 0, .slice A57 y762.length c57] rfl (by (try simp only [List.map_toArray, List.map_cons, List.map_nil]); first | done | rfl | (simp only [List.length_drop, List.length_take]; rfl)) ?_; (with_reducible refine (branch_Page.calls kj25 a0 2 0 _ _ y762 t766 t767 t768 t769 t770 t771 t772 _ ?side1 ?side2 A40.out).mono ?_); (case side1 => repeat (first | exact (Kd.C_below HR765.out HB.out) | (with_reducible refine Kd.C_alloc ?_ _) | (with_reducible refine Kd.C_drewN ?_ _) | (with_reducible refine Kd.C_drew ?_))); (case side2 => exact HC765.out); rintro e w58 ⟨rfl, hb⟩; refine ⟨_, rfl, ?_⟩; have n0_ := Aside0.mk (blk_below (g := gb750) (o := .cells #[.int .i64 t743, .int .i64 t744, .int .u32 t745, .int .u32 t746, .int .u64 t747, .string t748] 39 (0, 0)) (by (with_reducible repeat (first | refine blk_drewN ?_ _ | refine blk_drew ?_ | refine blk_alloc ?_ _)); exact BK750.out) hb); have n1_ := Aside0.mk (blk_below (g := gb758) (o := .cells #[.int .i64 t751, .int .i64 t752, .int .u32 t753, .int .u32 t754, .int .u64 t755, .string t756] 39 (0, 0)) (by (with_reducible repeat (first | refine blk_drewN ?_ _ | refine blk_drew ?_ | refine blk_alloc ?_ _)); exact BK758.out) hb); have n2_ := Aside0.mk (below_step (by repeat (first | (with_reducible first | exact HB.out | apply below_alloc | apply pw_below_drewN | apply below_drew1 | refine below_set ?_ GE750.out | refine below_set ?_ GE758.out) | exact HB.out)) hb); clear BK750; clear BK758; clear HB; have BK750 := n0_; have BK758 := n1_; have HB := n2_; clear n0_ n1_ n2_; (try clear hb); (try clear hb2); (try clear hk); (try clear hi)) | ((with_reducible refine gate_dst (N := 14) rfl ?_); (try (refine gate_guard (by rfl) ?_; dsimp only)); refine box_event ?hg (N := 14) ?hd (cs := #[.int .i64 0, .int .i64 0, .int .u32 0, .int .u32 0, .int .u64 0, .string (⟨#[]⟩ : ByteArray)]) (t := 39) ?hr ?_; (case hd => rfl); (case hg => rfl); (case hr => first | (go_simp; done) | (go_simp; rfl)); intro gb773 hg w59 hbox hb; have n0_ := Aside0.mk (blk_below (g := gb750) (o := .cells #[.int .i64 t743, .int .i64 t744, .int .u32 t745, .int .u32 t746, .int .u64 t747, .string t748] 39 (0, 0)) (by (with_reducible repeat (first | refine blk_drewN ?_ _ | refine blk_drew ?_ | refine blk_alloc ?_ _)); exact BK750.out) hb); have n1_ := Aside0.mk (blk_below (g := gb758) (o := .cells #[.int .i64 t751, .int .i64 t752, .int .u32 t753, .int .u32 t754, .int .u64 t755, .string t756] 39 (0, 0)) (by (with_reducible repeat (first | refine blk_drewN ?_ _ | refine blk_drew ?_ | refine blk_alloc ?_ _)); exact BK758.out) hb); have n2_ := Aside0.mk (below_step (by repeat (first | (with_reducible first | exact HB.out | apply below_alloc | apply pw_below_drewN | apply below_drew1 | refine below_set ?_ GE750.out | refine below_set ?_ GE758.out) | exact HB.out)) hb); have n3_ := Aside0.mk (hbox); have n4_ := Aside0.mk ((by rw [hg]; exact (below_size (by repeat (first | (with_reducible first | exact HB.out | apply below_alloc | apply pw_below_drewN | apply below_drew1 | refine below_set ?_ GE750.out | refine below_set ?_ GE758.out) | exact HB.out))) : w.heap.size ≤ gb773)); have n5_ := Aside0.mk ((by rw [hg]; exact (below_size (by repeat (first | (with_reducible first | exact HB.out | apply below_alloc | apply pw_below_drewN | apply below_drew1 | refine below_set ?_ GE750.out | refine below_set ?_ GE758.out) | exact HB.out))) : w.heap.size ≤ gb773)); have n6_ := Aside0.mk ((by rw [hg]; exact Nat.ne_of_lt (blk_lt (g := gb750) (o := .cells #[.int .i64 t743, .int .i64 t744, .int .u32 t745, .int .u32 t746, .int .u64 t747, .string t748] 39 (0, 0)) (by (with_reducible repeat (first | refine blk_drewN ?_ _ | refine blk_drew ?_ | refine blk_alloc ?_ _)); exact BK750.out)) : gb750 ≠ gb773)); have n7_ := Aside0.mk ((by rw [hg]; exact Nat.ne_of_gt (blk_lt (g := gb750) (o := .cells #[.int .i64 t743, .int .i64 t744, .int .u32 t745, .int .u32 t746, .int .u64 t747, .string t748] 39 (0, 0)) (by (with_reducible repeat (first | refine blk_drewN ?_ _ | refine blk_drew ?_ | refine blk_alloc ?_ _)); exact BK750.out)) : gb773 ≠ gb750)); have n8_ := Aside0.mk ((by rw [hg]; exact Nat.ne_of_lt (blk_lt (g := gb758) (o := .cells #[.int .i64 t751, .int .i64 t752, .int .u32 t753, .int .u32 t754, .int .u64 t755, .string t756] 39 (0, 0)) (by (with_reducible repeat (first | refine blk_drewN ?_ _ | refine blk_drew ?_ | refine blk_alloc ?_ _)); exact BK758.out)) : gb758 ≠ gb773)); have n9_ := Aside0.mk ((by rw [hg]; exact Nat.ne_of_gt (blk_lt (g := gb758) (o := .cells #[.int .i64 t751, .int .i64 t752, .int .u32 t753, .int .u32 t754, .int .u64 t755, .string t756] 39 (0, 0)) (by (with_reducible repeat (first | refine blk_drewN ?_ _ | refine blk_drew ?_ | refine blk_alloc ?_ _)); exact BK758.out)) : gb773 ≠ gb758)); clear BK750; clear BK758; clear HB; have BK750 := n0_; have BK758 := n1_; have HB := n2_; have BK773 := n3_; have GW773 := n4_; have GE773 := n5_; have NB750_773 := n6_; have NB773_750 := n7_; have NB758_773 := n8_; have NB773_758 := n9_; clear n0_ n1_ n2_ n3_ n4_ n5_ n6_ n7_ n8_ n9_; clear hb hbox hg; have hnb60 := NB773_750.out; have hnc60 := NB750_773.out; have hnb61 := NB773_758.out; have hnc61 := NB758_773.out; have hcz62_0 : w59.cell? ⟨gb773, 0, none⟩ = some (.int .i64 0) := (blk_cell BK773.out 0).trans rfl; have hcz62_1 : w59.cell? ⟨gb773, 1, none⟩ = some (.int .i64 0) := (blk_cell BK773.out 1).trans rfl; have hcz62_2 : w59.cell? ⟨gb773, 2, none⟩ = some (.int .u32 0) := (blk_cell BK773.out 2).trans rfl; have hcz62_3 : w59.cell? ⟨gb773, 3, none⟩ = some (.int .u32 0) := (blk_cell BK773.out 3).trans rfl; have hcz62_4 : w59.cell? ⟨gb773, 4, none⟩ = some (.int .u64 0) := (blk_cell BK773.out 4).trans rfl; have hcz62_5 : w59.cell? ⟨gb773, 5, none⟩ = some (.string (⟨#[]⟩ : ByteArray)) := (blk_cell BK773.out 5).trans rfl; have hfz62_0 := blk_frozen BK773.out 0; have hfz62_1 := blk_frozen BK773.out 1; have hfz62_2 := blk_frozen BK773.out 2; have hfz62_3 := blk_frozen BK773.out 3; have hfz62_4 := blk_frozen BK773.out 4; have hfz62_5 := blk_frozen BK773.out 5) | ((with_reducible refine gate_callee (f := 39) rfl ?_); refine goesL_ (some 99) rfl rfl Try.func39 (by kernel_rfl) rfl #[.agg #[.int .i64 t766, .int .i64 t767, .int .u32 t768, .int .u32 t769, .int .u64 t770, .string t771]] rfl (by (try simp only [List.map_toArray, List.map_cons, List.map_nil]); first | done | rfl | (simp only [List.length_drop, List.length_take]; rfl)) ?_; (with_reducible refine (branch_Of.calls t766 t767 t768 t769 t770 t771 t774 t777 _ A42.out).mono ?_); rintro e w63 ⟨v775, rfl, ho0, hb⟩; refine ⟨_, rfl, ?_⟩; have n0_ := Aside0.mk (Kd.R_lower ho0 (below_size (by repeat (first | (with_reducible first | exact HB.out | apply below_alloc | apply pw_below_drewN | apply below_drew1 | refine below_set ?_ GE750.out | refine below_set ?_ GE758.out | refine below_set ?_ GE773.out) | exact HB.out)))); have n1_ := Aside0.mk (blk_below (g := gb750) (o := .cells #[.int .i64 t743, .int .i64 t744, .int .u32 t745, .int .u32 t746, .int .u64 t747, .string t748] 39 (0, 0)) (by (with_reducible repeat (first | refine blk_drewN ?_ _ | refine blk_drew ?_ | refine blk_alloc ?_ _)); refine blk_far ?_ NB750_773.out _; (with_reducible repeat (first | refine blk_drewN ?_ _ | refine blk_drew ?_ | refine blk_alloc ?_ _)); refine blk_far ?_ NB750_773.out _; (with_reducible repeat (first | refine blk_drewN ?_ _ | refine blk_drew ?_ | refine blk_alloc ?_ _)); refine blk_far ?_ NB750_773.out _; (with_reducible repeat (first | refine blk_drewN ?_ _ | refine blk_drew ?_ | refine blk_alloc ?_ _)); refine blk_far ?_ NB750_773.out _; (with_reducible repeat (first | refine blk_drewN ?_ _ | refine blk_drew ?_ | refine blk_alloc ?_ _)); refine blk_far ?_ NB750_773.out _; (with_reducible repeat (first | refine blk_drewN ?_ _ | refine blk_drew ?_ | refine blk_alloc ?_ _)); refine blk_far ?_ NB750_773.out _; (with_reducible repeat (first | refine blk_drewN ?_ _ | refine blk_drew ?_ | refine blk_alloc ?_ _)); exact BK750.out) hb); have n2_ := Aside0.mk (blk_below (g := gb758) (o := .cells #[.int .i64 t751, .int .i64 t752, .int .u32 t753, .int .u32 t754, .int .u64 t755, .string t756] 39 (0, 0)) (by (with_reducible repeat (first | refine blk_drewN ?_ _ | refine blk_drew ?_ | refine blk_alloc ?_ _)); refine blk_far ?_ NB758_773.out _; (with_reducible repeat (first | refine blk_drewN ?_ _ | refine blk_drew ?_ | refine blk_alloc ?_ _)); refine blk_far ?_ NB758_773.out _; (with_reducible repeat (first | refine blk_drewN ?_ _ | refine blk_drew ?_ | refine blk_alloc ?_ _)); refine blk_far ?_ NB758_773.out _; (with_reducible repeat (first | refine blk_drewN ?_ _ | refine blk_drew ?_ | refine blk_alloc ?_ _)); refine blk_far ?_ NB758_773.out _; (with_reducible repeat (first | refine blk_drewN ?_ _ | refine blk_drew ?_ | refine blk_alloc ?_ _)); refine blk_far ?_ NB758_773.out _; (with_reducible repeat (first | refine blk_drewN ?_ _ | refine blk_drew ?_ | refine blk_alloc ?_ _)); refine blk_far ?_ NB758_773.out _; (with_reducible repeat (first | refine blk_drewN ?_ _ | refine blk_drew ?_ | refine blk_alloc ?_ _)); exact BK758.out) hb); have n3_ := Aside0.mk (blk_below (g := gb773) (o := .cells #[.int .i64 t766, .int .i64 t767, .int .u32 t768, .int .u32 t769, .int .u64 t770, .string t771] 39 (0, 0)) (by (with_reducible repeat (first | refine blk_drewN ?_ _ | refine blk_drew ?_ | refine blk_alloc ?_ _)); refine blk_put (cs := #[.int .i64 t766, .int .i64 t767, .int .u32 t768, .int .u32 t769, .int .u64 t770, .string (⟨#[]⟩ : ByteArray)]) ?_ 5 _ rfl; (with_reducible repeat (first | refine blk_drewN ?_ _ | refine blk_drew ?_ | refine blk_alloc ?_ _)); refine blk_put (cs := #[.int .i64 t766, .int .i64 t767, .int .u32 t768, .int .u32 t769, .int .u64 0, .string (⟨#[]⟩ : ByteArray)]) ?_ 4 _ rfl; (with_reducible repeat (first | refine blk_drewN ?_ _ | refine blk_drew ?_ | refine blk_alloc ?_ _)); refine blk_put (cs := #[.int .i64 t766, .int .i64 t767, .int .u32 t768, .int .u32 0, .int .u64 0, .string (⟨#[]⟩ : ByteArray)]) ?_ 3 _ rfl; (with_reducible repeat (first | refine blk_drewN ?_ _ | refine blk_drew ?_ | refine blk_alloc ?_ _)); refine blk_put (cs := #[.int .i64 t766, .int .i64 t767, .int .u32 0, .int .u32 0, .int .u64 0, .string (⟨#[]⟩ : ByteArray)]) ?_ 2 _ rfl; (with_reducible repeat (first | refine blk_drewN ?_ _ | refine blk_drew ?_ | refine blk_alloc ?_ _)); refine blk_put (cs := #[.int .i64 t766, .int .i64 0, .int .u32 0, .int .u32 0, .int .u64 0, .string (⟨#[]⟩ : ByteArray)]) ?_ 1 _ rfl; (with_reducible repeat (first | refine blk_drewN ?_ _ | refine blk_drew ?_ | refine blk_alloc ?_ _)); refine blk_put (cs := #[.int .i64 0, .int .i64 0, .int .u32 0, .int .u32 0, .int .u64 0, .string (⟨#[]⟩ : ByteArray)]) ?_ 0 _ rfl; (with_reducible repeat (first | refine blk_drewN ?_ _ | refine blk_drew ?_ | refine blk_alloc ?_ _)); exact BK773.out) hb); have n4_ := Aside0.mk (below_step (by repeat (first | (with_reducible first | exact HB.out | apply below_alloc | apply pw_below_drewN | apply below_drew1 | refine below_set ?_ GE750.out | refine below_set ?_ GE758.out | refine below_set ?_ GE773.out) | exact HB.out)) hb); clear BK750; clear BK758; clear BK773; clear HB; have HO776 := n0_; have BK750 := n1_; have BK758 := n2_; have BK773 := n3_; have HB := n4_; clear n0_ n1_ n2_ n3_ n4_; (try clear hb); (try clear hb2); (try clear hk); (try clear hi); (try clear ho0)))
                                    have n0_ := Aside0.mk (Kd.R_drew HO776.out)
                                    have n1_ := Aside0.mk (blk_drew BK750.out)
                                    have n2_ := Aside0.mk (blk_drew BK758.out)
                                    have n3_ := Aside0.mk (blk_drew BK773.out)
                                    have n4_ := Aside0.mk (below_drew1 HB.out)
                                    clear HO776
                                    clear BK750
                                    clear BK758
                                    clear BK773
                                    clear HB
                                    have HO776 := n0_
                                    have BK750 := n1_
                                    have BK758 := n2_
                                    have BK773 := n3_
                                    have HB := n4_
                                    clear n0_ n1_ n2_ n3_ n4_
                                    have q65 : ((wrap64 ((wrap64 (t760 + 1)) + t761)) : Int) ≤ ((l1.length : Int) : Int) := of_decide_eq_true (by first | (with_reducible assumption) | assumption)
                                    obtain ⟨i065, hi065, _, hsz65, _⟩ := info_parts info46
                                    have hroom65 : l1.length ≤ c1 := HC1.out
                                    have hC65 : Kd.C k46 _ A1 l1.length l1 := HR1.out
                                    have ql65 : (t760 : Int) ≤ ((wrap64 ((wrap64 (t760 + 1)) + t761)) : Int) := of_decide_eq_true (by first | (with_reducible assumption) | assumption)
                                    have q065 : (0 : Int) ≤ (t760 : Int) := of_decide_eq_true (by first | (with_reducible assumption) | assumption)
                                    (try clear hcut57)
                                    have hcut65 := cut_mid (P := Try.prog) 36 46 .i64 .i64 Try.underlying36 hi065 2 hsz65 A1 l1.length c1 t760 (wrap64 ((wrap64 (t760 + 1)) + t761)) q065 ql65 q65 hroom65
                                    have hr65 := Kd.C_mid (lo := (t760 : Int).toNat) (hi := ((wrap64 ((wrap64 (t760 + 1)) + t761)) : Int).toNat) (c := c1) hC65 (by omega) (by omega) hroom65
                                    obtain ⟨A65, hA65⟩ : ∃ Az_, Az_ = (if c1 = (t760 : Int).toNat then A1 else (A1 : Option Addr).map (·.add ((t760 : Int).toNat * 2))) := ⟨_, rfl⟩
                                    obtain ⟨c65, hc65⟩ : ∃ cz_, cz_ = c1 - (t760 : Int).toNat := ⟨_, rfl⟩
                                    have hy65 : y778.length = ((wrap64 ((wrap64 (t760 + 1)) + t761)) : Int).toNat - (t760 : Int).toNat := (by rw [Ny778.out, List.length_drop, List.length_take] <;> omega)
                                    rw [show ((l1).take ((wrap64 ((wrap64 (t760 + 1)) + t761)) : Int).toNat).drop (t760 : Int).toNat = y778 from Ny778.out.symm] at hr65
                                    replace hr65 : Kd.C k46 _ A65 y778.length y778 := (by rw [hA65]; exact hr65)
                                    rw [← hy65, ← hA65, ← hc65] at hcut65
                                    have HR781 := Aside0.mk hr65
                                    have HC781 := Aside0.mk (show y778.length ≤ c65 from by rw [hy65, hc65]; exact Nat.sub_le_sub_right (Nat.le_trans (by omega) hroom65) _)
                                    clear hr65 hC65 hroom65 hi065 hsz65 hc65
                                    have KY65 := Aside0.mk hy65
                                    have KA65 := Aside0.mk hA65
                                    clear hy65 hA65
                                    replace q65 := eq_true q65
                                    obtain ⟨Ao66, co66, eo66⟩ := Kd.R_slice HO776.out
                                    (first | subst eo66 | (injection eo66 with f1_ f2_ f3_; have f4_ := f1_.symm; have f5_ := f3_.symm; clear f1_ f2_ f3_; subst f4_; subst f5_))
                                    refine start_ (n := 29) (S := fun w' => True) (ds := []) #[false, false, false, false, false, false, false, false, false, false, false, false, false, false, false, false, false, false, false, false, false, false, false, false, false, false, false, false, false] (by kernel_rfl) rfl rfl trivial (fun hHeld => ?_); refine with_tabW careenagelaw07_BranchFits.tab16 careenagelaw07_BranchFits.bits16 (fun HT_ HW_ => ?_)
                                    generalize w63.drew = w64 at HO776 BK750 BK758 BK773 HB HR781 hHeld ⊢
                                    refine pure_ (i := 0) (N := some 102) (v := ?_) (a' := ?_) #[true, false, false, false, false, false, false, false, false, false, false, false, false, false, false, false, false, false, false, false, false, false, false, false, false, false, false, false, false] rfl rfl (any_of HT_.out (by kernel_rfl)) (fun _ _ _ h => h) (Or.inl ⟨by rfl, ?_⟩) ?_ ?_
                                    rotate_left
                                    · intro w'
                                      go_simp
                                      with_reducible rfl
                                    rotate_left
                                    · simp only [Act.put, List.setIfInBounds_toArray, List.set_cons_zero, List.set_cons_succ, i64_w, i32_w]
                                      rfl
                                    refine pure_ (i := 1) (N := some 103) (v := ?_) (a' := ?_) #[true, true, false, false, false, false, false, false, false, false, false, false, false, false, false, false, false, false, false, false, false, false, false, false, false, false, false, false, false] rfl rfl (any_of HT_.out (by kernel_rfl)) (fun _ _ _ h => h) (Or.inl ⟨by rfl, ?_⟩) ?_ ?_
                                    rotate_left
                                    · intro w'
                                      go_simp
                                      with_reducible rfl
                                    rotate_left
                                    · simp only [Act.put, List.setIfInBounds_toArray, List.set_cons_zero, List.set_cons_succ, i64_w, i32_w]
                                      rfl
                                    refine pure_ (i := 2) (N := some 104) (v := ?_) (a' := ?_) #[true, true, true, false, false, false, false, false, false, false, false, false, false, false, false, false, false, false, false, false, false, false, false, false, false, false, false, false, false] rfl rfl (any_of HT_.out (by kernel_rfl)) (fun _ _ _ h => h) (Or.inl ⟨by rfl, ?_⟩) ?_ ?_
                                    rotate_left
                                    · intro w'
                                      go_simp
                                      with_reducible rfl
                                    rotate_left
                                    · simp only [Act.put, List.setIfInBounds_toArray, List.set_cons_zero, List.set_cons_succ, i64_w, i32_w]
                                      rfl
                                    refine pure_ (i := 3) (N := some 105) (v := ?_) (a' := ?_) #[true, true, true, true, false, false, false, false, false, false, false, false, false, false, false, false, false, false, false, false, false, false, false, false, false, false, false, false, false] rfl rfl (any_of HT_.out (by kernel_rfl)) (fun _ _ _ h => h) (Or.inl ⟨by rfl, ?_⟩) ?_ ?_
                                    rotate_left
                                    · intro w'
                                      go_simp
                                      with_reducible rfl
                                    rotate_left
                                    · simp only [Act.put, List.setIfInBounds_toArray, List.set_cons_zero, List.set_cons_succ, i64_w, i32_w]
                                      rfl
                                    refine pure_ (i := 4) (N := some 106) (v := ?_) (a' := ?_) #[true, true, true, true, true, false, false, false, false, false, false, false, false, false, false, false, false, false, false, false, false, false, false, false, false, false, false, false, false] rfl rfl (any_of HT_.out (by kernel_rfl)) (fun _ _ _ h => h) (Or.inl ⟨by rfl, ?_⟩) ?_ ?_
                                    rotate_left
                                    · intro w'
                                      go_simp
                                      with_reducible rfl
                                    rotate_left
                                    · simp only [Act.put, List.setIfInBounds_toArray, List.set_cons_zero, List.set_cons_succ, i64_w, i32_w]
                                      rfl
                                    refine pure_ (i := 5) (N := some 107) (v := ?_) (a' := ?_) #[true, true, true, true, true, true, false, false, false, false, false, false, false, false, false, false, false, false, false, false, false, false, false, false, false, false, false, false, false] rfl rfl (any_of HT_.out (by kernel_rfl)) (fun _ _ _ h => h) (Or.inl ⟨by rfl, ?_⟩) ?_ ?_
                                    rotate_left
                                    · intro w'
                                      go_simp
                                      with_reducible rfl
                                    rotate_left
                                    · simp only [Act.put, List.setIfInBounds_toArray, List.set_cons_zero, List.set_cons_succ, i64_w, i32_w]
                                      rfl
                                    refine pure_ (i := 6) (N := some 108) (v := ?_) (a' := ?_) #[true, true, true, true, true, true, true, false, false, false, false, false, false, false, false, false, false, false, false, false, false, false, false, false, false, false, false, false, false] rfl rfl (any_of HT_.out (by kernel_rfl)) (fun _ _ _ h => h) (Or.inl ⟨by rfl, ?_⟩) ?_ ?_
                                    rotate_left
                                    · intro w'
                                      go_simp
                                      with_reducible rfl
                                    rotate_left
                                    · simp only [Act.put, List.setIfInBounds_toArray, List.set_cons_zero, List.set_cons_succ, i64_w, i32_w]
                                      rfl
                                    refine pure_ (i := 7) (N := some 109) (v := ?_) (a' := ?_) #[true, true, true, true, true, true, true, true, false, false, false, false, false, false, false, false, false, false, false, false, false, false, false, false, false, false, false, false, false] rfl rfl (any_of HT_.out (by kernel_rfl)) (fun _ _ _ h => h) (Or.inl ⟨by rfl, ?_⟩) ?_ ?_
                                    rotate_left
                                    · intro w'
                                      go_simp
                                      with_reducible rfl
                                    rotate_left
                                    · simp only [Act.put, List.setIfInBounds_toArray, List.set_cons_zero, List.set_cons_succ, i64_w, i32_w]
                                      rfl
                                    refine pure_ (i := 8) (N := some 110) (v := ?_) (a' := ?_) #[true, true, true, true, true, true, true, true, true, false, false, false, false, false, false, false, false, false, false, false, false, false, false, false, false, false, false, false, false] rfl rfl (any_of HT_.out (by kernel_rfl)) (fun _ _ _ h => h) (Or.inl ⟨by rfl, ?_⟩) ?_ ?_
                                    rotate_left
                                    · intro w'
                                      go_simp
                                      with_reducible rfl
                                    rotate_left
                                    · simp only [Act.put, List.setIfInBounds_toArray, List.set_cons_zero, List.set_cons_succ, i64_w, i32_w]
                                      rfl
                                    refine pure_ (i := 9) (N := some 111) (v := ?_) (a' := ?_) #[true, true, true, true, true, true, true, true, true, true, false, false, false, false, false, false, false, false, false, false, false, false, false, false, false, false, false, false, false] rfl rfl (any_of HT_.out (by kernel_rfl)) (fun _ _ _ h => h) (Or.inl ⟨by rfl, ?_⟩) ?_ ?_
                                    rotate_left
                                    · intro w'
                                      go_simp
                                      with_reducible rfl
                                    rotate_left
                                    · simp only [Act.put, List.setIfInBounds_toArray, List.set_cons_zero, List.set_cons_succ, i64_w, i32_w]
                                      rfl
                                    refine pure_ (i := 10) (N := some 112) (v := ?_) (a' := ?_) #[true, true, true, true, true, true, true, true, true, true, true, false, false, false, false, false, false, false, false, false, false, false, false, false, false, false, false, false, false] rfl rfl (any_of HT_.out (by kernel_rfl)) (fun _ _ _ h => h) (Or.inl ⟨by rfl, ?_⟩) ?_ ?_
                                    rotate_left
                                    · intro w'
                                      go_simp
                                      with_reducible rfl
                                    rotate_left
                                    · simp only [Act.put, List.setIfInBounds_toArray, List.set_cons_zero, List.set_cons_succ, i64_w, i32_w]
                                      rfl
                                    refine pure_ (i := 11) (N := some 113) (v := ?_) (a' := ?_) #[true, true, true, true, true, true, true, true, true, true, true, true, false, false, false, false, false, false, false, false, false, false, false, false, false, false, false, false, false] rfl rfl (any_of HT_.out (by kernel_rfl)) (fun _ _ _ h => h) (Or.inl ⟨by rfl, ?_⟩) ?_ ?_
                                    rotate_left
                                    · intro w'
                                      go_simp
                                      with_reducible rfl
                                    rotate_left
                                    · simp only [Act.put, List.setIfInBounds_toArray, List.set_cons_zero, List.set_cons_succ, i64_w, i32_w]
                                      rfl
                                    refine one_ (i := 12) (N := some 114) #[true, true, true, true, true, true, true, true, true, true, true, true, true, false, false, false, false, false, false, false, false, false, false, false, false, false, false, false, false] rfl rfl (one_of HT_.out (by kernel_rfl)) (by decide) (fun K hK => ?_)
                                    refine goes_ Try.func41 (by kernel_rfl) rfl #[.slice Ao66 t774.length co66, .slice A65 y778.length c65] (by rfl) rfl rfl (by (try simp only [List.map_toArray, List.map_cons, List.map_nil]); first | done | rfl | (simp only [List.length_drop, List.length_take]; rfl)) ?_
                                    with_reducible refine (api_Fork.calls kj25 _ _ t774 _ _ y778 true _ ?side1 ?side2 ?side3 ?side4 A48.out).mono ?_
                                    (case side1 => repeat (first | exact (Kd.R_reads' HO776.out).2.2 | (with_reducible refine Kd.C_alloc ?_ _) | (with_reducible refine Kd.C_drewN ?_ _) | (with_reducible refine Kd.C_drew ?_)))
                                    (case side2 => exact (Kd.R_reads' HO776.out).2.1)
                                    (case side3 => repeat (first | exact (Kd.C_below HR781.out HB.out) | (with_reducible refine Kd.C_alloc ?_ _) | (with_reducible refine Kd.C_drewN ?_ _) | (with_reducible refine Kd.C_drew ?_)))
                                    (case side4 => exact HC781.out)
                                    rintro e w' ⟨rfl, ⟨nd, rfl⟩⟩
                                    refine ⟨_, rfl, ?_⟩
                                    have q67 : (t760 : Int) ≤ ((l1.length : Int) : Int) := of_decide_eq_true (by first | (with_reducible assumption) | assumption)
                                    obtain ⟨i067, hi067, _, hsz67, _⟩ := info_parts info46
                                    have hroom67 : l1.length ≤ c1 := HC1.out
                                    have hC67 : Kd.C k46 _ A1 l1.length l1 := HR1.out
                                    have hcut67 := cut_to (P := Try.prog) 36 46 .i64 Try.underlying36 hi067 A1 l1.length c1 t760 (of_decide_eq_true (by first | (with_reducible assumption) | assumption)) q67 hroom67
                                    have hr67 := Kd.C_take (m := (t760 : Int).toNat) hC67 (by omega)
                                    have hy67 : y783.length = (t760 : Int).toNat := (by rw [Ny783.out, List.length_take]; omega)
                                    rw [← Ny783.out] at hr67
                                    rw [← hy67] at hcut67
                                    have HR786 := Aside0.mk hr67
                                    have HC786 := Aside0.mk (show y783.length ≤ c1 from by omega)
                                    clear hr67 hC67 hroom67 hi067 hsz67
                                    have KY67 := Aside0.mk hy67
                                    clear hy67
                                    replace q67 := eq_true q67
                                    refine hK.out _ _ trivial (fun hHeld => ?_)
                                    clear hK K
                                    refine norm_ (a' := ?_) ?_ ?_
                                    rotate_left
                                    · show Act.put _ (some 114) _ = _
                                      simp only [Act.put, List.setIfInBounds_toArray, List.set_cons_zero, List.set_cons_succ, i64_w, i32_w]
                                      rfl
                                    refine pure_ (i := 13) (N := some 115) (v := ?_) (a' := ?_) #[true, true, true, true, true, true, true, true, true, true, true, true, true, true, false, false, false, false, false, false, false, false, false, false, false, false, false, false, false] rfl rfl (any_of HT_.out (by kernel_rfl)) (fun _ _ _ h => h) (Or.inl ⟨by rfl, ?_⟩) ?_ ?_
                                    rotate_left
                                    · intro w'
                                      go_simp
                                      with_reducible rfl
                                    rotate_left
                                    · simp only [Act.put, List.setIfInBounds_toArray, List.set_cons_zero, List.set_cons_succ, i64_w, i32_w]
                                      rfl
                                    refine pure_ (i := 14) (N := some 116) (v := ?_) (a' := ?_) #[true, true, true, true, true, true, true, true, true, true, true, true, true, true, true, false, false, false, false, false, false, false, false, false, false, false, false, false, false] rfl rfl (any_of HT_.out (by kernel_rfl)) (fun _ _ _ h => h) (Or.inl ⟨by rfl, ?_⟩) ?_ ?_
                                    rotate_left
                                    · intro w'
                                      go_simp
                                      with_reducible rfl
                                    rotate_left
                                    · simp only [Act.put, List.setIfInBounds_toArray, List.set_cons_zero, List.set_cons_succ, i64_w, i32_w]
                                      rfl
                                    refine pure_ (i := 15) (N := some 117) (v := ?_) (a' := ?_) #[true, true, true, true, true, true, true, true, true, true, true, true, true, true, true, true, false, false, false, false, false, false, false, false, false, false, false, false, false] rfl rfl (any_of HT_.out (by kernel_rfl)) (fun _ _ _ h => h) (Or.inl ⟨by rfl, ?_⟩) ?_ ?_
                                    rotate_left
                                    · intro w'
                                      go_simp
                                      with_reducible rfl
                                    rotate_left
                                    · simp only [Act.put, List.setIfInBounds_toArray, List.set_cons_zero, List.set_cons_succ, i64_w, i32_w]
                                      rfl
                                    refine pure_ (i := 16) (N := some 118) (v := ?_) (a' := ?_) #[true, true, true, true, true, true, true, true, true, true, true, true, true, true, true, true, true, false, false, false, false, false, false, false, false, false, false, false, false] rfl rfl (any_of HT_.out (by kernel_rfl)) (fun _ _ _ h => h) (Or.inl ⟨by rfl, ?_⟩) ?_ ?_
                                    rotate_left
                                    · intro w'
                                      go_simp
                                      with_reducible rfl
                                    rotate_left
                                    · simp only [Act.put, List.setIfInBounds_toArray, List.set_cons_zero, List.set_cons_succ, i64_w, i32_w]
                                      rfl
                                    refine pure_ (i := 17) (N := some 119) (v := ?_) (a' := ?_) #[true, true, true, true, true, true, true, true, true, true, true, true, true, true, true, true, true, true, false, false, false, false, false, false, false, false, false, false, false] rfl rfl (any_of HT_.out (by kernel_rfl)) (fun _ _ _ h => h) (Or.inl ⟨by rfl, ?_⟩) ?_ ?_
                                    rotate_left
                                    · intro w'
                                      go_simp
                                      with_reducible rfl
                                    rotate_left
                                    · simp only [Act.put, List.setIfInBounds_toArray, List.set_cons_zero, List.set_cons_succ, i64_w, i32_w]
                                      rfl
                                    refine pure_ (i := 19) (N := some 121) (v := ?_) (a' := ?_) #[true, true, true, true, true, true, true, true, true, true, true, true, true, true, true, true, true, true, false, true, false, false, false, false, false, false, false, false, false] rfl rfl (any_of HT_.out (by kernel_rfl)) (fun _ _ _ h => h) (Or.inl ⟨by rfl, ?_⟩) ?_ ?_
                                    rotate_left
                                    · intro w'
                                      go_simp
                                      with_reducible rfl
                                    rotate_left
                                    · simp only [Act.put, List.setIfInBounds_toArray, List.set_cons_zero, List.set_cons_succ, i64_w, i32_w]
                                      rfl
                                    refine pure_ (i := 20) (N := some 122) (v := ?_) (a' := ?_) #[true, true, true, true, true, true, true, true, true, true, true, true, true, true, true, true, true, true, false, true, true, false, false, false, false, false, false, false, false] rfl rfl (any_of HT_.out (by kernel_rfl)) (fun _ _ _ h => h) (Or.inl ⟨by rfl, ?_⟩) ?_ ?_
                                    rotate_left
                                    · intro w'
                                      go_simp
                                      with_reducible rfl
                                    rotate_left
                                    · simp only [Act.put, List.setIfInBounds_toArray, List.set_cons_zero, List.set_cons_succ, i64_w, i32_w]
                                      rfl
                                    refine pure_ (i := 21) (N := some 123) (v := ?_) (a' := ?_) #[true, true, true, true, true, true, true, true, true, true, true, true, true, true, true, true, true, true, false, true, true, true, false, false, false, false, false, false, false] rfl rfl (any_of HT_.out (by kernel_rfl)) (fun _ _ _ h => h) (Or.inl ⟨by rfl, ?_⟩) ?_ ?_
                                    rotate_left
                                    · intro w'
                                      go_simp
                                      with_reducible rfl
                                    rotate_left
                                    · simp only [Act.put, List.setIfInBounds_toArray, List.set_cons_zero, List.set_cons_succ, i64_w, i32_w]
                                      rfl
                                    refine pure_ (i := 24) (N := some 126) (v := ?_) (a' := ?_) #[true, true, true, true, true, true, true, true, true, true, true, true, true, true, true, true, true, true, false, true, true, true, false, false, true, false, false, false, false] rfl rfl (any_of HT_.out (by kernel_rfl)) (fun _ _ _ h => h) (Or.inl ⟨by rfl, ?_⟩) ?_ ?_
                                    rotate_left
                                    · intro w'
                                      go_simp
                                      with_reducible rfl
                                    rotate_left
                                    · simp only [Act.put, List.setIfInBounds_toArray, List.set_cons_zero, List.set_cons_succ, i64_w, i32_w]
                                      rfl
                                    refine one_ (i := 18) (N := some 120) #[true, true, true, true, true, true, true, true, true, true, true, true, true, true, true, true, true, true, true, true, true, true, false, false, true, false, false, false, false] rfl rfl (one_of HT_.out (by kernel_rfl)) (by decide) (fun K hK => ?_)
                                    refine goes_ Try.func42 (by kernel_rfl) rfl #[.slice A1 y783.length c1] (by rfl) rfl rfl (by (try simp only [List.map_toArray, List.map_cons, List.map_nil]); first | done | rfl | (simp only [List.length_drop, List.length_take]; rfl)) ?_
                                    with_reducible refine (branch_Size.calls kj25 _ _ y783 t787 _ ?side1 ?side2 A52.out).mono ?_
                                    (case side1 => repeat (first | exact (Kd.C_below HR786.out (by repeat (first | (with_reducible first | exact HB.out | apply below_alloc | apply pw_below_drewN | apply below_drew1 | refine below_set ?_ GE750.out | refine below_set ?_ GE758.out | refine below_set ?_ GE773.out) | exact HB.out))) | (with_reducible refine Kd.C_alloc ?_ _) | (with_reducible refine Kd.C_drewN ?_ _) | (with_reducible refine Kd.C_drew ?_)))
                                    (case side2 => exact HC786.out)
                                    rintro e w68 ⟨rfl, hb⟩
                                    refine ⟨_, rfl, ?_⟩
                                    have n0_ := Aside0.mk (Kd.R_below (by (with_reducible repeat (first | apply Kd.R_alloc | apply Kd.R_drewN | apply Kd.R_drew)); exact HO776.out) hb)
                                    have n1_ := Aside0.mk (blk_below (g := gb750) (o := .cells #[.int .i64 t743, .int .i64 t744, .int .u32 t745, .int .u32 t746, .int .u64 t747, .string t748] 39 (0, 0)) (by (with_reducible repeat (first | refine blk_drewN ?_ _ | refine blk_drew ?_ | refine blk_alloc ?_ _)); exact BK750.out) hb)
                                    have n2_ := Aside0.mk (blk_below (g := gb758) (o := .cells #[.int .i64 t751, .int .i64 t752, .int .u32 t753, .int .u32 t754, .int .u64 t755, .string t756] 39 (0, 0)) (by (with_reducible repeat (first | refine blk_drewN ?_ _ | refine blk_drew ?_ | refine blk_alloc ?_ _)); exact BK758.out) hb)
                                    have n3_ := Aside0.mk (blk_below (g := gb773) (o := .cells #[.int .i64 t766, .int .i64 t767, .int .u32 t768, .int .u32 t769, .int .u64 t770, .string t771] 39 (0, 0)) (by (with_reducible repeat (first | refine blk_drewN ?_ _ | refine blk_drew ?_ | refine blk_alloc ?_ _)); exact BK773.out) hb)
                                    have n4_ := Aside0.mk (below_step (by repeat (first | (with_reducible first | exact HB.out | apply below_alloc | apply pw_below_drewN | apply below_drew1 | refine below_set ?_ GE750.out | refine below_set ?_ GE758.out | refine below_set ?_ GE773.out) | exact HB.out)) hb)
                                    clear HO776
                                    clear BK750
                                    clear BK758
                                    clear BK773
                                    clear HB
                                    have HO776 := n0_
                                    have BK750 := n1_
                                    have BK758 := n2_
                                    have BK773 := n3_
                                    have HB := n4_
                                    clear n0_ n1_ n2_ n3_ n4_
                                    (try clear hb)
                                    (try clear hb2)
                                    (try clear hk)
                                    (try clear hi)
                                    have q69 : (t760 : Int) ≤ ((l1.length : Int) : Int) := of_decide_eq_true (by first | (with_reducible assumption) | assumption)
                                    obtain ⟨i069, hi069, _, hsz69, _⟩ := info_parts info46
                                    have hroom69 : l1.length ≤ c1 := HC1.out
                                    have hC69 : Kd.C k46 _ A1 l1.length l1 := HR1.out
                                    have q069 : (0 : Int) ≤ (t760 : Int) := of_decide_eq_true (by first | (with_reducible assumption) | assumption)
                                    have hcut69 := cut_from (P := Try.prog) 36 46 .i64 Try.underlying36 hi069 2 hsz69 A1 l1.length c1 t760 q069 q69
                                    have hr69 := Kd.C_drop (m := (t760 : Int).toNat) (c := c1) hC69 (by omega) hroom69
                                    obtain ⟨A69, hA69⟩ : ∃ Az_, Az_ = (if c1 = (t760 : Int).toNat then A1 else (A1 : Option Addr).map (·.add ((t760 : Int).toNat * 2))) := ⟨_, rfl⟩
                                    obtain ⟨c69, hc69⟩ : ∃ cz_, cz_ = c1 - (t760 : Int).toNat := ⟨_, rfl⟩
                                    have hy69 : y788.length = l1.length - (t760 : Int).toNat := (by rw [Ny788.out, List.length_drop] <;> omega)
                                    rw [show (l1).drop (t760 : Int).toNat = y788 from Ny788.out.symm] at hr69
                                    replace hr69 : Kd.C k46 _ A69 y788.length y788 := (by rw [hA69]; exact hr69)
                                    have KC69 := Aside0.mk hc69
                                    rw [← hy69, ← hA69, ← hc69] at hcut69
                                    have HR791 := Aside0.mk hr69
                                    have HC791 := Aside0.mk (show y788.length ≤ c69 from by rw [hy69, hc69]; exact Nat.sub_le_sub_right hroom69 _)
                                    clear hr69 hC69 hroom69 hi069 hsz69 hc69
                                    have KY69 := Aside0.mk hy69
                                    have KA69 := Aside0.mk hA69
                                    clear hy69 hA69
                                    replace q69 := eq_true q69
                                    refine hK.out _ _ trivial (fun hHeld => ?_)
                                    clear hK K
                                    refine norm_ (a' := ?_) ?_ ?_
                                    rotate_left
                                    · show Act.put _ (some 120) _ = _
                                      simp only [Act.put, List.setIfInBounds_toArray, List.set_cons_zero, List.set_cons_succ, i64_w, i32_w]
                                      rfl
                                    refine one_ (i := 22) (N := some 124) #[true, true, true, true, true, true, true, true, true, true, true, true, true, true, true, true, true, true, true, true, true, true, true, false, true, false, false, false, false] rfl rfl (one_of HT_.out (by kernel_rfl)) (by decide) (fun K hK => ?_)
                                    refine goes_ Try.func42 (by kernel_rfl) rfl #[.slice A69 y788.length c69] (by rfl) rfl rfl (by (try simp only [List.map_toArray, List.map_cons, List.map_nil]); first | done | rfl | (rw [KY69.out, KA69.out, KC69.out]; rfl) | (simp only [List.length_drop, List.length_take]; rfl)) ?_
                                    with_reducible refine (branch_Size.calls kj25 _ _ y788 t792 _ ?side1 ?side2 A55.out).mono ?_
                                    (case side1 => repeat (first | exact (Kd.C_below HR791.out HB.out) | (with_reducible refine Kd.C_alloc ?_ _) | (with_reducible refine Kd.C_drewN ?_ _) | (with_reducible refine Kd.C_drew ?_)))
                                    (case side2 => exact HC791.out)
                                    rintro e w70 ⟨rfl, hb⟩
                                    refine ⟨_, rfl, ?_⟩
                                    have n0_ := Aside0.mk (Kd.R_below (by (with_reducible repeat (first | apply Kd.R_alloc | apply Kd.R_drewN | apply Kd.R_drew)); exact HO776.out) hb)
                                    have n1_ := Aside0.mk (blk_below (g := gb750) (o := .cells #[.int .i64 t743, .int .i64 t744, .int .u32 t745, .int .u32 t746, .int .u64 t747, .string t748] 39 (0, 0)) (by (with_reducible repeat (first | refine blk_drewN ?_ _ | refine blk_drew ?_ | refine blk_alloc ?_ _)); exact BK750.out) hb)
                                    have n2_ := Aside0.mk (blk_below (g := gb758) (o := .cells #[.int .i64 t751, .int .i64 t752, .int .u32 t753, .int .u32 t754, .int .u64 t755, .string t756] 39 (0, 0)) (by (with_reducible repeat (first | refine blk_drewN ?_ _ | refine blk_drew ?_ | refine blk_alloc ?_ _)); exact BK758.out) hb)
                                    have n3_ := Aside0.mk (blk_below (g := gb773) (o := .cells #[.int .i64 t766, .int .i64 t767, .int .u32 t768, .int .u32 t769, .int .u64 t770, .string t771] 39 (0, 0)) (by (with_reducible repeat (first | refine blk_drewN ?_ _ | refine blk_drew ?_ | refine blk_alloc ?_ _)); exact BK773.out) hb)
                                    have n4_ := Aside0.mk (below_step (by repeat (first | (with_reducible first | exact HB.out | apply below_alloc | apply pw_below_drewN | apply below_drew1 | refine below_set ?_ GE750.out | refine below_set ?_ GE758.out | refine below_set ?_ GE773.out) | exact HB.out)) hb)
                                    clear HO776
                                    clear BK750
                                    clear BK758
                                    clear BK773
                                    clear HB
                                    have HO776 := n0_
                                    have BK750 := n1_
                                    have BK758 := n2_
                                    have BK773 := n3_
                                    have HB := n4_
                                    clear n0_ n1_ n2_ n3_ n4_
                                    (try clear hb)
                                    (try clear hb2)
                                    (try clear hk)
                                    (try clear hi)
                                    refine hK.out _ _ trivial (fun hHeld => ?_)
                                    clear hK K
                                    refine norm_ (a' := ?_) ?_ ?_
                                    rotate_left
                                    · show Act.put _ (some 124) _ = _
                                      simp only [Act.put, List.setIfInBounds_toArray, List.set_cons_zero, List.set_cons_succ, i64_w, i32_w]
                                      rfl
                                    refine pure_ (i := 23) (N := some 125) (v := ?_) (a' := ?_) #[true, true, true, true, true, true, true, true, true, true, true, true, true, true, true, true, true, true, true, true, true, true, true, true, true, false, false, false, false] rfl rfl (any_of HT_.out (by kernel_rfl)) (fun _ _ _ h => h) (Or.inl ⟨by rfl, ?_⟩) ?_ ?_
                                    rotate_left
                                    · intro w'
                                      go_simp
                                      with_reducible rfl
                                    rotate_left
                                    · simp only [Act.put, List.setIfInBounds_toArray, List.set_cons_zero, List.set_cons_succ, i64_w, i32_w]
                                      rfl
                                    refine one_ (i := 25) (N := some 127) #[true, true, true, true, true, true, true, true, true, true, true, true, true, true, true, true, true, true, true, true, true, true, true, true, true, true, false, false, false] rfl rfl (one_of HT_.out (by kernel_rfl)) (by decide) (fun K hK => ?_)
                                    refine goes_ Try.func42 (by kernel_rfl) rfl #[.slice A1 l1.length c1] (by rfl) rfl rfl (by (try simp only [List.map_toArray, List.map_cons, List.map_nil]); first | done | rfl | (simp only [List.length_drop, List.length_take]; rfl)) ?_
                                    with_reducible refine (branch_Size.calls kj25 _ _ l1 t793 _ ?side1 ?side2 A56.out).mono ?_
                                    (case side1 => repeat (first | exact (Kd.C_below HR1.out HB.out) | (with_reducible refine Kd.C_alloc ?_ _) | (with_reducible refine Kd.C_drewN ?_ _) | (with_reducible refine Kd.C_drew ?_)))
                                    (case side2 => exact HC1.out)
                                    rintro e w71 ⟨rfl, hb⟩
                                    refine ⟨_, rfl, ?_⟩
                                    have n0_ := Aside0.mk (Kd.R_below (by (with_reducible repeat (first | apply Kd.R_alloc | apply Kd.R_drewN | apply Kd.R_drew)); exact HO776.out) hb)
                                    have n1_ := Aside0.mk (blk_below (g := gb750) (o := .cells #[.int .i64 t743, .int .i64 t744, .int .u32 t745, .int .u32 t746, .int .u64 t747, .string t748] 39 (0, 0)) (by (with_reducible repeat (first | refine blk_drewN ?_ _ | refine blk_drew ?_ | refine blk_alloc ?_ _)); exact BK750.out) hb)
                                    have n2_ := Aside0.mk (blk_below (g := gb758) (o := .cells #[.int .i64 t751, .int .i64 t752, .int .u32 t753, .int .u32 t754, .int .u64 t755, .string t756] 39 (0, 0)) (by (with_reducible repeat (first | refine blk_drewN ?_ _ | refine blk_drew ?_ | refine blk_alloc ?_ _)); exact BK758.out) hb)
                                    have n3_ := Aside0.mk (blk_below (g := gb773) (o := .cells #[.int .i64 t766, .int .i64 t767, .int .u32 t768, .int .u32 t769, .int .u64 t770, .string t771] 39 (0, 0)) (by (with_reducible repeat (first | refine blk_drewN ?_ _ | refine blk_drew ?_ | refine blk_alloc ?_ _)); exact BK773.out) hb)
                                    have n4_ := Aside0.mk (below_step (by repeat (first | (with_reducible first | exact HB.out | apply below_alloc | apply pw_below_drewN | apply below_drew1 | refine below_set ?_ GE750.out | refine below_set ?_ GE758.out | refine below_set ?_ GE773.out) | exact HB.out)) hb)
                                    clear HO776
                                    clear BK750
                                    clear BK758
                                    clear BK773
                                    clear HB
                                    have HO776 := n0_
                                    have BK750 := n1_
                                    have BK758 := n2_
                                    have BK773 := n3_
                                    have HB := n4_
                                    clear n0_ n1_ n2_ n3_ n4_
                                    (try clear hb)
                                    (try clear hb2)
                                    (try clear hk)
                                    (try clear hi)
                                    refine hK.out _ _ trivial (fun hHeld => ?_)
                                    clear hK K
                                    refine norm_ (a' := ?_) ?_ ?_
                                    rotate_left
                                    · show Act.put _ (some 127) _ = _
                                      simp only [Act.put, List.setIfInBounds_toArray, List.set_cons_zero, List.set_cons_succ, i64_w, i32_w]
                                      rfl
                                    refine pure_ (i := 26) (N := some 128) (v := ?_) (a' := ?_) #[true, true, true, true, true, true, true, true, true, true, true, true, true, true, true, true, true, true, true, true, true, true, true, true, true, true, true, false, false] rfl rfl (any_of HT_.out (by kernel_rfl)) (fun _ _ _ h => h) (Or.inl ⟨by rfl, ?_⟩) ?_ ?_
                                    rotate_left
                                    · intro w'
                                      go_simp
                                      with_reducible rfl
                                    rotate_left
                                    · simp only [Act.put, List.setIfInBounds_toArray, List.set_cons_zero, List.set_cons_succ, i64_w, i32_w]
                                      rfl
                                    refine pure_ (i := 27) (N := some 129) (v := ?_) (a' := ?_) #[true, true, true, true, true, true, true, true, true, true, true, true, true, true, true, true, true, true, true, true, true, true, true, true, true, true, true, true, false] rfl rfl (any_of HT_.out (by kernel_rfl)) (fun _ _ _ h => h) (Or.inl ⟨by rfl, ?_⟩) ?_ ?_
                                    rotate_left
                                    · intro w'
                                      go_simp
                                      with_reducible rfl
                                    rotate_left
                                    · simp only [Act.put, List.setIfInBounds_toArray, List.set_cons_zero, List.set_cons_succ, i64_w, i32_w]
                                      rfl
                                    refine pure_ (i := 28) (N := some 8) (v := ?_) (a' := ?_) #[true, true, true, true, true, true, true, true, true, true, true, true, true, true, true, true, true, true, true, true, true, true, true, true, true, true, true, true, true] rfl rfl (any_of HT_.out (by kernel_rfl)) (fun _ _ _ h => h) (Or.inl ⟨by rfl, ?_⟩) ?_ ?_
                                    rotate_left
                                    · intro w'
                                      go_simp
                                      with_reducible rfl
                                    rotate_left
                                    · simp only [Act.put, List.setIfInBounds_toArray, List.set_cons_zero, List.set_cons_succ, i64_w, i32_w]
                                      rfl
                                    refine done_ (done_of HT_.out (by kernel_rfl)) ?_
                                    try go_wp2
                                    all_goals (go_ret; exact ⟨by first | rfl | (simp [errW_none, errW_some] <;> rfl) | (simp [*, errW_none, errW_some] <;> rfl), by repeat (first | (with_reducible first | exact HB.out | apply below_alloc | apply pw_below_drewN | apply below_drew1 | refine below_set ?_ GE750.out | refine below_set ?_ GE758.out | refine below_set ?_ GE773.out) | exact HB.out)⟩)
                                  · rw [if_neg c51] at H
                                    exact absurd H (by simp)
                                · replace c49 := Bool.eq_false_iff.mpr c49
                                  subst c49
                                  have H1 : (some false) = some r := by rw [if_neg (show ¬ (false = true) by decide)] at H; exact H
                                  clear H
                                  have H := H1
                                  clear H1
                                  exact absurd ((Option.some.inj H).trans HLaw.out) (by simp)
                              · rw [if_neg c44] at H
                                have c44b0 : (t777 == 0) = false := beq_eq_false_iff_ne.mpr c44
                                have c44b1 : (t777 != 0) = true := bne_iff_ne.mpr c44
                                exact absurd ((Option.some.inj H).trans HLaw.out) (by simp)
                            · rw [if_neg c43] at H
                              have c43b0 : (t772 == 0) = false := beq_eq_false_iff_ne.mpr c43
                              have c43b1 : (t772 != 0) = true := bne_iff_ne.mpr c43
                              exact absurd ((Option.some.inj H).trans HLaw.out) (by simp)
                          · rw [if_neg c41] at H
                            have c41b0 : (t757 == 0) = false := beq_eq_false_iff_ne.mpr c41
                            have c41b1 : (t757 != 0) = true := bne_iff_ne.mpr c41
                            obtain rfl := Option.some.inj H
                            go_wp2_with (first | ((with_reducible refine gate_callee (f := 18) rfl ?_); refine goesL_ (some 76) rfl rfl Try.func18 (by kernel_rfl) rfl #[.int .i64 a2, .int .i64 (l1.length : Int)] rfl (by (try simp only [List.map_toArray, List.map_cons, List.map_nil]); first | done | rfl | (simp only [List.length_drop, List.length_take]; rfl)) ?_; (with_reducible refine (careenagekit_Pick.calls a2 (l1.length : Int) t760 _ A35.out).mono ?_); rintro e w' ⟨rfl, ⟨nd, rfl⟩⟩; refine ⟨_, rfl, ?_⟩; (try (rw [drewN_self wc]; generalize hq_ : World.drewN wc _ = wc; have n0_ : Aside0 (wc.heap[gb750]? = some (.cells #[.int .i64 t743, .int .i64 t744, .int .u32 t745, .int .u32 t746, .int .u64 t747, .string t748] 39 (0, 0))) := ⟨by rw [← hq_]; exact (by (with_reducible repeat (first | refine blk_drewN ?_ _ | refine blk_drew ?_ | refine blk_alloc ?_ _)); exact BK750.out)⟩; have n1_ : Aside0 (wc.heap[gb758]? = some (.cells #[.int .i64 t751, .int .i64 t752, .int .u32 t753, .int .u32 t754, .int .u64 t755, .string t756] 39 (0, 0))) := ⟨by rw [← hq_]; exact (by (with_reducible repeat (first | refine blk_drewN ?_ _ | refine blk_drew ?_ | refine blk_alloc ?_ _)); exact BK758.out)⟩; have n2_ : Aside0 (Below w.heap.size w wc) := ⟨by rw [← hq_]; exact (by repeat (first | (with_reducible first | exact HB.out | apply below_alloc | apply pw_below_drewN | apply below_drew1 | refine below_set ?_ GE750.out | refine below_set ?_ GE758.out) | exact HB.out))⟩; clear BK750 BK758 HB hq_; have BK750 := n0_; have BK758 := n1_; have HB := n2_; clear n0_ n1_ n2_))) | ((with_reducible refine gate_callee (f := 18) rfl ?_); refine goesL_ (some 84) rfl rfl Try.func18 (by kernel_rfl) rfl #[.int .i64 a3, .int .i64 (wrap64 ((l1.length : Int) - t760))] rfl (by (try simp only [List.map_toArray, List.map_cons, List.map_nil]); first | done | rfl | (simp only [List.length_drop, List.length_take]; rfl)) ?_; (with_reducible refine (careenagekit_Pick.calls a3 (wrap64 ((l1.length : Int) - t760)) t761 _ A36.out).mono ?_); rintro e w' ⟨rfl, ⟨nd, rfl⟩⟩; refine ⟨_, rfl, ?_⟩; (try (rw [drewN_self wc]; generalize hq_ : World.drewN wc _ = wc; have n0_ : Aside0 (wc.heap[gb750]? = some (.cells #[.int .i64 t743, .int .i64 t744, .int .u32 t745, .int .u32 t746, .int .u64 t747, .string t748] 39 (0, 0))) := ⟨by rw [← hq_]; exact (by (with_reducible repeat (first | refine blk_drewN ?_ _ | refine blk_drew ?_ | refine blk_alloc ?_ _)); exact BK750.out)⟩; have n1_ : Aside0 (wc.heap[gb758]? = some (.cells #[.int .i64 t751, .int .i64 t752, .int .u32 t753, .int .u32 t754, .int .u64 t755, .string t756] 39 (0, 0))) := ⟨by rw [← hq_]; exact (by (with_reducible repeat (first | refine blk_drewN ?_ _ | refine blk_drew ?_ | refine blk_alloc ?_ _)); exact BK758.out)⟩; have n2_ : Aside0 (Below w.heap.size w wc) := ⟨by rw [← hq_]; exact (by repeat (first | (with_reducible first | exact HB.out | apply below_alloc | apply pw_below_drewN | apply below_drew1 | refine below_set ?_ GE750.out | refine below_set ?_ GE758.out) | exact HB.out))⟩; clear BK750 BK758 HB hq_; have BK750 := n0_; have BK758 := n1_; have HB := n2_; clear n0_ n1_ n2_)); have q72 : ((wrap64 ((wrap64 (t760 + 1)) + t761)) : Int) ≤ ((l1.length : Int) : Int) := of_decide_eq_true (by first | (with_reducible assumption) | assumption); obtain ⟨i072, hi072, _, hsz72, _⟩ := info_parts info46; have hroom72 : l1.length ≤ c1 := HC1.out; have hC72 : Kd.C k46 _ A1 l1.length l1 := HR1.out; have ql72 : (t760 : Int) ≤ ((wrap64 ((wrap64 (t760 + 1)) + t761)) : Int) := of_decide_eq_true (by first | (with_reducible assumption) | assumption); have q072 : (0 : Int) ≤ (t760 : Int) := of_decide_eq_true (by first | (with_reducible assumption) | assumption); (try clear hcut57); (try clear hcut65); have hcut72 := cut_mid (P := Try.prog) 36 46 .i64 .i64 Try.underlying36 hi072 2 hsz72 A1 l1.length c1 t760 (wrap64 ((wrap64 (t760 + 1)) + t761)) q072 ql72 q72 hroom72; have hr72 := Kd.C_mid (lo := (t760 : Int).toNat) (hi := ((wrap64 ((wrap64 (t760 + 1)) + t761)) : Int).toNat) (c := c1) hC72 (by omega) (by omega) hroom72; obtain ⟨A72, hA72⟩ : ∃ Az_, Az_ = (if c1 = (t760 : Int).toNat then A1 else (A1 : Option Addr).map (·.add ((t760 : Int).toNat * 2))) := ⟨_, rfl⟩; obtain ⟨c72, hc72⟩ : ∃ cz_, cz_ = c1 - (t760 : Int).toNat := ⟨_, rfl⟩; have hy72 : y762.length = ((wrap64 ((wrap64 (t760 + 1)) + t761)) : Int).toNat - (t760 : Int).toNat := (by rw [Ny762.out, List.length_drop, List.length_take] <;> omega); rw [show ((l1).take ((wrap64 ((wrap64 (t760 + 1)) + t761)) : Int).toNat).drop (t760 : Int).toNat = y762 from Ny762.out.symm] at hr72; replace hr72 : Kd.C k46 _ A72 y762.length y762 := (by rw [hA72]; exact hr72); rw [← hy72, ← hA72, ← hc72] at hcut72; have HR765 := Aside0.mk hr72; have HC765 := Aside0.mk (show y762.length ≤ c72 from by rw [hy72, hc72]; exact Nat.sub_le_sub_right (Nat.le_trans (by omega) hroom72) _); clear hr72 hC72 hroom72 hi072 hsz72 hc72; have KY72 := Aside0.mk hy72; have KA72 := Aside0.mk hA72; clear hy72 hA72; replace q72 := eq_true q72) | ((with_reducible refine gate_callee (f := 23) rfl ?_); refine goesL_ (some 92) rfl rfl Try.func23 (by kernel_rfl) rfl #[.int .i64 a0, .int .u32 2, .int .u64 0, .slice A72 y762.length c72] rfl (by (try simp only [List.map_toArray, List.map_cons, List.map_nil]); first | done | rfl | (simp only [List.length_drop, List.length_take]; rfl)) ?_; (with_reducible refine (branch_Page.calls kj25 a0 2 0 _ _ y762 t766 t767 t768 t769 t770 t771 t772 _ ?side1 ?side2 A40.out).mono ?_); (case side1 => repeat (first | exact (Kd.C_below HR765.out HB.out) | (with_reducible refine Kd.C_alloc ?_ _) | (with_reducible refine Kd.C_drewN ?_ _) | (with_reducible refine Kd.C_drew ?_))); (case side2 => exact HC765.out); rintro e w73 ⟨rfl, hb⟩; refine ⟨_, rfl, ?_⟩; have n0_ := Aside0.mk (blk_below (g := gb750) (o := .cells #[.int .i64 t743, .int .i64 t744, .int .u32 t745, .int .u32 t746, .int .u64 t747, .string t748] 39 (0, 0)) (by (with_reducible repeat (first | refine blk_drewN ?_ _ | refine blk_drew ?_ | refine blk_alloc ?_ _)); exact BK750.out) hb); have n1_ := Aside0.mk (blk_below (g := gb758) (o := .cells #[.int .i64 t751, .int .i64 t752, .int .u32 t753, .int .u32 t754, .int .u64 t755, .string t756] 39 (0, 0)) (by (with_reducible repeat (first | refine blk_drewN ?_ _ | refine blk_drew ?_ | refine blk_alloc ?_ _)); exact BK758.out) hb); have n2_ := Aside0.mk (below_step (by repeat (first | (with_reducible first | exact HB.out | apply below_alloc | apply pw_below_drewN | apply below_drew1 | refine below_set ?_ GE750.out | refine below_set ?_ GE758.out) | exact HB.out)) hb); clear BK750; clear BK758; clear HB; have BK750 := n0_; have BK758 := n1_; have HB := n2_; clear n0_ n1_ n2_; (try clear hb); (try clear hb2); (try clear hk); (try clear hi)) | ((with_reducible refine gate_dst (N := 14) rfl ?_); (try (refine gate_guard (by rfl) ?_; dsimp only)); refine box_event ?hg (N := 14) ?hd (cs := #[.int .i64 0, .int .i64 0, .int .u32 0, .int .u32 0, .int .u64 0, .string (⟨#[]⟩ : ByteArray)]) (t := 39) ?hr ?_; (case hd => rfl); (case hg => rfl); (case hr => first | (go_simp; done) | (go_simp; rfl)); intro gb773 hg w74 hbox hb; have n0_ := Aside0.mk (blk_below (g := gb750) (o := .cells #[.int .i64 t743, .int .i64 t744, .int .u32 t745, .int .u32 t746, .int .u64 t747, .string t748] 39 (0, 0)) (by (with_reducible repeat (first | refine blk_drewN ?_ _ | refine blk_drew ?_ | refine blk_alloc ?_ _)); exact BK750.out) hb); have n1_ := Aside0.mk (blk_below (g := gb758) (o := .cells #[.int .i64 t751, .int .i64 t752, .int .u32 t753, .int .u32 t754, .int .u64 t755, .string t756] 39 (0, 0)) (by (with_reducible repeat (first | refine blk_drewN ?_ _ | refine blk_drew ?_ | refine blk_alloc ?_ _)); exact BK758.out) hb); have n2_ := Aside0.mk (below_step (by repeat (first | (with_reducible first | exact HB.out | apply below_alloc | apply pw_below_drewN | apply below_drew1 | refine below_set ?_ GE750.out | refine below_set ?_ GE758.out) | exact HB.out)) hb); have n3_ := Aside0.mk (hbox); have n4_ := Aside0.mk ((by rw [hg]; exact (below_size (by repeat (first | (with_reducible first | exact HB.out | apply below_alloc | apply pw_below_drewN | apply below_drew1 | refine below_set ?_ GE750.out | refine below_set ?_ GE758.out) | exact HB.out))) : w.heap.size ≤ gb773)); have n5_ := Aside0.mk ((by rw [hg]; exact (below_size (by repeat (first | (with_reducible first | exact HB.out | apply below_alloc | apply pw_below_drewN | apply below_drew1 | refine below_set ?_ GE750.out | refine below_set ?_ GE758.out) | exact HB.out))) : w.heap.size ≤ gb773)); have n6_ := Aside0.mk ((by rw [hg]; exact Nat.ne_of_lt (blk_lt (g := gb750) (o := .cells #[.int .i64 t743, .int .i64 t744, .int .u32 t745, .int .u32 t746, .int .u64 t747, .string t748] 39 (0, 0)) (by (with_reducible repeat (first | refine blk_drewN ?_ _ | refine blk_drew ?_ | refine blk_alloc ?_ _)); exact BK750.out)) : gb750 ≠ gb773)); have n7_ := Aside0.mk ((by rw [hg]; exact Nat.ne_of_gt (blk_lt (g := gb750) (o := .cells #[.int .i64 t743, .int .i64 t744, .int .u32 t745, .int .u32 t746, .int .u64 t747, .string t748] 39 (0, 0)) (by (with_reducible repeat (first | refine blk_drewN ?_ _ | refine blk_drew ?_ | refine blk_alloc ?_ _)); exact BK750.out)) : gb773 ≠ gb750)); have n8_ := Aside0.mk ((by rw [hg]; exact Nat.ne_of_lt (blk_lt (g := gb758) (o := .cells #[.int .i64 t751, .int .i64 t752, .int .u32 t753, .int .u32 t754, .int .u64 t755, .string t756] 39 (0, 0)) (by (with_reducible repeat (first | refine blk_drewN ?_ _ | refine blk_drew ?_ | refine blk_alloc ?_ _)); exact BK758.out)) : gb758 ≠ gb773)); have n9_ := Aside0.mk ((by rw [hg]; exact Nat.ne_of_gt (blk_lt (g := gb758) (o := .cells #[.int .i64 t751, .int .i64 t752, .int .u32 t753, .int .u32 t754, .int .u64 t755, .string t756] 39 (0, 0)) (by (with_reducible repeat (first | refine blk_drewN ?_ _ | refine blk_drew ?_ | refine blk_alloc ?_ _)); exact BK758.out)) : gb773 ≠ gb758)); clear BK750; clear BK758; clear HB; have BK750 := n0_; have BK758 := n1_; have HB := n2_; have BK773 := n3_; have GW773 := n4_; have GE773 := n5_; have NB750_773 := n6_; have NB773_750 := n7_; have NB758_773 := n8_; have NB773_758 := n9_; clear n0_ n1_ n2_ n3_ n4_ n5_ n6_ n7_ n8_ n9_; clear hb hbox hg; have hnb75 := NB773_750.out; have hnc75 := NB750_773.out; have hnb76 := NB773_758.out; have hnc76 := NB758_773.out; have hcz77_0 : w74.cell? ⟨gb773, 0, none⟩ = some (.int .i64 0) := (blk_cell BK773.out 0).trans rfl; have hcz77_1 : w74.cell? ⟨gb773, 1, none⟩ = some (.int .i64 0) := (blk_cell BK773.out 1).trans rfl; have hcz77_2 : w74.cell? ⟨gb773, 2, none⟩ = some (.int .u32 0) := (blk_cell BK773.out 2).trans rfl; have hcz77_3 : w74.cell? ⟨gb773, 3, none⟩ = some (.int .u32 0) := (blk_cell BK773.out 3).trans rfl; have hcz77_4 : w74.cell? ⟨gb773, 4, none⟩ = some (.int .u64 0) := (blk_cell BK773.out 4).trans rfl; have hcz77_5 : w74.cell? ⟨gb773, 5, none⟩ = some (.string (⟨#[]⟩ : ByteArray)) := (blk_cell BK773.out 5).trans rfl; have hfz77_0 := blk_frozen BK773.out 0; have hfz77_1 := blk_frozen BK773.out 1; have hfz77_2 := blk_frozen BK773.out 2; have hfz77_3 := blk_frozen BK773.out 3; have hfz77_4 := blk_frozen BK773.out 4; have hfz77_5 := blk_frozen BK773.out 5))
                            all_goals (go_ret; exact ⟨by first | rfl | (simp [errW_none, errW_some] <;> rfl) | (simp [*, errW_none, errW_some] <;> rfl), by repeat (first | (with_reducible first | exact HB.out | apply below_alloc | apply pw_below_drewN | apply below_drew1 | refine below_set ?_ GE750.out | refine below_set ?_ GE758.out | refine below_set ?_ GE773.out) | exact HB.out)⟩)
                        · rw [if_neg c39] at H
                          exact absurd H (by simp)
                      · rw [if_neg c38] at H
                        exact absurd H (by simp)
                    · rw [if_neg c37] at H
                      exact absurd H (by simp)
  · replace c6 := Bool.eq_false_iff.mpr c6
    subst c6
    have H1 : (some false) = some r := by rw [if_neg (show ¬ (false = true) by decide)] at H; exact H
    clear H
    have H := H1
    clear H1
    exact absurd ((Option.some.inj H).trans HLaw.out) (by simp)
/-- THE ONE PURE STATEMENT of careenagelaw07_BranchFits: yours. -/
def careenagelaw07_BranchFits.Pure : Prop := ∀ (a0 : Int) (l1 : List (S46)) (a2 : Int) (a3 : Int), (Lit.int .i64 a0).wf = true → l1.length ≤ maxLen → l1.length * 24 ≤ 140737488351232 → (∀ x ∈ l1, (x.f0.size ≤ 140737488351232) ∧ ((Lit.int .u32 x.f1).wf = true)) → (Lit.int .i64 a2).wf = true → (Lit.int .i64 a3).wf = true → ∃ k, careenagelaw07_BranchFits.f k a0 l1 a2 a3 = some true
theorem careenagelaw07_BranchFits.walk (P : careenagelaw07_BranchFits.Pure) (a0 : Int) (A1 : Option Addr) (c1 : Nat) (l1 : List (S46)) (a2 : Int) (a3 : Int) (w : World)  (hC1 : Kd.C k46 w A1 l1.length l1) (hc1 : l1.length ≤ c1)   (w0 : (Lit.int .i64 a0).wf = true) (w1 : (l1.length ≤ maxLen) ∧ (l1.length * 24 ≤ 140737488351232) ∧ ((∀ x ∈ l1, (x.f0.size ≤ 140737488351232) ∧ ((Lit.int .u32 x.f1).wf = true)))) (w2 : (Lit.int .i64 a2).wf = true) (w3 : (Lit.int .i64 a3).wf = true) :
    Calls Try.prog 13 #[.int .i64 a0, .slice A1 l1.length c1, .int .i64 a2, .int .i64 a3] w fun e w' => e = .returned (.bool true) ∧ Below w.heap.size w w' := by
  obtain ⟨k, h⟩ := P a0 l1 a2 a3 w0 w1.1 w1.2.1 w1.2.2 w2 w3
  refine (careenagelaw07_BranchFits.calls k a0 _ _ l1 a2 a3 true w hC1 hc1 rfl h).mono ?_
  rintro e w' ⟨rfl, hd⟩
  exact ⟨rfl, hd⟩
end Go.Proofs.Ytlkfcabklaaacaa.P

namespace Go.Proofs.Ytlkfcabklaaacaa.P
open Go.RowKit Go.Proofs.YtlkfcabklaaacaaW.PrintWords Go.Proofs.YtlkfcabklaaacaaW.PrintLast Go.Proofs.YtlkfcabklaaacaaW.PrintMore
attribute [local go_sem] max2_int min2_int max_two min_two max_three min_three max_four min_four   -- for this text's walks alone
open Go.Proofs.YtlkfcabklaaacaaO
attribute [local go_sem] min2_str max2_str
set_option linter.unusedVariables false
set_option linter.unusedSimpArgs false
/-! ### careenageref01_New: function 68 -/
def careenageref01_New.f (a0 : ByteArray) : Option (ByteArray) := some a0
end Go.Proofs.Ytlkfcabklaaacaa.P

namespace Go.Proofs.Ytlkfcabklaaacaa.P
open Go.RowKit Go.Proofs.YtlkfcabklaaacaaW.PrintWords Go.Proofs.YtlkfcabklaaacaaW.PrintLast Go.Proofs.YtlkfcabklaaacaaW.PrintMore
attribute [local go_sem] max2_int min2_int max_two min_two max_three min_three max_four min_four   -- for this text's walks alone
open Go.Proofs.YtlkfcabklaaacaaO
attribute [local go_sem] min2_str max2_str
set_option linter.unusedVariables false
set_option linter.unusedSimpArgs false
/-! ### careenageref01_Reader_Number: function 69 -/
mutual
def careenageref01_Reader_Number.j0 : Nat → Int → Bool → ByteArray → Option (Int × Int × ByteArray)
  | 0, _, _, _ => none
  | k + 1, x1, x13, x1000 => if x13 = true then (some (0, 2, x1000)) else (if (x1000.size : Int) < x1 then (some (0, 7, x1000)) else (careenageref01_Reader_Number.l0 k x1 0 0 x1000))
def careenageref01_Reader_Number.l0 : Nat → Int → Int → Int → ByteArray → Option (Int × Int × ByteArray)
  | 0, _, _, _, _ => none
  | k + 1, x1, x6, x7, x1000 => if x7 < x1 then (if 0 ≤ x7 then (if x7 < (x1000.size : Int) then (if 0 ≤ (IntKind.u64.wrap (wrap64 (8 * x7))) then (careenageref01_Reader_Number.l0 k x1 (Go.bits .or .u64 x6 (shl .u64 (IntKind.u64.wrap (bt x1000 x7)) (IntKind.u64.wrap (wrap64 (8 * x7))))) (wrap64 (x7 + 1)) x1000) else (none)) else (none)) else (none)) else (if 0 ≤ x1 then (if x1 ≤ (x1000.size : Int) then (some (x6, 0, x1000.extract (x1 : Int).toNat x1000.size)) else (none)) else (none))
end
def careenageref01_Reader_Number.f (k : Nat) (s0_0 : ByteArray) (a1 : Int) : Option (Int × Int × ByteArray) := if a1 < 1 then (careenageref01_Reader_Number.j0 k a1 true s0_0) else (careenageref01_Reader_Number.j0 k a1 (decide (a1 > 8)) s0_0)
end Go.Proofs.Ytlkfcabklaaacaa.P

namespace Go.Proofs.Ytlkfcabklaaacaa.P
open Go.RowKit Go.Proofs.YtlkfcabklaaacaaW.PrintWords Go.Proofs.YtlkfcabklaaacaaW.PrintLast Go.Proofs.YtlkfcabklaaacaaW.PrintMore
attribute [local go_sem] max2_int min2_int max_two min_two max_three min_three max_four min_four   -- for this text's walks alone
open Go.Proofs.YtlkfcabklaaacaaO
attribute [local go_sem] min2_str max2_str
set_option linter.unusedVariables false
set_option linter.unusedSimpArgs false
/-! ### careenageref03_Good: function 63 -/
def careenageref03_Good.f (a0 : Int) : Option (Bool) := if a0 ≥ 128 then (if a0 ≤ 4096 then (some ((Int.tmod a0 64) == 0)) else (some false)) else (some false)
end Go.Proofs.Ytlkfcabklaaacaa.P

namespace Go.Proofs.Ytlkfcabklaaacaa.P
open Go.RowKit Go.Proofs.YtlkfcabklaaacaaW.PrintWords Go.Proofs.YtlkfcabklaaacaaW.PrintLast Go.Proofs.YtlkfcabklaaacaaW.PrintMore
attribute [local go_sem] max2_int min2_int max_two min_two max_three min_three max_four min_four   -- for this text's walks alone
open Go.Proofs.YtlkfcabklaaacaaO
attribute [local go_sem] min2_str max2_str
set_option linter.unusedVariables false
set_option linter.unusedSimpArgs false
/-! ### careenageref04_Room: function 37 -/
def careenageref04_Room.f (a0 : Int) : Option (Int) := (careenageref03_Good.f a0).bind fun t325 => (if t325 = true then (some (wrap64 (a0 - 24))) else (some 0))
end Go.Proofs.Ytlkfcabklaaacaa.P

namespace Go.Proofs.Ytlkfcabklaaacaa.P
open Go.RowKit Go.Proofs.YtlkfcabklaaacaaW.PrintWords Go.Proofs.YtlkfcabklaaacaaW.PrintLast Go.Proofs.YtlkfcabklaaacaaW.PrintMore
attribute [local go_sem] max2_int min2_int max_two min_two max_three min_three max_four min_four   -- for this text's walks alone
open Go.Proofs.YtlkfcabklaaacaaO
attribute [local go_sem] min2_str max2_str
set_option linter.unusedVariables false
set_option linter.unusedSimpArgs false
/-! ### careenageref04_Number: function 65 -/
def careenageref04_Number.f (a0 : Int) : Option (Bool) := if a0 ≥ 2 then (some (decide (a0 ≤ 2147483647))) else (some false)
end Go.Proofs.Ytlkfcabklaaacaa.P

namespace Go.Proofs.Ytlkfcabklaaacaa.P
open Go.RowKit Go.Proofs.YtlkfcabklaaacaaW.PrintWords Go.Proofs.YtlkfcabklaaacaaW.PrintLast Go.Proofs.YtlkfcabklaaacaaW.PrintMore
attribute [local go_sem] max2_int min2_int max_two min_two max_three min_three max_four min_four   -- for this text's walks alone
open Go.Proofs.YtlkfcabklaaacaaO
attribute [local go_sem] min2_str max2_str
set_option linter.unusedVariables false
set_option linter.unusedSimpArgs false
/-! ### careenageref01_Put: function 66 -/
mutual
def careenageref01_Put.j0 : Nat → Int → Int → List Int → Bool → Option (List Int)
  | 0, _, _, _, _ => none
  | k + 1, x1, x2, x7, x17 => if x17 = true then (some x7) else (careenageref01_Put.l0 k x1 x2 x7 0)
def careenageref01_Put.l0 : Nat → Int → Int → List Int → Int → Option (List Int)
  | 0, _, _, _, _ => none
  | k + 1, x1, x2, x7, x8 => if x8 < x2 then (if 0 ≤ (IntKind.u64.wrap (wrap64 (8 * x8))) then (if x7.length < 140737488355328 then (careenageref01_Put.l0 k x1 x2 (x7 ++ [(shr .u64 x1 (IntKind.u64.wrap (wrap64 (8 * x8)))) % 256]) (wrap64 (x8 + 1))) else (none)) else (none)) else (some x7)
end
def careenageref01_Put.f (k : Nat) (l0 : List Int) (a1 : Int) (a2 : Int) : Option (List Int) := (some (([] : List Int) : List Int)).bind fun y332 => (if y332.length + l0.length < 140737488355328 then ((some (y332 ++ l0 : List Int)).bind fun y335 => (if a2 < 1 then (careenageref01_Put.j0 k a1 a2 y335 true) else (careenageref01_Put.j0 k a1 a2 y335 (decide (a2 > 8))))) else (none))
end Go.Proofs.Ytlkfcabklaaacaa.P

namespace Go.Proofs.Ytlkfcabklaaacaa.P
open Go.RowKit Go.Proofs.YtlkfcabklaaacaaW.PrintWords Go.Proofs.YtlkfcabklaaacaaW.PrintLast Go.Proofs.YtlkfcabklaaacaaW.PrintMore
attribute [local go_sem] max2_int min2_int max_two min_two max_three min_three max_four min_four   -- for this text's walks alone
open Go.Proofs.YtlkfcabklaaacaaO
attribute [local go_sem] min2_str max2_str
set_option linter.unusedVariables false
set_option linter.unusedSimpArgs false
/-! ### careenageref04_Body: function 67 -/
def careenageref04_Body.f (a0 : Int) (l1 : List Int) : Option (ByteArray × Int) := (careenageref03_Good.f a0).bind fun t341 => (if t341 = true then ((careenageref04_Room.f a0).bind fun t342 => (if (l1.length : Int) > t342 then (some ((⟨#[]⟩ : ByteArray), 3)) else ((careenageref04_Room.f a0).bind fun t343 => (if 0 ≤ (wrap64 (t343 - (l1.length : Int))) then (if (wrap64 (t343 - (l1.length : Int)) : Int).toNat ≤ 281474976710656 then ((some (List.replicate (wrap64 (t343 - (l1.length : Int)) : Int).toNat 0 : List Int)).bind fun y344 => (if (strOfNums l1).size + (strOfNums y344).size ≤ 9223372036854775807 then (some ((strOfNums l1) ++ (strOfNums y344), 0)) else (none))) else (none)) else (none))))) else (some ((⟨#[]⟩ : ByteArray), 2)))
end Go.Proofs.Ytlkfcabklaaacaa.P

namespace Go.Proofs.Ytlkfcabklaaacaa.P
open Go.RowKit Go.Proofs.YtlkfcabklaaacaaW.PrintWords Go.Proofs.YtlkfcabklaaacaaW.PrintLast Go.Proofs.YtlkfcabklaaacaaW.PrintMore
attribute [local go_sem] max2_int min2_int max_two min_two max_three min_three max_four min_four   -- for this text's walks alone
open Go.Proofs.YtlkfcabklaaacaaO
attribute [local go_sem] min2_str max2_str
set_option linter.unusedVariables false
set_option linter.unusedSimpArgs false
/-! ### careenageref07_One: function 74 -/
def careenageref07_One.f (a0_0 : ByteArray) (a0_1 : Int) : Option (Int) := some (wrap64 (5 + (a0_0.size : Int)))
end Go.Proofs.Ytlkfcabklaaacaa.P

namespace Go.Proofs.Ytlkfcabklaaacaa.P
open Go.RowKit Go.Proofs.YtlkfcabklaaacaaW.PrintWords Go.Proofs.YtlkfcabklaaacaaW.PrintLast Go.Proofs.YtlkfcabklaaacaaW.PrintMore
attribute [local go_sem] max2_int min2_int max_two min_two max_three min_three max_four min_four   -- for this text's walks alone
open Go.Proofs.YtlkfcabklaaacaaO
attribute [local go_sem] min2_str max2_str
set_option linter.unusedVariables false
set_option linter.unusedSimpArgs false
/-! ### careenageref07_Size: function 46 -/
def careenageref07_Size.l0 : Nat → List (S46) → Int → Int → Option (Int)
  | 0, _, _, _ => none
  | k + 1, x0, x3, x4 => if x4 < (x0.length : Int) then (if 0 ≤ x4 then ((careenageref07_One.f ((rd_T46 x0 x4).f0) ((rd_T46 x0 x4).f1)).bind fun t627 => (careenageref07_Size.l0 k x0 (wrap64 (x3 + t627)) (wrap64 (x4 + 1)))) else (none)) else (some x3)
def careenageref07_Size.f (k : Nat) (l0 : List (S46)) : Option (Int) := careenageref07_Size.l0 k l0 0 0
end Go.Proofs.Ytlkfcabklaaacaa.P

namespace Go.Proofs.Ytlkfcabklaaacaa.P
open Go.RowKit Go.Proofs.YtlkfcabklaaacaaW.PrintWords Go.Proofs.YtlkfcabklaaacaaW.PrintLast Go.Proofs.YtlkfcabklaaacaaW.PrintMore
attribute [local go_sem] max2_int min2_int max_two min_two max_three min_three max_four min_four   -- for this text's walks alone
open Go.Proofs.YtlkfcabklaaacaaO
attribute [local go_sem] min2_str max2_str
set_option linter.unusedVariables false
set_option linter.unusedSimpArgs false
/-! ### careenageref07_Key: function 48 -/
def careenageref07_Key.f (a0 : ByteArray) : Option (Bool) := some (decide ((a0.size : Int) ≤ 40))
end Go.Proofs.Ytlkfcabklaaacaa.P

namespace Go.Proofs.Ytlkfcabklaaacaa.P
open Go.RowKit Go.Proofs.YtlkfcabklaaacaaW.PrintWords Go.Proofs.YtlkfcabklaaacaaW.PrintLast Go.Proofs.YtlkfcabklaaacaaW.PrintMore
attribute [local go_sem] max2_int min2_int max_two min_two max_three min_three max_four min_four   -- for this text's walks alone
open Go.Proofs.YtlkfcabklaaacaaO
attribute [local go_sem] min2_str max2_str
set_option linter.unusedVariables false
set_option linter.unusedSimpArgs false
/-! ### careenageref07_May: function 72 -/
def careenageref07_May.l0 : Nat → List (S46) → Int → Option (Bool)
  | 0, _, _ => none
  | k + 1, x0, x3 => if x3 < (x0.length : Int) then (if 0 ≤ x3 then ((careenageref07_Key.f ((rd_T46 x0 x3).f0)).bind fun t629 => (if t629 = true then ((careenageref04_Number.f ((rd_T46 x0 x3).f1)).bind fun t631 => (if t631 = true then (if x3 > 0 then (if 0 ≤ (wrap64 (x3 - 1)) then (if (wrap64 (x3 - 1)) < (x0.length : Int) then (if ((Op.bytesLess (((rd_T46 x0 (wrap64 (x3 - 1))).f0).toList) (((rd_T46 x0 x3).f0).toList)) = true) then (careenageref07_May.l0 k x0 (wrap64 (x3 + 1))) else (some false)) else (none)) else (none)) else (careenageref07_May.l0 k x0 (wrap64 (x3 + 1)))) else (some false))) else (some false))) else (none)) else (some (decide ((x0.length : Int) > 0)))
def careenageref07_May.f (k : Nat) (l0 : List (S46)) : Option (Bool) := careenageref07_May.l0 k l0 0
end Go.Proofs.Ytlkfcabklaaacaa.P

namespace Go.Proofs.Ytlkfcabklaaacaa.P
open Go.RowKit Go.Proofs.YtlkfcabklaaacaaW.PrintWords Go.Proofs.YtlkfcabklaaacaaW.PrintLast Go.Proofs.YtlkfcabklaaacaaW.PrintMore
attribute [local go_sem] max2_int min2_int max_two min_two max_three min_three max_four min_four   -- for this text's walks alone
open Go.Proofs.YtlkfcabklaaacaaO
attribute [local go_sem] min2_str max2_str
set_option linter.unusedVariables false
set_option linter.unusedSimpArgs false
/-! ### careenageref07_Page: function 44 -/
mutual
def careenageref07_Page.j0 : Nat → Int → Int → Int → List (S46) → Bool → Option (Int × Int × Int × Int × Int × ByteArray × Int)
  | 0, _, _, _, _, _ => none
  | k + 1, x0, x1, x2, x3, x37 => if x37 = true then (some (0, 0, 0, 0, 0, (⟨#[]⟩ : ByteArray), 2)) else (careenageref07_Page.l0 k x0 x1 x2 x3 ([] : List Int) 0)
def careenageref07_Page.l0 : Nat → Int → Int → Int → List (S46) → List Int → Int → Option (Int × Int × Int × Int × Int × ByteArray × Int)
  | 0, _, _, _, _, _, _ => none
  | k + 1, x0, x1, x2, x3, x10, x11 => if x11 < (x3.length : Int) then (if 0 ≤ x11 then ((careenageref01_Put.f k x10 (IntKind.u64.wrap ((((rd_T46 x3 x11).f0).size : Int))) 1).bind fun t641 => (if t641.length + ((rd_T46 x3 x11).f0).size < 140737488355328 then ((careenageref01_Put.f k (t641 ++ bytesOf ((rd_T46 x3 x11).f0)) (IntKind.u64.wrap ((rd_T46 x3 x11).f1)) 4).bind fun t649 => (careenageref07_Page.l0 k x0 x1 x2 x3 t649 (wrap64 (x11 + 1)))) else (none))) else (none)) else ((careenageref04_Body.f x0 x10).bind fun bt652 => (some (3, (x3.length : Int), x1, 0, x2, bt652.1, 0)))
end
def careenageref07_Page.f (k : Nat) (a0 : Int) (a1 : Int) (a2 : Int) (l3 : List (S46)) : Option (Int × Int × Int × Int × Int × ByteArray × Int) := (careenageref03_Good.f a0).bind fun t635 => (if t635 = true then ((careenageref07_May.f k l3).bind fun t636 => (if t636 = true then ((careenageref07_Size.f k l3).bind fun t637 => ((careenageref04_Room.f a0).bind fun t638 => (if t637 > t638 then (careenageref07_Page.j0 k a0 a1 a2 l3 true) else ((careenageref04_Number.f a1).bind fun t639 => (if t639 = true then (careenageref07_Page.j0 k a0 a1 a2 l3 (decide (a2 > 4611686018427387904))) else (careenageref07_Page.j0 k a0 a1 a2 l3 true)))))) else (careenageref07_Page.j0 k a0 a1 a2 l3 true))) else (careenageref07_Page.j0 k a0 a1 a2 l3 true))
end Go.Proofs.Ytlkfcabklaaacaa.P

namespace Go.Proofs.Ytlkfcabklaaacaa.P
open Go.RowKit Go.Proofs.YtlkfcabklaaacaaW.PrintWords Go.Proofs.YtlkfcabklaaacaaW.PrintLast Go.Proofs.YtlkfcabklaaacaaW.PrintMore
attribute [local go_sem] max2_int min2_int max_two min_two max_three min_three max_four min_four   -- for this text's walks alone
open Go.Proofs.YtlkfcabklaaacaaO
attribute [local go_sem] min2_str max2_str
set_option linter.unusedVariables false
set_option linter.unusedSimpArgs false
/-! ### careenageref01_Reader_Bytes: function 73 -/
def careenageref01_Reader_Bytes.f (s0_0 : ByteArray) (a1 : Int) : Option (ByteArray × Int × ByteArray) := if a1 < 0 then (some ((⟨#[]⟩ : ByteArray), 2, s0_0)) else (if (s0_0.size : Int) < a1 then (some ((⟨#[]⟩ : ByteArray), 7, s0_0)) else (if 0 ≤ a1 then (if a1 ≤ (s0_0.size : Int) then (some (s0_0.extract 0 (a1 : Int).toNat, 0, s0_0.extract (a1 : Int).toNat s0_0.size)) else (none)) else (none)))
end Go.Proofs.Ytlkfcabklaaacaa.P

namespace Go.Proofs.Ytlkfcabklaaacaa.P
open Go.RowKit Go.Proofs.YtlkfcabklaaacaaW.PrintWords Go.Proofs.YtlkfcabklaaacaaW.PrintLast Go.Proofs.YtlkfcabklaaacaaW.PrintMore
attribute [local go_sem] max2_int min2_int max_two min_two max_three min_three max_four min_four   -- for this text's walks alone
open Go.Proofs.YtlkfcabklaaacaaO
attribute [local go_sem] min2_str max2_str
set_option linter.unusedVariables false
set_option linter.unusedSimpArgs false
attribute [local go_sem high] eqA39
/-! ### careenageref07_Of: function 45 -/
def careenageref07_Of.l0 : Nat → List (S46) → Int → Int → Int → Int → Int → Int → ByteArray → ByteArray → Option ((List (S46)) × Int)
  | 0, _, _, _, _, _, _, _, _, _ => none
  | k + 1, x5, x6, x655000, x655001, x655002, x655003, x655004, x655005, x657000 => if x6 < x655001 then ((careenageref01_Reader_Number.f k x657000 1).bind fun bt665 => ((careenageref01_Reader_Bytes.f bt665.2.2 (wrap64 (bt665.1))).bind fun bt668 => ((careenageref01_Reader_Number.f k bt668.2.2 4).bind fun bt671 => (if bt665.2.1 = 0 then (if bt668.2.1 = 0 then (if bt671.2.1 = 0 then (if x5.length < 5864062014805 then (careenageref07_Of.l0 k (x5 ++ [(⟨bt668.1, (bt671.1) % 4294967296⟩ : S46)]) (wrap64 (x6 + 1)) x655000 x655001 x655002 x655003 x655004 x655005 bt671.2.2) else (none)) else (some (([] : List (S46)), 4))) else (some (([] : List (S46)), 4))) else (some (([] : List (S46)), 4)))))) else ((careenageref07_Page.f k (wrap64 ((x655005.size : Int) + 24)) x655002 x655004 x5).bind fun bt657 => (if bt657.2.2.2.2.2.2 = 0 then (if (!(bt657.1 == x655000) || (!(bt657.2.1 == x655001) || (!(bt657.2.2.1 == x655002) || (!(bt657.2.2.2.1 == x655003) || (!(bt657.2.2.2.2.1 == x655004) || (!(bt657.2.2.2.2.2.1.toList == x655005.toList))))))) = true then (some (([] : List (S46)), 4)) else (some (x5, 0))) else (some (([] : List (S46)), 4))))
def careenageref07_Of.f (k : Nat) (a0_0 : Int) (a0_1 : Int) (a0_2 : Int) (a0_3 : Int) (a0_4 : Int) (a0_5 : ByteArray) : Option ((List (S46)) × Int) := (careenageref01_New.f a0_5).bind fun t655 => (careenageref07_Of.l0 k ([] : List (S46)) 0 a0_0 a0_1 a0_2 a0_3 a0_4 a0_5 t655)
end Go.Proofs.Ytlkfcabklaaacaa.P

namespace Go.Proofs.Ytlkfcabklaaacaa.P
open Go.RowKit Go.Proofs.YtlkfcabklaaacaaW.PrintWords Go.Proofs.YtlkfcabklaaacaaW.PrintLast Go.Proofs.YtlkfcabklaaacaaW.PrintMore
attribute [local go_sem] max2_int min2_int max_two min_two max_three min_three max_four min_four   -- for this text's walks alone
open Go.Proofs.YtlkfcabklaaacaaO
attribute [local go_sem] min2_str max2_str
attribute [local go_sem high] str_gtr str_leq
set_option linter.unusedVariables false
set_option linter.unusedSimpArgs false
/-! ### careenageref07_Pick: function 47 -/
def careenageref07_Pick.l0 : Nat → List (S46) → ByteArray → Int → Option (Int)
  | 0, _, _, _ => none
  | k + 1, x0, x1, x5 => if x5 < (x0.length : Int) then (if 0 ≤ x5 then (if ((Op.bytesLess x1.toList (((rd_T46 x0 x5).f0).toList)) = true) then (some (mx 0 (wrap64 (x5 - 1)))) else (careenageref07_Pick.l0 k x0 x1 (wrap64 (x5 + 1)))) else (none)) else (some (mx 0 (wrap64 (x5 - 1))))
def careenageref07_Pick.f (k : Nat) (l0 : List (S46)) (a1 : ByteArray) : Option (Int) := careenageref07_Pick.l0 k l0 a1 0
end Go.Proofs.Ytlkfcabklaaacaa.P

namespace Go.Proofs.Ytlkfcabklaaacaa.P
open Go.RowKit Go.Proofs.YtlkfcabklaaacaaW.PrintWords Go.Proofs.YtlkfcabklaaacaaW.PrintLast Go.Proofs.YtlkfcabklaaacaaW.PrintMore
attribute [local go_sem] max2_int min2_int max_two min_two max_three min_three max_four min_four   -- for this text's walks alone
open Go.Proofs.YtlkfcabklaaacaaO
attribute [local go_sem] min2_str max2_str
set_option linter.unusedVariables false
set_option linter.unusedSimpArgs false
/-! ### careenageref10_Most: function 36 -/
def careenageref10_Most.f (a0 : Int) : Option (Int) := (careenageref04_Room.f a0).bind fun t326 => (some (wrap64 (Int.tdiv t326 4)))
end Go.Proofs.Ytlkfcabklaaacaa.P

namespace Go.Proofs.Ytlkfcabklaaacaa.P
open Go.RowKit Go.Proofs.YtlkfcabklaaacaaW.PrintWords Go.Proofs.YtlkfcabklaaacaaW.PrintLast Go.Proofs.YtlkfcabklaaacaaW.PrintMore
attribute [local go_sem] max2_int min2_int max_two min_two max_three min_three max_four min_four   -- for this text's walks alone
open Go.Proofs.YtlkfcabklaaacaaO
attribute [local go_sem] min2_str max2_str
set_option linter.unusedVariables false
set_option linter.unusedSimpArgs false
/-! ### careenageref10_Rises: function 34 -/
def careenageref10_Rises.l0 : Nat → List Int → Int → Option (Bool)
  | 0, _, _ => none
  | k + 1, x0, x3 => if x3 < (x0.length : Int) then (if 0 ≤ (wrap64 (x3 - 1)) then (if (wrap64 (x3 - 1)) < (x0.length : Int) then (if 0 ≤ x3 then (if (rd x0 (wrap64 (x3 - 1))) ≥ (rd x0 x3) then (some false) else (careenageref10_Rises.l0 k x0 (wrap64 (x3 + 1)))) else (none)) else (none)) else (none)) else (some true)
def careenageref10_Rises.f (k : Nat) (l0 : List Int) : Option (Bool) := careenageref10_Rises.l0 k l0 1
end Go.Proofs.Ytlkfcabklaaacaa.P

namespace Go.Proofs.Ytlkfcabklaaacaa.P
open Go.RowKit Go.Proofs.YtlkfcabklaaacaaW.PrintWords Go.Proofs.YtlkfcabklaaacaaW.PrintLast Go.Proofs.YtlkfcabklaaacaaW.PrintMore
attribute [local go_sem] max2_int min2_int max_two min_two max_three min_three max_four min_four   -- for this text's walks alone
open Go.Proofs.YtlkfcabklaaacaaO
attribute [local go_sem] min2_str max2_str
set_option linter.unusedVariables false
set_option linter.unusedSimpArgs false
/-! ### careenageref10_Numbers: function 64 -/
def careenageref10_Numbers.l0 : Nat → List Int → Int → Option (Bool)
  | 0, _, _ => none
  | k + 1, x0, x3 => if x3 < (x0.length : Int) then (if 0 ≤ x3 then ((careenageref04_Number.f (rd x0 x3)).bind fun t330 => (if t330 = true then (careenageref10_Numbers.l0 k x0 (wrap64 (x3 + 1))) else (some false))) else (none)) else ((careenageref10_Rises.f k x0).bind fun t331 => (some t331))
def careenageref10_Numbers.f (k : Nat) (l0 : List Int) : Option (Bool) := careenageref10_Numbers.l0 k l0 0
end Go.Proofs.Ytlkfcabklaaacaa.P

namespace Go.Proofs.Ytlkfcabklaaacaa.P
open Go.RowKit Go.Proofs.YtlkfcabklaaacaaW.PrintWords Go.Proofs.YtlkfcabklaaacaaW.PrintLast Go.Proofs.YtlkfcabklaaacaaW.PrintMore
attribute [local go_sem] max2_int min2_int max_two min_two max_three min_three max_four min_four   -- for this text's walks alone
open Go.Proofs.YtlkfcabklaaacaaO
attribute [local go_sem] min2_str max2_str
set_option linter.unusedVariables false
set_option linter.unusedSimpArgs false
/-! ### careenageref10_Page: function 32 -/
mutual
def careenageref10_Page.j0 : Nat → Int → Int → Int → Int → List Int → Bool → Option (Int × Int × Int × Int × Int × ByteArray × Int)
  | 0, _, _, _, _, _, _ => none
  | k + 1, x0, x1, x2, x3, x4, x48 => if x48 = true then (some (0, 0, 0, 0, 0, (⟨#[]⟩ : ByteArray), 2)) else (careenageref10_Page.l0 k x0 x1 x2 x3 x4 ([] : List Int) 0)
def careenageref10_Page.l0 : Nat → Int → Int → Int → Int → List Int → List Int → Int → Option (Int × Int × Int × Int × Int × ByteArray × Int)
  | 0, _, _, _, _, _, _, _ => none
  | k + 1, x0, x1, x2, x3, x4, x12, x13 => if x13 < (x4.length : Int) then (if 0 ≤ x13 then ((careenageref01_Put.f k x12 (IntKind.u64.wrap (rd x4 x13)) 4).bind fun t354 => (careenageref10_Page.l0 k x0 x1 x2 x3 x4 t354 (wrap64 (x13 + 1)))) else (none)) else ((careenageref04_Body.f x0 x12).bind fun bt357 => (some (6, (x4.length : Int), x1, x2, x3, bt357.1, 0)))
end
def careenageref10_Page.f (k : Nat) (a0 : Int) (a1 : Int) (a2 : Int) (a3 : Int) (l4 : List Int) : Option (Int × Int × Int × Int × Int × ByteArray × Int) := (careenageref03_Good.f a0).bind fun t348 => (if t348 = true then ((careenageref10_Numbers.f k l4).bind fun t349 => (if t349 = true then ((careenageref10_Most.f a0).bind fun t350 => (if (l4.length : Int) > t350 then (careenageref10_Page.j0 k a0 a1 a2 a3 l4 true) else ((careenageref04_Number.f a1).bind fun t351 => (if t351 = true then (if a2 = 0 then (careenageref10_Page.j0 k a0 a1 a2 a3 l4 (decide (a3 > 4611686018427387904))) else ((careenageref04_Number.f a2).bind fun t352 => (if t352 = true then (careenageref10_Page.j0 k a0 a1 a2 a3 l4 (decide (a3 > 4611686018427387904))) else (careenageref10_Page.j0 k a0 a1 a2 a3 l4 true)))) else (careenageref10_Page.j0 k a0 a1 a2 a3 l4 true))))) else (careenageref10_Page.j0 k a0 a1 a2 a3 l4 true))) else (careenageref10_Page.j0 k a0 a1 a2 a3 l4 true))
end Go.Proofs.Ytlkfcabklaaacaa.P

namespace Go.Proofs.Ytlkfcabklaaacaa.P
open Go.RowKit Go.Proofs.YtlkfcabklaaacaaW.PrintWords Go.Proofs.YtlkfcabklaaacaaW.PrintLast Go.Proofs.YtlkfcabklaaacaaW.PrintMore
attribute [local go_sem] max2_int min2_int max_two min_two max_three min_three max_four min_four   -- for this text's walks alone
open Go.Proofs.YtlkfcabklaaacaaO
attribute [local go_sem] min2_str max2_str
set_option linter.unusedVariables false
set_option linter.unusedSimpArgs false
/-! ### free_Rises_1: function 62 -/
def free_Rises_1.f (a0 : Int) (a1 : Int) : Option (Int) := if a0 > a1 then (some 1) else (some (-1))
end Go.Proofs.Ytlkfcabklaaacaa.P

namespace Go.Proofs.Ytlkfcabklaaacaa.P
open Go.RowKit Go.Proofs.YtlkfcabklaaacaaW.PrintWords Go.Proofs.YtlkfcabklaaacaaW.PrintLast Go.Proofs.YtlkfcabklaaacaaW.PrintMore
attribute [local go_sem] max2_int min2_int max_two min_two max_three min_three max_four min_four   -- for this text's walks alone
open Go.Proofs.YtlkfcabklaaacaaO
attribute [local go_sem] min2_str max2_str
set_option linter.unusedVariables false
set_option linter.unusedSimpArgs false
/-! ### slices_IsSortedFunc_uint32_uint32_62: function 61 -/
def slices_IsSortedFunc_uint32_uint32_62.l0 : Nat → List Int → Int → Option (Bool)
  | 0, _, _ => none
  | k + 1, x0, x5 => if x5 > 0 then (if 0 ≤ x5 then (if x5 < (x0.length : Int) then (if 0 ≤ (wrap64 (x5 - 1)) then (if (wrap64 (x5 - 1)) < (x0.length : Int) then ((free_Rises_1.f (rd x0 x5) (rd x0 (wrap64 (x5 - 1)))).bind fun t189 => (if t189 < 0 then (some false) else (slices_IsSortedFunc_uint32_uint32_62.l0 k x0 (wrap64 (x5 - 1))))) else (none)) else (none)) else (none)) else (none)) else (some true)
def slices_IsSortedFunc_uint32_uint32_62.f (k : Nat) (l0 : List Int)  : Option (Bool) := slices_IsSortedFunc_uint32_uint32_62.l0 k l0 (wrap64 ((l0.length : Int) - 1))
end Go.Proofs.Ytlkfcabklaaacaa.P

namespace Go.Proofs.Ytlkfcabklaaacaa.P
open Go.RowKit Go.Proofs.YtlkfcabklaaacaaW.PrintWords Go.Proofs.YtlkfcabklaaacaaW.PrintLast Go.Proofs.YtlkfcabklaaacaaW.PrintMore
attribute [local go_sem] max2_int min2_int max_two min_two max_three min_three max_four min_four   -- for this text's walks alone
open Go.Proofs.YtlkfcabklaaacaaO
attribute [local go_sem] min2_str max2_str
set_option linter.unusedVariables false
set_option linter.unusedSimpArgs false
/-! ### free_Rises: function 29 -/
def free_Rises.f (k : Nat) (l0 : List Int) : Option (Bool) := (slices_IsSortedFunc_uint32_uint32_62.f k l0).bind fun t190 => (some t190)
end Go.Proofs.Ytlkfcabklaaacaa.P

namespace Go.Proofs.Ytlkfcabklaaacaa.P
open Go.RowKit Go.Proofs.YtlkfcabklaaacaaW.PrintWords Go.Proofs.YtlkfcabklaaacaaW.PrintLast Go.Proofs.YtlkfcabklaaacaaW.PrintMore
attribute [local go_sem] max2_int min2_int max_two min_two max_three min_three max_four min_four   -- for this text's walks alone
open Go.Proofs.YtlkfcabklaaacaaO
attribute [local go_sem] min2_str max2_str
set_option linter.unusedVariables false
set_option linter.unusedSimpArgs false
/-! ### free_Most: function 31 -/
def free_Most.f (a0 : Int) : Option (Int) := (frame_Room.f a0).bind fun t191 => (some (wrap64 (Int.tdiv t191 4)))
end Go.Proofs.Ytlkfcabklaaacaa.P

namespace Go.Proofs.Ytlkfcabklaaacaa.P
open Go.RowKit Go.Proofs.YtlkfcabklaaacaaW.PrintWords Go.Proofs.YtlkfcabklaaacaaW.PrintLast Go.Proofs.YtlkfcabklaaacaaW.PrintMore
attribute [local go_sem] max2_int min2_int max_two min_two max_three min_three max_four min_four   -- for this text's walks alone
open Go.Proofs.YtlkfcabklaaacaaO
attribute [local go_sem] min2_str max2_str
set_option linter.unusedVariables false
set_option linter.unusedSimpArgs false
/-! ### free_number: function 57 -/
def free_number.f (a0 : Int) : Option (Bool) := if a0 ≥ 2 then (some (decide (a0 ≤ 2147483647))) else (some false)
end Go.Proofs.Ytlkfcabklaaacaa.P
