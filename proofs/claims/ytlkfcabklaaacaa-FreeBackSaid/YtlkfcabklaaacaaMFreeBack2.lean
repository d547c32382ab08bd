/- The texts that the statement's row rests on, one behind the other. -/
import Derived.Test.YtlkfcabklaaacaaMFreeBack0
import Derived.Test.YtlkfcabklaaacaaMFreeBack1
namespace Go.Proofs.Ytlkfcabklaaacaa.P
open Go.RowKit Go.Proofs.YtlkfcabklaaacaaW.PrintWords Go.Proofs.YtlkfcabklaaacaaW.PrintLast Go.Proofs.YtlkfcabklaaacaaW.PrintMore
attribute [local go_sem] max2_int min2_int max_two min_two max_three min_three max_four min_four   -- for this text's walks alone
open Go.Proofs.YtlkfcabklaaacaaO
attribute [local go_sem] min2_str max2_str
set_option linter.unusedVariables false
set_option linter.unusedSimpArgs false

attribute [local go_sem high] eqA39
/-! ### careenagelaw10_FreeBack: function 8 -/
mutual
def careenagelaw10_FreeBack.j0 : Nat → Int → Int → Int → List Int → Int → Int → Bool → Int → Int → Int → Int → Int → ByteArray → Option (Bool)
  | 0, _, _, _, _, _, _, _, _, _, _, _, _, _ => none
  | k + 1, x0, x1, x2, x3, x5, x6, x39, x415000, x415001, x415002, x415003, x415004, x415005 => if x39 = true then (some true) else ((free_Page.f k x0 x1 x2 9 x3).bind fun bt416 => (if bt416.2.2.2.2.2.2 = 0 then ((free_Of.f k bt416.1 bt416.2.1 bt416.2.2.1 bt416.2.2.2.1 bt416.2.2.2.2.1 bt416.2.2.2.2.2.1).bind fun bt424 => (if bt424.2.2 = 0 then ((careenagekit_Same_uint32.f k bt424.1 x3).bind fun t429 => (if t429 = true then (if bt424.2.1 = x2 then ((free_Rises.f k bt424.1).bind fun t430 => (if t430 = true then (careenagelaw10_FreeBack.j1 k x0 x5 x6 x415000 x415001 x415002 x415003 x415004 x415005) else (some false))) else (some false)) else (some false))) else (some false))) else (careenagelaw10_FreeBack.j1 k x0 x5 x6 x415000 x415001 x415002 x415003 x415004 x415005)))
def careenagelaw10_FreeBack.j1 : Nat → Int → Int → Int → Int → Int → Int → Int → Int → ByteArray → Option (Bool)
  | 0, _, _, _, _, _, _, _, _, _ => none
  | k + 1, x0, x5, x6, x415000, x415001, x415002, x415003, x415004, x415005 => (free_Of.f k x415000 x415001 x415002 x415003 x415004 x415005).bind fun bt431 => (if bt431.2.2 = 0 then ((free_Page.f k (wrap64 ((x415005.size : Int) + 24)) x415002 bt431.2.1 x415004 bt431.1).bind fun bt436 => (if bt436.2.2.2.2.2.2 = 0 then (if (!(bt436.1 == x415000) || (!(bt436.2.1 == x415001) || (!(bt436.2.2.1 == x415002) || (!(bt436.2.2.2.1 == x415003) || (!(bt436.2.2.2.2.1 == x415004) || (!(bt436.2.2.2.2.2.1.toList == x415005.toList))))))) = true then (some false) else (careenagelaw10_FreeBack.j2 k x0 x5 x6)) else (some false))) else (careenagelaw10_FreeBack.j2 k x0 x5 x6))
def careenagelaw10_FreeBack.j2 : Nat → Int → Int → Int → Option (Bool)
  | 0, _, _, _ => none
  | k + 1, x0, x5, x6 => (careenageref04_Room.f x0).bind fun t444 => (if t444 = 0 then (some true) else ((careenagekit_Pick.f x6 1100).bind fun t445 => (careenagelaw10_FreeBack.l0 k x0 x5 t445 ([] : List Int) 0)))
def careenagelaw10_FreeBack.l0 : Nat → Int → Int → Int → List Int → Int → Option (Bool)
  | 0, _, _, _, _, _ => none
  | k + 1, x0, x5, x6, x25, x26 => if x26 < x6 then (if x25.length < 35184372088832 then (careenagelaw10_FreeBack.l0 k x0 x5 x6 (x25 ++ [(((2 + (Int.tmod x5 1000)) % 4294967296) + ((x26) % 4294967296)) % 4294967296]) (wrap64 (x26 + 1))) else (none)) else ((free_Page.f k x0 2 0 0 x25).bind fun bt449 => ((free_Most.f x0).bind fun t457 => (if ((bt449.2.2.2.2.2.2 == 0) == (decide (x6 ≤ t457))) = true then ((free_Need.f x0 x6).bind fun t458 => ((free_Most.f x0).bind fun t459 => (some ((decide (t458 ≤ 1)) == (decide (x6 ≤ t459)))))) else (some false))))
end
def careenagelaw10_FreeBack.f (k : Nat) (a0 : Int) (a1 : Int) (a2 : Int) (l3 : List Int) (a4_0 : Int) (a4_1 : Int) (a4_2 : Int) (a4_3 : Int) (a4_4 : Int) (a4_5 : ByteArray) (a5 : Int) (a6 : Int) : Option (Bool) := (careenagelaw10_lives.f k).bind fun t415 => (if t415 = true then (if (l3.length : Int) > 1200 then (careenagelaw10_FreeBack.j0 k a0 a1 a2 l3 a5 a6 true a4_0 a4_1 a4_2 a4_3 a4_4 a4_5) else (careenagelaw10_FreeBack.j0 k a0 a1 a2 l3 a5 a6 (decide ((a4_5.size : Int) > 4200)) a4_0 a4_1 a4_2 a4_3 a4_4 a4_5)) else (some false))
theorem careenagelaw10_FreeBack.mono_l : ∀ k, (∀ y0 y1 y2 y3 y4 y5 y6 y7 y8 y9 y10 y11 y12, LeO (careenagelaw10_FreeBack.j0 k y0 y1 y2 y3 y4 y5 y6 y7 y8 y9 y10 y11 y12) (careenagelaw10_FreeBack.j0 (k + 1) y0 y1 y2 y3 y4 y5 y6 y7 y8 y9 y10 y11 y12)) ∧ (∀ y0 y1 y2 y3 y4 y5 y6 y7 y8, LeO (careenagelaw10_FreeBack.j1 k y0 y1 y2 y3 y4 y5 y6 y7 y8) (careenagelaw10_FreeBack.j1 (k + 1) y0 y1 y2 y3 y4 y5 y6 y7 y8)) ∧ (∀ y0 y1 y2, LeO (careenagelaw10_FreeBack.j2 k y0 y1 y2) (careenagelaw10_FreeBack.j2 (k + 1) y0 y1 y2)) ∧ (∀ y0 y1 y2 y3 y4, LeO (careenagelaw10_FreeBack.l0 k y0 y1 y2 y3 y4) (careenagelaw10_FreeBack.l0 (k + 1) y0 y1 y2 y3 y4))
  | 0 => ⟨fun _ _ _ _ _ _ _ _ _ _ _ _ _ r h => by simp [careenagelaw10_FreeBack.j0] at h, fun _ _ _ _ _ _ _ _ _ r h => by simp [careenagelaw10_FreeBack.j1] at h, fun _ _ _ r h => by simp [careenagelaw10_FreeBack.j2] at h, fun _ _ _ _ _ r h => by simp [careenagelaw10_FreeBack.l0] at h⟩
  | k + 1 => by
    obtain ⟨ih0, ih1, ih2, ih3⟩ := careenagelaw10_FreeBack.mono_l k
    refine ⟨?_, ?_, ?_, ?_⟩
    · intro y0 y1 y2 y3 y4 y5 y6 y7 y8 y9 y10 y11 y12
      unfold careenagelaw10_FreeBack.j0
      repeat' first
      | (with_reducible exact ih0 _ _ _ _ _ _ _ _ _ _ _ _ _)
      | (with_reducible exact ih1 _ _ _ _ _ _ _ _ _)
      | (with_reducible exact ih2 _ _ _)
      | (with_reducible exact ih3 _ _ _ _ _)
      | (with_reducible exact careenagekit_Same_uint32.mono _ _ _)
      | (with_reducible exact careenagelaw10_lives.mono _)
      | (with_reducible exact free_Of.mono _ _ _ _ _ _ _)
      | (with_reducible exact free_Page.mono _ _ _ _ _ _)
      | (with_reducible exact free_Rises.mono _ _)
      | (with_reducible exact LeO.refl _)
      | (with_reducible exact LeO.none _)
      | (with_reducible refine LeO.ite ?_ ?_)
      | (with_reducible refine LeO.bind ?_ (fun _ => ?_))
      | exact ih0 _ _ _ _ _ _ _ _ _ _ _ _ _
      | exact ih1 _ _ _ _ _ _ _ _ _
      | exact ih2 _ _ _
      | exact ih3 _ _ _ _ _
      | exact careenagekit_Same_uint32.mono _ _ _
      | exact careenagelaw10_lives.mono _
      | exact free_Of.mono _ _ _ _ _ _ _
      | exact free_Page.mono _ _ _ _ _ _
      | exact free_Rises.mono _ _
      | exact LeO.none _
      | refine LeO.ite ?_ ?_
      | refine LeO.bind ?_ (fun _ => ?_)
    · intro y0 y1 y2 y3 y4 y5 y6 y7 y8
      unfold careenagelaw10_FreeBack.j1
      repeat' first
      | (with_reducible exact ih0 _ _ _ _ _ _ _ _ _ _ _ _ _)
      | (with_reducible exact ih1 _ _ _ _ _ _ _ _ _)
      | (with_reducible exact ih2 _ _ _)
      | (with_reducible exact ih3 _ _ _ _ _)
      | (with_reducible exact careenagekit_Same_uint32.mono _ _ _)
      | (with_reducible exact careenagelaw10_lives.mono _)
      | (with_reducible exact free_Of.mono _ _ _ _ _ _ _)
      | (with_reducible exact free_Page.mono _ _ _ _ _ _)
      | (with_reducible exact free_Rises.mono _ _)
      | (with_reducible exact LeO.refl _)
      | (with_reducible exact LeO.none _)
      | (with_reducible refine LeO.ite ?_ ?_)
      | (with_reducible refine LeO.bind ?_ (fun _ => ?_))
      | exact ih0 _ _ _ _ _ _ _ _ _ _ _ _ _
      | exact ih1 _ _ _ _ _ _ _ _ _
      | exact ih2 _ _ _
      | exact ih3 _ _ _ _ _
      | exact careenagekit_Same_uint32.mono _ _ _
      | exact careenagelaw10_lives.mono _
      | exact free_Of.mono _ _ _ _ _ _ _
      | exact free_Page.mono _ _ _ _ _ _
      | exact free_Rises.mono _ _
      | exact LeO.none _
      | refine LeO.ite ?_ ?_
      | refine LeO.bind ?_ (fun _ => ?_)
    · intro y0 y1 y2
      unfold careenagelaw10_FreeBack.j2
      repeat' first
      | (with_reducible exact ih0 _ _ _ _ _ _ _ _ _ _ _ _ _)
      | (with_reducible exact ih1 _ _ _ _ _ _ _ _ _)
      | (with_reducible exact ih2 _ _ _)
      | (with_reducible exact ih3 _ _ _ _ _)
      | (with_reducible exact careenagekit_Same_uint32.mono _ _ _)
      | (with_reducible exact careenagelaw10_lives.mono _)
      | (with_reducible exact free_Of.mono _ _ _ _ _ _ _)
      | (with_reducible exact free_Page.mono _ _ _ _ _ _)
      | (with_reducible exact free_Rises.mono _ _)
      | (with_reducible exact LeO.refl _)
      | (with_reducible exact LeO.none _)
      | (with_reducible refine LeO.ite ?_ ?_)
      | (with_reducible refine LeO.bind ?_ (fun _ => ?_))
      | exact ih0 _ _ _ _ _ _ _ _ _ _ _ _ _
      | exact ih1 _ _ _ _ _ _ _ _ _
      | exact ih2 _ _ _
      | exact ih3 _ _ _ _ _
      | exact careenagekit_Same_uint32.mono _ _ _
      | exact careenagelaw10_lives.mono _
      | exact free_Of.mono _ _ _ _ _ _ _
      | exact free_Page.mono _ _ _ _ _ _
      | exact free_Rises.mono _ _
      | exact LeO.none _
      | refine LeO.ite ?_ ?_
      | refine LeO.bind ?_ (fun _ => ?_)
    · intro y0 y1 y2 y3 y4
      unfold careenagelaw10_FreeBack.l0
      repeat' first
      | (with_reducible exact ih0 _ _ _ _ _ _ _ _ _ _ _ _ _)
      | (with_reducible exact ih1 _ _ _ _ _ _ _ _ _)
      | (with_reducible exact ih2 _ _ _)
      | (with_reducible exact ih3 _ _ _ _ _)
      | (with_reducible exact careenagekit_Same_uint32.mono _ _ _)
      | (with_reducible exact careenagelaw10_lives.mono _)
      | (with_reducible exact free_Of.mono _ _ _ _ _ _ _)
      | (with_reducible exact free_Page.mono _ _ _ _ _ _)
      | (with_reducible exact free_Rises.mono _ _)
      | (with_reducible exact LeO.refl _)
      | (with_reducible exact LeO.none _)
      | (with_reducible refine LeO.ite ?_ ?_)
      | (with_reducible refine LeO.bind ?_ (fun _ => ?_))
      | exact ih0 _ _ _ _ _ _ _ _ _ _ _ _ _
      | exact ih1 _ _ _ _ _ _ _ _ _
      | exact ih2 _ _ _
      | exact ih3 _ _ _ _ _
      | exact careenagekit_Same_uint32.mono _ _ _
      | exact careenagelaw10_lives.mono _
      | exact free_Of.mono _ _ _ _ _ _ _
      | exact free_Page.mono _ _ _ _ _ _
      | exact free_Rises.mono _ _
      | exact LeO.none _
      | refine LeO.ite ?_ ?_
      | refine LeO.bind ?_ (fun _ => ?_)
theorem careenagelaw10_FreeBack.mono : ∀ a0 a1 a2 a3 a4 a5 a6 a7 a8 a9 a10 a11 k, LeO (careenagelaw10_FreeBack.f k a0 a1 a2 a3 a4 a5 a6 a7 a8 a9 a10 a11) (careenagelaw10_FreeBack.f (k + 1) a0 a1 a2 a3 a4 a5 a6 a7 a8 a9 a10 a11) := by
  intro a0 a1 a2 a3 a4 a5 a6 a7 a8 a9 a10 a11 k
  obtain ⟨ih0, ih1, ih2, ih3⟩ := careenagelaw10_FreeBack.mono_l k
  unfold careenagelaw10_FreeBack.f
  repeat' first
      | (with_reducible exact ih0 _ _ _ _ _ _ _ _ _ _ _ _ _)
      | (with_reducible exact ih1 _ _ _ _ _ _ _ _ _)
      | (with_reducible exact ih2 _ _ _)
      | (with_reducible exact ih3 _ _ _ _ _)
      | (with_reducible exact careenagekit_Same_uint32.mono _ _ _)
      | (with_reducible exact careenagelaw10_lives.mono _)
      | (with_reducible exact free_Of.mono _ _ _ _ _ _ _)
      | (with_reducible exact free_Page.mono _ _ _ _ _ _)
      | (with_reducible exact free_Rises.mono _ _)
      | (with_reducible exact LeO.refl _)
      | (with_reducible exact LeO.none _)
      | (with_reducible refine LeO.ite ?_ ?_)
      | (with_reducible refine LeO.bind ?_ (fun _ => ?_))
      | exact ih0 _ _ _ _ _ _ _ _ _ _ _ _ _
      | exact ih1 _ _ _ _ _ _ _ _ _
      | exact ih2 _ _ _
      | exact ih3 _ _ _ _ _
      | exact careenagekit_Same_uint32.mono _ _ _
      | exact careenagelaw10_lives.mono _
      | exact free_Of.mono _ _ _ _ _ _ _
      | exact free_Page.mono _ _ _ _ _ _
      | exact free_Rises.mono _ _
      | exact LeO.none _
      | refine LeO.ite ?_ ?_
      | refine LeO.bind ?_ (fun _ => ?_)
set_option maxHeartbeats 8000000 in
set_option maxRecDepth 100000 in
theorem careenagelaw10_FreeBack.calls (k : Nat) (a0 : Int) (a1 : Int) (a2 : Int) (A3 : Option Addr) (c3 : Nat) (l3 : List Int) (a4_0 : Int) (a4_1 : Int) (a4_2 : Int) (a4_3 : Int) (a4_4 : Int) (a4_5 : ByteArray) (a5 : Int) (a6 : Int) (r : Bool) (w : World) (hr3 : Kd.C (Kd.int .u32) w A3 l3.length l3) (hc3 : l3.length ≤ c3) (hr_ : r = true) (h : careenagelaw10_FreeBack.f k a0 a1 a2 l3 a4_0 a4_1 a4_2 a4_3 a4_4 a4_5 a5 a6 = some r) :
    Calls Try.prog 8 #[.int .i64 a0, .int .u32 a1, .int .u32 a2, .slice A3 l3.length c3, .agg #[.int .i64 a4_0, .int .i64 a4_1, .int .u32 a4_2, .int .u32 a4_3, .int .u64 a4_4, .string a4_5], .int .u32 a5, .int .i64 a6] w fun e w' => e = .returned (.bool r) ∧ Below w.heap.size w w' := by
  have hu39 := Try.underlying39
  have HR3 := Aside0.mk hr3
  have HC3 := Aside0.mk hc3
  clear hr3 hc3
  have HB := Aside0.mk (Below.refl w.heap.size w)
  have H : ((careenagelaw10_lives.f k).bind fun t415 => (if t415 = true then (if (l3.length : Int) > 1200 then (careenagelaw10_FreeBack.j0 k a0 a1 a2 l3 a5 a6 true a4_0 a4_1 a4_2 a4_3 a4_4 a4_5) else (careenagelaw10_FreeBack.j0 k a0 a1 a2 l3 a5 a6 (decide ((a4_5.size : Int) > 4200)) a4_0 a4_1 a4_2 a4_3 a4_4 a4_5)) else (some false))) = some r := h
  clear h
  have HLaw := Aside0.mk hr_
  clear hr_
  replace H := Option.bind_eq_some_iff.mp H
  obtain ⟨t415, A80, H⟩ := H
  replace H : (if t415 = true then (if (l3.length : Int) > 1200 then (careenagelaw10_FreeBack.j0 k a0 a1 a2 l3 a5 a6 true a4_0 a4_1 a4_2 a4_3 a4_4 a4_5) else (careenagelaw10_FreeBack.j0 k a0 a1 a2 l3 a5 a6 (decide ((a4_5.size : Int) > 4200)) a4_0 a4_1 a4_2 a4_3 a4_4 a4_5)) else (some false)) = some r := H
  have A8 := Aside0.mk A80
  clear A80
  by_cases c9 : t415 = true
  · subst c9
    have H1 : (if (l3.length : Int) > 1200 then (careenagelaw10_FreeBack.j0 k a0 a1 a2 l3 a5 a6 true a4_0 a4_1 a4_2 a4_3 a4_4 a4_5) else (careenagelaw10_FreeBack.j0 k a0 a1 a2 l3 a5 a6 (decide ((a4_5.size : Int) > 4200)) a4_0 a4_1 a4_2 a4_3 a4_4 a4_5)) = some r := by rw [if_pos rfl] at H; exact H
    clear H
    have H := H1
    clear H1
    have HC10 := Aside0.mk H
    clear H
    go_enter Try.func8, Try.ntmps8
    go_upto_region 3 with (first | ((with_reducible refine gate_dst (N := 11) rfl ?_); (try (refine gate_guard (by rfl) ?_; dsimp only)); refine box_event ?hg (N := 11) ?hd (cs := #[.int .i64 a4_0, .int .i64 a4_1, .int .u32 a4_2, .int .u32 a4_3, .int .u64 a4_4, .string a4_5]) (t := 39) ?hr ?_; (case hd => rfl); (case hg => rfl); (case hr => first | (go_simp; done) | (go_simp; rfl)); intro gb414 hg w11 hbox hb; have n0_ := Aside0.mk (below_step (by repeat (first | (with_reducible first | exact HB.out | apply below_alloc | apply pw_below_drewN | apply below_drew1) | exact HB.out)) hb); have n1_ := Aside0.mk (hbox); have n2_ := Aside0.mk ((by rw [hg]; exact (below_size (by repeat (first | (with_reducible first | exact HB.out | apply below_alloc | apply pw_below_drewN | apply below_drew1) | exact HB.out))) : w.heap.size ≤ gb414)); have n3_ := Aside0.mk ((by rw [hg]; exact (below_size (by repeat (first | (with_reducible first | exact HB.out | apply below_alloc | apply pw_below_drewN | apply below_drew1) | exact HB.out))) : w.heap.size ≤ gb414)); clear HB; have HB := n0_; have BK414 := n1_; have GW414 := n2_; have GE414 := n3_; clear n0_ n1_ n2_ n3_; clear hb hbox hg) | ((with_reducible refine gate_callee (f := 26) rfl ?_); refine goesL_ (some 29) rfl rfl Try.func26 (by kernel_rfl) rfl #[] rfl (by (try simp only [List.map_toArray, List.map_cons, List.map_nil]); first | done | rfl | (simp only [List.length_drop, List.length_take]; rfl)) ?_; (with_reducible refine (careenagelaw10_lives.calls k  true _ A8.out).mono ?_); rintro e w12 ⟨rfl, hb⟩; refine ⟨_, rfl, ?_⟩; have n0_ := Aside0.mk (blk_below (g := gb414) (o := .cells #[.int .i64 a4_0, .int .i64 a4_1, .int .u32 a4_2, .int .u32 a4_3, .int .u64 a4_4, .string a4_5] 39 (0, 0)) (by (with_reducible repeat (first | refine blk_drewN ?_ _ | refine blk_drew ?_ | refine blk_alloc ?_ _)); exact BK414.out) hb); have n1_ := Aside0.mk (below_step (by repeat (first | (with_reducible first | exact HB.out | apply below_alloc | apply pw_below_drewN | apply below_drew1 | refine below_set ?_ GE414.out) | exact HB.out)) hb); clear BK414; clear HB; have BK414 := n0_; have HB := n1_; clear n0_ n1_; (try clear hb); (try clear hb2); (try clear hk); (try clear hi)))
    (try simp only [Act.put, List.setIfInBounds_toArray, List.set_cons_zero, List.set_cons_succ])
    go_cut [39] (fun v39 wc => ∃ (kq : Nat) (x39_9 : Bool), v39 = .bool x39_9 ∧ Aside0 (careenagelaw10_FreeBack.j0 kq a0 a1 a2 l3 a5 a6 x39_9 a4_0 a4_1 a4_2 a4_3 a4_4 a4_5 = some r) ∧ Aside0 (kq ≤ k) ∧ Aside0 (wc.heap[gb414]? = some (.cells #[.int .i64 a4_0, .int .i64 a4_1, .int .u32 a4_2, .int .u32 a4_3, .int .u64 a4_4, .string a4_5] 39 (0, 0))) ∧ Aside0 (Below w.heap.size w wc))
    case first =>
      have H := HC10.out
      clear HC10
      by_cases c13 : (l3.length : Int) > 1200
      · rw [if_pos c13] at H
        have c13b0 : decide (1200 < (l3.length : Int)) = true := decide_eq_true c13
        have c13b1 : decide (1200 < l3.length) = true := decide_eq_true (by omega)
        clear c13
        (first | rw [c13b0] | (simp only [i64_w, i32_w]; rw [c13b0]) | skip)
        have H' := Aside0.mk H
        clear H
        go_wp2
        go_meet
        case rel => exact ⟨_, (true), (by first | rfl | (simp; done) | (simp [*]; done)), H', ⟨by first | omega | exact Nat.le_refl _⟩, ⟨by (with_reducible repeat (first | refine blk_drewN ?_ _ | refine blk_drew ?_ | refine blk_alloc ?_ _)); exact BK414.out⟩, ⟨by repeat (first | (with_reducible first | exact HB.out | apply below_alloc | apply pw_below_drewN | apply below_drew1 | refine below_set ?_ GE414.out) | exact HB.out)⟩⟩
      · rw [if_neg c13] at H
        have c13b0 : decide (1200 < (l3.length : Int)) = false := decide_eq_false c13
        have c13b1 : decide (1200 < l3.length) = false := decide_eq_false (by omega)
        clear c13
        (first | rw [c13b0] | (simp only [i64_w, i32_w]; rw [c13b0]) | skip)
        have H' := Aside0.mk H
        clear H
        have hcz14_0 : w12.cell? ⟨gb414, 0, none⟩ = some (.int .i64 a4_0) := (blk_cell BK414.out 0).trans rfl
        have hcz14_1 : w12.cell? ⟨gb414, 1, none⟩ = some (.int .i64 a4_1) := (blk_cell BK414.out 1).trans rfl
        have hcz14_2 : w12.cell? ⟨gb414, 2, none⟩ = some (.int .u32 a4_2) := (blk_cell BK414.out 2).trans rfl
        have hcz14_3 : w12.cell? ⟨gb414, 3, none⟩ = some (.int .u32 a4_3) := (blk_cell BK414.out 3).trans rfl
        have hcz14_4 : w12.cell? ⟨gb414, 4, none⟩ = some (.int .u64 a4_4) := (blk_cell BK414.out 4).trans rfl
        have hcz14_5 : w12.cell? ⟨gb414, 5, none⟩ = some (.string a4_5) := (blk_cell BK414.out 5).trans rfl
        have hfz14_0 := blk_frozen BK414.out 0
        have hfz14_1 := blk_frozen BK414.out 1
        have hfz14_2 := blk_frozen BK414.out 2
        have hfz14_3 := blk_frozen BK414.out 3
        have hfz14_4 := blk_frozen BK414.out 4
        have hfz14_5 := blk_frozen BK414.out 5
        go_wp2
        go_meet
        case rel => exact ⟨_, (decide ((a4_5.size : Int) > 4200)), (by first | rfl | (simp; done) | (simp [*]; done)), H', ⟨by first | omega | exact Nat.le_refl _⟩, ⟨by (with_reducible repeat (first | refine blk_drewN ?_ _ | refine blk_drew ?_ | refine blk_alloc ?_ _)); exact BK414.out⟩, ⟨by repeat (first | (with_reducible first | exact HB.out | apply below_alloc | apply pw_below_drewN | apply below_drew1 | refine below_set ?_ GE414.out) | exact HB.out)⟩⟩
    case rest =>
      clear HC10
      try clear c1
      try clear c2
      try clear p2
      try clear c3
      try clear c8
      try clear c9
      try clear c13
      try clear c13b0
      try clear c13b1
      try clear hcz14_0
      try clear hcz14_1
      try clear hcz14_2
      try clear hcz14_3
      try clear hcz14_4
      try clear hcz14_5
      try clear hfz14_0
      try clear hfz14_1
      try clear hfz14_2
      try clear hfz14_3
      try clear hfz14_4
      try clear hfz14_5
      obtain ⟨kq, x39_9, rfl, HA, HJ9, BK414, HB⟩ := hcut
      cases kq with
      | zero => exact absurd HA.out (by simp [careenagelaw10_FreeBack.j0])
      | succ kj9 =>
        have H := HA.out
        clear HA
        simp only [careenagelaw10_FreeBack.j0] at H
        by_cases c15 : x39_9 = true
        · subst c15
          have H1 : (some true) = some r := by rw [if_pos rfl] at H; exact H
          clear H
          have H := H1
          clear H1
          obtain rfl := Option.some.inj H
          go_wp2
          go_ret
          exact ⟨by first | rfl | (simp [errW_none, errW_some] <;> rfl) | (simp [*, errW_none, errW_some] <;> rfl), by repeat (first | (with_reducible first | exact HB.out | apply below_alloc | apply pw_below_drewN | apply below_drew1 | refine below_set ?_ GE414.out) | exact HB.out)⟩
        · replace c15 := Bool.eq_false_iff.mpr c15
          subst c15
          have H1 : ((free_Page.f kj9 a0 a1 a2 9 l3).bind fun bt416 => (if bt416.2.2.2.2.2.2 = 0 then ((free_Of.f kj9 bt416.1 bt416.2.1 bt416.2.2.1 bt416.2.2.2.1 bt416.2.2.2.2.1 bt416.2.2.2.2.2.1).bind fun bt424 => (if bt424.2.2 = 0 then ((careenagekit_Same_uint32.f kj9 bt424.1 l3).bind fun t429 => (if t429 = true then (if bt424.2.1 = a2 then ((free_Rises.f kj9 bt424.1).bind fun t430 => (if t430 = true then (careenagelaw10_FreeBack.j1 kj9 a0 a5 a6 a4_0 a4_1 a4_2 a4_3 a4_4 a4_5) else (some false))) else (some false)) else (some false))) else (some false))) else (careenagelaw10_FreeBack.j1 kj9 a0 a5 a6 a4_0 a4_1 a4_2 a4_3 a4_4 a4_5))) = some r := by rw [if_neg (show ¬ (false = true) by decide)] at H; exact H
          clear H
          have H := H1
          clear H1
          replace H := Option.bind_eq_some_iff.mp H
          obtain ⟨⟨t416, t417, t418, t419, t420, t421, t422⟩, A160, H⟩ := H
          replace H : (if t422 = 0 then ((free_Of.f kj9 t416 t417 t418 t419 t420 t421).bind fun bt424 => (if bt424.2.2 = 0 then ((careenagekit_Same_uint32.f kj9 bt424.1 l3).bind fun t429 => (if t429 = true then (if bt424.2.1 = a2 then ((free_Rises.f kj9 bt424.1).bind fun t430 => (if t430 = true then (careenagelaw10_FreeBack.j1 kj9 a0 a5 a6 a4_0 a4_1 a4_2 a4_3 a4_4 a4_5) else (some false))) else (some false)) else (some false))) else (some false))) else (careenagelaw10_FreeBack.j1 kj9 a0 a5 a6 a4_0 a4_1 a4_2 a4_3 a4_4 a4_5)) = some r := H
          have A16 := Aside0.mk A160
          clear A160
          have HC17 := Aside0.mk H
          clear H
          go_upto_if 49 with (first | ((with_reducible refine gate_callee (f := 27) rfl ?_); refine goesL_ (some 45) rfl rfl Try.func27 (by kernel_rfl) rfl #[.int .i64 a0, .int .u32 a1, .int .u32 a2, .int .u64 9, .slice A3 l3.length c3] rfl (by (try simp only [List.map_toArray, List.map_cons, List.map_nil]); first | done | rfl | (simp only [List.length_drop, List.length_take]; rfl)) ?_; (with_reducible refine (free_Page.calls kj9 a0 a1 a2 9 _ _ l3 t416 t417 t418 t419 t420 t421 t422 _ ?side1 ?side2 A16.out).mono ?_); (case side1 => repeat (first | exact (Kd.C_below HR3.out HB.out) | (with_reducible refine Kd.C_alloc ?_ _) | (with_reducible refine Kd.C_drewN ?_ _) | (with_reducible refine Kd.C_drew ?_))); (case side2 => exact HC3.out); rintro e w18 ⟨rfl, hb⟩; refine ⟨_, rfl, ?_⟩; have n0_ := Aside0.mk (blk_below (g := gb414) (o := .cells #[.int .i64 a4_0, .int .i64 a4_1, .int .u32 a4_2, .int .u32 a4_3, .int .u64 a4_4, .string a4_5] 39 (0, 0)) (by (with_reducible repeat (first | refine blk_drewN ?_ _ | refine blk_drew ?_ | refine blk_alloc ?_ _)); exact BK414.out) hb); have n1_ := Aside0.mk (below_step (by repeat (first | (with_reducible first | exact HB.out | apply below_alloc | apply pw_below_drewN | apply below_drew1 | refine below_set ?_ GE414.out) | exact HB.out)) hb); clear BK414; clear HB; have BK414 := n0_; have HB := n1_; clear n0_ n1_; (try clear hb); (try clear hb2); (try clear hk); (try clear hi)) | ((with_reducible refine gate_dst (N := 15) rfl ?_); (try (refine gate_guard (by rfl) ?_; dsimp only)); refine box_event ?hg (N := 15) ?hd (cs := #[.int .i64 0, .int .i64 0, .int .u32 0, .int .u32 0, .int .u64 0, .string (⟨#[]⟩ : ByteArray)]) (t := 39) ?hr ?_; (case hd => rfl); (case hg => rfl); (case hr => first | (go_simp; done) | (go_simp; rfl)); intro gb423 hg w19 hbox hb; have n0_ := Aside0.mk (blk_below (g := gb414) (o := .cells #[.int .i64 a4_0, .int .i64 a4_1, .int .u32 a4_2, .int .u32 a4_3, .int .u64 a4_4, .string a4_5] 39 (0, 0)) (by (with_reducible repeat (first | refine blk_drewN ?_ _ | refine blk_drew ?_ | refine blk_alloc ?_ _)); exact BK414.out) hb); have n1_ := Aside0.mk (below_step (by repeat (first | (with_reducible first | exact HB.out | apply below_alloc | apply pw_below_drewN | apply below_drew1 | refine below_set ?_ GE414.out) | exact HB.out)) hb); have n2_ := Aside0.mk (hbox); have n3_ := Aside0.mk ((by rw [hg]; exact (below_size (by repeat (first | (with_reducible first | exact HB.out | apply below_alloc | apply pw_below_drewN | apply below_drew1 | refine below_set ?_ GE414.out) | exact HB.out))) : w.heap.size ≤ gb423)); have n4_ := Aside0.mk ((by rw [hg]; exact (below_size (by repeat (first | (with_reducible first | exact HB.out | apply below_alloc | apply pw_below_drewN | apply below_drew1 | refine below_set ?_ GE414.out) | exact HB.out))) : w.heap.size ≤ gb423)); have n5_ := Aside0.mk ((by rw [hg]; exact Nat.ne_of_lt (blk_lt (g := gb414) (o := .cells #[.int .i64 a4_0, .int .i64 a4_1, .int .u32 a4_2, .int .u32 a4_3, .int .u64 a4_4, .string a4_5] 39 (0, 0)) (by (with_reducible repeat (first | refine blk_drewN ?_ _ | refine blk_drew ?_ | refine blk_alloc ?_ _)); exact BK414.out)) : gb414 ≠ gb423)); have n6_ := Aside0.mk ((by rw [hg]; exact Nat.ne_of_gt (blk_lt (g := gb414) (o := .cells #[.int .i64 a4_0, .int .i64 a4_1, .int .u32 a4_2, .int .u32 a4_3, .int .u64 a4_4, .string a4_5] 39 (0, 0)) (by (with_reducible repeat (first | refine blk_drewN ?_ _ | refine blk_drew ?_ | refine blk_alloc ?_ _)); exact BK414.out)) : gb423 ≠ gb414)); clear BK414; clear HB; have BK414 := n0_; have HB := n1_; have BK423 := n2_; have GW423 := n3_; have GE423 := n4_; have NB414_423 := n5_; have NB423_414 := n6_; clear n0_ n1_ n2_ n3_ n4_ n5_ n6_; clear hb hbox hg; have hnb20 := NB423_414.out; have hnc20 := NB414_423.out; have hcz21_0 : w19.cell? ⟨gb423, 0, none⟩ = some (.int .i64 0) := (blk_cell BK423.out 0).trans rfl; have hcz21_1 : w19.cell? ⟨gb423, 1, none⟩ = some (.int .i64 0) := (blk_cell BK423.out 1).trans rfl; have hcz21_2 : w19.cell? ⟨gb423, 2, none⟩ = some (.int .u32 0) := (blk_cell BK423.out 2).trans rfl; have hcz21_3 : w19.cell? ⟨gb423, 3, none⟩ = some (.int .u32 0) := (blk_cell BK423.out 3).trans rfl; have hcz21_4 : w19.cell? ⟨gb423, 4, none⟩ = some (.int .u64 0) := (blk_cell BK423.out 4).trans rfl; have hcz21_5 : w19.cell? ⟨gb423, 5, none⟩ = some (.string (⟨#[]⟩ : ByteArray)) := (blk_cell BK423.out 5).trans rfl; have hfz21_0 := blk_frozen BK423.out 0; have hfz21_1 := blk_frozen BK423.out 1; have hfz21_2 := blk_frozen BK423.out 2; have hfz21_3 := blk_frozen BK423.out 3; have hfz21_4 := blk_frozen BK423.out 4; have hfz21_5 := blk_frozen BK423.out 5))
          (try simp only [Act.put, List.setIfInBounds_toArray, List.set_cons_zero, List.set_cons_succ])
          go_cut [] (fun wc => ∃ (kq : Nat), Aside0 (careenagelaw10_FreeBack.j1 kq a0 a5 a6 a4_0 a4_1 a4_2 a4_3 a4_4 a4_5 = some r) ∧ Aside0 (kq ≤ kj9) ∧ Aside0 (wc.heap[gb414]? = some (.cells #[.int .i64 a4_0, .int .i64 a4_1, .int .u32 a4_2, .int .u32 a4_3, .int .u64 a4_4, .string a4_5] 39 (0, 0))) ∧ Aside0 (wc.heap[gb423]? = some (.cells #[.int .i64 t416, .int .i64 t417, .int .u32 t418, .int .u32 t419, .int .u64 t420, .string t421] 39 (0, 0))) ∧ Aside0 (Below w.heap.size w wc))
          case first =>
            have H := HC17.out
            clear HC17
            by_cases c22 : t422 = 0
            · rw [if_pos c22] at H
              have c22b0 : (t422 == 0) = true := beq_iff_eq.mpr c22
              have c22b1 : (t422 != 0) = false := bne_eq_false_iff_eq.mpr c22
              clear c22
              (first | rw [c22b0] | (simp only [i64_w, i32_w]; rw [c22b0]) | skip)
              replace H := Option.bind_eq_some_iff.mp H
              obtain ⟨⟨t424, t427, t428⟩, A230, H⟩ := H
              replace H : (if t428 = 0 then ((careenagekit_Same_uint32.f kj9 t424 l3).bind fun t429 => (if t429 = true then (if t427 = a2 then ((free_Rises.f kj9 t424).bind fun t430 => (if t430 = true then (careenagelaw10_FreeBack.j1 kj9 a0 a5 a6 a4_0 a4_1 a4_2 a4_3 a4_4 a4_5) else (some false))) else (some false)) else (some false))) else (some false)) = some r := H
              have A23 := Aside0.mk A230
              clear A230
              by_cases c24 : t428 = 0
              · rw [if_pos c24] at H
                have c24b0 : (t428 == 0) = true := beq_iff_eq.mpr c24
                have c24b1 : (t428 != 0) = false := bne_eq_false_iff_eq.mpr c24
                clear c24
                replace H := Option.bind_eq_some_iff.mp H
                obtain ⟨t429, A250, H⟩ := H
                replace H : (if t429 = true then (if t427 = a2 then ((free_Rises.f kj9 t424).bind fun t430 => (if t430 = true then (careenagelaw10_FreeBack.j1 kj9 a0 a5 a6 a4_0 a4_1 a4_2 a4_3 a4_4 a4_5) else (some false))) else (some false)) else (some false)) = some r := H
                have A25 := Aside0.mk A250
                clear A250
                by_cases c26 : t429 = true
                · subst c26
                  have H1 : (if t427 = a2 then ((free_Rises.f kj9 t424).bind fun t430 => (if t430 = true then (careenagelaw10_FreeBack.j1 kj9 a0 a5 a6 a4_0 a4_1 a4_2 a4_3 a4_4 a4_5) else (some false))) else (some false)) = some r := by rw [if_pos rfl] at H; exact H
                  clear H
                  have H := H1
                  clear H1
                  by_cases c27 : t427 = a2
                  · rw [if_pos c27] at H
                    have c27b0 : (t427 == a2) = true := beq_iff_eq.mpr c27
                    have c27b1 : (t427 != a2) = false := bne_eq_false_iff_eq.mpr c27
                    clear c27
                    replace H := Option.bind_eq_some_iff.mp H
                    obtain ⟨t430, A280, H⟩ := H
                    replace H : (if t430 = true then (careenagelaw10_FreeBack.j1 kj9 a0 a5 a6 a4_0 a4_1 a4_2 a4_3 a4_4 a4_5) else (some false)) = some r := H
                    have A28 := Aside0.mk A280
                    clear A280
                    by_cases c29 : t430 = true
                    · subst c29
                      have H1 : (careenagelaw10_FreeBack.j1 kj9 a0 a5 a6 a4_0 a4_1 a4_2 a4_3 a4_4 a4_5) = some r := by rw [if_pos rfl] at H; exact H
                      clear H
                      have H := H1
                      clear H1
                      have H' := Aside0.mk H
                      clear H
                      have hnb30 := NB423_414.out
                      have hnc30 := NB414_423.out
                      have hcz31_0 : w19.cell? ⟨gb423, 0, none⟩ = some (.int .i64 0) := (blk_cell BK423.out 0).trans rfl
                      have hcz31_1 : w19.cell? ⟨gb423, 1, none⟩ = some (.int .i64 0) := (blk_cell BK423.out 1).trans rfl
                      have hcz31_2 : w19.cell? ⟨gb423, 2, none⟩ = some (.int .u32 0) := (blk_cell BK423.out 2).trans rfl
                      have hcz31_3 : w19.cell? ⟨gb423, 3, none⟩ = some (.int .u32 0) := (blk_cell BK423.out 3).trans rfl
                      have hcz31_4 : w19.cell? ⟨gb423, 4, none⟩ = some (.int .u64 0) := (blk_cell BK423.out 4).trans rfl
                      have hcz31_5 : w19.cell? ⟨gb423, 5, none⟩ = some (.string (⟨#[]⟩ : ByteArray)) := (blk_cell BK423.out 5).trans rfl
                      have hfz31_0 := blk_frozen BK423.out 0
                      have hfz31_1 := blk_frozen BK423.out 1
                      have hfz31_2 := blk_frozen BK423.out 2
                      have hfz31_3 := blk_frozen BK423.out 3
                      have hfz31_4 := blk_frozen BK423.out 4
                      have hfz31_5 := blk_frozen BK423.out 5
                      go_wp2_with (first | ((with_reducible refine gate_callee (f := 28) rfl ?_); refine goesL_ (some 52) rfl rfl Try.func28 (by kernel_rfl) rfl #[.agg #[.int .i64 t416, .int .i64 t417, .int .u32 t418, .int .u32 t419, .int .u64 t420, .string t421]] rfl (by (try simp only [List.map_toArray, List.map_cons, List.map_nil]); first | done | rfl | (simp only [List.length_drop, List.length_take]; rfl)) ?_; (with_reducible refine (free_Of.calls kj9 t416 t417 t418 t419 t420 t421 t424 t427 t428 _ A23.out).mono ?_); rintro e w32 ⟨v425, rfl, ho0, hb⟩; refine ⟨_, rfl, ?_⟩; have n0_ := Aside0.mk (Kd.R_lower ho0 (below_size (by repeat (first | (with_reducible first | exact HB.out | apply below_alloc | apply pw_below_drewN | apply below_drew1 | refine below_set ?_ GE414.out | refine below_set ?_ GE423.out) | exact HB.out)))); have n1_ := Aside0.mk (blk_below (g := gb414) (o := .cells #[.int .i64 a4_0, .int .i64 a4_1, .int .u32 a4_2, .int .u32 a4_3, .int .u64 a4_4, .string a4_5] 39 (0, 0)) (by (with_reducible repeat (first | refine blk_drewN ?_ _ | refine blk_drew ?_ | refine blk_alloc ?_ _)); refine blk_far ?_ NB414_423.out _; (with_reducible repeat (first | refine blk_drewN ?_ _ | refine blk_drew ?_ | refine blk_alloc ?_ _)); refine blk_far ?_ NB414_423.out _; (with_reducible repeat (first | refine blk_drewN ?_ _ | refine blk_drew ?_ | refine blk_alloc ?_ _)); refine blk_far ?_ NB414_423.out _; (with_reducible repeat (first | refine blk_drewN ?_ _ | refine blk_drew ?_ | refine blk_alloc ?_ _)); refine blk_far ?_ NB414_423.out _; (with_reducible repeat (first | refine blk_drewN ?_ _ | refine blk_drew ?_ | refine blk_alloc ?_ _)); refine blk_far ?_ NB414_423.out _; (with_reducible repeat (first | refine blk_drewN ?_ _ | refine blk_drew ?_ | refine blk_alloc ?_ _)); refine blk_far ?_ NB414_423.out _; (with_reducible repeat (first | refine blk_drewN ?_ _ | refine blk_drew ?_ | refine blk_alloc ?_ _)); exact BK414.out) hb); have n2_ := Aside0.mk (blk_below (g := gb423) (o := .cells #[.int .i64 t416, .int .i64 t417, .int .u32 t418, .int .u32 t419, .int .u64 t420, .string t421] 39 (0, 0)) (by (with_reducible repeat (first | refine blk_drewN ?_ _ | refine blk_drew ?_ | refine blk_alloc ?_ _)); refine blk_put (cs := #[.int .i64 t416, .int .i64 t417, .int .u32 t418, .int .u32 t419, .int .u64 t420, .string (⟨#[]⟩ : ByteArray)]) ?_ 5 _ rfl; (with_reducible repeat (first | refine blk_drewN ?_ _ | refine blk_drew ?_ | refine blk_alloc ?_ _)); refine blk_put (cs := #[.int .i64 t416, .int .i64 t417, .int .u32 t418, .int .u32 t419, .int .u64 0, .string (⟨#[]⟩ : ByteArray)]) ?_ 4 _ rfl; (with_reducible repeat (first | refine blk_drewN ?_ _ | refine blk_drew ?_ | refine blk_alloc ?_ _)); refine blk_put (cs := #[.int .i64 t416, .int .i64 t417, .int .u32 t418, .int .u32 0, .int .u64 0, .string (⟨#[]⟩ : ByteArray)]) ?_ 3 _ rfl; (with_reducible repeat (first | refine blk_drewN ?_ _ | refine blk_drew ?_ | refine blk_alloc ?_ _)); refine blk_put (cs := #[.int .i64 t416, .int .i64 t417, .int .u32 0, .int .u32 0, .int .u64 0, .string (⟨#[]⟩ : ByteArray)]) ?_ 2 _ rfl; (with_reducible repeat (first | refine blk_drewN ?_ _ | refine blk_drew ?_ | refine blk_alloc ?_ _)); refine blk_put (cs := #[.int .i64 t416, .int .i64 0, .int .u32 0, .int .u32 0, .int .u64 0, .string (⟨#[]⟩ : ByteArray)]) ?_ 1 _ rfl; (with_reducible repeat (first | refine blk_drewN ?_ _ | refine blk_drew ?_ | refine blk_alloc ?_ _)); refine blk_put (cs := #[.int .i64 0, .int .i64 0, .int .u32 0, .int .u32 0, .int .u64 0, .string (⟨#[]⟩ : ByteArray)]) ?_ 0 _ rfl; (with_reducible repeat (first | refine blk_drewN ?_ _ | refine blk_drew ?_ | refine blk_alloc ?_ _)); exact BK423.out) hb); have n3_ := Aside0.mk (below_step (by repeat (first | (with_reducible first | exact HB.out | apply below_alloc | apply pw_below_drewN | apply below_drew1 | refine below_set ?_ GE414.out | refine below_set ?_ GE423.out) | exact HB.out)) hb); clear BK414; clear BK423; clear HB; have HO426 := n0_; have BK414 := n1_; have BK423 := n2_; have HB := n3_; clear n0_ n1_ n2_ n3_; (try clear hb); (try clear hb2); (try clear hk); (try clear hi); (try clear ho0); obtain ⟨Ao33, co33, eo33⟩ := Kd.R_slice HO426.out; subst eo33) | ((with_reducible refine gate_dst (N := 61) rfl ?_); (try (refine gate_guard (by rfl) ?_; dsimp only)); (try (refine gate_guard (by rfl) ?_; dsimp only)); (with_reducible refine gate_callee (f := 21) rfl ?_); refine goesL_ (some 61) rfl rfl Try.func21 (by kernel_rfl) rfl #[.slice Ao33 t424.length co33, .slice A3 l3.length c3] rfl (by (try simp only [List.map_toArray, List.map_cons, List.map_nil]); first | done | rfl | (simp only [List.length_drop, List.length_take]; rfl)) ?_; (with_reducible refine (careenagekit_Same_uint32.calls kj9 _ _ t424 _ _ l3 true _ ?side1 ?side2 ?side3 ?side4 A25.out).mono ?_); (case side1 => repeat (first | exact (Kd.R_reads' HO426.out).2.2 | (with_reducible refine Kd.C_alloc ?_ _) | (with_reducible refine Kd.C_drewN ?_ _) | (with_reducible refine Kd.C_drew ?_))); (case side2 => exact (Kd.R_reads' HO426.out).2.1); (case side3 => repeat (first | exact (Kd.C_below HR3.out HB.out) | (with_reducible refine Kd.C_alloc ?_ _) | (with_reducible refine Kd.C_drewN ?_ _) | (with_reducible refine Kd.C_drew ?_))); (case side4 => exact HC3.out); rintro e w' ⟨rfl, ⟨nd, rfl⟩⟩; refine ⟨_, rfl, ?_⟩) | ((with_reducible refine gate_dst (N := 71) rfl ?_); (try (refine gate_guard (by rfl) ?_; dsimp only)); (try (refine gate_guard (by rfl) ?_; dsimp only)); (with_reducible refine gate_callee (f := 29) rfl ?_); refine goesL_ (some 71) rfl rfl Try.func29 (by kernel_rfl) rfl #[.slice Ao33 t424.length co33] rfl (by (try simp only [List.map_toArray, List.map_cons, List.map_nil]); first | done | rfl | (simp only [List.length_drop, List.length_take]; rfl)) ?_; (with_reducible refine (free_Rises.calls kj9 _ _ t424 true _ ?side1 ?side2 A28.out).mono ?_); (case side1 => repeat (first | exact (Kd.R_reads' HO426.out).2.2 | (with_reducible refine Kd.C_alloc ?_ _) | (with_reducible refine Kd.C_drewN ?_ _) | (with_reducible refine Kd.C_drew ?_))); (case side2 => exact (Kd.R_reads' HO426.out).2.1); rintro e w' ⟨rfl, ⟨nd, rfl⟩⟩; refine ⟨_, rfl, ?_⟩))
                      go_meet
                      case rel => exact ⟨_, H', ⟨by have := HJ9.out; first | omega | exact Nat.le_refl _⟩, ⟨by (with_reducible repeat (first | refine blk_drewN ?_ _ | refine blk_drew ?_ | refine blk_alloc ?_ _)); exact BK414.out⟩, ⟨by (with_reducible repeat (first | refine blk_drewN ?_ _ | refine blk_drew ?_ | refine blk_alloc ?_ _)); exact BK423.out⟩, ⟨by repeat (first | (with_reducible first | exact HB.out | apply below_alloc | apply pw_below_drewN | apply below_drew1 | refine below_set ?_ GE414.out | refine below_set ?_ GE423.out) | exact HB.out)⟩⟩
                    · replace c29 := Bool.eq_false_iff.mpr c29
                      subst c29
                      have H1 : (some false) = some r := by rw [if_neg (show ¬ (false = true) by decide)] at H; exact H
                      clear H
                      have H := H1
                      clear H1
                      exact absurd ((Option.some.inj H).trans HLaw.out) (by simp)
                  · rw [if_neg c27] at H
                    have c27b0 : (t427 == a2) = false := beq_eq_false_iff_ne.mpr c27
                    have c27b1 : (t427 != a2) = true := bne_iff_ne.mpr c27
                    exact absurd ((Option.some.inj H).trans HLaw.out) (by simp)
                · replace c26 := Bool.eq_false_iff.mpr c26
                  subst c26
                  have H1 : (some false) = some r := by rw [if_neg (show ¬ (false = true) by decide)] at H; exact H
                  clear H
                  have H := H1
                  clear H1
                  exact absurd ((Option.some.inj H).trans HLaw.out) (by simp)
              · rw [if_neg c24] at H
                have c24b0 : (t428 == 0) = false := beq_eq_false_iff_ne.mpr c24
                have c24b1 : (t428 != 0) = true := bne_iff_ne.mpr c24
                exact absurd ((Option.some.inj H).trans HLaw.out) (by simp)
            · rw [if_neg c22] at H
              have c22b0 : (t422 == 0) = false := beq_eq_false_iff_ne.mpr c22
              have c22b1 : (t422 != 0) = true := bne_iff_ne.mpr c22
              (first | rw [c22b0] | (simp only [i64_w, i32_w]; rw [c22b0]) | skip)
              have H' := Aside0.mk H
              clear H
              go_wp2
              go_meet
              case rel => exact ⟨_, H', ⟨by have := HJ9.out; first | omega | exact Nat.le_refl _⟩, ⟨by (with_reducible repeat (first | refine blk_drewN ?_ _ | refine blk_drew ?_ | refine blk_alloc ?_ _)); refine blk_far ?_ NB414_423.out _; (with_reducible repeat (first | refine blk_drewN ?_ _ | refine blk_drew ?_ | refine blk_alloc ?_ _)); refine blk_far ?_ NB414_423.out _; (with_reducible repeat (first | refine blk_drewN ?_ _ | refine blk_drew ?_ | refine blk_alloc ?_ _)); refine blk_far ?_ NB414_423.out _; (with_reducible repeat (first | refine blk_drewN ?_ _ | refine blk_drew ?_ | refine blk_alloc ?_ _)); refine blk_far ?_ NB414_423.out _; (with_reducible repeat (first | refine blk_drewN ?_ _ | refine blk_drew ?_ | refine blk_alloc ?_ _)); refine blk_far ?_ NB414_423.out _; (with_reducible repeat (first | refine blk_drewN ?_ _ | refine blk_drew ?_ | refine blk_alloc ?_ _)); refine blk_far ?_ NB414_423.out _; (with_reducible repeat (first | refine blk_drewN ?_ _ | refine blk_drew ?_ | refine blk_alloc ?_ _)); exact BK414.out⟩, ⟨by (with_reducible repeat (first | refine blk_drewN ?_ _ | refine blk_drew ?_ | refine blk_alloc ?_ _)); refine blk_put (cs := #[.int .i64 t416, .int .i64 t417, .int .u32 t418, .int .u32 t419, .int .u64 t420, .string (⟨#[]⟩ : ByteArray)]) ?_ 5 _ rfl; (with_reducible repeat (first | refine blk_drewN ?_ _ | refine blk_drew ?_ | refine blk_alloc ?_ _)); refine blk_put (cs := #[.int .i64 t416, .int .i64 t417, .int .u32 t418, .int .u32 t419, .int .u64 0, .string (⟨#[]⟩ : ByteArray)]) ?_ 4 _ rfl; (with_reducible repeat (first | refine blk_drewN ?_ _ | refine blk_drew ?_ | refine blk_alloc ?_ _)); refine blk_put (cs := #[.int .i64 t416, .int .i64 t417, .int .u32 t418, .int .u32 0, .int .u64 0, .string (⟨#[]⟩ : ByteArray)]) ?_ 3 _ rfl; (with_reducible repeat (first | refine blk_drewN ?_ _ | refine blk_drew ?_ | refine blk_alloc ?_ _)); refine blk_put (cs := #[.int .i64 t416, .int .i64 t417, .int .u32 0, .int .u32 0, .int .u64 0, .string (⟨#[]⟩ : ByteArray)]) ?_ 2 _ rfl; (with_reducible repeat (first | refine blk_drewN ?_ _ | refine blk_drew ?_ | refine blk_alloc ?_ _)); refine blk_put (cs := #[.int .i64 t416, .int .i64 0, .int .u32 0, .int .u32 0, .int .u64 0, .string (⟨#[]⟩ : ByteArray)]) ?_ 1 _ rfl; (with_reducible repeat (first | refine blk_drewN ?_ _ | refine blk_drew ?_ | refine blk_alloc ?_ _)); refine blk_put (cs := #[.int .i64 0, .int .i64 0, .int .u32 0, .int .u32 0, .int .u64 0, .string (⟨#[]⟩ : ByteArray)]) ?_ 0 _ rfl; (with_reducible repeat (first | refine blk_drewN ?_ _ | refine blk_drew ?_ | refine blk_alloc ?_ _)); exact BK423.out⟩, ⟨by repeat (first | (with_reducible first | exact HB.out | apply below_alloc | apply pw_below_drewN | apply below_drew1 | refine below_set ?_ GE414.out | refine below_set ?_ GE423.out) | exact HB.out)⟩⟩
          case rest =>
            clear HC17
            try clear c1
            try clear c2
            try clear p2
            try clear c3
            try clear c8
            try clear c9
            try clear c13
            try clear c13b0
            try clear c13b1
            try clear c15
            try clear c20
            try clear c21
            try clear c22
            try clear c22b0
            try clear c22b1
            try clear c24
            try clear c24b0
            try clear c24b1
            try clear c26
            try clear c27
            try clear c27b0
            try clear c27b1
            try clear c28
            try clear c29
            try clear c30
            try clear hcz14_0
            try clear hcz14_1
            try clear hcz14_2
            try clear hcz14_3
            try clear hcz14_4
            try clear hcz14_5
            try clear hcz21_0
            try clear hcz21_1
            try clear hcz21_2
            try clear hcz21_3
            try clear hcz21_4
            try clear hcz21_5
            try clear hcz31_0
            try clear hcz31_1
            try clear hcz31_2
            try clear hcz31_3
            try clear hcz31_4
            try clear hcz31_5
            try clear hfz14_0
            try clear hfz14_1
            try clear hfz14_2
            try clear hfz14_3
            try clear hfz14_4
            try clear hfz14_5
            try clear hfz21_0
            try clear hfz21_1
            try clear hfz21_2
            try clear hfz21_3
            try clear hfz21_4
            try clear hfz21_5
            try clear hfz31_0
            try clear hfz31_1
            try clear hfz31_2
            try clear hfz31_3
            try clear hfz31_4
            try clear hfz31_5
            try clear p2
            obtain ⟨kq, HA, HJ16, BK414, BK423, HB⟩ := hcut
            cases kq with
            | zero => exact absurd HA.out (by simp [careenagelaw10_FreeBack.j1])
            | succ kj16 =>
              have H := HA.out
              clear HA
              simp only [careenagelaw10_FreeBack.j1] at H
              replace H := Option.bind_eq_some_iff.mp H
              obtain ⟨⟨t431, t434, t435⟩, A340, H⟩ := H
              replace H : (if t435 = 0 then ((free_Page.f kj16 (wrap64 ((a4_5.size : Int) + 24)) a4_2 t434 a4_4 t431).bind fun bt436 => (if bt436.2.2.2.2.2.2 = 0 then (if (!(bt436.1 == a4_0) || (!(bt436.2.1 == a4_1) || (!(bt436.2.2.1 == a4_2) || (!(bt436.2.2.2.1 == a4_3) || (!(bt436.2.2.2.2.1 == a4_4) || (!(bt436.2.2.2.2.2.1.toList == a4_5.toList))))))) = true then (some false) else (careenagelaw10_FreeBack.j2 kj16 a0 a5 a6)) else (some false))) else (careenagelaw10_FreeBack.j2 kj16 a0 a5 a6)) = some r := H
              have A34 := Aside0.mk A340
              clear A340
              have HC35 := Aside0.mk H
              clear H
              have hnb36 := NB414_423.out
              have hnc36 := NB423_414.out
              have hcz37_0 : wc.cell? ⟨gb414, 0, none⟩ = some (.int .i64 a4_0) := (blk_cell BK414.out 0).trans rfl
              have hcz37_1 : wc.cell? ⟨gb414, 1, none⟩ = some (.int .i64 a4_1) := (blk_cell BK414.out 1).trans rfl
              have hcz37_2 : wc.cell? ⟨gb414, 2, none⟩ = some (.int .u32 a4_2) := (blk_cell BK414.out 2).trans rfl
              have hcz37_3 : wc.cell? ⟨gb414, 3, none⟩ = some (.int .u32 a4_3) := (blk_cell BK414.out 3).trans rfl
              have hcz37_4 : wc.cell? ⟨gb414, 4, none⟩ = some (.int .u64 a4_4) := (blk_cell BK414.out 4).trans rfl
              have hcz37_5 : wc.cell? ⟨gb414, 5, none⟩ = some (.string a4_5) := (blk_cell BK414.out 5).trans rfl
              have hfz37_0 := blk_frozen BK414.out 0
              have hfz37_1 := blk_frozen BK414.out 1
              have hfz37_2 := blk_frozen BK414.out 2
              have hfz37_3 := blk_frozen BK414.out 3
              have hfz37_4 := blk_frozen BK414.out 4
              have hfz37_5 := blk_frozen BK414.out 5
              go_upto_if 81 with (first | ((with_reducible refine gate_callee (f := 28) rfl ?_); refine goesL_ (some 76) rfl rfl Try.func28 (by kernel_rfl) rfl #[.agg #[.int .i64 a4_0, .int .i64 a4_1, .int .u32 a4_2, .int .u32 a4_3, .int .u64 a4_4, .string a4_5]] rfl (by (try simp only [List.map_toArray, List.map_cons, List.map_nil]); first | done | rfl | (simp only [List.length_drop, List.length_take]; rfl)) ?_; (with_reducible refine (free_Of.calls kj16 a4_0 a4_1 a4_2 a4_3 a4_4 a4_5 t431 t434 t435 _ A34.out).mono ?_); rintro e w38 ⟨v432, rfl, ho0, hb⟩; refine ⟨_, rfl, ?_⟩; have n0_ := Aside0.mk (Kd.R_lower ho0 (below_size (by repeat (first | (with_reducible first | exact HB.out | apply below_alloc | apply pw_below_drewN | apply below_drew1 | refine below_set ?_ GE414.out | refine below_set ?_ GE423.out) | exact HB.out)))); have n1_ := Aside0.mk (blk_below (g := gb414) (o := .cells #[.int .i64 a4_0, .int .i64 a4_1, .int .u32 a4_2, .int .u32 a4_3, .int .u64 a4_4, .string a4_5] 39 (0, 0)) (by (with_reducible repeat (first | refine blk_drewN ?_ _ | refine blk_drew ?_ | refine blk_alloc ?_ _)); exact BK414.out) hb); have n2_ := Aside0.mk (blk_below (g := gb423) (o := .cells #[.int .i64 t416, .int .i64 t417, .int .u32 t418, .int .u32 t419, .int .u64 t420, .string t421] 39 (0, 0)) (by (with_reducible repeat (first | refine blk_drewN ?_ _ | refine blk_drew ?_ | refine blk_alloc ?_ _)); exact BK423.out) hb); have n3_ := Aside0.mk (below_step (by repeat (first | (with_reducible first | exact HB.out | apply below_alloc | apply pw_below_drewN | apply below_drew1 | refine below_set ?_ GE414.out | refine below_set ?_ GE423.out) | exact HB.out)) hb); clear BK414; clear BK423; clear HB; have HO433 := n0_; have BK414 := n1_; have BK423 := n2_; have HB := n3_; clear n0_ n1_ n2_ n3_; (try clear hb); (try clear hb2); (try clear hk); (try clear hi); (try clear ho0)))
              (try simp only [Act.put, List.setIfInBounds_toArray, List.set_cons_zero, List.set_cons_succ])
              go_cut [] (fun wc => ∃ (kq : Nat), Aside0 (careenagelaw10_FreeBack.j2 kq a0 a5 a6 = some r) ∧ Aside0 (kq ≤ kj16) ∧ Aside0 (wc.heap[gb414]? = some (.cells #[.int .i64 a4_0, .int .i64 a4_1, .int .u32 a4_2, .int .u32 a4_3, .int .u64 a4_4, .string a4_5] 39 (0, 0))) ∧ Aside0 (wc.heap[gb423]? = some (.cells #[.int .i64 t416, .int .i64 t417, .int .u32 t418, .int .u32 t419, .int .u64 t420, .string t421] 39 (0, 0))) ∧ Aside0 (Below w.heap.size w wc))
              case first =>
                have H := HC35.out
                clear HC35
                by_cases c39 : t435 = 0
                · rw [if_pos c39] at H
                  have c39b0 : (t435 == 0) = true := beq_iff_eq.mpr c39
                  have c39b1 : (t435 != 0) = false := bne_eq_false_iff_eq.mpr c39
                  clear c39
                  (first | rw [c39b0] | (simp only [i64_w, i32_w]; rw [c39b0]) | skip)
                  replace H := Option.bind_eq_some_iff.mp H
                  obtain ⟨⟨t436, t437, t438, t439, t440, t441, t442⟩, A400, H⟩ := H
                  replace H : (if t442 = 0 then (if (!(t436 == a4_0) || (!(t437 == a4_1) || (!(t438 == a4_2) || (!(t439 == a4_3) || (!(t440 == a4_4) || (!(t441.toList == a4_5.toList))))))) = true then (some false) else (careenagelaw10_FreeBack.j2 kj16 a0 a5 a6)) else (some false)) = some r := H
                  have A40 := Aside0.mk A400
                  clear A400
                  by_cases c41 : t442 = 0
                  · rw [if_pos c41] at H
                    have c41b0 : (t442 == 0) = true := beq_iff_eq.mpr c41
                    have c41b1 : (t442 != 0) = false := bne_eq_false_iff_eq.mpr c41
                    clear c41
                    by_cases c42 : (!(t436 == a4_0) || (!(t437 == a4_1) || (!(t438 == a4_2) || (!(t439 == a4_3) || (!(t440 == a4_4) || (!(t441.toList == a4_5.toList))))))) = true
                    · rw [if_pos c42] at H
                      have c42b0 : (!(t436 == a4_0) || (!(t437 == a4_1) || (!(t438 == a4_2) || (!(t439 == a4_3) || (!(t440 == a4_4) || (!(t441.toList == a4_5.toList))))))) = true := c42
                      clear c42
                      exact absurd ((Option.some.inj H).trans HLaw.out) (by simp)
                    · rw [if_neg c42] at H
                      have c42b0 : (!(t436 == a4_0) || (!(t437 == a4_1) || (!(t438 == a4_2) || (!(t439 == a4_3) || (!(t440 == a4_4) || (!(t441.toList == a4_5.toList))))))) = false := by first | (simp; done) | (simp at c42; done) | simpa using c42
                      clear c42
                      have H' := Aside0.mk H
                      clear H
                      have hnb43 := NB414_423.out
                      have hnc43 := NB423_414.out
                      have hcz44_0 : w38.cell? ⟨gb414, 0, none⟩ = some (.int .i64 a4_0) := (blk_cell BK414.out 0).trans rfl
                      have hcz44_1 : w38.cell? ⟨gb414, 1, none⟩ = some (.int .i64 a4_1) := (blk_cell BK414.out 1).trans rfl
                      have hcz44_2 : w38.cell? ⟨gb414, 2, none⟩ = some (.int .u32 a4_2) := (blk_cell BK414.out 2).trans rfl
                      have hcz44_3 : w38.cell? ⟨gb414, 3, none⟩ = some (.int .u32 a4_3) := (blk_cell BK414.out 3).trans rfl
                      have hcz44_4 : w38.cell? ⟨gb414, 4, none⟩ = some (.int .u64 a4_4) := (blk_cell BK414.out 4).trans rfl
                      have hcz44_5 : w38.cell? ⟨gb414, 5, none⟩ = some (.string a4_5) := (blk_cell BK414.out 5).trans rfl
                      have hfz44_0 := blk_frozen BK414.out 0
                      have hfz44_1 := blk_frozen BK414.out 1
                      have hfz44_2 := blk_frozen BK414.out 2
                      have hfz44_3 := blk_frozen BK414.out 3
                      have hfz44_4 := blk_frozen BK414.out 4
                      have hfz44_5 := blk_frozen BK414.out 5
                      obtain ⟨Ao45, co45, eo45⟩ := Kd.R_slice HO433.out
                      subst eo45
                      go_wp2_with (first | ((with_reducible refine gate_callee (f := 27) rfl ?_); refine goesL_ (some 93) rfl rfl Try.func27 (by kernel_rfl) rfl #[.int .i64 (wrap64 ((a4_5.size : Int) + 24)), .int .u32 a4_2, .int .u32 t434, .int .u64 a4_4, .slice Ao45 t431.length co45] rfl (by (try simp only [List.map_toArray, List.map_cons, List.map_nil]); first | done | rfl | (simp only [List.length_drop, List.length_take]; rfl)) ?_; (with_reducible refine (free_Page.calls kj16 (wrap64 ((a4_5.size : Int) + 24)) a4_2 t434 a4_4 _ _ t431 t436 t437 t438 t439 t440 t441 t442 _ ?side1 ?side2 A40.out).mono ?_); (case side1 => repeat (first | exact (Kd.R_reads' HO433.out).2.2 | (with_reducible refine Kd.C_alloc ?_ _) | (with_reducible refine Kd.C_drewN ?_ _) | (with_reducible refine Kd.C_drew ?_))); (case side2 => exact (Kd.R_reads' HO433.out).2.1); rintro e w46 ⟨rfl, hb⟩; refine ⟨_, rfl, ?_⟩; have n0_ := Aside0.mk (Kd.R_below (by (with_reducible repeat (first | apply Kd.R_alloc | apply Kd.R_drewN | apply Kd.R_drew)); exact HO433.out) hb); have n1_ := Aside0.mk (blk_below (g := gb414) (o := .cells #[.int .i64 a4_0, .int .i64 a4_1, .int .u32 a4_2, .int .u32 a4_3, .int .u64 a4_4, .string a4_5] 39 (0, 0)) (by (with_reducible repeat (first | refine blk_drewN ?_ _ | refine blk_drew ?_ | refine blk_alloc ?_ _)); exact BK414.out) hb); have n2_ := Aside0.mk (blk_below (g := gb423) (o := .cells #[.int .i64 t416, .int .i64 t417, .int .u32 t418, .int .u32 t419, .int .u64 t420, .string t421] 39 (0, 0)) (by (with_reducible repeat (first | refine blk_drewN ?_ _ | refine blk_drew ?_ | refine blk_alloc ?_ _)); exact BK423.out) hb); have n3_ := Aside0.mk (below_step (by repeat (first | (with_reducible first | exact HB.out | apply below_alloc | apply pw_below_drewN | apply below_drew1 | refine below_set ?_ GE414.out | refine below_set ?_ GE423.out) | exact HB.out)) hb); clear HO433; clear BK414; clear BK423; clear HB; have HO433 := n0_; have BK414 := n1_; have BK423 := n2_; have HB := n3_; clear n0_ n1_ n2_ n3_; (try clear hb); (try clear hb2); (try clear hk); (try clear hi)) | ((with_reducible refine gate_dst (N := 23) rfl ?_); (try (refine gate_guard (by rfl) ?_; dsimp only)); refine box_event ?hg (N := 23) ?hd (cs := #[.int .i64 0, .int .i64 0, .int .u32 0, .int .u32 0, .int .u64 0, .string (⟨#[]⟩ : ByteArray)]) (t := 39) ?hr ?_; (case hd => rfl); (case hg => rfl); (case hr => first | (go_simp; done) | (go_simp; rfl)); intro gb443 hg w47 hbox hb; have n0_ := Aside0.mk (Kd.R_below (by (with_reducible repeat (first | apply Kd.R_alloc | apply Kd.R_drewN | apply Kd.R_drew)); exact HO433.out) hb); have n1_ := Aside0.mk (blk_below (g := gb414) (o := .cells #[.int .i64 a4_0, .int .i64 a4_1, .int .u32 a4_2, .int .u32 a4_3, .int .u64 a4_4, .string a4_5] 39 (0, 0)) (by (with_reducible repeat (first | refine blk_drewN ?_ _ | refine blk_drew ?_ | refine blk_alloc ?_ _)); exact BK414.out) hb); have n2_ := Aside0.mk (blk_below (g := gb423) (o := .cells #[.int .i64 t416, .int .i64 t417, .int .u32 t418, .int .u32 t419, .int .u64 t420, .string t421] 39 (0, 0)) (by (with_reducible repeat (first | refine blk_drewN ?_ _ | refine blk_drew ?_ | refine blk_alloc ?_ _)); exact BK423.out) hb); have n3_ := Aside0.mk (below_step (by repeat (first | (with_reducible first | exact HB.out | apply below_alloc | apply pw_below_drewN | apply below_drew1 | refine below_set ?_ GE414.out | refine below_set ?_ GE423.out) | exact HB.out)) hb); have n4_ := Aside0.mk (hbox); have n5_ := Aside0.mk ((by rw [hg]; exact (below_size (by repeat (first | (with_reducible first | exact HB.out | apply below_alloc | apply pw_below_drewN | apply below_drew1 | refine below_set ?_ GE414.out | refine below_set ?_ GE423.out) | exact HB.out))) : w.heap.size ≤ gb443)); have n6_ := Aside0.mk ((by rw [hg]; exact (below_size (by repeat (first | (with_reducible first | exact HB.out | apply below_alloc | apply pw_below_drewN | apply below_drew1 | refine below_set ?_ GE414.out | refine below_set ?_ GE423.out) | exact HB.out))) : w.heap.size ≤ gb443)); have n7_ := Aside0.mk ((by rw [hg]; exact Nat.ne_of_lt (blk_lt (g := gb414) (o := .cells #[.int .i64 a4_0, .int .i64 a4_1, .int .u32 a4_2, .int .u32 a4_3, .int .u64 a4_4, .string a4_5] 39 (0, 0)) (by (with_reducible repeat (first | refine blk_drewN ?_ _ | refine blk_drew ?_ | refine blk_alloc ?_ _)); exact BK414.out)) : gb414 ≠ gb443)); have n8_ := Aside0.mk ((by rw [hg]; exact Nat.ne_of_gt (blk_lt (g := gb414) (o := .cells #[.int .i64 a4_0, .int .i64 a4_1, .int .u32 a4_2, .int .u32 a4_3, .int .u64 a4_4, .string a4_5] 39 (0, 0)) (by (with_reducible repeat (first | refine blk_drewN ?_ _ | refine blk_drew ?_ | refine blk_alloc ?_ _)); exact BK414.out)) : gb443 ≠ gb414)); have n9_ := Aside0.mk ((by rw [hg]; exact Nat.ne_of_lt (blk_lt (g := gb423) (o := .cells #[.int .i64 t416, .int .i64 t417, .int .u32 t418, .int .u32 t419, .int .u64 t420, .string t421] 39 (0, 0)) (by (with_reducible repeat (first | refine blk_drewN ?_ _ | refine blk_drew ?_ | refine blk_alloc ?_ _)); exact BK423.out)) : gb423 ≠ gb443)); have n10_ := Aside0.mk ((by rw [hg]; exact Nat.ne_of_gt (blk_lt (g := gb423) (o := .cells #[.int .i64 t416, .int .i64 t417, .int .u32 t418, .int .u32 t419, .int .u64 t420, .string t421] 39 (0, 0)) (by (with_reducible repeat (first | refine blk_drewN ?_ _ | refine blk_drew ?_ | refine blk_alloc ?_ _)); exact BK423.out)) : gb443 ≠ gb423)); clear HO433; clear BK414; clear BK423; clear HB; have HO433 := n0_; have BK414 := n1_; have BK423 := n2_; have HB := n3_; have BK443 := n4_; have GW443 := n5_; have GE443 := n6_; have NB414_443 := n7_; have NB443_414 := n8_; have NB423_443 := n9_; have NB443_423 := n10_; clear n0_ n1_ n2_ n3_ n4_ n5_ n6_ n7_ n8_ n9_ n10_; clear hb hbox hg; have hnb48 := NB443_414.out; have hnc48 := NB414_443.out; have hnb49 := NB443_423.out; have hnc49 := NB423_443.out; have hcz50_0 : w47.cell? ⟨gb443, 0, none⟩ = some (.int .i64 0) := (blk_cell BK443.out 0).trans rfl; have hcz50_1 : w47.cell? ⟨gb443, 1, none⟩ = some (.int .i64 0) := (blk_cell BK443.out 1).trans rfl; have hcz50_2 : w47.cell? ⟨gb443, 2, none⟩ = some (.int .u32 0) := (blk_cell BK443.out 2).trans rfl; have hcz50_3 : w47.cell? ⟨gb443, 3, none⟩ = some (.int .u32 0) := (blk_cell BK443.out 3).trans rfl; have hcz50_4 : w47.cell? ⟨gb443, 4, none⟩ = some (.int .u64 0) := (blk_cell BK443.out 4).trans rfl; have hcz50_5 : w47.cell? ⟨gb443, 5, none⟩ = some (.string (⟨#[]⟩ : ByteArray)) := (blk_cell BK443.out 5).trans rfl; have hfz50_0 := blk_frozen BK443.out 0; have hfz50_1 := blk_frozen BK443.out 1; have hfz50_2 := blk_frozen BK443.out 2; have hfz50_3 := blk_frozen BK443.out 3; have hfz50_4 := blk_frozen BK443.out 4; have hfz50_5 := blk_frozen BK443.out 5; have hcz51_0 : w47.cell? ⟨gb414, 0, none⟩ = some (.int .i64 a4_0) := (blk_cell BK414.out 0).trans rfl; have hcz51_1 : w47.cell? ⟨gb414, 1, none⟩ = some (.int .i64 a4_1) := (blk_cell BK414.out 1).trans rfl; have hcz51_2 : w47.cell? ⟨gb414, 2, none⟩ = some (.int .u32 a4_2) := (blk_cell BK414.out 2).trans rfl; have hcz51_3 : w47.cell? ⟨gb414, 3, none⟩ = some (.int .u32 a4_3) := (blk_cell BK414.out 3).trans rfl; have hcz51_4 : w47.cell? ⟨gb414, 4, none⟩ = some (.int .u64 a4_4) := (blk_cell BK414.out 4).trans rfl; have hcz51_5 : w47.cell? ⟨gb414, 5, none⟩ = some (.string a4_5) := (blk_cell BK414.out 5).trans rfl; have hfz51_0 := blk_frozen BK414.out 0; have hfz51_1 := blk_frozen BK414.out 1; have hfz51_2 := blk_frozen BK414.out 2; have hfz51_3 := blk_frozen BK414.out 3; have hfz51_4 := blk_frozen BK414.out 4; have hfz51_5 := blk_frozen BK414.out 5))
                      go_meet
                      case rel => exact ⟨_, H', ⟨by have := HJ9.out; have := HJ16.out; first | omega | exact Nat.le_refl _⟩, ⟨by (with_reducible repeat (first | refine blk_drewN ?_ _ | refine blk_drew ?_ | refine blk_alloc ?_ _)); refine blk_far ?_ NB414_443.out _; (with_reducible repeat (first | refine blk_drewN ?_ _ | refine blk_drew ?_ | refine blk_alloc ?_ _)); refine blk_far ?_ NB414_443.out _; (with_reducible repeat (first | refine blk_drewN ?_ _ | refine blk_drew ?_ | refine blk_alloc ?_ _)); refine blk_far ?_ NB414_443.out _; (with_reducible repeat (first | refine blk_drewN ?_ _ | refine blk_drew ?_ | refine blk_alloc ?_ _)); refine blk_far ?_ NB414_443.out _; (with_reducible repeat (first | refine blk_drewN ?_ _ | refine blk_drew ?_ | refine blk_alloc ?_ _)); refine blk_far ?_ NB414_443.out _; (with_reducible repeat (first | refine blk_drewN ?_ _ | refine blk_drew ?_ | refine blk_alloc ?_ _)); refine blk_far ?_ NB414_443.out _; (with_reducible repeat (first | refine blk_drewN ?_ _ | refine blk_drew ?_ | refine blk_alloc ?_ _)); exact BK414.out⟩, ⟨by (with_reducible repeat (first | refine blk_drewN ?_ _ | refine blk_drew ?_ | refine blk_alloc ?_ _)); refine blk_far ?_ NB423_443.out _; (with_reducible repeat (first | refine blk_drewN ?_ _ | refine blk_drew ?_ | refine blk_alloc ?_ _)); refine blk_far ?_ NB423_443.out _; (with_reducible repeat (first | refine blk_drewN ?_ _ | refine blk_drew ?_ | refine blk_alloc ?_ _)); refine blk_far ?_ NB423_443.out _; (with_reducible repeat (first | refine blk_drewN ?_ _ | refine blk_drew ?_ | refine blk_alloc ?_ _)); refine blk_far ?_ NB423_443.out _; (with_reducible repeat (first | refine blk_drewN ?_ _ | refine blk_drew ?_ | refine blk_alloc ?_ _)); refine blk_far ?_ NB423_443.out _; (with_reducible repeat (first | refine blk_drewN ?_ _ | refine blk_drew ?_ | refine blk_alloc ?_ _)); refine blk_far ?_ NB423_443.out _; (with_reducible repeat (first | refine blk_drewN ?_ _ | refine blk_drew ?_ | refine blk_alloc ?_ _)); exact BK423.out⟩, ⟨by repeat (first | (with_reducible first | exact HB.out | apply below_alloc | apply pw_below_drewN | apply below_drew1 | refine below_set ?_ GE414.out | refine below_set ?_ GE423.out | refine below_set ?_ GE443.out) | exact HB.out)⟩⟩
                  · rw [if_neg c41] at H
                    have c41b0 : (t442 == 0) = false := beq_eq_false_iff_ne.mpr c41
                    have c41b1 : (t442 != 0) = true := bne_iff_ne.mpr c41
                    exact absurd ((Option.some.inj H).trans HLaw.out) (by simp)
                · rw [if_neg c39] at H
                  have c39b0 : (t435 == 0) = false := beq_eq_false_iff_ne.mpr c39
                  have c39b1 : (t435 != 0) = true := bne_iff_ne.mpr c39
                  (first | rw [c39b0] | (simp only [i64_w, i32_w]; rw [c39b0]) | skip)
                  have H' := Aside0.mk H
                  clear H
                  go_wp2
                  go_meet
                  case rel => exact ⟨_, H', ⟨by have := HJ9.out; have := HJ16.out; first | omega | exact Nat.le_refl _⟩, ⟨by (with_reducible repeat (first | refine blk_drewN ?_ _ | refine blk_drew ?_ | refine blk_alloc ?_ _)); exact BK414.out⟩, ⟨by (with_reducible repeat (first | refine blk_drewN ?_ _ | refine blk_drew ?_ | refine blk_alloc ?_ _)); exact BK423.out⟩, ⟨by repeat (first | (with_reducible first | exact HB.out | apply below_alloc | apply pw_below_drewN | apply below_drew1 | refine below_set ?_ GE414.out | refine below_set ?_ GE423.out) | exact HB.out)⟩⟩
              case rest =>
                clear HC35
                try clear c1
                try clear c2
                try clear p2
                try clear c3
                try clear c4
                try clear p6
                try clear c8
                try clear c9
                try clear c13
                try clear c13b0
                try clear c13b1
                try clear c15
                try clear c20
                try clear c21
                try clear c22
                try clear c22b0
                try clear c22b1
                try clear c24
                try clear c24b0
                try clear c24b1
                try clear c26
                try clear c27
                try clear c27b0
                try clear c27b1
                try clear c28
                try clear c29
                try clear c30
                try clear c36
                try clear c39
                try clear c39b0
                try clear c39b1
                try clear c41
                try clear c41b0
                try clear c41b1
                try clear c42
                try clear c42b0
                try clear c43
                try clear c48
                try clear c49
                try clear hcz14_0
                try clear hcz14_1
                try clear hcz14_2
                try clear hcz14_3
                try clear hcz14_4
                try clear hcz14_5
                try clear hcz21_0
                try clear hcz21_1
                try clear hcz21_2
                try clear hcz21_3
                try clear hcz21_4
                try clear hcz21_5
                try clear hcz31_0
                try clear hcz31_1
                try clear hcz31_2
                try clear hcz31_3
                try clear hcz31_4
                try clear hcz31_5
                try clear hcz37_0
                try clear hcz37_1
                try clear hcz37_2
                try clear hcz37_3
                try clear hcz37_4
                try clear hcz37_5
                try clear hcz44_0
                try clear hcz44_1
                try clear hcz44_2
                try clear hcz44_3
                try clear hcz44_4
                try clear hcz44_5
                try clear hcz50_0
                try clear hcz50_1
                try clear hcz50_2
                try clear hcz50_3
                try clear hcz50_4
                try clear hcz50_5
                try clear hcz51_0
                try clear hcz51_1
                try clear hcz51_2
                try clear hcz51_3
                try clear hcz51_4
                try clear hcz51_5
                try clear hfz14_0
                try clear hfz14_1
                try clear hfz14_2
                try clear hfz14_3
                try clear hfz14_4
                try clear hfz14_5
                try clear hfz21_0
                try clear hfz21_1
                try clear hfz21_2
                try clear hfz21_3
                try clear hfz21_4
                try clear hfz21_5
                try clear hfz31_0
                try clear hfz31_1
                try clear hfz31_2
                try clear hfz31_3
                try clear hfz31_4
                try clear hfz31_5
                try clear hfz37_0
                try clear hfz37_1
                try clear hfz37_2
                try clear hfz37_3
                try clear hfz37_4
                try clear hfz37_5
                try clear hfz44_0
                try clear hfz44_1
                try clear hfz44_2
                try clear hfz44_3
                try clear hfz44_4
                try clear hfz44_5
                try clear hfz50_0
                try clear hfz50_1
                try clear hfz50_2
                try clear hfz50_3
                try clear hfz50_4
                try clear hfz50_5
                try clear hfz51_0
                try clear hfz51_1
                try clear hfz51_2
                try clear hfz51_3
                try clear hfz51_4
                try clear hfz51_5
                try clear p2
                obtain ⟨kq, HA, HJ34, BK414, BK423, HB⟩ := hcut
                cases kq with
                | zero => exact absurd HA.out (by simp [careenagelaw10_FreeBack.j2])
                | succ kj34 =>
                  have H := HA.out
                  clear HA
                  simp only [careenagelaw10_FreeBack.j2] at H
                  replace H := Option.bind_eq_some_iff.mp H
                  obtain ⟨t444, A520, H⟩ := H
                  replace H : (if t444 = 0 then (some true) else ((careenagekit_Pick.f a6 1100).bind fun t445 => (careenagelaw10_FreeBack.l0 kj34 a0 a5 t445 ([] : List Int) 0))) = some r := H
                  have A52 := Aside0.mk A520
                  clear A520
                  by_cases c53 : t444 = 0
                  · rw [if_pos c53] at H
                    have c53b0 : (t444 == 0) = true := beq_iff_eq.mpr c53
                    have c53b1 : (t444 != 0) = false := bne_eq_false_iff_eq.mpr c53
                    clear c53
                    obtain rfl := Option.some.inj H
                    go_wp2_with (first | ((with_reducible refine gate_callee (f := 37) rfl ?_); refine goesL_ (some 104) rfl rfl Try.func37 (by kernel_rfl) rfl #[.int .i64 a0] rfl (by (try simp only [List.map_toArray, List.map_cons, List.map_nil]); first | done | rfl | (simp only [List.length_drop, List.length_take]; rfl)) ?_; (with_reducible refine (careenageref04_Room.calls a0 t444 _ A52.out).mono ?_); rintro e w' ⟨rfl, ⟨nd, rfl⟩⟩; refine ⟨_, rfl, ?_⟩))
                    go_ret
                    exact ⟨by first | rfl | (simp [errW_none, errW_some] <;> rfl) | (simp [*, errW_none, errW_some] <;> rfl), by repeat (first | (with_reducible first | exact HB.out | apply below_alloc | apply pw_below_drewN | apply below_drew1 | refine below_set ?_ GE414.out | refine below_set ?_ GE423.out) | exact HB.out)⟩
                  · rw [if_neg c53] at H
                    have c53b0 : (t444 == 0) = false := beq_eq_false_iff_ne.mpr c53
                    have c53b1 : (t444 != 0) = true := bne_iff_ne.mpr c53
                    replace H := Option.bind_eq_some_iff.mp H
                    obtain ⟨t445, A540, H⟩ := H
                    replace H : (careenagelaw10_FreeBack.l0 kj34 a0 a5 t445 ([] : List Int) 0) = some r := H
                    have A54 := Aside0.mk A540
                    clear A540
                    have H' := Aside0.mk H
                    clear H
                    go_wp2_with (first | ((with_reducible refine gate_callee (f := 37) rfl ?_); refine goesL_ (some 104) rfl rfl Try.func37 (by kernel_rfl) rfl #[.int .i64 a0] rfl (by (try simp only [List.map_toArray, List.map_cons, List.map_nil]); first | done | rfl | (simp only [List.length_drop, List.length_take]; rfl)) ?_; (with_reducible refine (careenageref04_Room.calls a0 t444 _ A52.out).mono ?_); rintro e w' ⟨rfl, ⟨nd, rfl⟩⟩; refine ⟨_, rfl, ?_⟩) | ((with_reducible refine gate_callee (f := 18) rfl ?_); refine goesL_ (some 107) rfl rfl Try.func18 (by kernel_rfl) rfl #[.int .i64 a6, .int .i64 1100] rfl (by (try simp only [List.map_toArray, List.map_cons, List.map_nil]); first | done | rfl | (simp only [List.length_drop, List.length_take]; rfl)) ?_; (with_reducible refine (careenagekit_Pick.calls a6 1100 t445 _ A54.out).mono ?_); rintro e w' ⟨rfl, ⟨nd, rfl⟩⟩; refine ⟨_, rfl, ?_⟩))
                    go_loopg [25, 26] kj34 (fun kq v25 v26 w' => ∃ (x25_4 : List Int) (x26_4 : Int), v26 = .int .i64 x26_4 ∧ Aside0 (careenagelaw10_FreeBack.l0 kq a0 a5 t445 x25_4 x26_4 = some r) ∧ Aside0 (kq ≤ kj34) ∧ Aside0 (Kd.R (Kd.int .u32) 28 w' w.heap.size (fun _ => True) v25 x25_4) ∧ Aside0 (w'.heap[gb414]? = some (.cells #[.int .i64 a4_0, .int .i64 a4_1, .int .u32 a4_2, .int .u32 a4_3, .int .u64 a4_4, .string a4_5] 39 (0, 0))) ∧ Aside0 (w'.heap[gb423]? = some (.cells #[.int .i64 t416, .int .i64 t417, .int .u32 t418, .int .u32 t419, .int .u64 t420, .string t421] 39 (0, 0))) ∧ Aside0 (Below w.heap.size w w'))
                    case atStart => exact ⟨(([] : List Int)), (0), (by first | rfl | (simp; done) | (simp [*]; done)), H', ⟨Nat.le_refl _⟩, ⟨by first | exact Kd.R_nil _ _ _ _ _ | exact Kd.N_nil _ _ _ _ _ | exact Kd.V_nil _ _ _ _ _ | exact Kd.Q_nil _ _ _ _ _ | exact Kd.S_nil _ _ _ _ _⟩, ⟨by (with_reducible repeat (first | refine blk_drewN ?_ _ | refine blk_drew ?_ | refine blk_alloc ?_ _)); exact BK414.out⟩, ⟨by (with_reducible repeat (first | refine blk_drewN ?_ _ | refine blk_drew ?_ | refine blk_alloc ?_ _)); exact BK423.out⟩, ⟨by repeat (first | (with_reducible first | exact HB.out | apply below_alloc | apply pw_below_drewN | apply below_drew1 | refine below_set ?_ GE414.out | refine below_set ?_ GE423.out) | exact HB.out)⟩⟩
                    case round =>
                      clear H'
                      try clear c1
                      try clear c2
                      try clear p2
                      try clear c3
                      try clear c4
                      try clear c5
                      try clear p6
                      try clear c8
                      try clear c9
                      try clear c13
                      try clear c13b0
                      try clear c13b1
                      try clear c15
                      try clear c18
                      try clear c20
                      try clear c21
                      try clear c22
                      try clear c22b0
                      try clear c22b1
                      try clear c24
                      try clear c24b0
                      try clear c24b1
                      try clear c26
                      try clear c27
                      try clear c27b0
                      try clear c27b1
                      try clear c28
                      try clear c29
                      try clear c30
                      try clear c36
                      try clear c37
                      try clear c39
                      try clear c39b0
                      try clear c39b1
                      try clear c41
                      try clear c41b0
                      try clear c41b1
                      try clear c42
                      try clear c42b0
                      try clear c43
                      try clear c48
                      try clear c49
                      try clear c53
                      try clear c53b0
                      try clear c53b1
                      try clear hcz14_0
                      try clear hcz14_1
                      try clear hcz14_2
                      try clear hcz14_3
                      try clear hcz14_4
                      try clear hcz14_5
                      try clear hcz21_0
                      try clear hcz21_1
                      try clear hcz21_2
                      try clear hcz21_3
                      try clear hcz21_4
                      try clear hcz21_5
                      try clear hcz31_0
                      try clear hcz31_1
                      try clear hcz31_2
                      try clear hcz31_3
                      try clear hcz31_4
                      try clear hcz31_5
                      try clear hcz37_0
                      try clear hcz37_1
                      try clear hcz37_2
                      try clear hcz37_3
                      try clear hcz37_4
                      try clear hcz37_5
                      try clear hcz44_0
                      try clear hcz44_1
                      try clear hcz44_2
                      try clear hcz44_3
                      try clear hcz44_4
                      try clear hcz44_5
                      try clear hcz50_0
                      try clear hcz50_1
                      try clear hcz50_2
                      try clear hcz50_3
                      try clear hcz50_4
                      try clear hcz50_5
                      try clear hcz51_0
                      try clear hcz51_1
                      try clear hcz51_2
                      try clear hcz51_3
                      try clear hcz51_4
                      try clear hcz51_5
                      try clear hfz14_0
                      try clear hfz14_1
                      try clear hfz14_2
                      try clear hfz14_3
                      try clear hfz14_4
                      try clear hfz14_5
                      try clear hfz21_0
                      try clear hfz21_1
                      try clear hfz21_2
                      try clear hfz21_3
                      try clear hfz21_4
                      try clear hfz21_5
                      try clear hfz31_0
                      try clear hfz31_1
                      try clear hfz31_2
                      try clear hfz31_3
                      try clear hfz31_4
                      try clear hfz31_5
                      try clear hfz37_0
                      try clear hfz37_1
                      try clear hfz37_2
                      try clear hfz37_3
                      try clear hfz37_4
                      try clear hfz37_5
                      try clear hfz44_0
                      try clear hfz44_1
                      try clear hfz44_2
                      try clear hfz44_3
                      try clear hfz44_4
                      try clear hfz44_5
                      try clear hfz50_0
                      try clear hfz50_1
                      try clear hfz50_2
                      try clear hfz50_3
                      try clear hfz50_4
                      try clear hfz50_5
                      try clear hfz51_0
                      try clear hfz51_1
                      try clear hfz51_2
                      try clear hfz51_3
                      try clear hfz51_4
                      try clear hfz51_5
                      try clear p2
                      try clear p6
                      obtain ⟨x25_4, x26_4, rfl, HA, HK4, HO_25, BK414, BK423, HB⟩ := hrel
                      cases gk with
                      | zero => exact absurd HA.out (by simp [careenagelaw10_FreeBack.l0])
                      | succ k4 =>
                        have H := HA.out
                        clear HA
                        simp only [careenagelaw10_FreeBack.l0] at H
                        by_cases c55 : x26_4 < t445
                        · rw [if_pos c55] at H
                          have c55b0 : decide (x26_4 < t445) = true := decide_eq_true c55
                          clear c55
                          by_cases c56 : x25_4.length < 35184372088832
                          · rw [if_pos c56] at H
                            have LMc56 := Aside0.mk c56
                            clear c56
                            obtain ⟨y446, hy446⟩ : ∃ y_ : List Int, y_ = (x25_4 ++ [(((2 + (Int.tmod a5 1000)) % 4294967296) + ((x26_4) % 4294967296)) % 4294967296]) := ⟨_, rfl⟩
                            replace H : (careenagelaw10_FreeBack.l0 k4 a0 a5 t445 y446 (wrap64 (x26_4 + 1))) = some r := by first | (rw [hy446]; with_reducible exact H) | (have H2_ := (Option.bind_some _ _).symm.trans H; rw [hy446]; with_reducible exact H2_) | (have H2_ := (Option.bind_some _ _).symm.trans H; with_reducible exact H2_) | with_reducible exact H | (rw [hy446]; exact H) | exact H
                            have Ny446 := Aside0.mk hy446
                            clear hy446
                            have H' := Aside0.mk H
                            clear H
                            go_wp2_with (first | ((with_reducible refine gate_builtin (b := .append) (xs := #[.tmp 113, .tmp 120]) rfl ?_); (try (refine gate_guard (by rfl) ?_; dsimp only)); at_builtin; refine Kd.R_append (Kd.int .u32) (w0 := w) w.heap.size rfl (.tmp 113) (.tmp 120) 22 28 (.int .u32 0) 4 rfl Try.underlying22 info28 rfl (by decide) (by omega) u25 x25_4 ((2 + (Int.tmod a5 1000) + x26_4) % 4294967296) [.int .u32 ((2 + (Int.tmod a5 1000) + x26_4) % 4294967296)] (fun _ => True) (fun _ => False) rfl rfl ?aP (fun _ hk => hk.elim) ?aF ?aO ?aB ?aS ?aL ?_; (case aP => exact rfl); (case aB => exact (by repeat (first | (with_reducible first | exact HB.out | apply below_alloc | apply pw_below_drewN | apply below_drew1 | refine below_set ?_ GE414.out | refine below_set ?_ GE423.out) | exact HB.out))); (case aF => exact (fun _ _ => trivial)); (case aO => exact (by (with_reducible repeat (first | apply Kd.R_alloc | apply Kd.R_drewN | apply Kd.R_drew)); exact HO_25.out)); (case aS => exact (below_size (by repeat (first | (with_reducible first | exact HB.out | apply below_alloc | apply pw_below_drewN | apply below_drew1 | refine below_set ?_ GE414.out | refine below_set ?_ GE423.out) | exact HB.out)))); (case aL => have := LMc56.out; omega); intro v447 w57 ho hb hg hat; rw [show (((2 + (Int.tmod a5 1000) + x26_4) % 4294967296) : Int) = ((((2 + (Int.tmod a5 1000)) % 4294967296) + ((x26_4) % 4294967296)) % 4294967296) from by first | omega | (simp; done)] at ho; rw [← Ny446.out] at ho; have n0_ := Aside0.mk (blk_grown (g := gb414) (o := .cells #[.int .i64 a4_0, .int .i64 a4_1, .int .u32 a4_2, .int .u32 a4_3, .int .u64 a4_4, .string a4_5] 39 (0, 0)) (by (with_reducible repeat (first | refine blk_drewN ?_ _ | refine blk_drew ?_ | refine blk_alloc ?_ _)); exact BK414.out) hg (Kd.R_ne HO_25.out BK414.out (by decide))); have n1_ := Aside0.mk (blk_grown (g := gb423) (o := .cells #[.int .i64 t416, .int .i64 t417, .int .u32 t418, .int .u32 t419, .int .u64 t420, .string t421] 39 (0, 0)) (by (with_reducible repeat (first | refine blk_drewN ?_ _ | refine blk_drew ?_ | refine blk_alloc ?_ _)); exact BK423.out) hg (Kd.R_ne HO_25.out BK423.out (by decide))); have n2_ := Aside0.mk (hb); have n3_ := Aside0.mk (ho); clear BK414; clear BK423; clear HB; clear HO_25; have BK414 := n0_; have BK423 := n1_; have HB := n2_; have HO448 := n3_; clear n0_ n1_ n2_ n3_; clear ho hb hg hat))
                            go_roundg k4
                            case measure => have := HJ9.out; have := HJ16.out; have := HJ34.out; have := HK4.out; omega
                            case rel => exact ⟨(y446), (wrap64 (x26_4 + 1)), (by first | rfl | (simp; done) | (simp [*]; done)), H', ⟨by have := HJ9.out; have := HJ16.out; have := HJ34.out; have := HK4.out; omega⟩, ⟨by (with_reducible repeat (first | apply Kd.R_alloc | apply Kd.R_drewN | apply Kd.R_drew)); exact HO448.out⟩, ⟨by (with_reducible repeat (first | refine blk_drewN ?_ _ | refine blk_drew ?_ | refine blk_alloc ?_ _)); exact BK414.out⟩, ⟨by (with_reducible repeat (first | refine blk_drewN ?_ _ | refine blk_drew ?_ | refine blk_alloc ?_ _)); exact BK423.out⟩, ⟨by repeat (first | (with_reducible first | exact HB.out | apply below_alloc | apply pw_below_drewN | apply below_drew1 | refine below_set ?_ GE414.out | refine below_set ?_ GE423.out) | exact HB.out)⟩⟩
                          · rw [if_neg c56] at H
                            exact absurd H (by simp)
                        · rw [if_neg c55] at H
                          have c55b0 : decide (x26_4 < t445) = false := decide_eq_false c55
                          clear c55
                          replace H := Option.bind_eq_some_iff.mp H
                          obtain ⟨⟨t449, t450, t451, t452, t453, t454, t455⟩, A580, H⟩ := H
                          replace H : ((free_Most.f a0).bind fun t457 => (if ((t455 == 0) == (decide (t445 ≤ t457))) = true then ((free_Need.f a0 t445).bind fun t458 => ((free_Most.f a0).bind fun t459 => (some ((decide (t458 ≤ 1)) == (decide (t445 ≤ t459)))))) else (some false))) = some r := H
                          have A58 := Aside0.mk A580
                          clear A580
                          replace H := Option.bind_eq_some_iff.mp H
                          obtain ⟨t457, A590, H⟩ := H
                          replace H : (if ((t455 == 0) == (decide (t445 ≤ t457))) = true then ((free_Need.f a0 t445).bind fun t458 => ((free_Most.f a0).bind fun t459 => (some ((decide (t458 ≤ 1)) == (decide (t445 ≤ t459)))))) else (some false)) = some r := H
                          have A59 := Aside0.mk A590
                          clear A590
                          by_cases c60 : ((t455 == 0) == (decide (t445 ≤ t457))) = true
                          · rw [if_pos c60] at H
                            have c60b0 : ((t455 == 0) == (decide (t445 ≤ t457))) = true := c60
                            (try (have c60b1 : ((t455 == 0) = true) → ((decide (t445 ≤ t457)) = true) := by intro h_; have z_ := c60; rw [h_] at z_; revert z_; cases ((decide (t445 ≤ t457))) <;> simp))
                            (try (have c60b2 : ((t455 == 0) = false) → ((decide (t445 ≤ t457)) = false) := by intro h_; have z_ := c60; rw [h_] at z_; revert z_; cases ((decide (t445 ≤ t457))) <;> simp))
                            (try (have c60b3 : ((decide (t445 ≤ t457)) = true) → ((t455 == 0) = true) := by intro h_; have z_ := c60; rw [h_] at z_; revert z_; cases ((t455 == 0)) <;> simp))
                            (try (have c60b4 : ((decide (t445 ≤ t457)) = false) → ((t455 == 0) = false) := by intro h_; have z_ := c60; rw [h_] at z_; revert z_; cases ((t455 == 0)) <;> simp))
                            (try (have c60b5 : decide ((t455 == 0) = (decide (t445 ≤ t457))) = true := by first | (simp; done) | (simp at c60; done) | simpa using c60))
                            (try (have c60b6 : ((t455 == 0) == (decide (t445 ≤ t457))) = true := by first | (simp; done) | (simp at c60; done) | simpa using c60))
                            clear c60
                            replace H := Option.bind_eq_some_iff.mp H
                            obtain ⟨t458, A610, H⟩ := H
                            replace H : ((free_Most.f a0).bind fun t459 => (some ((decide (t458 ≤ 1)) == (decide (t445 ≤ t459))))) = some r := H
                            have A61 := Aside0.mk A610
                            clear A610
                            replace H := Option.bind_eq_some_iff.mp H
                            obtain ⟨t459, A620, H⟩ := H
                            replace H : (some ((decide (t458 ≤ 1)) == (decide (t445 ≤ t459)))) = some r := H
                            have A62 := Aside0.mk A620
                            clear A620
                            obtain rfl := Option.some.inj H
                            obtain ⟨Ao63, co63, eo63⟩ := Kd.R_slice HO_25.out
                            subst eo63
                            go_wp2_with (first | ((with_reducible refine gate_callee (f := 27) rfl ?_); refine goesL_ (some 125) rfl rfl Try.func27 (by kernel_rfl) rfl #[.int .i64 a0, .int .u32 2, .int .u32 0, .int .u64 0, .slice Ao63 x25_4.length co63] rfl (by (try simp only [List.map_toArray, List.map_cons, List.map_nil]); first | done | rfl | (simp only [List.length_drop, List.length_take]; rfl)) ?_; (with_reducible refine (free_Page.calls k4 a0 2 0 0 _ _ x25_4 t449 t450 t451 t452 t453 t454 t455 _ ?side1 ?side2 A58.out).mono ?_); (case side1 => repeat (first | exact (Kd.R_reads' HO_25.out).2.2 | (with_reducible refine Kd.C_alloc ?_ _) | (with_reducible refine Kd.C_drewN ?_ _) | (with_reducible refine Kd.C_drew ?_))); (case side2 => exact (Kd.R_reads' HO_25.out).2.1); rintro e w64 ⟨rfl, hb⟩; refine ⟨_, rfl, ?_⟩; have n0_ := Aside0.mk (Kd.R_below (by (with_reducible repeat (first | apply Kd.R_alloc | apply Kd.R_drewN | apply Kd.R_drew)); exact HO_25.out) hb); have n1_ := Aside0.mk (blk_below (g := gb414) (o := .cells #[.int .i64 a4_0, .int .i64 a4_1, .int .u32 a4_2, .int .u32 a4_3, .int .u64 a4_4, .string a4_5] 39 (0, 0)) (by (with_reducible repeat (first | refine blk_drewN ?_ _ | refine blk_drew ?_ | refine blk_alloc ?_ _)); exact BK414.out) hb); have n2_ := Aside0.mk (blk_below (g := gb423) (o := .cells #[.int .i64 t416, .int .i64 t417, .int .u32 t418, .int .u32 t419, .int .u64 t420, .string t421] 39 (0, 0)) (by (with_reducible repeat (first | refine blk_drewN ?_ _ | refine blk_drew ?_ | refine blk_alloc ?_ _)); exact BK423.out) hb); have n3_ := Aside0.mk (below_step (by repeat (first | (with_reducible first | exact HB.out | apply below_alloc | apply pw_below_drewN | apply below_drew1 | refine below_set ?_ GE414.out | refine below_set ?_ GE423.out) | exact HB.out)) hb); clear HO_25; clear BK414; clear BK423; clear HB; have HO_25 := n0_; have BK414 := n1_; have BK423 := n2_; have HB := n3_; clear n0_ n1_ n2_ n3_; (try clear hb); (try clear hb2); (try clear hk); (try clear hi)) | ((with_reducible refine gate_dst (N := 27) rfl ?_); (try (refine gate_guard (by rfl) ?_; dsimp only)); refine box_event ?hg (N := 27) ?hd (cs := #[.int .i64 0, .int .i64 0, .int .u32 0, .int .u32 0, .int .u64 0, .string (⟨#[]⟩ : ByteArray)]) (t := 39) ?hr ?_; (case hd => rfl); (case hg => rfl); (case hr => first | (go_simp; done) | (go_simp; rfl)); intro gb456 hg w65 hbox hb; have n0_ := Aside0.mk (Kd.R_below (by (with_reducible repeat (first | apply Kd.R_alloc | apply Kd.R_drewN | apply Kd.R_drew)); exact HO_25.out) hb); have n1_ := Aside0.mk (blk_below (g := gb414) (o := .cells #[.int .i64 a4_0, .int .i64 a4_1, .int .u32 a4_2, .int .u32 a4_3, .int .u64 a4_4, .string a4_5] 39 (0, 0)) (by (with_reducible repeat (first | refine blk_drewN ?_ _ | refine blk_drew ?_ | refine blk_alloc ?_ _)); exact BK414.out) hb); have n2_ := Aside0.mk (blk_below (g := gb423) (o := .cells #[.int .i64 t416, .int .i64 t417, .int .u32 t418, .int .u32 t419, .int .u64 t420, .string t421] 39 (0, 0)) (by (with_reducible repeat (first | refine blk_drewN ?_ _ | refine blk_drew ?_ | refine blk_alloc ?_ _)); exact BK423.out) hb); have n3_ := Aside0.mk (below_step (by repeat (first | (with_reducible first | exact HB.out | apply below_alloc | apply pw_below_drewN | apply below_drew1 | refine below_set ?_ GE414.out | refine below_set ?_ GE423.out) | exact HB.out)) hb); have n4_ := Aside0.mk (hbox); have n5_ := Aside0.mk ((by rw [hg]; exact (below_size (by repeat (first | (with_reducible first | exact HB.out | apply below_alloc | apply pw_below_drewN | apply below_drew1 | refine below_set ?_ GE414.out | refine below_set ?_ GE423.out) | exact HB.out))) : w.heap.size ≤ gb456)); have n6_ := Aside0.mk ((by rw [hg]; exact (below_size (by repeat (first | (with_reducible first | exact HB.out | apply below_alloc | apply pw_below_drewN | apply below_drew1 | refine below_set ?_ GE414.out | refine below_set ?_ GE423.out) | exact HB.out))) : w.heap.size ≤ gb456)); have n7_ := Aside0.mk ((by rw [hg]; exact Nat.ne_of_lt (blk_lt (g := gb414) (o := .cells #[.int .i64 a4_0, .int .i64 a4_1, .int .u32 a4_2, .int .u32 a4_3, .int .u64 a4_4, .string a4_5] 39 (0, 0)) (by (with_reducible repeat (first | refine blk_drewN ?_ _ | refine blk_drew ?_ | refine blk_alloc ?_ _)); exact BK414.out)) : gb414 ≠ gb456)); have n8_ := Aside0.mk ((by rw [hg]; exact Nat.ne_of_gt (blk_lt (g := gb414) (o := .cells #[.int .i64 a4_0, .int .i64 a4_1, .int .u32 a4_2, .int .u32 a4_3, .int .u64 a4_4, .string a4_5] 39 (0, 0)) (by (with_reducible repeat (first | refine blk_drewN ?_ _ | refine blk_drew ?_ | refine blk_alloc ?_ _)); exact BK414.out)) : gb456 ≠ gb414)); have n9_ := Aside0.mk ((by rw [hg]; exact Nat.ne_of_lt (blk_lt (g := gb423) (o := .cells #[.int .i64 t416, .int .i64 t417, .int .u32 t418, .int .u32 t419, .int .u64 t420, .string t421] 39 (0, 0)) (by (with_reducible repeat (first | refine blk_drewN ?_ _ | refine blk_drew ?_ | refine blk_alloc ?_ _)); exact BK423.out)) : gb423 ≠ gb456)); have n10_ := Aside0.mk ((by rw [hg]; exact Nat.ne_of_gt (blk_lt (g := gb423) (o := .cells #[.int .i64 t416, .int .i64 t417, .int .u32 t418, .int .u32 t419, .int .u64 t420, .string t421] 39 (0, 0)) (by (with_reducible repeat (first | refine blk_drewN ?_ _ | refine blk_drew ?_ | refine blk_alloc ?_ _)); exact BK423.out)) : gb456 ≠ gb423)); clear HO_25; clear BK414; clear BK423; clear HB; have HO_25 := n0_; have BK414 := n1_; have BK423 := n2_; have HB := n3_; have BK456 := n4_; have GW456 := n5_; have GE456 := n6_; have NB414_456 := n7_; have NB456_414 := n8_; have NB423_456 := n9_; have NB456_423 := n10_; clear n0_ n1_ n2_ n3_ n4_ n5_ n6_ n7_ n8_ n9_ n10_; clear hb hbox hg; have hnb66 := NB456_414.out; have hnc66 := NB414_456.out; have hnb67 := NB456_423.out; have hnc67 := NB423_456.out; have hcz68_0 : w65.cell? ⟨gb456, 0, none⟩ = some (.int .i64 0) := (blk_cell BK456.out 0).trans rfl; have hcz68_1 : w65.cell? ⟨gb456, 1, none⟩ = some (.int .i64 0) := (blk_cell BK456.out 1).trans rfl; have hcz68_2 : w65.cell? ⟨gb456, 2, none⟩ = some (.int .u32 0) := (blk_cell BK456.out 2).trans rfl; have hcz68_3 : w65.cell? ⟨gb456, 3, none⟩ = some (.int .u32 0) := (blk_cell BK456.out 3).trans rfl; have hcz68_4 : w65.cell? ⟨gb456, 4, none⟩ = some (.int .u64 0) := (blk_cell BK456.out 4).trans rfl; have hcz68_5 : w65.cell? ⟨gb456, 5, none⟩ = some (.string (⟨#[]⟩ : ByteArray)) := (blk_cell BK456.out 5).trans rfl; have hfz68_0 := blk_frozen BK456.out 0; have hfz68_1 := blk_frozen BK456.out 1; have hfz68_2 := blk_frozen BK456.out 2; have hfz68_3 := blk_frozen BK456.out 3; have hfz68_4 := blk_frozen BK456.out 4; have hfz68_5 := blk_frozen BK456.out 5) | ((with_reducible refine gate_callee (f := 31) rfl ?_); refine goesL_ (some 132) rfl rfl Try.func31 (by kernel_rfl) rfl #[.int .i64 a0] rfl (by (try simp only [List.map_toArray, List.map_cons, List.map_nil]); first | done | rfl | (simp only [List.length_drop, List.length_take]; rfl)) ?_; (with_reducible refine (free_Most.calls a0 t457 _ A59.out).mono ?_); rintro e w' ⟨rfl, ⟨nd, rfl⟩⟩; refine ⟨_, rfl, ?_⟩) | ((with_reducible refine gate_dst (N := 138) rfl ?_); (try (refine gate_guard (by rfl) ?_; dsimp only)); (try (refine gate_guard (by rfl) ?_; dsimp only)); (with_reducible refine gate_callee (f := 30) rfl ?_); refine goesL_ (some 138) rfl rfl Try.func30 (by kernel_rfl) rfl #[.int .i64 a0, .int .i64 t445] rfl (by (try simp only [List.map_toArray, List.map_cons, List.map_nil]); first | done | rfl | (simp only [List.length_drop, List.length_take]; rfl)) ?_; (with_reducible refine (free_Need.calls a0 t445 t458 _ A61.out).mono ?_); rintro e w' ⟨rfl, ⟨nd, rfl⟩⟩; refine ⟨_, rfl, ?_⟩) | ((with_reducible refine gate_dst (N := 142) rfl ?_); (try (refine gate_guard (by rfl) ?_; dsimp only)); (try (refine gate_guard (by rfl) ?_; dsimp only)); (with_reducible refine gate_callee (f := 31) rfl ?_); refine goesL_ (some 142) rfl rfl Try.func31 (by kernel_rfl) rfl #[.int .i64 a0] rfl (by (try simp only [List.map_toArray, List.map_cons, List.map_nil]); first | done | rfl | (simp only [List.length_drop, List.length_take]; rfl)) ?_; (with_reducible refine (free_Most.calls a0 t459 _ A62.out).mono ?_); rintro e w' ⟨rfl, ⟨nd, rfl⟩⟩; refine ⟨_, rfl, ?_⟩))
                            go_ret
                            exact ⟨by first | rfl | (simp [errW_none, errW_some] <;> rfl) | (simp [*, errW_none, errW_some] <;> rfl), by repeat (first | (with_reducible first | exact HB.out | apply below_alloc | apply pw_below_drewN | apply below_drew1 | refine below_set ?_ GE414.out | refine below_set ?_ GE423.out | refine below_set ?_ GE456.out) | exact HB.out)⟩
                          · rw [if_neg c60] at H
                            have c60b0 : ((t455 == 0) == (decide (t445 ≤ t457))) = false := by first | (simp; done) | (simp at c60; done) | simpa using c60
                            (try (have c60b1 : ((t455 == 0) = true) → ((decide (t445 ≤ t457)) = false) := by intro h_; have z_ := c60; rw [h_] at z_; revert z_; cases ((decide (t445 ≤ t457))) <;> simp))
                            (try (have c60b2 : ((t455 == 0) = false) → ((decide (t445 ≤ t457)) = true) := by intro h_; have z_ := c60; rw [h_] at z_; revert z_; cases ((decide (t445 ≤ t457))) <;> simp))
                            (try (have c60b3 : ((decide (t445 ≤ t457)) = true) → ((t455 == 0) = false) := by intro h_; have z_ := c60; rw [h_] at z_; revert z_; cases ((t455 == 0)) <;> simp))
                            (try (have c60b4 : ((decide (t445 ≤ t457)) = false) → ((t455 == 0) = true) := by intro h_; have z_ := c60; rw [h_] at z_; revert z_; cases ((t455 == 0)) <;> simp))
                            (try (have c60b5 : decide ((t455 == 0) = (decide (t445 ≤ t457))) = false := by first | (simp; done) | (simp at c60; done) | simpa using c60))
                            (try (have c60b6 : ((t455 == 0) == (decide (t445 ≤ t457))) = false := by first | (simp; done) | (simp at c60; done) | simpa using c60))
                            (try (have c60b7 : ¬ ((t455 == 0) = (decide (t445 ≤ t457))) := by first | (simp; done) | (simp at c60; done) | simpa using c60))
                            clear c60
                            exact absurd ((Option.some.inj H).trans HLaw.out) (by simp)
  · replace c9 := Bool.eq_false_iff.mpr c9
    subst c9
    have H1 : (some false) = some r := by rw [if_neg (show ¬ (false = true) by decide)] at H; exact H
    clear H
    have H := H1
    clear H1
    exact absurd ((Option.some.inj H).trans HLaw.out) (by simp)

/-- THE ONE PURE STATEMENT of careenagelaw10_FreeBack: yours. -/
def careenagelaw10_FreeBack.Pure : Prop := ∀ (a0 : Int) (a1 : Int) (a2 : Int) (l3 : List Int) (a4_0 : Int) (a4_1 : Int) (a4_2 : Int) (a4_3 : Int) (a4_4 : Int) (a4_5 : ByteArray) (a5 : Int) (a6 : Int), (Lit.int .i64 a0).wf = true → (Lit.int .u32 a1).wf = true → (Lit.int .u32 a2).wf = true → l3.length ≤ maxLen → l3.length * 4 ≤ 140737488351232 → (∀ x ∈ l3, (Lit.int .u32 x).wf = true) → (Lit.int .i64 a4_0).wf = true → (Lit.int .i64 a4_1).wf = true → (Lit.int .u32 a4_2).wf = true → (Lit.int .u32 a4_3).wf = true → (Lit.int .u64 a4_4).wf = true → a4_5.size ≤ 140737488351232 → (Lit.int .u32 a5).wf = true → (Lit.int .i64 a6).wf = true → ∃ k, careenagelaw10_FreeBack.f k a0 a1 a2 l3 a4_0 a4_1 a4_2 a4_3 a4_4 a4_5 a5 a6 = some true
theorem careenagelaw10_FreeBack.walk (P : careenagelaw10_FreeBack.Pure) (a0 : Int) (a1 : Int) (a2 : Int) (A3 : Option Addr) (c3 : Nat) (l3 : List Int) (a4_0 : Int) (a4_1 : Int) (a4_2 : Int) (a4_3 : Int) (a4_4 : Int) (a4_5 : ByteArray) (a5 : Int) (a6 : Int) (w : World)    (hC3 : Kd.C (Kd.int .u32) w A3 l3.length l3) (hc3 : l3.length ≤ c3)    (w0 : (Lit.int .i64 a0).wf = true) (w1 : (Lit.int .u32 a1).wf = true) (w2 : (Lit.int .u32 a2).wf = true) (w3 : (l3.length ≤ maxLen) ∧ (l3.length * 4 ≤ 140737488351232) ∧ ((∀ x ∈ l3, (Lit.int .u32 x).wf = true))) (w4 : ((Lit.int .i64 a4_0).wf = true) ∧ ((Lit.int .i64 a4_1).wf = true) ∧ ((Lit.int .u32 a4_2).wf = true) ∧ ((Lit.int .u32 a4_3).wf = true) ∧ ((Lit.int .u64 a4_4).wf = true) ∧ (a4_5.size ≤ 140737488351232)) (w5 : (Lit.int .u32 a5).wf = true) (w6 : (Lit.int .i64 a6).wf = true) :
    Calls Try.prog 8 #[.int .i64 a0, .int .u32 a1, .int .u32 a2, .slice A3 l3.length c3, .agg #[.int .i64 a4_0, .int .i64 a4_1, .int .u32 a4_2, .int .u32 a4_3, .int .u64 a4_4, .string a4_5], .int .u32 a5, .int .i64 a6] w fun e w' => e = .returned (.bool true) ∧ Below w.heap.size w w' := by
  obtain ⟨k, h⟩ := P a0 a1 a2 l3 a4_0 a4_1 a4_2 a4_3 a4_4 a4_5 a5 a6 w0 w1 w2 w3.1 w3.2.1 w3.2.2 w4.1 w4.2.1 w4.2.2.1 w4.2.2.2.1 w4.2.2.2.2.1 w4.2.2.2.2.2 w5 w6
  refine (careenagelaw10_FreeBack.calls k a0 a1 a2 _ _ l3 a4_0 a4_1 a4_2 a4_3 a4_4 a4_5 a5 a6 true w hC3 hc3 rfl h).mono ?_
  rintro e w' ⟨rfl, hd⟩
  exact ⟨rfl, hd⟩

end Go.Proofs.Ytlkfcabklaaacaa.P

namespace Go.Proofs.Ytlkfcabklaaacaa.P
open Go.RowKit Go.Proofs.YtlkfcabklaaacaaW.PrintWords Go.Proofs.YtlkfcabklaaacaaW.PrintLast Go.Proofs.YtlkfcabklaaacaaW.PrintMore
attribute [local go_sem] max2_int min2_int max_two min_two max_three min_three max_four min_four   -- for this text's walks alone
open Go.Proofs.YtlkfcabklaaacaaO
attribute [local go_sem] min2_str max2_str
set_option linter.unusedVariables false
set_option linter.unusedSimpArgs false

/-! ### careenageref10_Most: function 36 -/
def careenageref10_Most.f (a0 : Int) : Option (Int) := (careenageref04_Room.f a0).bind fun t326 => (some (wrap64 (Int.tdiv t326 4)))
set_option maxHeartbeats 8000000 in
set_option maxRecDepth 100000 in
theorem careenageref10_Most.calls (a0 : Int) (r : Int) (w : World) (h : careenageref10_Most.f a0 = some r) :
    Calls Try.prog 36 #[.int .i64 a0] w fun e w' => e = .returned (.int .i64 r) ∧ Drawn0 w w' := by
  have H : ((careenageref04_Room.f a0).bind fun t326 => (some (wrap64 (Int.tdiv t326 4)))) = some r := h
  clear h
  replace H := Option.bind_eq_some_iff.mp H
  obtain ⟨t326, A20, H⟩ := H
  replace H : (some (wrap64 (Int.tdiv t326 4))) = some r := H
  have A2 := Aside0.mk A20
  clear A20
  obtain rfl := Option.some.inj H
  go_enter Try.func36, Try.ntmps36
  go_wp2_with (first | ((with_reducible refine gate_callee (f := 37) rfl ?_); refine goesL_ (some 4) rfl rfl Try.func37 (by kernel_rfl) rfl #[.int .i64 a0] rfl (by (try simp only [List.map_toArray, List.map_cons, List.map_nil]); first | done | rfl | (simp only [List.length_drop, List.length_take]; rfl)) ?_; (with_reducible refine (careenageref04_Room.calls a0 t326 _ A2.out).mono ?_); rintro e w' ⟨rfl, ⟨nd, rfl⟩⟩; refine ⟨_, rfl, ?_⟩))
  go_ret
  exact ⟨by first | rfl | (simp; done) | (simp [*]; done), by repeat (first | exact Drawn0.refl _ | apply Drawn0.step)⟩

end Go.Proofs.Ytlkfcabklaaacaa.P

namespace Go.Proofs.Ytlkfcabklaaacaa.P
open Go.RowKit Go.Proofs.YtlkfcabklaaacaaW.PrintWords Go.Proofs.YtlkfcabklaaacaaW.PrintLast Go.Proofs.YtlkfcabklaaacaaW.PrintMore
attribute [local go_sem] max2_int min2_int max_two min_two max_three min_three max_four min_four   -- for this text's walks alone
open Go.Proofs.YtlkfcabklaaacaaO
attribute [local go_sem] min2_str max2_str
set_option linter.unusedVariables false
set_option linter.unusedSimpArgs false

/-! ### careenageref04_Number: function 65 -/
def careenageref04_Number.f (a0 : Int) : Option (Bool) := if a0 ≥ 2 then (some (decide (a0 ≤ 2147483647))) else (some false)
set_option maxHeartbeats 8000000 in
set_option maxRecDepth 100000 in
theorem careenageref04_Number.calls (a0 : Int) (r : Bool) (w : World) (h : careenageref04_Number.f a0 = some r) :
    Calls Try.prog 65 #[.int .u32 a0] w fun e w' => e = .returned (.bool r) ∧ Drawn0 w w' := by
  have H : (if a0 ≥ 2 then (some (decide (a0 ≤ 2147483647))) else (some false)) = some r := h
  clear h
  by_cases c2 : a0 ≥ 2
  · rw [if_pos c2] at H
    have c2b0 : decide (2 ≤ a0) = true := decide_eq_true c2
    clear c2
    obtain rfl := Option.some.inj H
    go_enter Try.func65, Try.ntmps65
    go_wp2
    go_ret
    exact ⟨by first | rfl | (simp; done) | (simp [*]; done), by repeat (first | exact Drawn0.refl _ | apply Drawn0.step)⟩
  · rw [if_neg c2] at H
    have c2b0 : decide (2 ≤ a0) = false := decide_eq_false c2
    clear c2
    obtain rfl := Option.some.inj H
    go_enter Try.func65, Try.ntmps65
    go_wp2
    go_ret
    exact ⟨by first | rfl | (simp; done) | (simp [*]; done), by repeat (first | exact Drawn0.refl _ | apply Drawn0.step)⟩

end Go.Proofs.Ytlkfcabklaaacaa.P

namespace Go.Proofs.Ytlkfcabklaaacaa.P
open Go.RowKit Go.Proofs.YtlkfcabklaaacaaW.PrintWords Go.Proofs.YtlkfcabklaaacaaW.PrintLast Go.Proofs.YtlkfcabklaaacaaW.PrintMore
attribute [local go_sem] max2_int min2_int max_two min_two max_three min_three max_four min_four   -- for this text's walks alone
open Go.Proofs.YtlkfcabklaaacaaO
attribute [local go_sem] min2_str max2_str
set_option linter.unusedVariables false
set_option linter.unusedSimpArgs false

/-! ### careenageref10_Rises: function 34 -/
def careenageref10_Rises.l0 : Nat → List Int → Int → Option (Bool)
  | 0, _, _ => none
  | k + 1, x0, x3 => if x3 < (x0.length : Int) then (if 0 ≤ (wrap64 (x3 - 1)) then (if (wrap64 (x3 - 1)) < (x0.length : Int) then (if 0 ≤ x3 then (if (rd x0 (wrap64 (x3 - 1))) ≥ (rd x0 x3) then (some false) else (careenageref10_Rises.l0 k x0 (wrap64 (x3 + 1)))) else (none)) else (none)) else (none)) else (some true)
def careenageref10_Rises.f (k : Nat) (l0 : List Int) : Option (Bool) := careenageref10_Rises.l0 k l0 1
theorem careenageref10_Rises.mono_l : ∀ k, (∀ y0 y1, LeO (careenageref10_Rises.l0 k y0 y1) (careenageref10_Rises.l0 (k + 1) y0 y1))
  | 0 => fun _ _ r h => by simp [careenageref10_Rises.l0] at h
  | k + 1 => by
    have ih0 := careenageref10_Rises.mono_l k
    · intro y0 y1
      unfold careenageref10_Rises.l0
      repeat' first
      | (with_reducible exact ih0 _ _)
      | (with_reducible exact LeO.refl _)
      | (with_reducible exact LeO.none _)
      | (with_reducible refine LeO.ite ?_ ?_)
      | (with_reducible refine LeO.bind ?_ (fun _ => ?_))
      | exact ih0 _ _
      | exact LeO.none _
      | refine LeO.ite ?_ ?_
      | refine LeO.bind ?_ (fun _ => ?_)
theorem careenageref10_Rises.mono : ∀ a0 k, LeO (careenageref10_Rises.f k a0) (careenageref10_Rises.f (k + 1) a0) := by
  intro a0 k
  have ih0 := careenageref10_Rises.mono_l k
  unfold careenageref10_Rises.f
  repeat' first
      | (with_reducible exact ih0 _ _)
      | (with_reducible exact LeO.refl _)
      | (with_reducible exact LeO.none _)
      | (with_reducible refine LeO.ite ?_ ?_)
      | (with_reducible refine LeO.bind ?_ (fun _ => ?_))
      | exact ih0 _ _
      | exact LeO.none _
      | refine LeO.ite ?_ ?_
      | refine LeO.bind ?_ (fun _ => ?_)
set_option maxHeartbeats 8000000 in
set_option maxRecDepth 100000 in
theorem careenageref10_Rises.calls (k : Nat) (A0 : Option Addr) (c0 : Nat) (l0 : List Int) (r : Bool) (w : World) (hr0 : Kd.C (Kd.int .u32) w A0 l0.length l0) (hc0 : l0.length ≤ c0) (h : careenageref10_Rises.f k l0 = some r) :
    Calls Try.prog 34 #[.slice A0 l0.length c0] w fun e w' => e = .returned (.bool r) ∧ Drawn0 w w' := by
  have HR0 := Aside0.mk hr0
  have HC0 := Aside0.mk hc0
  clear hr0 hc0
  have H : (careenageref10_Rises.l0 k l0 1) = some r := h
  clear h
  have H' := Aside0.mk H
  clear H
  go_enter Try.func34, Try.ntmps34
  go_wp2
  repeat (go_quiet (fail); try go_wp2)
  go_loopg [3] k (fun kq v3 w' => ∃ (x3_1 : Int), v3 = .int .i64 x3_1 ∧ Aside0 (careenageref10_Rises.l0 kq l0 x3_1 = some r) ∧ Aside0 (kq ≤ k) ∧ Drawn0 w w')
  case atStart => exact ⟨(1), (by first | rfl | (simp; done) | (simp [*]; done)), H', ⟨Nat.le_refl _⟩, by repeat (first | exact Drawn0.refl _ | apply Drawn0.step)⟩
  case round =>
    clear H'
    obtain ⟨x3_1, rfl, HA, HK1, ⟨m1, rfl⟩⟩ := hrel
    cases gk with
    | zero => exact absurd HA.out (by simp [careenageref10_Rises.l0])
    | succ k1 =>
      have H := HA.out
      clear HA
      simp only [careenageref10_Rises.l0] at H
      by_cases c2 : x3_1 < (l0.length : Int)
      · rw [if_pos c2] at H
        have c2b0 : decide (x3_1 < (l0.length : Int)) = true := decide_eq_true c2
        clear c2
        obtain ⟨ji3, hji3⟩ : ∃ j_ : Int, (wrap64 (x3_1 - 1)) = j_ := ⟨_, rfl⟩
        replace H : (if 0 ≤ (ji3) then (if (ji3) < (l0.length : Int) then (if 0 ≤ x3_1 then (if (rd l0 (ji3)) ≥ (rd l0 x3_1) then (some false) else (careenageref10_Rises.l0 k1 l0 (wrap64 (x3_1 + 1)))) else (none)) else (none)) else (none)) = some r := by first | (rw [hji3] at H; exact H) | (simp only [hji3] at H ⊢; exact H)
        have hji3w : (IntKind.i64.wrap (x3_1 - 1)) = ji3 := (i64_w _).trans hji3
        by_cases c4 : 0 ≤ (ji3)
        · rw [if_pos c4] at H
          have c4b0 : decide (0 ≤ (ji3)) = true := decide_eq_true c4
          clear c4
          by_cases c5 : (ji3) < (l0.length : Int)
          · rw [if_pos c5] at H
            have c5b0 : decide ((ji3) < (l0.length : Int)) = true := decide_eq_true c5
            clear c5
            by_cases c6 : 0 ≤ x3_1
            · rw [if_pos c6] at H
              have c6b0 : decide (0 ≤ x3_1) = true := decide_eq_true c6
              clear c6
              by_cases c7 : (rd l0 (ji3)) ≥ (rd l0 x3_1)
              · rw [if_pos c7] at H
                have c7b0 : decide ((rd l0 x3_1) ≤ (rd l0 (ji3))) = true := decide_eq_true c7
                clear c7
                obtain rfl := Option.some.inj H
                have p327 : 0 ≤ ((ji3) : Int) := of_decide_eq_true (by first | (with_reducible assumption) | assumption)
                have q327 : (ji3) < (l0.length : Int) := of_decide_eq_true (by first | (with_reducible assumption) | assumption)
                obtain ⟨ad327, e327, hx327_0⟩ := Kd.at_int HR0.out (ji3) p327 q327
                cases e327
                replace p327 := eq_true p327
                replace q327 := eq_true q327
                have p328 : 0 ≤ (x3_1 : Int) := of_decide_eq_true (by first | (with_reducible assumption) | assumption)
                have q328 : x3_1 < (l0.length : Int) := of_decide_eq_true (by first | (with_reducible assumption) | assumption)
                obtain ⟨ad328, e328, hx328_0⟩ := Kd.at_int HR0.out x3_1 p328 q328
                obtain rfl : ad327 = ad328 := (by injection e328)
                replace p328 := eq_true p328
                replace q328 := eq_true q328
                go_wp2
                repeat (go_quiet (fail); try go_wp2)
                go_ret
                exact ⟨by first | rfl | (simp; done) | (simp only [← hji3] <;> (first | rfl | simp)) | (simp [*]; done), by repeat (first | exact Drawn0.refl _ | apply Drawn0.step)⟩
              · rw [if_neg c7] at H
                have c7b0 : decide ((rd l0 x3_1) ≤ (rd l0 (ji3))) = false := decide_eq_false c7
                clear c7
                have H' := Aside0.mk H
                clear H
                have p327 : 0 ≤ ((ji3) : Int) := of_decide_eq_true (by first | (with_reducible assumption) | assumption)
                have q327 : (ji3) < (l0.length : Int) := of_decide_eq_true (by first | (with_reducible assumption) | assumption)
                obtain ⟨ad327, e327, hx327_0⟩ := Kd.at_int HR0.out (ji3) p327 q327
                cases e327
                replace p327 := eq_true p327
                replace q327 := eq_true q327
                have p328 : 0 ≤ (x3_1 : Int) := of_decide_eq_true (by first | (with_reducible assumption) | assumption)
                have q328 : x3_1 < (l0.length : Int) := of_decide_eq_true (by first | (with_reducible assumption) | assumption)
                obtain ⟨ad328, e328, hx328_0⟩ := Kd.at_int HR0.out x3_1 p328 q328
                obtain rfl : ad327 = ad328 := (by injection e328)
                replace p328 := eq_true p328
                replace q328 := eq_true q328
                go_wp2
                repeat (go_quiet (fail); try go_wp2)
                go_roundg k1
                case measure => have := HK1.out; omega
                case rel => exact ⟨(wrap64 (x3_1 + 1)), (by first | rfl | (simp; done) | (simp [*]; done)), H', ⟨by have := HK1.out; omega⟩, by repeat (first | exact Drawn0.refl _ | apply Drawn0.step)⟩
            · rw [if_neg c6] at H
              exact absurd H (by simp)
          · rw [if_neg c5] at H
            exact absurd H (by simp)
        · rw [if_neg c4] at H
          exact absurd H (by simp)
      · rw [if_neg c2] at H
        have c2b0 : decide (x3_1 < (l0.length : Int)) = false := decide_eq_false c2
        clear c2
        obtain rfl := Option.some.inj H
        go_wp2
        repeat (go_quiet (fail); try go_wp2)
        go_ret
        exact ⟨by first | rfl | (simp; done) | (simp [*]; done), by repeat (first | exact Drawn0.refl _ | apply Drawn0.step)⟩

end Go.Proofs.Ytlkfcabklaaacaa.P

namespace Go.Proofs.Ytlkfcabklaaacaa.P
open Go.RowKit Go.Proofs.YtlkfcabklaaacaaW.PrintWords Go.Proofs.YtlkfcabklaaacaaW.PrintLast Go.Proofs.YtlkfcabklaaacaaW.PrintMore
attribute [local go_sem] max2_int min2_int max_two min_two max_three min_three max_four min_four   -- for this text's walks alone
open Go.Proofs.YtlkfcabklaaacaaO
attribute [local go_sem] min2_str max2_str
set_option linter.unusedVariables false
set_option linter.unusedSimpArgs false

/-! ### careenageref10_Numbers: function 64 -/
def careenageref10_Numbers.l0 : Nat → List Int → Int → Option (Bool)
  | 0, _, _ => none
  | k + 1, x0, x3 => if x3 < (x0.length : Int) then (if 0 ≤ x3 then ((careenageref04_Number.f (rd x0 x3)).bind fun t330 => (if t330 = true then (careenageref10_Numbers.l0 k x0 (wrap64 (x3 + 1))) else (some false))) else (none)) else ((careenageref10_Rises.f k x0).bind fun t331 => (some t331))
def careenageref10_Numbers.f (k : Nat) (l0 : List Int) : Option (Bool) := careenageref10_Numbers.l0 k l0 0
theorem careenageref10_Numbers.mono_l : ∀ k, (∀ y0 y1, LeO (careenageref10_Numbers.l0 k y0 y1) (careenageref10_Numbers.l0 (k + 1) y0 y1))
  | 0 => fun _ _ r h => by simp [careenageref10_Numbers.l0] at h
  | k + 1 => by
    have ih0 := careenageref10_Numbers.mono_l k
    · intro y0 y1
      unfold careenageref10_Numbers.l0
      repeat' first
      | (with_reducible exact ih0 _ _)
      | (with_reducible exact careenageref10_Rises.mono _ _)
      | (with_reducible exact LeO.refl _)
      | (with_reducible exact LeO.none _)
      | (with_reducible refine LeO.ite ?_ ?_)
      | (with_reducible refine LeO.bind ?_ (fun _ => ?_))
      | exact ih0 _ _
      | exact careenageref10_Rises.mono _ _
      | exact LeO.none _
      | refine LeO.ite ?_ ?_
      | refine LeO.bind ?_ (fun _ => ?_)
theorem careenageref10_Numbers.mono : ∀ a0 k, LeO (careenageref10_Numbers.f k a0) (careenageref10_Numbers.f (k + 1) a0) := by
  intro a0 k
  have ih0 := careenageref10_Numbers.mono_l k
  unfold careenageref10_Numbers.f
  repeat' first
      | (with_reducible exact ih0 _ _)
      | (with_reducible exact careenageref10_Rises.mono _ _)
      | (with_reducible exact LeO.refl _)
      | (with_reducible exact LeO.none _)
      | (with_reducible refine LeO.ite ?_ ?_)
      | (with_reducible refine LeO.bind ?_ (fun _ => ?_))
      | exact ih0 _ _
      | exact careenageref10_Rises.mono _ _
      | exact LeO.none _
      | refine LeO.ite ?_ ?_
      | refine LeO.bind ?_ (fun _ => ?_)
set_option maxHeartbeats 8000000 in
set_option maxRecDepth 100000 in
theorem careenageref10_Numbers.calls (k : Nat) (A0 : Option Addr) (c0 : Nat) (l0 : List Int) (r : Bool) (w : World) (hr0 : Kd.C (Kd.int .u32) w A0 l0.length l0) (hc0 : l0.length ≤ c0) (h : careenageref10_Numbers.f k l0 = some r) :
    Calls Try.prog 64 #[.slice A0 l0.length c0] w fun e w' => e = .returned (.bool r) ∧ Drawn0 w w' := by
  have HR0 := Aside0.mk hr0
  have HC0 := Aside0.mk hc0
  clear hr0 hc0
  have H : (careenageref10_Numbers.l0 k l0 0) = some r := h
  clear h
  have H' := Aside0.mk H
  clear H
  go_enter Try.func64, Try.ntmps64
  go_wp2
  go_loopg [3] k (fun kq v3 w' => ∃ (x3_1 : Int), v3 = .int .i64 x3_1 ∧ Aside0 (careenageref10_Numbers.l0 kq l0 x3_1 = some r) ∧ Aside0 (kq ≤ k) ∧ Drawn0 w w')
  case atStart => exact ⟨(0), (by first | rfl | (simp; done) | (simp [*]; done)), H', ⟨Nat.le_refl _⟩, by repeat (first | exact Drawn0.refl _ | apply Drawn0.step)⟩
  case round =>
    clear H'
    obtain ⟨x3_1, rfl, HA, HK1, ⟨m1, rfl⟩⟩ := hrel
    cases gk with
    | zero => exact absurd HA.out (by simp [careenageref10_Numbers.l0])
    | succ k1 =>
      have H := HA.out
      clear HA
      simp only [careenageref10_Numbers.l0] at H
      by_cases c2 : x3_1 < (l0.length : Int)
      · rw [if_pos c2] at H
        have c2b0 : decide (x3_1 < (l0.length : Int)) = true := decide_eq_true c2
        clear c2
        by_cases c3 : 0 ≤ x3_1
        · rw [if_pos c3] at H
          have c3b0 : decide (0 ≤ x3_1) = true := decide_eq_true c3
          clear c3
          replace H := Option.bind_eq_some_iff.mp H
          obtain ⟨t330, A40, H⟩ := H
          replace H : (if t330 = true then (careenageref10_Numbers.l0 k1 l0 (wrap64 (x3_1 + 1))) else (some false)) = some r := H
          have A4 := Aside0.mk A40
          clear A40
          by_cases c5 : t330 = true
          · subst c5
            have H1 : (careenageref10_Numbers.l0 k1 l0 (wrap64 (x3_1 + 1))) = some r := by rw [if_pos rfl] at H; exact H
            clear H
            have H := H1
            clear H1
            have H' := Aside0.mk H
            clear H
            have p329 : 0 ≤ (x3_1 : Int) := of_decide_eq_true (by first | (with_reducible assumption) | assumption)
            have q329 : x3_1 < (l0.length : Int) := of_decide_eq_true (by first | (with_reducible assumption) | assumption)
            obtain ⟨ad329, e329, hx329_0⟩ := Kd.at_int HR0.out x3_1 p329 q329
            cases e329
            replace p329 := eq_true p329
            replace q329 := eq_true q329
            go_wp2_with (first | ((with_reducible refine gate_callee (f := 65) rfl ?_); refine goesL_ (some 14) rfl rfl Try.func65 (by kernel_rfl) rfl #[.int .u32 (rd l0 x3_1)] rfl (by (try simp only [List.map_toArray, List.map_cons, List.map_nil]); first | done | rfl | (simp only [List.length_drop, List.length_take]; rfl)) ?_; (with_reducible refine (careenageref04_Number.calls (rd l0 x3_1) true _ A4.out).mono ?_); rintro e w' ⟨rfl, ⟨nd, rfl⟩⟩; refine ⟨_, rfl, ?_⟩))
            go_roundg k1
            case measure => have := HK1.out; omega
            case rel => exact ⟨(wrap64 (x3_1 + 1)), (by first | rfl | (simp; done) | (simp [*]; done)), H', ⟨by have := HK1.out; omega⟩, by repeat (first | exact Drawn0.refl _ | apply Drawn0.step)⟩
          · replace c5 := Bool.eq_false_iff.mpr c5
            subst c5
            have H1 : (some false) = some r := by rw [if_neg (show ¬ (false = true) by decide)] at H; exact H
            clear H
            have H := H1
            clear H1
            obtain rfl := Option.some.inj H
            have p329 : 0 ≤ (x3_1 : Int) := of_decide_eq_true (by first | (with_reducible assumption) | assumption)
            have q329 : x3_1 < (l0.length : Int) := of_decide_eq_true (by first | (with_reducible assumption) | assumption)
            obtain ⟨ad329, e329, hx329_0⟩ := Kd.at_int HR0.out x3_1 p329 q329
            cases e329
            replace p329 := eq_true p329
            replace q329 := eq_true q329
            go_wp2_with (first | ((with_reducible refine gate_callee (f := 65) rfl ?_); refine goesL_ (some 14) rfl rfl Try.func65 (by kernel_rfl) rfl #[.int .u32 (rd l0 x3_1)] rfl (by (try simp only [List.map_toArray, List.map_cons, List.map_nil]); first | done | rfl | (simp only [List.length_drop, List.length_take]; rfl)) ?_; (with_reducible refine (careenageref04_Number.calls (rd l0 x3_1) false _ A4.out).mono ?_); rintro e w' ⟨rfl, ⟨nd, rfl⟩⟩; refine ⟨_, rfl, ?_⟩))
            go_ret
            exact ⟨by first | rfl | (simp; done) | (simp [*]; done), by repeat (first | exact Drawn0.refl _ | apply Drawn0.step)⟩
        · rw [if_neg c3] at H
          exact absurd H (by simp)
      · rw [if_neg c2] at H
        have c2b0 : decide (x3_1 < (l0.length : Int)) = false := decide_eq_false c2
        clear c2
        replace H := Option.bind_eq_some_iff.mp H
        obtain ⟨t331, A60, H⟩ := H
        replace H : (some t331) = some r := H
        have A6 := Aside0.mk A60
        clear A60
        obtain rfl := Option.some.inj H
        go_wp2_with (first | ((with_reducible refine gate_callee (f := 34) rfl ?_); refine goesL_ (some 17) rfl rfl Try.func34 (by kernel_rfl) rfl #[.slice A0 l0.length c0] rfl (by (try simp only [List.map_toArray, List.map_cons, List.map_nil]); first | done | rfl | (simp only [List.length_drop, List.length_take]; rfl)) ?_; (with_reducible refine (careenageref10_Rises.calls k1 _ _ l0 t331 _ ?side1 ?side2 A6.out).mono ?_); (case side1 => repeat (first | exact HR0.out | (with_reducible refine Kd.C_alloc ?_ _) | (with_reducible refine Kd.C_drewN ?_ _) | (with_reducible refine Kd.C_drew ?_))); (case side2 => exact HC0.out); rintro e w' ⟨rfl, ⟨nd, rfl⟩⟩; refine ⟨_, rfl, ?_⟩))
        go_ret
        exact ⟨by first | rfl | (simp; done) | (simp [*]; done), by repeat (first | exact Drawn0.refl _ | apply Drawn0.step)⟩

end Go.Proofs.Ytlkfcabklaaacaa.P

namespace Go.Proofs.Ytlkfcabklaaacaa.P
open Go.RowKit Go.Proofs.YtlkfcabklaaacaaW.PrintWords Go.Proofs.YtlkfcabklaaacaaW.PrintLast Go.Proofs.YtlkfcabklaaacaaW.PrintMore
attribute [local go_sem] max2_int min2_int max_two min_two max_three min_three max_four min_four   -- for this text's walks alone
open Go.Proofs.YtlkfcabklaaacaaO
attribute [local go_sem] min2_str max2_str
set_option linter.unusedVariables false
set_option linter.unusedSimpArgs false

/-! ### careenageref01_Put: function 66 -/
mutual
def careenageref01_Put.j0 : Nat → Int → Int → List Int → Bool → Option (List Int)
  | 0, _, _, _, _ => none
  | k + 1, x1, x2, x7, x17 => if x17 = true then (some x7) else (careenageref01_Put.l0 k x1 x2 x7 0)
def careenageref01_Put.l0 : Nat → Int → Int → List Int → Int → Option (List Int)
  | 0, _, _, _, _ => none
  | k + 1, x1, x2, x7, x8 => if x8 < x2 then (if 0 ≤ (IntKind.u64.wrap (wrap64 (8 * x8))) then (if x7.length < 140737488355328 then (careenageref01_Put.l0 k x1 x2 (x7 ++ [(shr .u64 x1 (IntKind.u64.wrap (wrap64 (8 * x8)))) % 256]) (wrap64 (x8 + 1))) else (none)) else (none)) else (some x7)
end
def careenageref01_Put.f (k : Nat) (l0 : List Int) (a1 : Int) (a2 : Int) : Option (List Int) := (some (([] : List Int) : List Int)).bind fun y332 => (if y332.length + l0.length < 140737488355328 then ((some (y332 ++ l0 : List Int)).bind fun y335 => (if a2 < 1 then (careenageref01_Put.j0 k a1 a2 y335 true) else (careenageref01_Put.j0 k a1 a2 y335 (decide (a2 > 8))))) else (none))
theorem careenageref01_Put.mono_l : ∀ k, (∀ y0 y1 y2 y3, LeO (careenageref01_Put.j0 k y0 y1 y2 y3) (careenageref01_Put.j0 (k + 1) y0 y1 y2 y3)) ∧ (∀ y0 y1 y2 y3, LeO (careenageref01_Put.l0 k y0 y1 y2 y3) (careenageref01_Put.l0 (k + 1) y0 y1 y2 y3))
  | 0 => ⟨fun _ _ _ _ r h => by simp [careenageref01_Put.j0] at h, fun _ _ _ _ r h => by simp [careenageref01_Put.l0] at h⟩
  | k + 1 => by
    obtain ⟨ih0, ih1⟩ := careenageref01_Put.mono_l k
    refine ⟨?_, ?_⟩
    · intro y0 y1 y2 y3
      unfold careenageref01_Put.j0
      repeat' first
      | (with_reducible exact ih0 _ _ _ _)
      | (with_reducible exact ih1 _ _ _ _)
      | (with_reducible exact LeO.refl _)
      | (with_reducible exact LeO.none _)
      | (with_reducible refine LeO.ite ?_ ?_)
      | (with_reducible refine LeO.bind ?_ (fun _ => ?_))
      | exact ih0 _ _ _ _
      | exact ih1 _ _ _ _
      | exact LeO.none _
      | refine LeO.ite ?_ ?_
      | refine LeO.bind ?_ (fun _ => ?_)
    · intro y0 y1 y2 y3
      unfold careenageref01_Put.l0
      repeat' first
      | (with_reducible exact ih0 _ _ _ _)
      | (with_reducible exact ih1 _ _ _ _)
      | (with_reducible exact LeO.refl _)
      | (with_reducible exact LeO.none _)
      | (with_reducible refine LeO.ite ?_ ?_)
      | (with_reducible refine LeO.bind ?_ (fun _ => ?_))
      | exact ih0 _ _ _ _
      | exact ih1 _ _ _ _
      | exact LeO.none _
      | refine LeO.ite ?_ ?_
      | refine LeO.bind ?_ (fun _ => ?_)
theorem careenageref01_Put.mono : ∀ a0 a1 a2 k, LeO (careenageref01_Put.f k a0 a1 a2) (careenageref01_Put.f (k + 1) a0 a1 a2) := by
  intro a0 a1 a2 k
  obtain ⟨ih0, ih1⟩ := careenageref01_Put.mono_l k
  unfold careenageref01_Put.f
  repeat' first
      | (with_reducible exact ih0 _ _ _ _)
      | (with_reducible exact ih1 _ _ _ _)
      | (with_reducible exact LeO.refl _)
      | (with_reducible exact LeO.none _)
      | (with_reducible refine LeO.ite ?_ ?_)
      | (with_reducible refine LeO.bind ?_ (fun _ => ?_))
      | exact ih0 _ _ _ _
      | exact ih1 _ _ _ _
      | exact LeO.none _
      | refine LeO.ite ?_ ?_
      | refine LeO.bind ?_ (fun _ => ?_)
set_option maxHeartbeats 8000000 in
set_option maxRecDepth 100000 in
theorem careenageref01_Put.calls (k : Nat) (A0 : Option Addr) (c0 : Nat) (l0 : List Int) (a1 : Int) (a2 : Int) (r : List Int) (w : World) (hr0 : Kd.C (Kd.int .u8) w A0 l0.length l0) (hc0 : l0.length ≤ c0) (h : careenageref01_Put.f k l0 a1 a2 = some r) :
    Calls Try.prog 66 #[.slice A0 l0.length c0, .int .u64 a1, .int .i64 a2] w fun e w' => ∃ v0_ : Value, e = .returned (v0_) ∧ Kd.R (Kd.int .u8) 5 w' w.heap.size (fun _ => True) v0_ r ∧ Below w.heap.size w w' := by
  have HR0 := Aside0.mk hr0
  have HC0 := Aside0.mk hc0
  clear hr0 hc0
  have HB := Aside0.mk (Below.refl w.heap.size w)
  have H : ((some (([] : List Int) : List Int)).bind fun y332 => (if y332.length + l0.length < 140737488355328 then ((some (y332 ++ l0 : List Int)).bind fun y335 => (if a2 < 1 then (careenageref01_Put.j0 k a1 a2 y335 true) else (careenageref01_Put.j0 k a1 a2 y335 (decide (a2 > 8))))) else (none))) = some r := h
  clear h
  obtain ⟨y332, hy332⟩ : ∃ y_ : List Int, y_ = (([] : List Int)) := ⟨_, rfl⟩
  replace H : (if y332.length + l0.length < 140737488355328 then ((some (y332 ++ l0 : List Int)).bind fun y335 => (if a2 < 1 then (careenageref01_Put.j0 k a1 a2 y335 true) else (careenageref01_Put.j0 k a1 a2 y335 (decide (a2 > 8))))) else (none)) = some r := by first | (rw [hy332]; with_reducible exact H) | (have H2_ := (Option.bind_some _ _).symm.trans H; rw [hy332]; with_reducible exact H2_) | (have H2_ := (Option.bind_some _ _).symm.trans H; with_reducible exact H2_) | with_reducible exact H | (rw [hy332]; exact H) | exact H
  have Ny332 := Aside0.mk hy332
  clear hy332
  by_cases c4 : y332.length + l0.length < 140737488355328
  · rw [if_pos c4] at H
    have LMc4 := Aside0.mk c4
    clear c4
    obtain ⟨y335, hy335⟩ : ∃ y_ : List Int, y_ = (y332 ++ l0) := ⟨_, rfl⟩
    replace H : (if a2 < 1 then (careenageref01_Put.j0 k a1 a2 y335 true) else (careenageref01_Put.j0 k a1 a2 y335 (decide (a2 > 8)))) = some r := by first | (rw [hy335]; with_reducible exact H) | (have H2_ := (Option.bind_some _ _).symm.trans H; rw [hy335]; with_reducible exact H2_) | (have H2_ := (Option.bind_some _ _).symm.trans H; with_reducible exact H2_) | with_reducible exact H | (rw [hy335]; exact H) | exact H
    have Ny335 := Aside0.mk hy335
    clear hy335
    have HC5 := Aside0.mk H
    clear H
    go_enter Try.func66, Try.ntmps66
    go_upto_region 2 with (first | ((with_reducible refine gate_dst (N := 9) rfl ?_); refine Kd.R_lit (Kd.int .u8) _ 5 ?hg (N := 9) ?hd (xs := ([] : List Int)) (inner := []) (ok := fun _ => True) (okp := fun _ => True) ?hr ?hp (fun _ hk => hk) trivial (Below.refl _ _) (Nat.le_refl _) (by simp) ?_; (case hd => rfl); (case hg => rfl); (case hr => first | (go_simp; done) | (go_simp; rfl)); (case hp => exact (Reps.none _ _)); intro v333 w6 ho7 hb hg_ hnew_; clear hg_ hnew_; (first | rw [← Ny332.out] at ho7 | (simp only [Int.reduceToNat] at ho7; rw [← Ny332.out] at ho7)); have n0_ := Aside0.mk (Kd.R_lower ho7 (below_size (by repeat (first | (with_reducible first | exact HB.out | apply below_alloc | apply pw_below_drewN | apply below_drew1) | exact HB.out)))); have n1_ := Aside0.mk (below_step (by repeat (first | (with_reducible first | exact HB.out | apply below_alloc | apply pw_below_drewN | apply below_drew1) | exact HB.out)) hb); clear HB; have HO334 := n0_; have HB := n1_; clear n0_ n1_; clear hb ho7) | ((with_reducible refine gate_builtin (b := .append) (xs := #[.tmp 9, .tmp 10]) rfl ?_); at_builtin; refine Kd.R_append_rows (Kd.int .u8) (w0 := w) w.heap.size rfl (.tmp 9) (.tmp 10) 55 5 (.int .u8 0) 1 rfl Try.underlying55 info5 rfl (by decide) (by omega) v333 y332 l0 _ _ _ (fun _ => True) (fun _ => False) rfl rfl ?aO ?aR (fun _ _ h => h) (fun _ h => h.elim) ?aF ?aB ?aS ?aL ?_; (case aR => repeat (first | exact (Kd.C_below HR0.out HB.out) | (with_reducible refine Kd.C_alloc ?_ _) | (with_reducible refine Kd.C_drewN ?_ _) | (with_reducible refine Kd.C_drew ?_))); (case aB => exact (by repeat (first | (with_reducible first | exact HB.out | apply below_alloc | apply pw_below_drewN | apply below_drew1) | exact HB.out))); (case aF => exact (fun _ _ => trivial)); (case aO => exact (by (with_reducible repeat (first | apply Kd.R_alloc | apply Kd.R_drewN | apply Kd.R_drew)); exact HO334.out)); (case aS => exact (below_size (by repeat (first | (with_reducible first | exact HB.out | apply below_alloc | apply pw_below_drewN | apply below_drew1) | exact HB.out)))); (case aL => have := LMc4.out; omega); intro v336 w8 ho hb hg hat; rw [← Ny335.out] at ho; have n0_ := Aside0.mk (hb); have n1_ := Aside0.mk (ho); clear HB; clear HO334; have HB := n0_; have HO337 := n1_; clear n0_ n1_; clear ho hb hg hat))
    (try simp only [Act.put, List.setIfInBounds_toArray, List.set_cons_zero, List.set_cons_succ])
    go_cut [17] (fun v17 wc => ∃ (kq : Nat) (x17_4 : Bool), v17 = .bool x17_4 ∧ Aside0 (careenageref01_Put.j0 kq a1 a2 y335 x17_4 = some r) ∧ Aside0 (kq ≤ k) ∧ Aside0 (Kd.R (Kd.int .u8) 5 wc w.heap.size (fun _ => True) v336 y335) ∧ Aside0 (Below w.heap.size w wc))
    case first =>
      have H := HC5.out
      clear HC5
      by_cases c9 : a2 < 1
      · rw [if_pos c9] at H
        have c9b0 : decide (a2 < 1) = true := decide_eq_true c9
        clear c9
        (first | rw [c9b0] | (simp only [i64_w, i32_w]; rw [c9b0]) | skip)
        have H' := Aside0.mk H
        clear H
        go_wp2
        go_meet
        case rel => exact ⟨_, (true), (by first | rfl | (simp; done) | (simp [*]; done)), H', ⟨by first | omega | exact Nat.le_refl _⟩, ⟨by (with_reducible repeat (first | apply Kd.R_alloc | apply Kd.R_drewN | apply Kd.R_drew)); exact HO337.out⟩, ⟨by repeat (first | (with_reducible first | exact HB.out | apply below_alloc | apply pw_below_drewN | apply below_drew1) | exact HB.out)⟩⟩
      · rw [if_neg c9] at H
        have c9b0 : decide (a2 < 1) = false := decide_eq_false c9
        clear c9
        (first | rw [c9b0] | (simp only [i64_w, i32_w]; rw [c9b0]) | skip)
        have H' := Aside0.mk H
        clear H
        go_wp2
        go_meet
        case rel => exact ⟨_, (decide (a2 > 8)), (by first | rfl | (simp; done) | (simp [*]; done)), H', ⟨by first | omega | exact Nat.le_refl _⟩, ⟨by (with_reducible repeat (first | apply Kd.R_alloc | apply Kd.R_drewN | apply Kd.R_drew)); exact HO337.out⟩, ⟨by repeat (first | (with_reducible first | exact HB.out | apply below_alloc | apply pw_below_drewN | apply below_drew1) | exact HB.out)⟩⟩
    case rest =>
      clear HC5
      try clear p2
      try clear c4
      try clear c6
      try clear c9
      try clear c9b0
      obtain ⟨kq, x17_4, rfl, HA, HJ4, HO_7, HB⟩ := hcut
      cases kq with
      | zero => exact absurd HA.out (by simp [careenageref01_Put.j0])
      | succ kj4 =>
        have H := HA.out
        clear HA
        simp only [careenageref01_Put.j0] at H
        by_cases c10 : x17_4 = true
        · subst c10
          have H1 : (some y335) = some r := by rw [if_pos rfl] at H; exact H
          clear H
          have H := H1
          clear H1
          obtain rfl := Option.some.inj H
          go_wp2
          go_ret
          exact ⟨_, by first | rfl | (simp [errW_none, errW_some] <;> rfl) | (simp [*, errW_none, errW_some] <;> rfl), by (with_reducible repeat (first | apply Kd.R_alloc | apply Kd.R_drewN | apply Kd.R_drew)); exact HO_7.out, by repeat (first | (with_reducible first | exact HB.out | apply below_alloc | apply pw_below_drewN | apply below_drew1) | exact HB.out)⟩
        · replace c10 := Bool.eq_false_iff.mpr c10
          subst c10
          have H1 : (careenageref01_Put.l0 kj4 a1 a2 y335 0) = some r := by rw [if_neg (show ¬ (false = true) by decide)] at H; exact H
          clear H
          have H := H1
          clear H1
          have H' := Aside0.mk H
          clear H
          go_wp2
          go_loopg [7, 8] kj4 (fun kq v7 v8 w' => ∃ (x7_2 : List Int) (x8_2 : Int), v8 = .int .i64 x8_2 ∧ Aside0 (careenageref01_Put.l0 kq a1 a2 x7_2 x8_2 = some r) ∧ Aside0 (kq ≤ kj4) ∧ Aside0 (Kd.R (Kd.int .u8) 5 w' w.heap.size (fun _ => True) v7 x7_2) ∧ Aside0 (Below w.heap.size w w'))
          case atStart => exact ⟨(y335), (0), (by first | rfl | (simp; done) | (simp [*]; done)), H', ⟨Nat.le_refl _⟩, ⟨by (with_reducible repeat (first | apply Kd.R_alloc | apply Kd.R_drewN | apply Kd.R_drew)); exact HO_7.out⟩, ⟨by repeat (first | (with_reducible first | exact HB.out | apply below_alloc | apply pw_below_drewN | apply below_drew1) | exact HB.out)⟩⟩
          case round =>
            clear H'
            try clear c1
            try clear p2
            try clear c4
            try clear c6
            try clear c9
            try clear c9b0
            try clear c10
            try clear p2
            obtain ⟨x7_2, x8_2, rfl, HA, HK2, HO_7, HB⟩ := hrel
            cases gk with
            | zero => exact absurd HA.out (by simp [careenageref01_Put.l0])
            | succ k2 =>
              have H := HA.out
              clear HA
              simp only [careenageref01_Put.l0] at H
              by_cases c11 : x8_2 < a2
              · rw [if_pos c11] at H
                have c11b0 : decide (x8_2 < a2) = true := decide_eq_true c11
                clear c11
                obtain ⟨ji12, hji12⟩ : ∃ j_ : Int, (IntKind.u64.wrap (wrap64 (8 * x8_2))) = j_ := ⟨_, rfl⟩
                replace H : (if 0 ≤ (ji12) then (if x7_2.length < 140737488355328 then (careenageref01_Put.l0 k2 a1 a2 (x7_2 ++ [(shr .u64 a1 (ji12)) % 256]) (wrap64 (x8_2 + 1))) else (none)) else (none)) = some r := by first | (rw [hji12] at H; exact H) | (simp only [hji12] at H ⊢; exact H)
                by_cases c13 : 0 ≤ (ji12)
                · rw [if_pos c13] at H
                  have c13b0 := eq_true c13
                  have c13b1 : decide (0 ≤ (ji12)) = true := decide_eq_true c13
                  clear c13
                  obtain ⟨ji14, hji14⟩ : ∃ j_ : Int, (shr .u64 a1 (ji12)) = j_ := ⟨_, rfl⟩
                  replace H : (if x7_2.length < 140737488355328 then (careenageref01_Put.l0 k2 a1 a2 (x7_2 ++ [(ji14) % 256]) (wrap64 (x8_2 + 1))) else (none)) = some r := by first | (rw [hji14] at H; exact H) | (simp only [hji14] at H ⊢; exact H)
                  have hji14_ : (a1 / 2 ^ min (ji12).toNat 64) = ji14 := hji14
                  have hji14z : (ji12) ≤ 64 → (a1 / 2 ^ (ji12).toNat) = ji14 := shr_small hji14
                  by_cases c15 : x7_2.length < 140737488355328
                  · rw [if_pos c15] at H
                    have LMc15 := Aside0.mk c15
                    clear c15
                    obtain ⟨y338, hy338⟩ : ∃ y_ : List Int, y_ = (x7_2 ++ [(ji14) % 256]) := ⟨_, rfl⟩
                    replace H : (careenageref01_Put.l0 k2 a1 a2 y338 (wrap64 (x8_2 + 1))) = some r := by first | (rw [hy338]; with_reducible exact H) | (have H2_ := (Option.bind_some _ _).symm.trans H; rw [hy338]; with_reducible exact H2_) | (have H2_ := (Option.bind_some _ _).symm.trans H; with_reducible exact H2_) | with_reducible exact H | (rw [hy338]; exact H) | exact H
                    have Ny338 := Aside0.mk hy338
                    clear hy338
                    have H' := Aside0.mk H
                    clear H
                    go_wp2_with (first | ((with_reducible refine gate_builtin (b := .append) (xs := #[.tmp 24, .tmp 31]) rfl ?_); at_builtin; refine Kd.R_append (Kd.int .u8) (w0 := w) w.heap.size rfl (.tmp 24) (.tmp 31) 55 5 (.int .u8 0) 1 rfl Try.underlying55 info5 rfl (by decide) (by omega) u7 x7_2 ((ji14) % 256) [.int .u8 ((ji14) % 256)] (fun _ => True) (fun _ => False) rfl rfl ?aP (fun _ hk => hk.elim) ?aF ?aO ?aB ?aS ?aL ?_; (case aP => exact rfl); (case aB => exact (by repeat (first | (with_reducible first | exact HB.out | apply below_alloc | apply pw_below_drewN | apply below_drew1) | exact HB.out))); (case aF => exact (fun _ _ => trivial)); (case aO => exact (by (with_reducible repeat (first | apply Kd.R_alloc | apply Kd.R_drewN | apply Kd.R_drew)); exact HO_7.out)); (case aS => exact (below_size (by repeat (first | (with_reducible first | exact HB.out | apply below_alloc | apply pw_below_drewN | apply below_drew1) | exact HB.out)))); (case aL => have := LMc15.out; omega); intro v339 w16 ho hb hg hat; rw [← Ny338.out] at ho; have n0_ := Aside0.mk (hb); have n1_ := Aside0.mk (ho); clear HB; clear HO_7; have HB := n0_; have HO340 := n1_; clear n0_ n1_; clear ho hb hg hat))
                    go_roundg k2
                    case measure => have := HJ4.out; have := HK2.out; omega
                    case rel => exact ⟨(y338), (wrap64 (x8_2 + 1)), (by first | rfl | (simp; done) | (simp [*]; done)), H', ⟨by have := HJ4.out; have := HK2.out; omega⟩, ⟨by (with_reducible repeat (first | apply Kd.R_alloc | apply Kd.R_drewN | apply Kd.R_drew)); exact HO340.out⟩, ⟨by repeat (first | (with_reducible first | exact HB.out | apply below_alloc | apply pw_below_drewN | apply below_drew1) | exact HB.out)⟩⟩
                  · rw [if_neg c15] at H
                    exact absurd H (by simp)
                · rw [if_neg c13] at H
                  exact absurd H (by simp)
              · rw [if_neg c11] at H
                have c11b0 : decide (x8_2 < a2) = false := decide_eq_false c11
                clear c11
                obtain rfl := Option.some.inj H
                go_wp2
                go_ret
                exact ⟨_, by first | rfl | (simp [errW_none, errW_some] <;> rfl) | (simp [*, errW_none, errW_some] <;> rfl), by (with_reducible repeat (first | apply Kd.R_alloc | apply Kd.R_drewN | apply Kd.R_drew)); exact HO_7.out, by repeat (first | (with_reducible first | exact HB.out | apply below_alloc | apply pw_below_drewN | apply below_drew1) | exact HB.out)⟩
  · rw [if_neg c4] at H
    exact absurd H (by simp)

end Go.Proofs.Ytlkfcabklaaacaa.P

namespace Go.Proofs.YtlkfcabklaaacaaO
set_option linter.unusedVariables false
set_option linter.unusedSimpArgs false
open Go.RowKit Go.Proofs.YtlkfcabklaaacaaW.PrintWords Go.Proofs.YtlkfcabklaaacaaW.PrintWords.Kd
variable {P : Program}
def StrHeld (P : Program) (b s : TypeId) (v : Value) (xs : List Int) (w : World) : Prop := (convert b s v).run P w = .ok (.string (strOfNums xs)) w
def sand (S T : World → Prop) (w : World) : Prop := S w ∧ T w
def sall (_ : World) : Prop := True
theorem sand_ {S T : World → Prop} {w : World} (h : S w) (k : T w) : sand S T w := ⟨h, k⟩
theorem sall_ (w : World) : sall w := trivial
theorem strH {b s e : TypeId} {base : Nat} {ok : Nat → Prop} {v : Value} {xs : List Int} {w : World} (hs : P.underlying b = some (.slice e)) (he : P.underlying e = some (.int .u8)) (hd : P.underlying s = some .string) (h : (Kd.int .u8).R e w base ok v xs) : StrHeld P b s v xs w :=
  own_string (P := P) hs he hd (Kd.own_of_R h)
theorem strC {b s e : TypeId} {A : Option Addr} {c : Nat} {xs : List Int} {w : World} (hs : P.underlying b = some (.slice e)) (he : P.underlying e = some (.int .u8)) (hd : P.underlying s = some .string) (h : (Kd.int .u8).C w A xs.length xs) : StrHeld P b s (.slice A xs.length c) xs w :=
  Kd.C_string (P := P) (A := A) (c := c) hs he hd h
/-- Of the world that a walk has come to what is old is enough. -/
theorem gen_world {c : Code} {Q : Exit → Act → World → Prop} {a : Act} {w0 W : World} (hb : Below w0.heap.size w0 W) (h : ∀ W', Below w0.heap.size w0 W' → Code.wp P c Q a W') : Code.wp P c Q a W := h W hb
end Go.Proofs.YtlkfcabklaaacaaO

namespace Go.Proofs.Ytlkfcabklaaacaa.P
open Go.RowKit Go.Proofs.YtlkfcabklaaacaaW.PrintWords Go.Proofs.YtlkfcabklaaacaaW.PrintLast Go.Proofs.YtlkfcabklaaacaaW.PrintMore
attribute [local go_sem] max2_int min2_int max_two min_two max_three min_three max_four min_four   -- for this text's walks alone
open Go.Proofs.YtlkfcabklaaacaaO
attribute [local go_sem] min2_str max2_str
set_option linter.unusedVariables false
set_option linter.unusedSimpArgs false

/-! ### careenageref04_Body: function 67 -/
def careenageref04_Body.f (a0 : Int) (l1 : List Int) : Option (ByteArray × Int) := (careenageref03_Good.f a0).bind fun t341 => (if t341 = true then ((careenageref04_Room.f a0).bind fun t342 => (if (l1.length : Int) > t342 then (some ((⟨#[]⟩ : ByteArray), 3)) else ((careenageref04_Room.f a0).bind fun t343 => (if 0 ≤ (wrap64 (t343 - (l1.length : Int))) then (if (wrap64 (t343 - (l1.length : Int)) : Int).toNat ≤ 281474976710656 then ((some (List.replicate (wrap64 (t343 - (l1.length : Int)) : Int).toNat 0 : List Int)).bind fun y344 => (if (strOfNums l1).size + (strOfNums y344).size ≤ 9223372036854775807 then (some ((strOfNums l1) ++ (strOfNums y344), 0)) else (none))) else (none)) else (none))))) else (some ((⟨#[]⟩ : ByteArray), 2)))
def careenageref04_Body.T5 : Bool × List (List Nat × List Nat) := (true, [([], []), ([0], [0]), ([], []), ([2], [2]), ([], []), ([4], [4]), ([3, 5], [3, 5]), ([6, 6], [6]), ([7], [7]), ([1, 8], [1, 8]), ([9, 3, 0, 1, 2, 3, 4, 5, 6, 7, 8, 9], [9]), ([10, 0, 1, 2, 3, 4, 5, 6, 7, 8, 9, 10], [])])
def careenageref04_Body.B5 : List Nat := [0, 1, 0, 4, 0, 16, 60, 124, 252, 511, 1023, 2047]
theorem careenageref04_Body.tab5 : rtab .any (opsOf Try.f67 5) = careenageref04_Body.T5 := by kernel_rfl
theorem careenageref04_Body.bits5 : waitsOk careenageref04_Body.T5.2 careenageref04_Body.B5 = true := by kernel_rfl
set_option maxHeartbeats 8000000 in
set_option maxRecDepth 100000 in
theorem careenageref04_Body.calls (a0 : Int) (A1 : Option Addr) (c1 : Nat) (l1 : List Int) (r1 : ByteArray) (r2 : Int) (w : World) (hr1 : Kd.C (Kd.int .u8) w A1 l1.length l1) (hc1 : l1.length ≤ c1) (h : careenageref04_Body.f a0 l1 = some (r1, r2)) :
    Calls Try.prog 67 #[.int .i64 a0, .slice A1 l1.length c1] w fun e w' => e = .returned (.tuple #[.string r1, .int .i64 r2]) ∧ Below w.heap.size w w' := by
  have HR1 := Aside0.mk hr1
  have HC1 := Aside0.mk hc1
  clear hr1 hc1
  have HB := Aside0.mk (Below.refl w.heap.size w)
  have H : ((careenageref03_Good.f a0).bind fun t341 => (if t341 = true then ((careenageref04_Room.f a0).bind fun t342 => (if (l1.length : Int) > t342 then (some ((⟨#[]⟩ : ByteArray), 3)) else ((careenageref04_Room.f a0).bind fun t343 => (if 0 ≤ (wrap64 (t343 - (l1.length : Int))) then (if (wrap64 (t343 - (l1.length : Int)) : Int).toNat ≤ 281474976710656 then ((some (List.replicate (wrap64 (t343 - (l1.length : Int)) : Int).toNat 0 : List Int)).bind fun y344 => (if (strOfNums l1).size + (strOfNums y344).size ≤ 9223372036854775807 then (some ((strOfNums l1) ++ (strOfNums y344), 0)) else (none))) else (none)) else (none))))) else (some ((⟨#[]⟩ : ByteArray), 2)))) = some (r1, r2) := h
  clear h
  replace H := Option.bind_eq_some_iff.mp H
  obtain ⟨t341, A30, H⟩ := H
  replace H : (if t341 = true then ((careenageref04_Room.f a0).bind fun t342 => (if (l1.length : Int) > t342 then (some ((⟨#[]⟩ : ByteArray), 3)) else ((careenageref04_Room.f a0).bind fun t343 => (if 0 ≤ (wrap64 (t343 - (l1.length : Int))) then (if (wrap64 (t343 - (l1.length : Int)) : Int).toNat ≤ 281474976710656 then ((some (List.replicate (wrap64 (t343 - (l1.length : Int)) : Int).toNat 0 : List Int)).bind fun y344 => (if (strOfNums l1).size + (strOfNums y344).size ≤ 9223372036854775807 then (some ((strOfNums l1) ++ (strOfNums y344), 0)) else (none))) else (none)) else (none))))) else (some ((⟨#[]⟩ : ByteArray), 2))) = some (r1, r2) := H
  have A3 := Aside0.mk A30
  clear A30
  by_cases c4 : t341 = true
  · subst c4
    have H1 : ((careenageref04_Room.f a0).bind fun t342 => (if (l1.length : Int) > t342 then (some ((⟨#[]⟩ : ByteArray), 3)) else ((careenageref04_Room.f a0).bind fun t343 => (if 0 ≤ (wrap64 (t343 - (l1.length : Int))) then (if (wrap64 (t343 - (l1.length : Int)) : Int).toNat ≤ 281474976710656 then ((some (List.replicate (wrap64 (t343 - (l1.length : Int)) : Int).toNat 0 : List Int)).bind fun y344 => (if (strOfNums l1).size + (strOfNums y344).size ≤ 9223372036854775807 then (some ((strOfNums l1) ++ (strOfNums y344), 0)) else (none))) else (none)) else (none))))) = some (r1, r2) := by rw [if_pos rfl] at H; exact H
    clear H
    have H := H1
    clear H1
    replace H := Option.bind_eq_some_iff.mp H
    obtain ⟨t342, A50, H⟩ := H
    replace H : (if (l1.length : Int) > t342 then (some ((⟨#[]⟩ : ByteArray), 3)) else ((careenageref04_Room.f a0).bind fun t343 => (if 0 ≤ (wrap64 (t343 - (l1.length : Int))) then (if (wrap64 (t343 - (l1.length : Int)) : Int).toNat ≤ 281474976710656 then ((some (List.replicate (wrap64 (t343 - (l1.length : Int)) : Int).toNat 0 : List Int)).bind fun y344 => (if (strOfNums l1).size + (strOfNums y344).size ≤ 9223372036854775807 then (some ((strOfNums l1) ++ (strOfNums y344), 0)) else (none))) else (none)) else (none)))) = some (r1, r2) := H
    have A5 := Aside0.mk A50
    clear A50
    by_cases c6 : (l1.length : Int) > t342
    · rw [if_pos c6] at H
      have c6b0 : decide (t342 < (l1.length : Int)) = true := decide_eq_true c6
      clear c6
      simp only [Option.some.injEq, Prod.mk.injEq] at H
      obtain ⟨rfl, rfl⟩ := H
      go_enter Try.func67, Try.ntmps67
      go_wp2_with (first | ((with_reducible refine gate_callee (f := 63) rfl ?_); refine goesL_ (some 7) rfl rfl Try.func63 (by kernel_rfl) rfl #[.int .i64 a0] rfl (by (try simp only [List.map_toArray, List.map_cons, List.map_nil]); first | done | rfl | (simp only [List.length_drop, List.length_take]; rfl)) ?_; (with_reducible refine (careenageref03_Good.calls a0 true _ A3.out).mono ?_); rintro e w' ⟨rfl, ⟨nd, rfl⟩⟩; refine ⟨_, rfl, ?_⟩) | ((with_reducible refine gate_callee (f := 37) rfl ?_); refine goesL_ (some 12) rfl rfl Try.func37 (by kernel_rfl) rfl #[.int .i64 a0] rfl (by (try simp only [List.map_toArray, List.map_cons, List.map_nil]); first | done | rfl | (simp only [List.length_drop, List.length_take]; rfl)) ?_; (with_reducible refine (careenageref04_Room.calls a0 t342 _ A5.out).mono ?_); rintro e w' ⟨rfl, ⟨nd, rfl⟩⟩; refine ⟨_, rfl, ?_⟩))
      go_ret2
      exact ⟨by first | rfl | (simp [errW_none, errW_some] <;> rfl) | (simp [*, errW_none, errW_some] <;> rfl), by repeat (first | (with_reducible first | exact HB.out | apply below_alloc | apply pw_below_drewN | apply below_drew1) | exact HB.out)⟩
    · rw [if_neg c6] at H
      have c6b0 : decide (t342 < (l1.length : Int)) = false := decide_eq_false c6
      clear c6
      replace H := Option.bind_eq_some_iff.mp H
      obtain ⟨t343, A70, H⟩ := H
      replace H : (if 0 ≤ (wrap64 (t343 - (l1.length : Int))) then (if (wrap64 (t343 - (l1.length : Int)) : Int).toNat ≤ 281474976710656 then ((some (List.replicate (wrap64 (t343 - (l1.length : Int)) : Int).toNat 0 : List Int)).bind fun y344 => (if (strOfNums l1).size + (strOfNums y344).size ≤ 9223372036854775807 then (some ((strOfNums l1) ++ (strOfNums y344), 0)) else (none))) else (none)) else (none)) = some (r1, r2) := H
      have A7 := Aside0.mk A70
      clear A70
      obtain ⟨ji8, hji8⟩ : ∃ j_ : Int, (wrap64 (t343 - (l1.length : Int))) = j_ := ⟨_, rfl⟩
      replace H : (if 0 ≤ (ji8) then (if (ji8 : Int).toNat ≤ 281474976710656 then ((some (List.replicate (ji8 : Int).toNat 0 : List Int)).bind fun y344 => (if (strOfNums l1).size + (strOfNums y344).size ≤ 9223372036854775807 then (some ((strOfNums l1) ++ (strOfNums y344), 0)) else (none))) else (none)) else (none)) = some (r1, r2) := by first | (rw [hji8] at H; exact H) | (simp only [hji8] at H ⊢; exact H)
      (try rw [hji8] at A3)
      (try rw [hji8] at A5)
      (try rw [hji8] at A7)
      have hji8w : (IntKind.i64.wrap (t343 - (l1.length : Int))) = ji8 := (i64_w _).trans hji8
      by_cases c9 : 0 ≤ (ji8)
      · rw [if_pos c9] at H
        have c9b0 := eq_true c9
        have c9b1 : decide (0 ≤ (ji8)) = true := decide_eq_true c9
        clear c9
        by_cases c10 : (ji8 : Int).toNat ≤ 281474976710656
        · rw [if_pos c10] at H
          have c10b0 := eq_true c10
          have c10b1 : decide ((ji8 : Int).toNat ≤ 281474976710656) = true := decide_eq_true c10
          clear c10
          obtain ⟨y344, hy344⟩ : ∃ y_ : List Int, y_ = (List.replicate (ji8 : Int).toNat 0) := ⟨_, rfl⟩
          replace H : (if (strOfNums l1).size + (strOfNums y344).size ≤ 9223372036854775807 then (some ((strOfNums l1) ++ (strOfNums y344), 0)) else (none)) = some (r1, r2) := by first | (rw [hy344]; with_reducible exact H) | (have H2_ := (Option.bind_some _ _).symm.trans H; rw [hy344]; with_reducible exact H2_) | (have H2_ := (Option.bind_some _ _).symm.trans H; with_reducible exact H2_) | with_reducible exact H | (rw [hy344]; exact H) | exact H
          have Ny344 := Aside0.mk hy344
          clear hy344
          by_cases c11 : (strOfNums l1).size + (strOfNums y344).size ≤ 9223372036854775807
          · rw [if_pos c11] at H
            have c11b0 := eq_true c11
            have c11b1 : decide ((strOfNums l1).size + (strOfNums y344).size ≤ 9223372036854775807) = true := decide_eq_true c11
            try have c11b2 : (9223372036854775807 < (strOfNums l1).size + (strOfNums y344).size) = False := eq_false (Nat.not_lt.2 c11)
            simp only [Option.some.injEq, Prod.mk.injEq] at H
            obtain ⟨rfl, rfl⟩ := H
            go_enter Try.func67, Try.ntmps67
            try go_wp2_with (first | ((with_reducible refine gate_callee (f := 63) rfl ?_); refine goesL_ (some 7) rfl rfl Try.func63 (by kernel_rfl) rfl #[.int .i64 a0] rfl (by (try simp only [List.map_toArray, List.map_cons, List.map_nil]); first | done | rfl | (simp only [List.length_drop, List.length_take]; rfl)) ?_; (with_reducible refine (careenageref03_Good.calls a0 true _ A3.out).mono ?_); rintro e w' ⟨rfl, ⟨nd, rfl⟩⟩; refine ⟨_, rfl, ?_⟩) | ((with_reducible refine gate_callee (f := 37) rfl ?_); refine goesL_ (some 12) rfl rfl Try.func37 (by kernel_rfl) rfl #[.int .i64 a0] rfl (by (try simp only [List.map_toArray, List.map_cons, List.map_nil]); first | done | rfl | (simp only [List.length_drop, List.length_take]; rfl)) ?_; (with_reducible refine (careenageref04_Room.calls a0 t342 _ A5.out).mono ?_); rintro e w' ⟨rfl, ⟨nd, rfl⟩⟩; refine ⟨_, rfl, ?_⟩))
            refine gen_world (w0 := w) (by repeat (first | (with_reducible first | exact HB.out | exact Below.refl _ _ | apply below_alloc | apply pw_below_drewN | apply below_drew1) | exact HB.out)) (fun wz HBz => ?_)
            clear HB
            have HB := Aside0.mk HBz
            clear HBz
            have n0_ := Aside0.mk (below_drew1 HB.out)
            clear HB
            have HB := n0_
            clear n0_
            have hcv13 := Kd.C_string (P := Try.prog) (A := A1) (c := c1) Try.underlying55 Try.underlying5 Try.underlying9 (Kd.C_below HR1.out HB.out)
            refine start_ (n := 12) (S := _) (ds := []) #[false, false, false, false, false, false, false, false, false, false, false, false] (by kernel_rfl) rfl rfl (sand_ (strC (P := Try.prog) (c := c1) Try.underlying55 Try.underlying5 Try.underlying9 (Kd.C_below HR1.out (by repeat (first | (with_reducible first | exact HB.out | exact Below.refl _ _ | apply below_alloc | apply pw_below_drewN | apply below_drew1) | exact HB.out)))) (sall_ _)) (fun hHeld => ?_); refine with_tabW careenageref04_Body.tab5 careenageref04_Body.bits5 (fun HT_ HW_ => ?_)
            generalize wz.drew = w12 at HB hHeld ⊢
            refine pure_ (i := 0) (N := some 14) (v := ?_) (a' := ?_) #[true, false, false, false, false, false, false, false, false, false, false, false] rfl rfl (any_of HT_.out (by kernel_rfl)) (fun _ _ _ h => h) (Or.inl ⟨by rfl, ?_⟩) ?_ ?_
            rotate_left
            · intro w'
              go_simp
              with_reducible rfl
            rotate_left
            · simp only [Act.put, List.setIfInBounds_toArray, List.set_cons_zero, List.set_cons_succ, i64_w, i32_w]
              rfl
            refine take_ (i := 1) (N := some 15) (v := ?_) (a' := ?_) #[true, true, false, false, false, false, false, false, false, false, false, false] rfl rfl (take_ofW HT_.out HW_.out (by kernel_rfl)) (fun _ _ _ h => h) (Or.inl ⟨by rfl, ?_⟩) hHeld ?_ ?_
            rotate_left
            · intro w' hS_
              obtain ⟨s0_, -⟩ := hS_
              unfold StrHeld at s0_
              go_simp
              with_reducible rfl
            rotate_left
            · simp only [Act.put, List.setIfInBounds_toArray, List.set_cons_zero, List.set_cons_succ, i64_w, i32_w]
              rfl
            refine pure_ (i := 2) (N := some 16) (v := ?_) (a' := ?_) #[true, true, true, false, false, false, false, false, false, false, false, false] rfl rfl (any_of HT_.out (by kernel_rfl)) (fun _ _ _ h => h) (Or.inl ⟨by rfl, ?_⟩) ?_ ?_
            rotate_left
            · intro w'
              go_simp
              with_reducible rfl
            rotate_left
            · simp only [Act.put, List.setIfInBounds_toArray, List.set_cons_zero, List.set_cons_succ, i64_w, i32_w]
              rfl
            refine pure_ (i := 4) (N := some 18) (v := ?_) (a' := ?_) #[true, true, true, false, true, false, false, false, false, false, false, false] rfl rfl (any_of HT_.out (by kernel_rfl)) (fun _ _ _ h => h) (Or.inl ⟨by rfl, ?_⟩) ?_ ?_
            rotate_left
            · intro w'
              go_simp
              with_reducible rfl
            rotate_left
            · simp only [Act.put, List.setIfInBounds_toArray, List.set_cons_zero, List.set_cons_succ, i64_w, i32_w]
              rfl
            refine pure_ (i := 5) (N := some 19) (v := ?_) (a' := ?_) #[true, true, true, false, true, true, false, false, false, false, false, false] rfl rfl (any_of HT_.out (by kernel_rfl)) (fun _ _ _ h => h) (Or.inl ⟨by rfl, ?_⟩) ?_ ?_
            rotate_left
            · intro w'
              go_simp
              with_reducible rfl
            rotate_left
            · simp only [Act.put, List.setIfInBounds_toArray, List.set_cons_zero, List.set_cons_succ, i64_w, i32_w]
              rfl
            refine one_ (i := 3) (N := some 17) #[true, true, true, true, true, true, false, false, false, false, false, false] rfl rfl (one_of HT_.out (by kernel_rfl)) (by decide) (fun K hK => ?_)
            refine goes_ Try.func37 (by kernel_rfl) rfl #[.int .i64 a0] (by rfl) rfl rfl (by (try simp only [List.map_toArray, List.map_cons, List.map_nil]); first | done | rfl | (simp only [List.length_drop, List.length_take]; rfl)) ?_
            with_reducible refine (careenageref04_Room.calls a0 t343 _ A7.out).mono ?_
            rintro e w' ⟨rfl, ⟨nd, rfl⟩⟩
            refine ⟨_, rfl, ?_⟩
            refine hK.out _ _ (sand_ (strC (P := Try.prog) (c := c1) Try.underlying55 Try.underlying5 Try.underlying9 (Kd.C_below HR1.out (by repeat (first | (with_reducible first | exact HB.out | exact Below.refl _ _ | apply below_alloc | apply pw_below_drewN | apply below_drew1) | exact HB.out)))) (sall_ _)) (fun hHeld => ?_)
            clear hK K
            refine norm_ (a' := ?_) ?_ ?_
            rotate_left
            · show Act.put _ (some 17) _ = _
              simp only [Act.put, List.setIfInBounds_toArray, List.set_cons_zero, List.set_cons_succ, i64_w, i32_w]
              rfl
            refine pure_ (i := 6) (N := some 20) (v := ?_) (a' := ?_) #[true, true, true, true, true, true, true, false, false, false, false, false] rfl rfl (any_of HT_.out (by kernel_rfl)) (fun _ _ _ h => h) (Or.inl ⟨by rfl, ?_⟩) ?_ ?_
            rotate_left
            · intro w'
              go_simp
              with_reducible rfl
            rotate_left
            · simp only [Act.put, List.setIfInBounds_toArray, List.set_cons_zero, List.set_cons_succ, i64_w, i32_w]
              rfl
            refine one_ (i := 7) (N := some 21) #[true, true, true, true, true, true, true, true, false, false, false, false] rfl rfl (one_of HT_.out (by kernel_rfl)) (by decide) (fun K hK => ?_)
            refine Kd.R_make_step (Kd.int .u8) _ 5 (by rfl) (N := 21) rfl 55 _ _ rfl ji8 rfl rfl Try.underlying55 (.int .u8 0) 1 info5 rfl (by decide) (by omega) 0 (ok := fun _ => True) (okp := fun _ => True) rfl (fun _ hk => hk) trivial (of_decide_eq_true (by first | (with_reducible assumption) | assumption)) (Nat.le_trans (Nat.mul_le_mul_right _ (of_decide_eq_true (by first | (with_reducible assumption) | assumption) : ji8.toNat ≤ 281474976710656)) (by omega)) (Below.refl _ _) (Nat.le_refl _) ?_
            intro v345 w14 ho15 hb hg_ hnew_
            clear hg_ hnew_
            (first | rw [← Ny344.out] at ho15 | (simp only [Int.reduceToNat] at ho15; rw [← Ny344.out] at ho15))
            have n0_ := Aside0.mk (Kd.R_lower ho15 (below_size (by repeat (first | (with_reducible first | exact HB.out | apply below_alloc | apply pw_below_drewN | apply below_drew1) | exact HB.out))))
            have n1_ := Aside0.mk (below_step (by repeat (first | (with_reducible first | exact HB.out | apply below_alloc | apply pw_below_drewN | apply below_drew1) | exact HB.out)) hb)
            clear HB
            have HO346 := n0_
            have HB := n1_
            clear n0_ n1_
            clear hb ho15
            refine hK.out _ _ (sand_ (strC (P := Try.prog) (c := c1) Try.underlying55 Try.underlying5 Try.underlying9 (Kd.C_below HR1.out (by repeat (first | (with_reducible first | exact HB.out | exact Below.refl _ _ | apply below_alloc | apply pw_below_drewN | apply below_drew1) | exact HB.out)))) (sall_ _)) (fun hHeld => ?_)
            clear hK K
            refine norm_ (a' := ?_) ?_ ?_
            rotate_left
            · show Act.put _ (some 21) _ = _
              simp only [Act.put, List.setIfInBounds_toArray, List.set_cons_zero, List.set_cons_succ, i64_w, i32_w]
              rfl
            refine one_ (i := 8) (N := some 22) #[true, true, true, true, true, true, true, true, true, false, false, false] rfl rfl (one_of HT_.out (by kernel_rfl)) (by decide) (fun K hK => ?_)
            have hcv16 := own_string (P := Try.prog) Try.underlying55 Try.underlying5 Try.underlying9 (Kd.own_of_R HO346.out)
            refine value_ (w1 := ?_) (v := ?_) (by rfl) rfl ?_ ?_
            rotate_left 2
            · go_simp
              constructor
              · rfl
              · rfl
            clear hcv16
            refine hK.out _ _ (sand_ (strC (P := Try.prog) (c := c1) Try.underlying55 Try.underlying5 Try.underlying9 (Kd.C_below HR1.out (by repeat (first | (with_reducible first | exact HB.out | exact Below.refl _ _ | apply below_alloc | apply pw_below_drewN | apply below_drew1) | exact HB.out)))) (sall_ _)) (fun hHeld => ?_)
            clear hK K
            refine norm_ (a' := ?_) ?_ ?_
            rotate_left
            · show Act.put _ (some 22) _ = _
              simp only [Act.put, List.setIfInBounds_toArray, List.set_cons_zero, List.set_cons_succ, i64_w, i32_w]
              rfl
            refine pure_ (i := 9) (N := some 23) (v := ?_) (a' := ?_) #[true, true, true, true, true, true, true, true, true, true, false, false] rfl rfl (any_of HT_.out (by kernel_rfl)) (fun _ _ _ h => h) (Or.inl ⟨by rfl, ?_⟩) ?_ ?_
            rotate_left
            · intro w'
              go_simp
              with_reducible rfl
            rotate_left
            · simp only [Act.put, List.setIfInBounds_toArray, List.set_cons_zero, List.set_cons_succ, i64_w, i32_w]
              rfl
            refine pure_ (i := 10) (N := some 4) (v := ?_) (a' := ?_) #[true, true, true, true, true, true, true, true, true, true, true, false] rfl rfl (any_of HT_.out (by kernel_rfl)) (fun _ _ _ h => h) (Or.inl ⟨by rfl, ?_⟩) ?_ ?_
            rotate_left
            · intro w'
              go_simp
              with_reducible rfl
            rotate_left
            · simp only [Act.put, List.setIfInBounds_toArray, List.set_cons_zero, List.set_cons_succ, i64_w, i32_w]
              rfl
            refine pure_ (i := 11) (N := some 5) (v := ?_) (a' := ?_) #[true, true, true, true, true, true, true, true, true, true, true, true] rfl rfl (any_of HT_.out (by kernel_rfl)) (fun _ _ _ h => h) (Or.inl ⟨by rfl, ?_⟩) ?_ ?_
            rotate_left
            · intro w'
              go_simp
              with_reducible rfl
            rotate_left
            · simp only [Act.put, List.setIfInBounds_toArray, List.set_cons_zero, List.set_cons_succ, i64_w, i32_w]
              rfl
            refine done_ (done_of HT_.out (by kernel_rfl)) ?_
            try go_wp2
            go_ret2
            exact ⟨by first | rfl | (simp [errW_none, errW_some] <;> rfl) | (simp only [← hji8]; first | rfl | (simp [errW_none, errW_some] <;> rfl)) | (simp [*, errW_none, errW_some] <;> rfl), by repeat (first | (with_reducible first | exact HB.out | apply below_alloc | apply pw_below_drewN | apply below_drew1) | exact HB.out)⟩
          · rw [if_neg c11] at H
            exact absurd H (by simp)
        · rw [if_neg c10] at H
          exact absurd H (by simp)
      · rw [if_neg c9] at H
        exact absurd H (by simp)
  · replace c4 := Bool.eq_false_iff.mpr c4
    subst c4
    have H1 : (some ((⟨#[]⟩ : ByteArray), 2)) = some (r1, r2) := by rw [if_neg (show ¬ (false = true) by decide)] at H; exact H
    clear H
    have H := H1
    clear H1
    simp only [Option.some.injEq, Prod.mk.injEq] at H
    obtain ⟨rfl, rfl⟩ := H
    go_enter Try.func67, Try.ntmps67
    go_wp2_with (first | ((with_reducible refine gate_callee (f := 63) rfl ?_); refine goesL_ (some 7) rfl rfl Try.func63 (by kernel_rfl) rfl #[.int .i64 a0] rfl (by (try simp only [List.map_toArray, List.map_cons, List.map_nil]); first | done | rfl | (simp only [List.length_drop, List.length_take]; rfl)) ?_; (with_reducible refine (careenageref03_Good.calls a0 false _ A3.out).mono ?_); rintro e w' ⟨rfl, ⟨nd, rfl⟩⟩; refine ⟨_, rfl, ?_⟩))
    go_ret2
    exact ⟨by first | rfl | (simp [errW_none, errW_some] <;> rfl) | (simp [*, errW_none, errW_some] <;> rfl), by repeat (first | (with_reducible first | exact HB.out | apply below_alloc | apply pw_below_drewN | apply below_drew1) | exact HB.out)⟩

end Go.Proofs.Ytlkfcabklaaacaa.P
