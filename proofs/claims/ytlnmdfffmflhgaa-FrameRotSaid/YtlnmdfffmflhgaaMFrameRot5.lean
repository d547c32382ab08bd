/- The texts that the statement's row rests on, one behind the other. -/
import Derived.Test.YtlnmdfffmflhgaaMFrameRot1
import Derived.Test.YtlnmdfffmflhgaaMFrameRot3
import Derived.Test.YtlnmdfffmflhgaaMFrameRot4
import Derived.Test.YtlnmdfffmflhgaaMFrameRot2
namespace Go.Proofs.Ytlnmdfffmflhgaa.P
open Go.RowKit Go.Proofs.YtlnmdfffmflhgaaW.PrintWords Go.Proofs.YtlnmdfffmflhgaaW.PrintLast Go.Proofs.YtlnmdfffmflhgaaW.PrintMore
attribute [local go_sem] max2_int min2_int max_two min_two max_three min_three max_four min_four   -- for this text's walks alone
open Go.Proofs.YtlnmdfffmflhgaaO
attribute [local go_sem] min2_str max2_str
set_option linter.unusedVariables false
set_option linter.unusedSimpArgs false
/-! ### careenagekit_Times: function 23 -/
def careenagekit_Times.l0 : Nat → ByteArray → Int → ByteArray → Option (ByteArray)
  | 0, _, _, _ => none
  | k + 1, x0, x1, x5 => if x1 > 0 then (if (Int.tmod x1 2) = 1 then (if x5.size + x0.size ≤ 9223372036854775807 then (if x0.size + x0.size ≤ 9223372036854775807 then (careenagekit_Times.l0 k (x0 ++ x0) (wrap64 (Int.tdiv x1 2)) (x5 ++ x0)) else (none)) else (none)) else (if x0.size + x0.size ≤ 9223372036854775807 then (careenagekit_Times.l0 k (x0 ++ x0) (wrap64 (Int.tdiv x1 2)) x5) else (none))) else (some x5)
def careenagekit_Times.f (k : Nat) (a0 : ByteArray) (a1 : Int) : Option (ByteArray) := careenagekit_Times.l0 k a0 a1 (⟨#[]⟩ : ByteArray)
set_option maxHeartbeats 8000000 in
set_option maxRecDepth 100000 in
theorem careenagekit_Times.calls (k : Nat) (a0 : ByteArray) (a1 : Int) (r : ByteArray) (w : World) (h : careenagekit_Times.f k a0 a1 = some r) :
    Calls Try.prog 23 #[.string a0, .int .i64 a1] w fun e w' => e = .returned (.string r) ∧ Drawn0 w w' := by
  have H : (careenagekit_Times.l0 k a0 a1 (⟨#[]⟩ : ByteArray)) = some r := h
  clear h
  have H' := Aside0.mk H
  clear H
  go_enter Try.func23, Try.ntmps23
  go_wp2
  go_loopg [0, 1, 5] k (fun kq v0 v1 v5 w' => ∃ (x0_1 : ByteArray) (x1_1 : Int) (x5_1 : ByteArray), v0 = .string x0_1 ∧ v1 = .int .i64 x1_1 ∧ v5 = .string x5_1 ∧ Aside0 (careenagekit_Times.l0 kq x0_1 x1_1 x5_1 = some r) ∧ Aside0 (kq ≤ k) ∧ Drawn0 w w')
  case atStart => exact ⟨(a0), (a1), ((⟨#[]⟩ : ByteArray)), (by first | rfl | (simp; done) | (simp [*]; done)), (by first | rfl | (simp; done) | (simp [*]; done)), (by first | rfl | (simp; done) | (simp [*]; done)), H', ⟨Nat.le_refl _⟩, by repeat (first | exact Drawn0.refl _ | apply Drawn0.step)⟩
  case round =>
    clear H'
    try clear c2
    try clear p2
    obtain ⟨x0_1, x1_1, x5_1, rfl, rfl, rfl, HA, HK1, ⟨m1, rfl⟩⟩ := hrel
    cases gk with
    | zero => exact absurd HA.out (by simp [careenagekit_Times.l0])
    | succ k1 =>
      have H := HA.out
      clear HA
      simp only [careenagekit_Times.l0] at H
      by_cases c3 : x1_1 > 0
      · rw [if_pos c3] at H
        have c3b0 : decide (0 < x1_1) = true := decide_eq_true c3
        clear c3
        by_cases c4 : (Int.tmod x1_1 2) = 1
        · rw [if_pos c4] at H
          have c4b0 : ((Int.tmod x1_1 2) == 1) = true := beq_iff_eq.mpr c4
          have c4b1 : ((Int.tmod x1_1 2) != 1) = false := bne_eq_false_iff_eq.mpr c4
          clear c4
          by_cases c5 : x5_1.size + x0_1.size ≤ 9223372036854775807
          · rw [if_pos c5] at H
            have c5b0 := eq_true c5
            have c5b1 : decide (x5_1.size + x0_1.size ≤ 9223372036854775807) = true := decide_eq_true c5
            try have c5b2 : (9223372036854775807 < x5_1.size + x0_1.size) = False := eq_false (Nat.not_lt.2 c5)
            by_cases c6 : x0_1.size + x0_1.size ≤ 9223372036854775807
            · rw [if_pos c6] at H
              have c6b0 := eq_true c6
              have c6b1 : decide (x0_1.size + x0_1.size ≤ 9223372036854775807) = true := decide_eq_true c6
              try have c6b2 : (9223372036854775807 < x0_1.size + x0_1.size) = False := eq_false (Nat.not_lt.2 c6)
              have H' := Aside0.mk H
              clear H
              go_wp2
              go_roundg k1
              case measure => have := HK1.out; omega
              case rel => exact ⟨(x0_1 ++ x0_1), (wrap64 (Int.tdiv x1_1 2)), (x5_1 ++ x0_1), (by first | rfl | (simp; done) | (simp [*]; done)), (by first | rfl | (simp; done) | (simp [*]; done)), (by first | rfl | (simp; done) | (simp [*]; done)), H', ⟨by have := HK1.out; omega⟩, by repeat (first | exact Drawn0.refl _ | apply Drawn0.step)⟩
            · rw [if_neg c6] at H
              exact absurd H (by simp)
          · rw [if_neg c5] at H
            exact absurd H (by simp)
        · rw [if_neg c4] at H
          have c4b0 : ((Int.tmod x1_1 2) == 1) = false := beq_eq_false_iff_ne.mpr c4
          have c4b1 : ((Int.tmod x1_1 2) != 1) = true := bne_iff_ne.mpr c4
          by_cases c7 : x0_1.size + x0_1.size ≤ 9223372036854775807
          · rw [if_pos c7] at H
            have c7b0 := eq_true c7
            have c7b1 : decide (x0_1.size + x0_1.size ≤ 9223372036854775807) = true := decide_eq_true c7
            try have c7b2 : (9223372036854775807 < x0_1.size + x0_1.size) = False := eq_false (Nat.not_lt.2 c7)
            have H' := Aside0.mk H
            clear H
            go_wp2
            go_roundg k1
            case measure => have := HK1.out; omega
            case rel => exact ⟨(x0_1 ++ x0_1), (wrap64 (Int.tdiv x1_1 2)), (x5_1), (by first | rfl | (simp; done) | (simp [*]; done)), (by first | rfl | (simp; done) | (simp [*]; done)), (by first | rfl | (simp; done) | (simp [*]; done)), H', ⟨by have := HK1.out; omega⟩, by repeat (first | exact Drawn0.refl _ | apply Drawn0.step)⟩
          · rw [if_neg c7] at H
            exact absurd H (by simp)
      · rw [if_neg c3] at H
        have c3b0 : decide (0 < x1_1) = false := decide_eq_false c3
        clear c3
        obtain rfl := Option.some.inj H
        go_wp2
        go_ret
        exact ⟨by first | rfl | (simp; done) | (simp [*]; done), by repeat (first | exact Drawn0.refl _ | apply Drawn0.step)⟩
end Go.Proofs.Ytlnmdfffmflhgaa.P

namespace Go.Proofs.Ytlnmdfffmflhgaa.P
open Go.RowKit Go.Proofs.YtlnmdfffmflhgaaW.PrintWords Go.Proofs.YtlnmdfffmflhgaaW.PrintLast Go.Proofs.YtlnmdfffmflhgaaW.PrintMore
attribute [local go_sem] max2_int min2_int max_two min_two max_three min_three max_four min_four   -- for this text's walks alone
open Go.Proofs.YtlnmdfffmflhgaaO
attribute [local go_sem] min2_str max2_str
set_option linter.unusedVariables false
set_option linter.unusedSimpArgs false
/-! ### careenagelaw04_page: function 20 -/
def careenagelaw04_page.f (k : Nat)  : Option (Int × Int × Int × Int × Int × ByteArray) := (careenagekit_Times.f k (⟨#[98]⟩ : ByteArray) 104).bind fun t237 => (some (4, 3, 7, 9, 5, t237))
set_option maxHeartbeats 8000000 in
set_option maxRecDepth 100000 in
theorem careenagelaw04_page.calls (k : Nat)  (r1 : Int) (r2 : Int) (r3 : Int) (r4 : Int) (r5 : Int) (r6 : ByteArray) (w : World) (h : careenagelaw04_page.f k  = some (r1, r2, r3, r4, r5, r6)) :
    Calls Try.prog 20 #[] w fun e w' => e = .returned (.agg #[.int .i64 r1, .int .i64 r2, .int .u32 r3, .int .u32 r4, .int .u64 r5, .string r6]) ∧ Below w.heap.size w w' := by
  have hu27 := Try.underlying27
  have HB := Aside0.mk (Below.refl w.heap.size w)
  have H : ((careenagekit_Times.f k (⟨#[98]⟩ : ByteArray) 104).bind fun t237 => (some (4, 3, 7, 9, 5, t237))) = some (r1, r2, r3, r4, r5, r6) := h
  clear h
  replace H := Option.bind_eq_some_iff.mp H
  obtain ⟨t237, A10, H⟩ := H
  replace H : (some (4, 3, 7, 9, 5, t237)) = some (r1, r2, r3, r4, r5, r6) := H
  have A1 := Aside0.mk A10
  clear A10
  simp only [Option.some.injEq, Prod.mk.injEq] at H
  obtain ⟨rfl, rfl, rfl, rfl, rfl, rfl⟩ := H
  go_enter Try.func20, Try.ntmps20
  go_wp2_with (first | ((with_reducible refine gate_dst (N := 0) rfl ?_); refine box_event ?hg (N := 0) ?hd (cs := #[.int .i64 0, .int .i64 0, .int .u32 0, .int .u32 0, .int .u64 0, .string (⟨#[]⟩ : ByteArray)]) (t := 27) ?hr ?_; (case hd => rfl); (case hg => rfl); (case hr => first | (go_simp; done) | (go_simp; rfl)); intro gb236 hg w2 hbox hb; have n0_ := Aside0.mk (below_step (by repeat (first | (with_reducible first | exact HB.out | apply below_alloc | apply pw_below_drewN | apply below_drew1) | exact HB.out)) hb); have n1_ := Aside0.mk (hbox); have n2_ := Aside0.mk ((by rw [hg]; exact (below_size (by repeat (first | (with_reducible first | exact HB.out | apply below_alloc | apply pw_below_drewN | apply below_drew1) | exact HB.out))) : w.heap.size ≤ gb236)); have n3_ := Aside0.mk ((by rw [hg]; exact (below_size (by repeat (first | (with_reducible first | exact HB.out | apply below_alloc | apply pw_below_drewN | apply below_drew1) | exact HB.out))) : w.heap.size ≤ gb236)); clear HB; have HB := n0_; have BK236 := n1_; have GW236 := n2_; have GE236 := n3_; clear n0_ n1_ n2_ n3_; clear hb hbox hg) | ((with_reducible refine gate_callee (f := 23) rfl ?_); refine goesL_ (some 1) rfl rfl Try.func23 (by kernel_rfl) rfl #[.string (⟨#[98]⟩ : ByteArray), .int .i64 104] rfl (by (try simp only [List.map_toArray, List.map_cons, List.map_nil]); first | done | rfl | (simp only [List.length_drop, List.length_take]; rfl)) ?_; (with_reducible refine (careenagekit_Times.calls k (⟨#[98]⟩ : ByteArray) 104 t237 _ A1.out).mono ?_); rintro e w' ⟨rfl, ⟨nd, rfl⟩⟩; refine ⟨_, rfl, ?_⟩; (try (rw [drewN_self w2]; generalize hq_ : World.drewN w2 _ = w2; have n0_ : Aside0 (w2.heap[gb236]? = some (.cells #[.int .i64 0, .int .i64 0, .int .u32 0, .int .u32 0, .int .u64 0, .string (⟨#[]⟩ : ByteArray)] 27 (0, 0))) := ⟨by rw [← hq_]; exact (by (with_reducible repeat (first | refine blk_drewN ?_ _ | refine blk_drew ?_ | refine blk_alloc ?_ _)); exact BK236.out)⟩; have n1_ : Aside0 (Below w.heap.size w w2) := ⟨by rw [← hq_]; exact (by repeat (first | (with_reducible first | exact HB.out | apply below_alloc | apply pw_below_drewN | apply below_drew1 | refine below_set ?_ GE236.out) | exact HB.out))⟩; clear BK236 HB hq_; have BK236 := n0_; have HB := n1_; clear n0_ n1_)); have hcz3_0 : w2.cell? ⟨gb236, 0, none⟩ = some (.int .i64 0) := (blk_cell BK236.out 0).trans rfl; have hcz3_1 : w2.cell? ⟨gb236, 1, none⟩ = some (.int .i64 0) := (blk_cell BK236.out 1).trans rfl; have hcz3_2 : w2.cell? ⟨gb236, 2, none⟩ = some (.int .u32 0) := (blk_cell BK236.out 2).trans rfl; have hcz3_3 : w2.cell? ⟨gb236, 3, none⟩ = some (.int .u32 0) := (blk_cell BK236.out 3).trans rfl; have hcz3_4 : w2.cell? ⟨gb236, 4, none⟩ = some (.int .u64 0) := (blk_cell BK236.out 4).trans rfl; have hcz3_5 : w2.cell? ⟨gb236, 5, none⟩ = some (.string (⟨#[]⟩ : ByteArray)) := (blk_cell BK236.out 5).trans rfl; have hfz3_0 := blk_frozen BK236.out 0; have hfz3_1 := blk_frozen BK236.out 1; have hfz3_2 := blk_frozen BK236.out 2; have hfz3_3 := blk_frozen BK236.out 3; have hfz3_4 := blk_frozen BK236.out 4; have hfz3_5 := blk_frozen BK236.out 5))
  refine bodyPost_ret (results_cell_row rfl _ _ gb236 27 #[.int .i64 4, .int .i64 3, .int .u32 7, .int .u32 9, .int .u64 5, .string t237] (0, 0) _ rfl (by (with_reducible repeat (first | refine blk_drewN ?_ _ | refine blk_drew ?_ | refine blk_alloc ?_ _)); refine blk_put (cs := #[.int .i64 4, .int .i64 3, .int .u32 7, .int .u32 9, .int .u64 5, .string (⟨#[]⟩ : ByteArray)]) ?_ 5 _ rfl; (with_reducible repeat (first | refine blk_drewN ?_ _ | refine blk_drew ?_ | refine blk_alloc ?_ _)); refine blk_put (cs := #[.int .i64 4, .int .i64 3, .int .u32 7, .int .u32 9, .int .u64 0, .string (⟨#[]⟩ : ByteArray)]) ?_ 4 _ rfl; (with_reducible repeat (first | refine blk_drewN ?_ _ | refine blk_drew ?_ | refine blk_alloc ?_ _)); refine blk_put (cs := #[.int .i64 4, .int .i64 3, .int .u32 7, .int .u32 0, .int .u64 0, .string (⟨#[]⟩ : ByteArray)]) ?_ 3 _ rfl; (with_reducible repeat (first | refine blk_drewN ?_ _ | refine blk_drew ?_ | refine blk_alloc ?_ _)); refine blk_put (cs := #[.int .i64 4, .int .i64 3, .int .u32 0, .int .u32 0, .int .u64 0, .string (⟨#[]⟩ : ByteArray)]) ?_ 2 _ rfl; (with_reducible repeat (first | refine blk_drewN ?_ _ | refine blk_drew ?_ | refine blk_alloc ?_ _)); refine blk_put (cs := #[.int .i64 4, .int .i64 0, .int .u32 0, .int .u32 0, .int .u64 0, .string (⟨#[]⟩ : ByteArray)]) ?_ 1 _ rfl; (with_reducible repeat (first | refine blk_drewN ?_ _ | refine blk_drew ?_ | refine blk_alloc ?_ _)); refine blk_put (cs := #[.int .i64 0, .int .i64 0, .int .u32 0, .int .u32 0, .int .u64 0, .string (⟨#[]⟩ : ByteArray)]) ?_ 0 _ rfl; (with_reducible repeat (first | refine blk_drewN ?_ _ | refine blk_drew ?_ | refine blk_alloc ?_ _)); exact BK236.out) Try.underlying27 rfl (by kernel_rfl)) rfl ?_
  exact ⟨by first | rfl | (simp [errW_none, errW_some] <;> rfl) | (simp [*, errW_none, errW_some] <;> rfl), by repeat (first | (with_reducible first | exact HB.out | apply below_alloc | apply pw_below_drewN | apply below_drew1 | refine below_set ?_ GE236.out) | exact HB.out)⟩
end Go.Proofs.Ytlnmdfffmflhgaa.P

namespace Go.Proofs.Ytlnmdfffmflhgaa.P
open Go.RowKit Go.Proofs.YtlnmdfffmflhgaaW.PrintWords Go.Proofs.YtlnmdfffmflhgaaW.PrintLast Go.Proofs.YtlnmdfffmflhgaaW.PrintMore
attribute [local go_sem] max2_int min2_int max_two min_two max_three min_three max_four min_four   -- for this text's walks alone
open Go.Proofs.YtlnmdfffmflhgaaO
attribute [local go_sem] min2_str max2_str
set_option linter.unusedVariables false
set_option linter.unusedSimpArgs false
/-! ### careenagelaw04_lives: function 16 -/
def careenagelaw04_lives.f (k : Nat)  : Option (Bool) := if 128 ≤ 281474976710656 then ((frame_Get.f 128 0 (strOfNums (List.replicate 128 0))).bind fun bt241 => ((careenagelaw04_page.f k).bind fun bt249 => ((frame_Put.f 128 bt249.1 bt249.2.1 bt249.2.2.1 bt249.2.2.2.1 bt249.2.2.2.2.1 bt249.2.2.2.2.2).bind fun bt255 => ((frame_Room.f 128).bind fun t257 => (if t257 = 104 then (if bt241.2.2.2.2.2.2 = 4 then (if bt255.2 = 0 then (some ((bt255.1.size : Int) == 128)) else (some false)) else (some false)) else (some false)))))) else (none)
set_option maxHeartbeats 8000000 in
set_option maxRecDepth 100000 in
theorem careenagelaw04_lives.calls (k : Nat)  (r : Bool) (w : World) (h : careenagelaw04_lives.f k  = some r) :
    Calls Try.prog 16 #[] w fun e w' => e = .returned (.bool r) ∧ Below w.heap.size w w' := by
  have hu27 := Try.underlying27
  have HB := Aside0.mk (Below.refl w.heap.size w)
  have H : (if 128 ≤ 281474976710656 then ((frame_Get.f 128 0 (strOfNums (List.replicate 128 0))).bind fun bt241 => ((careenagelaw04_page.f k).bind fun bt249 => ((frame_Put.f 128 bt249.1 bt249.2.1 bt249.2.2.1 bt249.2.2.2.1 bt249.2.2.2.2.1 bt249.2.2.2.2.2).bind fun bt255 => ((frame_Room.f 128).bind fun t257 => (if t257 = 104 then (if bt241.2.2.2.2.2.2 = 4 then (if bt255.2 = 0 then (some ((bt255.1.size : Int) == 128)) else (some false)) else (some false)) else (some false)))))) else (none)) = some r := h
  clear h
  by_cases c1 : 128 ≤ 281474976710656
  · rw [if_pos c1] at H
    have c1b0 := eq_true c1
    have c1b1 : decide (128 ≤ 281474976710656) = true := decide_eq_true c1
    clear c1
    obtain ⟨y238, hy238⟩ : ∃ y_ : List Int, y_ = (List.replicate 128 0) := ⟨_, rfl⟩
    replace H : ((frame_Get.f 128 0 (strOfNums y238)).bind fun bt241 => ((careenagelaw04_page.f k).bind fun bt249 => ((frame_Put.f 128 bt249.1 bt249.2.1 bt249.2.2.1 bt249.2.2.2.1 bt249.2.2.2.2.1 bt249.2.2.2.2.2).bind fun bt255 => ((frame_Room.f 128).bind fun t257 => (if t257 = 104 then (if bt241.2.2.2.2.2.2 = 4 then (if bt255.2 = 0 then (some ((bt255.1.size : Int) == 128)) else (some false)) else (some false)) else (some false)))))) = some r := by first | (rw [hy238]; with_reducible exact H) | (have H2_ := (Option.bind_some _ _).symm.trans H; rw [hy238]; with_reducible exact H2_) | (have H2_ := (Option.bind_some _ _).symm.trans H; with_reducible exact H2_) | with_reducible exact H | (rw [hy238]; exact H) | exact H
    have Ny238 := Aside0.mk hy238
    clear hy238
    replace H := Option.bind_eq_some_iff.mp H
    obtain ⟨⟨t241, t242, t243, t244, t245, t246, t247⟩, A20, H⟩ := H
    replace H : ((careenagelaw04_page.f k).bind fun bt249 => ((frame_Put.f 128 bt249.1 bt249.2.1 bt249.2.2.1 bt249.2.2.2.1 bt249.2.2.2.2.1 bt249.2.2.2.2.2).bind fun bt255 => ((frame_Room.f 128).bind fun t257 => (if t257 = 104 then (if t247 = 4 then (if bt255.2 = 0 then (some ((bt255.1.size : Int) == 128)) else (some false)) else (some false)) else (some false))))) = some r := H
    have A2 := Aside0.mk A20
    clear A20
    replace H := Option.bind_eq_some_iff.mp H
    obtain ⟨⟨t249, t250, t251, t252, t253, t254⟩, A30, H⟩ := H
    replace H : ((frame_Put.f 128 t249 t250 t251 t252 t253 t254).bind fun bt255 => ((frame_Room.f 128).bind fun t257 => (if t257 = 104 then (if t247 = 4 then (if bt255.2 = 0 then (some ((bt255.1.size : Int) == 128)) else (some false)) else (some false)) else (some false)))) = some r := H
    have A3 := Aside0.mk A30
    clear A30
    replace H := Option.bind_eq_some_iff.mp H
    obtain ⟨⟨t255, t256⟩, A40, H⟩ := H
    replace H : ((frame_Room.f 128).bind fun t257 => (if t257 = 104 then (if t247 = 4 then (if t256 = 0 then (some ((t255.size : Int) == 128)) else (some false)) else (some false)) else (some false))) = some r := H
    have A4 := Aside0.mk A40
    clear A40
    replace H := Option.bind_eq_some_iff.mp H
    obtain ⟨t257, A50, H⟩ := H
    replace H : (if t257 = 104 then (if t247 = 4 then (if t256 = 0 then (some ((t255.size : Int) == 128)) else (some false)) else (some false)) else (some false)) = some r := H
    have A5 := Aside0.mk A50
    clear A50
    by_cases c6 : t257 = 104
    · rw [if_pos c6] at H
      have c6b0 : (t257 == 104) = true := beq_iff_eq.mpr c6
      have c6b1 : (t257 != 104) = false := bne_eq_false_iff_eq.mpr c6
      clear c6
      by_cases c7 : t247 = 4
      · rw [if_pos c7] at H
        have c7b0 : (t247 == 4) = true := beq_iff_eq.mpr c7
        have c7b1 : (t247 != 4) = false := bne_eq_false_iff_eq.mpr c7
        clear c7
        by_cases c8 : t256 = 0
        · rw [if_pos c8] at H
          have c8b0 : (t256 == 0) = true := beq_iff_eq.mpr c8
          have c8b1 : (t256 != 0) = false := bne_eq_false_iff_eq.mpr c8
          clear c8
          obtain rfl := Option.some.inj H
          go_enter Try.func16, Try.ntmps16
          go_wp2_with (first | ((with_reducible refine gate_dst (N := 6) rfl ?_); (try (refine gate_guard (by rfl) ?_; dsimp only)); refine Kd.R_make (Kd.int .u8) _ 5 rfl (N := 6) rfl 39 _ _ rfl 128 rfl rfl Try.underlying39 (.int .u8 0) 1 info5 rfl (by decide) (by omega) 0 (ok := fun _ => True) (okp := fun _ => True) rfl (fun _ hk => hk) trivial (by omega) (by omega) (Below.refl _ _) (Nat.le_refl _) ?_; intro v239 w9 ho10 hb hg_ hnew_; clear hg_ hnew_; (first | rw [← Ny238.out] at ho10 | (simp only [Int.reduceToNat] at ho10; rw [← Ny238.out] at ho10)); have n0_ := Aside0.mk (Kd.R_lower ho10 (below_size (by repeat (first | (with_reducible first | exact HB.out | apply below_alloc | apply pw_below_drewN | apply below_drew1) | exact HB.out)))); have n1_ := Aside0.mk (below_step (by repeat (first | (with_reducible first | exact HB.out | apply below_alloc | apply pw_below_drewN | apply below_drew1) | exact HB.out)) hb); clear HB; have HO240 := n0_; have HB := n1_; clear n0_ n1_; clear hb ho10; have hcv11 := own_string (P := Try.prog) Try.underlying39 Try.underlying5 Try.underlying9 (Kd.own_of_R HO240.out)) | ((with_reducible refine gate_callee (f := 19) rfl ?_); refine goesL_ (some 8) rfl rfl Try.func19 (by kernel_rfl) rfl #[.int .i64 128, .int .u32 0, .string (strOfNums y238)] rfl (by (try simp only [List.map_toArray, List.map_cons, List.map_nil]); first | done | rfl | (simp only [List.length_drop, List.length_take]; rfl)) ?_; (with_reducible refine (frame_Get.calls 128 0 (strOfNums y238) t241 t242 t243 t244 t245 t246 t247 _ A2.out).mono ?_); rintro e w12 ⟨rfl, hb⟩; refine ⟨_, rfl, ?_⟩; have n0_ := Aside0.mk (Kd.R_below (by (with_reducible repeat (first | apply Kd.R_alloc | apply Kd.R_drewN | apply Kd.R_drew)); exact HO240.out) hb); have n1_ := Aside0.mk (below_step (by repeat (first | (with_reducible first | exact HB.out | apply below_alloc | apply pw_below_drewN | apply below_drew1) | exact HB.out)) hb); clear HO240; clear HB; have HO240 := n0_; have HB := n1_; clear n0_ n1_; (try clear hb); (try clear hb2); (try clear hk); (try clear hi)) | ((with_reducible refine gate_dst (N := 1) rfl ?_); (try (refine gate_guard (by rfl) ?_; dsimp only)); refine box_event ?hg (N := 1) ?hd (cs := #[.int .i64 0, .int .i64 0, .int .u32 0, .int .u32 0, .int .u64 0, .string (⟨#[]⟩ : ByteArray)]) (t := 27) ?hr ?_; (case hd => rfl); (case hg => rfl); (case hr => first | (go_simp; done) | (go_simp; rfl)); intro gb248 hg w13 hbox hb; have n0_ := Aside0.mk (Kd.R_below (by (with_reducible repeat (first | apply Kd.R_alloc | apply Kd.R_drewN | apply Kd.R_drew)); exact HO240.out) hb); have n1_ := Aside0.mk (below_step (by repeat (first | (with_reducible first | exact HB.out | apply below_alloc | apply pw_below_drewN | apply below_drew1) | exact HB.out)) hb); have n2_ := Aside0.mk (hbox); have n3_ := Aside0.mk ((by rw [hg]; exact (below_size (by repeat (first | (with_reducible first | exact HB.out | apply below_alloc | apply pw_below_drewN | apply below_drew1) | exact HB.out))) : w.heap.size ≤ gb248)); have n4_ := Aside0.mk ((by rw [hg]; exact (below_size (by repeat (first | (with_reducible first | exact HB.out | apply below_alloc | apply pw_below_drewN | apply below_drew1) | exact HB.out))) : w.heap.size ≤ gb248)); clear HO240; clear HB; have HO240 := n0_; have HB := n1_; have BK248 := n2_; have GW248 := n3_; have GE248 := n4_; clear n0_ n1_ n2_ n3_ n4_; clear hb hbox hg; have hcz14_0 : w13.cell? ⟨gb248, 0, none⟩ = some (.int .i64 0) := (blk_cell BK248.out 0).trans rfl; have hcz14_1 : w13.cell? ⟨gb248, 1, none⟩ = some (.int .i64 0) := (blk_cell BK248.out 1).trans rfl; have hcz14_2 : w13.cell? ⟨gb248, 2, none⟩ = some (.int .u32 0) := (blk_cell BK248.out 2).trans rfl; have hcz14_3 : w13.cell? ⟨gb248, 3, none⟩ = some (.int .u32 0) := (blk_cell BK248.out 3).trans rfl; have hcz14_4 : w13.cell? ⟨gb248, 4, none⟩ = some (.int .u64 0) := (blk_cell BK248.out 4).trans rfl; have hcz14_5 : w13.cell? ⟨gb248, 5, none⟩ = some (.string (⟨#[]⟩ : ByteArray)) := (blk_cell BK248.out 5).trans rfl; have hfz14_0 := blk_frozen BK248.out 0; have hfz14_1 := blk_frozen BK248.out 1; have hfz14_2 := blk_frozen BK248.out 2; have hfz14_3 := blk_frozen BK248.out 3; have hfz14_4 := blk_frozen BK248.out 4; have hfz14_5 := blk_frozen BK248.out 5) | ((with_reducible refine gate_callee (f := 20) rfl ?_); refine goesL_ (some 12) rfl rfl Try.func20 (by kernel_rfl) rfl #[] rfl (by (try simp only [List.map_toArray, List.map_cons, List.map_nil]); first | done | rfl | (simp only [List.length_drop, List.length_take]; rfl)) ?_; (with_reducible refine (careenagelaw04_page.calls k  t249 t250 t251 t252 t253 t254 _ A3.out).mono ?_); rintro e w15 ⟨rfl, hb⟩; refine ⟨_, rfl, ?_⟩; have n0_ := Aside0.mk (Kd.R_below (by (with_reducible repeat (first | apply Kd.R_alloc | apply Kd.R_drewN | apply Kd.R_drew)); exact (Kd.R_mono (Kd.R_far (p := ⟨gb248, 5, none⟩) (Kd.R_far (p := ⟨gb248, 4, none⟩) (Kd.R_far (p := ⟨gb248, 3, none⟩) (Kd.R_far (p := ⟨gb248, 2, none⟩) (Kd.R_far (p := ⟨gb248, 1, none⟩) (Kd.R_far (p := ⟨gb248, 0, none⟩) (Kd.R_types HO240.out BK248.out (by decide)) (fun _ hk => hk.2) (.int .i64 t241)) (fun _ hk => hk.2) (.int .i64 t242)) (fun _ hk => hk.2) (.int .u32 t243)) (fun _ hk => hk.2) (.int .u32 t244)) (fun _ hk => hk.2) (.int .u64 t245)) (fun _ hk => hk.2) (.string t246)) (fun _ h_ => h_.1))) hb); have n1_ := Aside0.mk (blk_below (g := gb248) (o := .cells #[.int .i64 t241, .int .i64 t242, .int .u32 t243, .int .u32 t244, .int .u64 t245, .string t246] 27 (0, 0)) (by (with_reducible repeat (first | refine blk_drewN ?_ _ | refine blk_drew ?_ | refine blk_alloc ?_ _)); refine blk_put (cs := #[.int .i64 t241, .int .i64 t242, .int .u32 t243, .int .u32 t244, .int .u64 t245, .string (⟨#[]⟩ : ByteArray)]) ?_ 5 _ rfl; (with_reducible repeat (first | refine blk_drewN ?_ _ | refine blk_drew ?_ | refine blk_alloc ?_ _)); refine blk_put (cs := #[.int .i64 t241, .int .i64 t242, .int .u32 t243, .int .u32 t244, .int .u64 0, .string (⟨#[]⟩ : ByteArray)]) ?_ 4 _ rfl; (with_reducible repeat (first | refine blk_drewN ?_ _ | refine blk_drew ?_ | refine blk_alloc ?_ _)); refine blk_put (cs := #[.int .i64 t241, .int .i64 t242, .int .u32 t243, .int .u32 0, .int .u64 0, .string (⟨#[]⟩ : ByteArray)]) ?_ 3 _ rfl; (with_reducible repeat (first | refine blk_drewN ?_ _ | refine blk_drew ?_ | refine blk_alloc ?_ _)); refine blk_put (cs := #[.int .i64 t241, .int .i64 t242, .int .u32 0, .int .u32 0, .int .u64 0, .string (⟨#[]⟩ : ByteArray)]) ?_ 2 _ rfl; (with_reducible repeat (first | refine blk_drewN ?_ _ | refine blk_drew ?_ | refine blk_alloc ?_ _)); refine blk_put (cs := #[.int .i64 t241, .int .i64 0, .int .u32 0, .int .u32 0, .int .u64 0, .string (⟨#[]⟩ : ByteArray)]) ?_ 1 _ rfl; (with_reducible repeat (first | refine blk_drewN ?_ _ | refine blk_drew ?_ | refine blk_alloc ?_ _)); refine blk_put (cs := #[.int .i64 0, .int .i64 0, .int .u32 0, .int .u32 0, .int .u64 0, .string (⟨#[]⟩ : ByteArray)]) ?_ 0 _ rfl; (with_reducible repeat (first | refine blk_drewN ?_ _ | refine blk_drew ?_ | refine blk_alloc ?_ _)); exact BK248.out) hb); have n2_ := Aside0.mk (below_step (by repeat (first | (with_reducible first | exact HB.out | apply below_alloc | apply pw_below_drewN | apply below_drew1 | refine below_set ?_ GE248.out) | exact HB.out)) hb); clear HO240; clear BK248; clear HB; have HO240 := n0_; have BK248 := n1_; have HB := n2_; clear n0_ n1_ n2_; (try clear hb); (try clear hb2); (try clear hk); (try clear hi)) | ((with_reducible refine gate_callee (f := 17) rfl ?_); refine goesL_ (some 13) rfl rfl Try.func17 (by kernel_rfl) rfl #[.int .i64 128, .agg #[.int .i64 t249, .int .i64 t250, .int .u32 t251, .int .u32 t252, .int .u64 t253, .string t254]] rfl (by (try simp only [List.map_toArray, List.map_cons, List.map_nil]); first | done | rfl | (simp only [List.length_drop, List.length_take]; rfl)) ?_; (with_reducible refine (frame_Put.calls 128 t249 t250 t251 t252 t253 t254 t255 t256 _ A4.out).mono ?_); rintro e w16 ⟨rfl, hb⟩; refine ⟨_, rfl, ?_⟩; have n0_ := Aside0.mk (Kd.R_below (by (with_reducible repeat (first | apply Kd.R_alloc | apply Kd.R_drewN | apply Kd.R_drew)); exact HO240.out) hb); have n1_ := Aside0.mk (blk_below (g := gb248) (o := .cells #[.int .i64 t241, .int .i64 t242, .int .u32 t243, .int .u32 t244, .int .u64 t245, .string t246] 27 (0, 0)) (by (with_reducible repeat (first | refine blk_drewN ?_ _ | refine blk_drew ?_ | refine blk_alloc ?_ _)); exact BK248.out) hb); have n2_ := Aside0.mk (below_step (by repeat (first | (with_reducible first | exact HB.out | apply below_alloc | apply pw_below_drewN | apply below_drew1 | refine below_set ?_ GE248.out) | exact HB.out)) hb); clear HO240; clear BK248; clear HB; have HO240 := n0_; have BK248 := n1_; have HB := n2_; clear n0_ n1_ n2_; (try clear hb); (try clear hb2); (try clear hk); (try clear hi)) | ((with_reducible refine gate_callee (f := 26) rfl ?_); refine goesL_ (some 16) rfl rfl Try.func26 (by kernel_rfl) rfl #[.int .i64 128] rfl (by (try simp only [List.map_toArray, List.map_cons, List.map_nil]); first | done | rfl | (simp only [List.length_drop, List.length_take]; rfl)) ?_; (with_reducible refine (frame_Room.calls 128 t257 _ A5.out).mono ?_); rintro e w' ⟨rfl, ⟨nd, rfl⟩⟩; refine ⟨_, rfl, ?_⟩))
          go_ret
          exact ⟨by first | rfl | (simp [errW_none, errW_some] <;> rfl) | (simp [*, errW_none, errW_some] <;> rfl), by repeat (first | (with_reducible first | exact HB.out | apply below_alloc | apply pw_below_drewN | apply below_drew1 | refine below_set ?_ GE248.out) | exact HB.out)⟩
        · rw [if_neg c8] at H
          have c8b0 : (t256 == 0) = false := beq_eq_false_iff_ne.mpr c8
          have c8b1 : (t256 != 0) = true := bne_iff_ne.mpr c8
          obtain rfl := Option.some.inj H
          go_enter Try.func16, Try.ntmps16
          go_wp2_with (first | ((with_reducible refine gate_dst (N := 6) rfl ?_); (try (refine gate_guard (by rfl) ?_; dsimp only)); refine Kd.R_make (Kd.int .u8) _ 5 rfl (N := 6) rfl 39 _ _ rfl 128 rfl rfl Try.underlying39 (.int .u8 0) 1 info5 rfl (by decide) (by omega) 0 (ok := fun _ => True) (okp := fun _ => True) rfl (fun _ hk => hk) trivial (by omega) (by omega) (Below.refl _ _) (Nat.le_refl _) ?_; intro v239 w17 ho18 hb hg_ hnew_; clear hg_ hnew_; (first | rw [← Ny238.out] at ho18 | (simp only [Int.reduceToNat] at ho18; rw [← Ny238.out] at ho18)); have n0_ := Aside0.mk (Kd.R_lower ho18 (below_size (by repeat (first | (with_reducible first | exact HB.out | apply below_alloc | apply pw_below_drewN | apply below_drew1) | exact HB.out)))); have n1_ := Aside0.mk (below_step (by repeat (first | (with_reducible first | exact HB.out | apply below_alloc | apply pw_below_drewN | apply below_drew1) | exact HB.out)) hb); clear HB; have HO240 := n0_; have HB := n1_; clear n0_ n1_; clear hb ho18; have hcv19 := own_string (P := Try.prog) Try.underlying39 Try.underlying5 Try.underlying9 (Kd.own_of_R HO240.out)) | ((with_reducible refine gate_callee (f := 19) rfl ?_); refine goesL_ (some 8) rfl rfl Try.func19 (by kernel_rfl) rfl #[.int .i64 128, .int .u32 0, .string (strOfNums y238)] rfl (by (try simp only [List.map_toArray, List.map_cons, List.map_nil]); first | done | rfl | (simp only [List.length_drop, List.length_take]; rfl)) ?_; (with_reducible refine (frame_Get.calls 128 0 (strOfNums y238) t241 t242 t243 t244 t245 t246 t247 _ A2.out).mono ?_); rintro e w20 ⟨rfl, hb⟩; refine ⟨_, rfl, ?_⟩; have n0_ := Aside0.mk (Kd.R_below (by (with_reducible repeat (first | apply Kd.R_alloc | apply Kd.R_drewN | apply Kd.R_drew)); exact HO240.out) hb); have n1_ := Aside0.mk (below_step (by repeat (first | (with_reducible first | exact HB.out | apply below_alloc | apply pw_below_drewN | apply below_drew1) | exact HB.out)) hb); clear HO240; clear HB; have HO240 := n0_; have HB := n1_; clear n0_ n1_; (try clear hb); (try clear hb2); (try clear hk); (try clear hi)) | ((with_reducible refine gate_dst (N := 1) rfl ?_); (try (refine gate_guard (by rfl) ?_; dsimp only)); refine box_event ?hg (N := 1) ?hd (cs := #[.int .i64 0, .int .i64 0, .int .u32 0, .int .u32 0, .int .u64 0, .string (⟨#[]⟩ : ByteArray)]) (t := 27) ?hr ?_; (case hd => rfl); (case hg => rfl); (case hr => first | (go_simp; done) | (go_simp; rfl)); intro gb248 hg w21 hbox hb; have n0_ := Aside0.mk (Kd.R_below (by (with_reducible repeat (first | apply Kd.R_alloc | apply Kd.R_drewN | apply Kd.R_drew)); exact HO240.out) hb); have n1_ := Aside0.mk (below_step (by repeat (first | (with_reducible first | exact HB.out | apply below_alloc | apply pw_below_drewN | apply below_drew1) | exact HB.out)) hb); have n2_ := Aside0.mk (hbox); have n3_ := Aside0.mk ((by rw [hg]; exact (below_size (by repeat (first | (with_reducible first | exact HB.out | apply below_alloc | apply pw_below_drewN | apply below_drew1) | exact HB.out))) : w.heap.size ≤ gb248)); have n4_ := Aside0.mk ((by rw [hg]; exact (below_size (by repeat (first | (with_reducible first | exact HB.out | apply below_alloc | apply pw_below_drewN | apply below_drew1) | exact HB.out))) : w.heap.size ≤ gb248)); clear HO240; clear HB; have HO240 := n0_; have HB := n1_; have BK248 := n2_; have GW248 := n3_; have GE248 := n4_; clear n0_ n1_ n2_ n3_ n4_; clear hb hbox hg; have hcz22_0 : w21.cell? ⟨gb248, 0, none⟩ = some (.int .i64 0) := (blk_cell BK248.out 0).trans rfl; have hcz22_1 : w21.cell? ⟨gb248, 1, none⟩ = some (.int .i64 0) := (blk_cell BK248.out 1).trans rfl; have hcz22_2 : w21.cell? ⟨gb248, 2, none⟩ = some (.int .u32 0) := (blk_cell BK248.out 2).trans rfl; have hcz22_3 : w21.cell? ⟨gb248, 3, none⟩ = some (.int .u32 0) := (blk_cell BK248.out 3).trans rfl; have hcz22_4 : w21.cell? ⟨gb248, 4, none⟩ = some (.int .u64 0) := (blk_cell BK248.out 4).trans rfl; have hcz22_5 : w21.cell? ⟨gb248, 5, none⟩ = some (.string (⟨#[]⟩ : ByteArray)) := (blk_cell BK248.out 5).trans rfl; have hfz22_0 := blk_frozen BK248.out 0; have hfz22_1 := blk_frozen BK248.out 1; have hfz22_2 := blk_frozen BK248.out 2; have hfz22_3 := blk_frozen BK248.out 3; have hfz22_4 := blk_frozen BK248.out 4; have hfz22_5 := blk_frozen BK248.out 5) | ((with_reducible refine gate_callee (f := 20) rfl ?_); refine goesL_ (some 12) rfl rfl Try.func20 (by kernel_rfl) rfl #[] rfl (by (try simp only [List.map_toArray, List.map_cons, List.map_nil]); first | done | rfl | (simp only [List.length_drop, List.length_take]; rfl)) ?_; (with_reducible refine (careenagelaw04_page.calls k  t249 t250 t251 t252 t253 t254 _ A3.out).mono ?_); rintro e w23 ⟨rfl, hb⟩; refine ⟨_, rfl, ?_⟩; have n0_ := Aside0.mk (Kd.R_below (by (with_reducible repeat (first | apply Kd.R_alloc | apply Kd.R_drewN | apply Kd.R_drew)); exact (Kd.R_mono (Kd.R_far (p := ⟨gb248, 5, none⟩) (Kd.R_far (p := ⟨gb248, 4, none⟩) (Kd.R_far (p := ⟨gb248, 3, none⟩) (Kd.R_far (p := ⟨gb248, 2, none⟩) (Kd.R_far (p := ⟨gb248, 1, none⟩) (Kd.R_far (p := ⟨gb248, 0, none⟩) (Kd.R_types HO240.out BK248.out (by decide)) (fun _ hk => hk.2) (.int .i64 t241)) (fun _ hk => hk.2) (.int .i64 t242)) (fun _ hk => hk.2) (.int .u32 t243)) (fun _ hk => hk.2) (.int .u32 t244)) (fun _ hk => hk.2) (.int .u64 t245)) (fun _ hk => hk.2) (.string t246)) (fun _ h_ => h_.1))) hb); have n1_ := Aside0.mk (blk_below (g := gb248) (o := .cells #[.int .i64 t241, .int .i64 t242, .int .u32 t243, .int .u32 t244, .int .u64 t245, .string t246] 27 (0, 0)) (by (with_reducible repeat (first | refine blk_drewN ?_ _ | refine blk_drew ?_ | refine blk_alloc ?_ _)); refine blk_put (cs := #[.int .i64 t241, .int .i64 t242, .int .u32 t243, .int .u32 t244, .int .u64 t245, .string (⟨#[]⟩ : ByteArray)]) ?_ 5 _ rfl; (with_reducible repeat (first | refine blk_drewN ?_ _ | refine blk_drew ?_ | refine blk_alloc ?_ _)); refine blk_put (cs := #[.int .i64 t241, .int .i64 t242, .int .u32 t243, .int .u32 t244, .int .u64 0, .string (⟨#[]⟩ : ByteArray)]) ?_ 4 _ rfl; (with_reducible repeat (first | refine blk_drewN ?_ _ | refine blk_drew ?_ | refine blk_alloc ?_ _)); refine blk_put (cs := #[.int .i64 t241, .int .i64 t242, .int .u32 t243, .int .u32 0, .int .u64 0, .string (⟨#[]⟩ : ByteArray)]) ?_ 3 _ rfl; (with_reducible repeat (first | refine blk_drewN ?_ _ | refine blk_drew ?_ | refine blk_alloc ?_ _)); refine blk_put (cs := #[.int .i64 t241, .int .i64 t242, .int .u32 0, .int .u32 0, .int .u64 0, .string (⟨#[]⟩ : ByteArray)]) ?_ 2 _ rfl; (with_reducible repeat (first | refine blk_drewN ?_ _ | refine blk_drew ?_ | refine blk_alloc ?_ _)); refine blk_put (cs := #[.int .i64 t241, .int .i64 0, .int .u32 0, .int .u32 0, .int .u64 0, .string (⟨#[]⟩ : ByteArray)]) ?_ 1 _ rfl; (with_reducible repeat (first | refine blk_drewN ?_ _ | refine blk_drew ?_ | refine blk_alloc ?_ _)); refine blk_put (cs := #[.int .i64 0, .int .i64 0, .int .u32 0, .int .u32 0, .int .u64 0, .string (⟨#[]⟩ : ByteArray)]) ?_ 0 _ rfl; (with_reducible repeat (first | refine blk_drewN ?_ _ | refine blk_drew ?_ | refine blk_alloc ?_ _)); exact BK248.out) hb); have n2_ := Aside0.mk (below_step (by repeat (first | (with_reducible first | exact HB.out | apply below_alloc | apply pw_below_drewN | apply below_drew1 | refine below_set ?_ GE248.out) | exact HB.out)) hb); clear HO240; clear BK248; clear HB; have HO240 := n0_; have BK248 := n1_; have HB := n2_; clear n0_ n1_ n2_; (try clear hb); (try clear hb2); (try clear hk); (try clear hi)) | ((with_reducible refine gate_callee (f := 17) rfl ?_); refine goesL_ (some 13) rfl rfl Try.func17 (by kernel_rfl) rfl #[.int .i64 128, .agg #[.int .i64 t249, .int .i64 t250, .int .u32 t251, .int .u32 t252, .int .u64 t253, .string t254]] rfl (by (try simp only [List.map_toArray, List.map_cons, List.map_nil]); first | done | rfl | (simp only [List.length_drop, List.length_take]; rfl)) ?_; (with_reducible refine (frame_Put.calls 128 t249 t250 t251 t252 t253 t254 t255 t256 _ A4.out).mono ?_); rintro e w24 ⟨rfl, hb⟩; refine ⟨_, rfl, ?_⟩; have n0_ := Aside0.mk (Kd.R_below (by (with_reducible repeat (first | apply Kd.R_alloc | apply Kd.R_drewN | apply Kd.R_drew)); exact HO240.out) hb); have n1_ := Aside0.mk (blk_below (g := gb248) (o := .cells #[.int .i64 t241, .int .i64 t242, .int .u32 t243, .int .u32 t244, .int .u64 t245, .string t246] 27 (0, 0)) (by (with_reducible repeat (first | refine blk_drewN ?_ _ | refine blk_drew ?_ | refine blk_alloc ?_ _)); exact BK248.out) hb); have n2_ := Aside0.mk (below_step (by repeat (first | (with_reducible first | exact HB.out | apply below_alloc | apply pw_below_drewN | apply below_drew1 | refine below_set ?_ GE248.out) | exact HB.out)) hb); clear HO240; clear BK248; clear HB; have HO240 := n0_; have BK248 := n1_; have HB := n2_; clear n0_ n1_ n2_; (try clear hb); (try clear hb2); (try clear hk); (try clear hi)) | ((with_reducible refine gate_callee (f := 26) rfl ?_); refine goesL_ (some 16) rfl rfl Try.func26 (by kernel_rfl) rfl #[.int .i64 128] rfl (by (try simp only [List.map_toArray, List.map_cons, List.map_nil]); first | done | rfl | (simp only [List.length_drop, List.length_take]; rfl)) ?_; (with_reducible refine (frame_Room.calls 128 t257 _ A5.out).mono ?_); rintro e w' ⟨rfl, ⟨nd, rfl⟩⟩; refine ⟨_, rfl, ?_⟩))
          go_ret
          exact ⟨by first | rfl | (simp [errW_none, errW_some] <;> rfl) | (simp [*, errW_none, errW_some] <;> rfl), by repeat (first | (with_reducible first | exact HB.out | apply below_alloc | apply pw_below_drewN | apply below_drew1 | refine below_set ?_ GE248.out) | exact HB.out)⟩
      · rw [if_neg c7] at H
        have c7b0 : (t247 == 4) = false := beq_eq_false_iff_ne.mpr c7
        have c7b1 : (t247 != 4) = true := bne_iff_ne.mpr c7
        obtain rfl := Option.some.inj H
        go_enter Try.func16, Try.ntmps16
        go_wp2_with (first | ((with_reducible refine gate_dst (N := 6) rfl ?_); (try (refine gate_guard (by rfl) ?_; dsimp only)); refine Kd.R_make (Kd.int .u8) _ 5 rfl (N := 6) rfl 39 _ _ rfl 128 rfl rfl Try.underlying39 (.int .u8 0) 1 info5 rfl (by decide) (by omega) 0 (ok := fun _ => True) (okp := fun _ => True) rfl (fun _ hk => hk) trivial (by omega) (by omega) (Below.refl _ _) (Nat.le_refl _) ?_; intro v239 w25 ho26 hb hg_ hnew_; clear hg_ hnew_; (first | rw [← Ny238.out] at ho26 | (simp only [Int.reduceToNat] at ho26; rw [← Ny238.out] at ho26)); have n0_ := Aside0.mk (Kd.R_lower ho26 (below_size (by repeat (first | (with_reducible first | exact HB.out | apply below_alloc | apply pw_below_drewN | apply below_drew1) | exact HB.out)))); have n1_ := Aside0.mk (below_step (by repeat (first | (with_reducible first | exact HB.out | apply below_alloc | apply pw_below_drewN | apply below_drew1) | exact HB.out)) hb); clear HB; have HO240 := n0_; have HB := n1_; clear n0_ n1_; clear hb ho26; have hcv27 := own_string (P := Try.prog) Try.underlying39 Try.underlying5 Try.underlying9 (Kd.own_of_R HO240.out)) | ((with_reducible refine gate_callee (f := 19) rfl ?_); refine goesL_ (some 8) rfl rfl Try.func19 (by kernel_rfl) rfl #[.int .i64 128, .int .u32 0, .string (strOfNums y238)] rfl (by (try simp only [List.map_toArray, List.map_cons, List.map_nil]); first | done | rfl | (simp only [List.length_drop, List.length_take]; rfl)) ?_; (with_reducible refine (frame_Get.calls 128 0 (strOfNums y238) t241 t242 t243 t244 t245 t246 t247 _ A2.out).mono ?_); rintro e w28 ⟨rfl, hb⟩; refine ⟨_, rfl, ?_⟩; have n0_ := Aside0.mk (Kd.R_below (by (with_reducible repeat (first | apply Kd.R_alloc | apply Kd.R_drewN | apply Kd.R_drew)); exact HO240.out) hb); have n1_ := Aside0.mk (below_step (by repeat (first | (with_reducible first | exact HB.out | apply below_alloc | apply pw_below_drewN | apply below_drew1) | exact HB.out)) hb); clear HO240; clear HB; have HO240 := n0_; have HB := n1_; clear n0_ n1_; (try clear hb); (try clear hb2); (try clear hk); (try clear hi)) | ((with_reducible refine gate_dst (N := 1) rfl ?_); (try (refine gate_guard (by rfl) ?_; dsimp only)); refine box_event ?hg (N := 1) ?hd (cs := #[.int .i64 0, .int .i64 0, .int .u32 0, .int .u32 0, .int .u64 0, .string (⟨#[]⟩ : ByteArray)]) (t := 27) ?hr ?_; (case hd => rfl); (case hg => rfl); (case hr => first | (go_simp; done) | (go_simp; rfl)); intro gb248 hg w29 hbox hb; have n0_ := Aside0.mk (Kd.R_below (by (with_reducible repeat (first | apply Kd.R_alloc | apply Kd.R_drewN | apply Kd.R_drew)); exact HO240.out) hb); have n1_ := Aside0.mk (below_step (by repeat (first | (with_reducible first | exact HB.out | apply below_alloc | apply pw_below_drewN | apply below_drew1) | exact HB.out)) hb); have n2_ := Aside0.mk (hbox); have n3_ := Aside0.mk ((by rw [hg]; exact (below_size (by repeat (first | (with_reducible first | exact HB.out | apply below_alloc | apply pw_below_drewN | apply below_drew1) | exact HB.out))) : w.heap.size ≤ gb248)); have n4_ := Aside0.mk ((by rw [hg]; exact (below_size (by repeat (first | (with_reducible first | exact HB.out | apply below_alloc | apply pw_below_drewN | apply below_drew1) | exact HB.out))) : w.heap.size ≤ gb248)); clear HO240; clear HB; have HO240 := n0_; have HB := n1_; have BK248 := n2_; have GW248 := n3_; have GE248 := n4_; clear n0_ n1_ n2_ n3_ n4_; clear hb hbox hg; have hcz30_0 : w29.cell? ⟨gb248, 0, none⟩ = some (.int .i64 0) := (blk_cell BK248.out 0).trans rfl; have hcz30_1 : w29.cell? ⟨gb248, 1, none⟩ = some (.int .i64 0) := (blk_cell BK248.out 1).trans rfl; have hcz30_2 : w29.cell? ⟨gb248, 2, none⟩ = some (.int .u32 0) := (blk_cell BK248.out 2).trans rfl; have hcz30_3 : w29.cell? ⟨gb248, 3, none⟩ = some (.int .u32 0) := (blk_cell BK248.out 3).trans rfl; have hcz30_4 : w29.cell? ⟨gb248, 4, none⟩ = some (.int .u64 0) := (blk_cell BK248.out 4).trans rfl; have hcz30_5 : w29.cell? ⟨gb248, 5, none⟩ = some (.string (⟨#[]⟩ : ByteArray)) := (blk_cell BK248.out 5).trans rfl; have hfz30_0 := blk_frozen BK248.out 0; have hfz30_1 := blk_frozen BK248.out 1; have hfz30_2 := blk_frozen BK248.out 2; have hfz30_3 := blk_frozen BK248.out 3; have hfz30_4 := blk_frozen BK248.out 4; have hfz30_5 := blk_frozen BK248.out 5) | ((with_reducible refine gate_callee (f := 20) rfl ?_); refine goesL_ (some 12) rfl rfl Try.func20 (by kernel_rfl) rfl #[] rfl (by (try simp only [List.map_toArray, List.map_cons, List.map_nil]); first | done | rfl | (simp only [List.length_drop, List.length_take]; rfl)) ?_; (with_reducible refine (careenagelaw04_page.calls k  t249 t250 t251 t252 t253 t254 _ A3.out).mono ?_); rintro e w31 ⟨rfl, hb⟩; refine ⟨_, rfl, ?_⟩; have n0_ := Aside0.mk (Kd.R_below (by (with_reducible repeat (first | apply Kd.R_alloc | apply Kd.R_drewN | apply Kd.R_drew)); exact (Kd.R_mono (Kd.R_far (p := ⟨gb248, 5, none⟩) (Kd.R_far (p := ⟨gb248, 4, none⟩) (Kd.R_far (p := ⟨gb248, 3, none⟩) (Kd.R_far (p := ⟨gb248, 2, none⟩) (Kd.R_far (p := ⟨gb248, 1, none⟩) (Kd.R_far (p := ⟨gb248, 0, none⟩) (Kd.R_types HO240.out BK248.out (by decide)) (fun _ hk => hk.2) (.int .i64 t241)) (fun _ hk => hk.2) (.int .i64 t242)) (fun _ hk => hk.2) (.int .u32 t243)) (fun _ hk => hk.2) (.int .u32 t244)) (fun _ hk => hk.2) (.int .u64 t245)) (fun _ hk => hk.2) (.string t246)) (fun _ h_ => h_.1))) hb); have n1_ := Aside0.mk (blk_below (g := gb248) (o := .cells #[.int .i64 t241, .int .i64 t242, .int .u32 t243, .int .u32 t244, .int .u64 t245, .string t246] 27 (0, 0)) (by (with_reducible repeat (first | refine blk_drewN ?_ _ | refine blk_drew ?_ | refine blk_alloc ?_ _)); refine blk_put (cs := #[.int .i64 t241, .int .i64 t242, .int .u32 t243, .int .u32 t244, .int .u64 t245, .string (⟨#[]⟩ : ByteArray)]) ?_ 5 _ rfl; (with_reducible repeat (first | refine blk_drewN ?_ _ | refine blk_drew ?_ | refine blk_alloc ?_ _)); refine blk_put (cs := #[.int .i64 t241, .int .i64 t242, .int .u32 t243, .int .u32 t244, .int .u64 0, .string (⟨#[]⟩ : ByteArray)]) ?_ 4 _ rfl; (with_reducible repeat (first | refine blk_drewN ?_ _ | refine blk_drew ?_ | refine blk_alloc ?_ _)); refine blk_put (cs := #[.int .i64 t241, .int .i64 t242, .int .u32 t243, .int .u32 0, .int .u64 0, .string (⟨#[]⟩ : ByteArray)]) ?_ 3 _ rfl; (with_reducible repeat (first | refine blk_drewN ?_ _ | refine blk_drew ?_ | refine blk_alloc ?_ _)); refine blk_put (cs := #[.int .i64 t241, .int .i64 t242, .int .u32 0, .int .u32 0, .int .u64 0, .string (⟨#[]⟩ : ByteArray)]) ?_ 2 _ rfl; (with_reducible repeat (first | refine blk_drewN ?_ _ | refine blk_drew ?_ | refine blk_alloc ?_ _)); refine blk_put (cs := #[.int .i64 t241, .int .i64 0, .int .u32 0, .int .u32 0, .int .u64 0, .string (⟨#[]⟩ : ByteArray)]) ?_ 1 _ rfl; (with_reducible repeat (first | refine blk_drewN ?_ _ | refine blk_drew ?_ | refine blk_alloc ?_ _)); refine blk_put (cs := #[.int .i64 0, .int .i64 0, .int .u32 0, .int .u32 0, .int .u64 0, .string (⟨#[]⟩ : ByteArray)]) ?_ 0 _ rfl; (with_reducible repeat (first | refine blk_drewN ?_ _ | refine blk_drew ?_ | refine blk_alloc ?_ _)); exact BK248.out) hb); have n2_ := Aside0.mk (below_step (by repeat (first | (with_reducible first | exact HB.out | apply below_alloc | apply pw_below_drewN | apply below_drew1 | refine below_set ?_ GE248.out) | exact HB.out)) hb); clear HO240; clear BK248; clear HB; have HO240 := n0_; have BK248 := n1_; have HB := n2_; clear n0_ n1_ n2_; (try clear hb); (try clear hb2); (try clear hk); (try clear hi)) | ((with_reducible refine gate_callee (f := 17) rfl ?_); refine goesL_ (some 13) rfl rfl Try.func17 (by kernel_rfl) rfl #[.int .i64 128, .agg #[.int .i64 t249, .int .i64 t250, .int .u32 t251, .int .u32 t252, .int .u64 t253, .string t254]] rfl (by (try simp only [List.map_toArray, List.map_cons, List.map_nil]); first | done | rfl | (simp only [List.length_drop, List.length_take]; rfl)) ?_; (with_reducible refine (frame_Put.calls 128 t249 t250 t251 t252 t253 t254 t255 t256 _ A4.out).mono ?_); rintro e w32 ⟨rfl, hb⟩; refine ⟨_, rfl, ?_⟩; have n0_ := Aside0.mk (Kd.R_below (by (with_reducible repeat (first | apply Kd.R_alloc | apply Kd.R_drewN | apply Kd.R_drew)); exact HO240.out) hb); have n1_ := Aside0.mk (blk_below (g := gb248) (o := .cells #[.int .i64 t241, .int .i64 t242, .int .u32 t243, .int .u32 t244, .int .u64 t245, .string t246] 27 (0, 0)) (by (with_reducible repeat (first | refine blk_drewN ?_ _ | refine blk_drew ?_ | refine blk_alloc ?_ _)); exact BK248.out) hb); have n2_ := Aside0.mk (below_step (by repeat (first | (with_reducible first | exact HB.out | apply below_alloc | apply pw_below_drewN | apply below_drew1 | refine below_set ?_ GE248.out) | exact HB.out)) hb); clear HO240; clear BK248; clear HB; have HO240 := n0_; have BK248 := n1_; have HB := n2_; clear n0_ n1_ n2_; (try clear hb); (try clear hb2); (try clear hk); (try clear hi)) | ((with_reducible refine gate_callee (f := 26) rfl ?_); refine goesL_ (some 16) rfl rfl Try.func26 (by kernel_rfl) rfl #[.int .i64 128] rfl (by (try simp only [List.map_toArray, List.map_cons, List.map_nil]); first | done | rfl | (simp only [List.length_drop, List.length_take]; rfl)) ?_; (with_reducible refine (frame_Room.calls 128 t257 _ A5.out).mono ?_); rintro e w' ⟨rfl, ⟨nd, rfl⟩⟩; refine ⟨_, rfl, ?_⟩))
        go_ret
        exact ⟨by first | rfl | (simp [errW_none, errW_some] <;> rfl) | (simp [*, errW_none, errW_some] <;> rfl), by repeat (first | (with_reducible first | exact HB.out | apply below_alloc | apply pw_below_drewN | apply below_drew1 | refine below_set ?_ GE248.out) | exact HB.out)⟩
    · rw [if_neg c6] at H
      have c6b0 : (t257 == 104) = false := beq_eq_false_iff_ne.mpr c6
      have c6b1 : (t257 != 104) = true := bne_iff_ne.mpr c6
      obtain rfl := Option.some.inj H
      go_enter Try.func16, Try.ntmps16
      go_wp2_with (first | ((with_reducible refine gate_dst (N := 6) rfl ?_); (try (refine gate_guard (by rfl) ?_; dsimp only)); refine Kd.R_make (Kd.int .u8) _ 5 rfl (N := 6) rfl 39 _ _ rfl 128 rfl rfl Try.underlying39 (.int .u8 0) 1 info5 rfl (by decide) (by omega) 0 (ok := fun _ => True) (okp := fun _ => True) rfl (fun _ hk => hk) trivial (by omega) (by omega) (Below.refl _ _) (Nat.le_refl _) ?_; intro v239 w33 ho34 hb hg_ hnew_; clear hg_ hnew_; (first | rw [← Ny238.out] at ho34 | (simp only [Int.reduceToNat] at ho34; rw [← Ny238.out] at ho34)); have n0_ := Aside0.mk (Kd.R_lower ho34 (below_size (by repeat (first | (with_reducible first | exact HB.out | apply below_alloc | apply pw_below_drewN | apply below_drew1) | exact HB.out)))); have n1_ := Aside0.mk (below_step (by repeat (first | (with_reducible first | exact HB.out | apply below_alloc | apply pw_below_drewN | apply below_drew1) | exact HB.out)) hb); clear HB; have HO240 := n0_; have HB := n1_; clear n0_ n1_; clear hb ho34; have hcv35 := own_string (P := Try.prog) Try.underlying39 Try.underlying5 Try.underlying9 (Kd.own_of_R HO240.out)) | ((with_reducible refine gate_callee (f := 19) rfl ?_); refine goesL_ (some 8) rfl rfl Try.func19 (by kernel_rfl) rfl #[.int .i64 128, .int .u32 0, .string (strOfNums y238)] rfl (by (try simp only [List.map_toArray, List.map_cons, List.map_nil]); first | done | rfl | (simp only [List.length_drop, List.length_take]; rfl)) ?_; (with_reducible refine (frame_Get.calls 128 0 (strOfNums y238) t241 t242 t243 t244 t245 t246 t247 _ A2.out).mono ?_); rintro e w36 ⟨rfl, hb⟩; refine ⟨_, rfl, ?_⟩; have n0_ := Aside0.mk (Kd.R_below (by (with_reducible repeat (first | apply Kd.R_alloc | apply Kd.R_drewN | apply Kd.R_drew)); exact HO240.out) hb); have n1_ := Aside0.mk (below_step (by repeat (first | (with_reducible first | exact HB.out | apply below_alloc | apply pw_below_drewN | apply below_drew1) | exact HB.out)) hb); clear HO240; clear HB; have HO240 := n0_; have HB := n1_; clear n0_ n1_; (try clear hb); (try clear hb2); (try clear hk); (try clear hi)) | ((with_reducible refine gate_dst (N := 1) rfl ?_); (try (refine gate_guard (by rfl) ?_; dsimp only)); refine box_event ?hg (N := 1) ?hd (cs := #[.int .i64 0, .int .i64 0, .int .u32 0, .int .u32 0, .int .u64 0, .string (⟨#[]⟩ : ByteArray)]) (t := 27) ?hr ?_; (case hd => rfl); (case hg => rfl); (case hr => first | (go_simp; done) | (go_simp; rfl)); intro gb248 hg w37 hbox hb; have n0_ := Aside0.mk (Kd.R_below (by (with_reducible repeat (first | apply Kd.R_alloc | apply Kd.R_drewN | apply Kd.R_drew)); exact HO240.out) hb); have n1_ := Aside0.mk (below_step (by repeat (first | (with_reducible first | exact HB.out | apply below_alloc | apply pw_below_drewN | apply below_drew1) | exact HB.out)) hb); have n2_ := Aside0.mk (hbox); have n3_ := Aside0.mk ((by rw [hg]; exact (below_size (by repeat (first | (with_reducible first | exact HB.out | apply below_alloc | apply pw_below_drewN | apply below_drew1) | exact HB.out))) : w.heap.size ≤ gb248)); have n4_ := Aside0.mk ((by rw [hg]; exact (below_size (by repeat (first | (with_reducible first | exact HB.out | apply below_alloc | apply pw_below_drewN | apply below_drew1) | exact HB.out))) : w.heap.size ≤ gb248)); clear HO240; clear HB; have HO240 := n0_; have HB := n1_; have BK248 := n2_; have GW248 := n3_; have GE248 := n4_; clear n0_ n1_ n2_ n3_ n4_; clear hb hbox hg; have hcz38_0 : w37.cell? ⟨gb248, 0, none⟩ = some (.int .i64 0) := (blk_cell BK248.out 0).trans rfl; have hcz38_1 : w37.cell? ⟨gb248, 1, none⟩ = some (.int .i64 0) := (blk_cell BK248.out 1).trans rfl; have hcz38_2 : w37.cell? ⟨gb248, 2, none⟩ = some (.int .u32 0) := (blk_cell BK248.out 2).trans rfl; have hcz38_3 : w37.cell? ⟨gb248, 3, none⟩ = some (.int .u32 0) := (blk_cell BK248.out 3).trans rfl; have hcz38_4 : w37.cell? ⟨gb248, 4, none⟩ = some (.int .u64 0) := (blk_cell BK248.out 4).trans rfl; have hcz38_5 : w37.cell? ⟨gb248, 5, none⟩ = some (.string (⟨#[]⟩ : ByteArray)) := (blk_cell BK248.out 5).trans rfl; have hfz38_0 := blk_frozen BK248.out 0; have hfz38_1 := blk_frozen BK248.out 1; have hfz38_2 := blk_frozen BK248.out 2; have hfz38_3 := blk_frozen BK248.out 3; have hfz38_4 := blk_frozen BK248.out 4; have hfz38_5 := blk_frozen BK248.out 5) | ((with_reducible refine gate_callee (f := 20) rfl ?_); refine goesL_ (some 12) rfl rfl Try.func20 (by kernel_rfl) rfl #[] rfl (by (try simp only [List.map_toArray, List.map_cons, List.map_nil]); first | done | rfl | (simp only [List.length_drop, List.length_take]; rfl)) ?_; (with_reducible refine (careenagelaw04_page.calls k  t249 t250 t251 t252 t253 t254 _ A3.out).mono ?_); rintro e w39 ⟨rfl, hb⟩; refine ⟨_, rfl, ?_⟩; have n0_ := Aside0.mk (Kd.R_below (by (with_reducible repeat (first | apply Kd.R_alloc | apply Kd.R_drewN | apply Kd.R_drew)); exact (Kd.R_mono (Kd.R_far (p := ⟨gb248, 5, none⟩) (Kd.R_far (p := ⟨gb248, 4, none⟩) (Kd.R_far (p := ⟨gb248, 3, none⟩) (Kd.R_far (p := ⟨gb248, 2, none⟩) (Kd.R_far (p := ⟨gb248, 1, none⟩) (Kd.R_far (p := ⟨gb248, 0, none⟩) (Kd.R_types HO240.out BK248.out (by decide)) (fun _ hk => hk.2) (.int .i64 t241)) (fun _ hk => hk.2) (.int .i64 t242)) (fun _ hk => hk.2) (.int .u32 t243)) (fun _ hk => hk.2) (.int .u32 t244)) (fun _ hk => hk.2) (.int .u64 t245)) (fun _ hk => hk.2) (.string t246)) (fun _ h_ => h_.1))) hb); have n1_ := Aside0.mk (blk_below (g := gb248) (o := .cells #[.int .i64 t241, .int .i64 t242, .int .u32 t243, .int .u32 t244, .int .u64 t245, .string t246] 27 (0, 0)) (by (with_reducible repeat (first | refine blk_drewN ?_ _ | refine blk_drew ?_ | refine blk_alloc ?_ _)); refine blk_put (cs := #[.int .i64 t241, .int .i64 t242, .int .u32 t243, .int .u32 t244, .int .u64 t245, .string (⟨#[]⟩ : ByteArray)]) ?_ 5 _ rfl; (with_reducible repeat (first | refine blk_drewN ?_ _ | refine blk_drew ?_ | refine blk_alloc ?_ _)); refine blk_put (cs := #[.int .i64 t241, .int .i64 t242, .int .u32 t243, .int .u32 t244, .int .u64 0, .string (⟨#[]⟩ : ByteArray)]) ?_ 4 _ rfl; (with_reducible repeat (first | refine blk_drewN ?_ _ | refine blk_drew ?_ | refine blk_alloc ?_ _)); refine blk_put (cs := #[.int .i64 t241, .int .i64 t242, .int .u32 t243, .int .u32 0, .int .u64 0, .string (⟨#[]⟩ : ByteArray)]) ?_ 3 _ rfl; (with_reducible repeat (first | refine blk_drewN ?_ _ | refine blk_drew ?_ | refine blk_alloc ?_ _)); refine blk_put (cs := #[.int .i64 t241, .int .i64 t242, .int .u32 0, .int .u32 0, .int .u64 0, .string (⟨#[]⟩ : ByteArray)]) ?_ 2 _ rfl; (with_reducible repeat (first | refine blk_drewN ?_ _ | refine blk_drew ?_ | refine blk_alloc ?_ _)); refine blk_put (cs := #[.int .i64 t241, .int .i64 0, .int .u32 0, .int .u32 0, .int .u64 0, .string (⟨#[]⟩ : ByteArray)]) ?_ 1 _ rfl; (with_reducible repeat (first | refine blk_drewN ?_ _ | refine blk_drew ?_ | refine blk_alloc ?_ _)); refine blk_put (cs := #[.int .i64 0, .int .i64 0, .int .u32 0, .int .u32 0, .int .u64 0, .string (⟨#[]⟩ : ByteArray)]) ?_ 0 _ rfl; (with_reducible repeat (first | refine blk_drewN ?_ _ | refine blk_drew ?_ | refine blk_alloc ?_ _)); exact BK248.out) hb); have n2_ := Aside0.mk (below_step (by repeat (first | (with_reducible first | exact HB.out | apply below_alloc | apply pw_below_drewN | apply below_drew1 | refine below_set ?_ GE248.out) | exact HB.out)) hb); clear HO240; clear BK248; clear HB; have HO240 := n0_; have BK248 := n1_; have HB := n2_; clear n0_ n1_ n2_; (try clear hb); (try clear hb2); (try clear hk); (try clear hi)) | ((with_reducible refine gate_callee (f := 17) rfl ?_); refine goesL_ (some 13) rfl rfl Try.func17 (by kernel_rfl) rfl #[.int .i64 128, .agg #[.int .i64 t249, .int .i64 t250, .int .u32 t251, .int .u32 t252, .int .u64 t253, .string t254]] rfl (by (try simp only [List.map_toArray, List.map_cons, List.map_nil]); first | done | rfl | (simp only [List.length_drop, List.length_take]; rfl)) ?_; (with_reducible refine (frame_Put.calls 128 t249 t250 t251 t252 t253 t254 t255 t256 _ A4.out).mono ?_); rintro e w40 ⟨rfl, hb⟩; refine ⟨_, rfl, ?_⟩; have n0_ := Aside0.mk (Kd.R_below (by (with_reducible repeat (first | apply Kd.R_alloc | apply Kd.R_drewN | apply Kd.R_drew)); exact HO240.out) hb); have n1_ := Aside0.mk (blk_below (g := gb248) (o := .cells #[.int .i64 t241, .int .i64 t242, .int .u32 t243, .int .u32 t244, .int .u64 t245, .string t246] 27 (0, 0)) (by (with_reducible repeat (first | refine blk_drewN ?_ _ | refine blk_drew ?_ | refine blk_alloc ?_ _)); exact BK248.out) hb); have n2_ := Aside0.mk (below_step (by repeat (first | (with_reducible first | exact HB.out | apply below_alloc | apply pw_below_drewN | apply below_drew1 | refine below_set ?_ GE248.out) | exact HB.out)) hb); clear HO240; clear BK248; clear HB; have HO240 := n0_; have BK248 := n1_; have HB := n2_; clear n0_ n1_ n2_; (try clear hb); (try clear hb2); (try clear hk); (try clear hi)) | ((with_reducible refine gate_callee (f := 26) rfl ?_); refine goesL_ (some 16) rfl rfl Try.func26 (by kernel_rfl) rfl #[.int .i64 128] rfl (by (try simp only [List.map_toArray, List.map_cons, List.map_nil]); first | done | rfl | (simp only [List.length_drop, List.length_take]; rfl)) ?_; (with_reducible refine (frame_Room.calls 128 t257 _ A5.out).mono ?_); rintro e w' ⟨rfl, ⟨nd, rfl⟩⟩; refine ⟨_, rfl, ?_⟩))
      go_ret
      exact ⟨by first | rfl | (simp [errW_none, errW_some] <;> rfl) | (simp [*, errW_none, errW_some] <;> rfl), by repeat (first | (with_reducible first | exact HB.out | apply below_alloc | apply pw_below_drewN | apply below_drew1 | refine below_set ?_ GE248.out) | exact HB.out)⟩
  · rw [if_neg c1] at H
    exact absurd H (by simp)
end Go.Proofs.Ytlnmdfffmflhgaa.P

namespace Go.Proofs.Ytlnmdfffmflhgaa.P
open Go.RowKit Go.Proofs.YtlnmdfffmflhgaaW.PrintWords Go.Proofs.YtlnmdfffmflhgaaW.PrintLast Go.Proofs.YtlnmdfffmflhgaaW.PrintMore
attribute [local go_sem] max2_int min2_int max_two min_two max_three min_three max_four min_four   -- for this text's walks alone
open Go.Proofs.YtlnmdfffmflhgaaO
attribute [local go_sem] min2_str max2_str
set_option linter.unusedVariables false
set_option linter.unusedSimpArgs false
/-! ### careenagekit_Pick: function 18 -/
def careenagekit_Pick.f (a0 : Int) (a1 : Int) : Option (Int) := if a1 < 1 then (some 0) else (if a1 = 0 then (none) else (if (Int.tmod a0 a1) < 0 then (some (wrap64 ((Int.tmod a0 a1) + a1))) else (some (Int.tmod a0 a1))))
set_option maxHeartbeats 8000000 in
set_option maxRecDepth 100000 in
theorem careenagekit_Pick.calls (a0 : Int) (a1 : Int) (r : Int) (w : World) (h : careenagekit_Pick.f a0 a1 = some r) :
    Calls Try.prog 18 #[.int .i64 a0, .int .i64 a1] w fun e w' => e = .returned (.int .i64 r) ∧ Drawn0 w w' := by
  have H : (if a1 < 1 then (some 0) else (if a1 = 0 then (none) else (if (Int.tmod a0 a1) < 0 then (some (wrap64 ((Int.tmod a0 a1) + a1))) else (some (Int.tmod a0 a1))))) = some r := h
  clear h
  by_cases c3 : a1 < 1
  · rw [if_pos c3] at H
    have c3b0 : decide (a1 < 1) = true := decide_eq_true c3
    clear c3
    obtain rfl := Option.some.inj H
    go_enter Try.func18, Try.ntmps18
    go_wp2
    go_ret
    exact ⟨by first | rfl | (simp; done) | (simp [*]; done), by repeat (first | exact Drawn0.refl _ | apply Drawn0.step)⟩
  · rw [if_neg c3] at H
    have c3b0 : decide (a1 < 1) = false := decide_eq_false c3
    clear c3
    by_cases c4 : a1 = 0
    · rw [if_pos c4] at H
      exact absurd H (by simp)
    · rw [if_neg c4] at H
      have c4b0 : (a1 == 0) = false := beq_eq_false_iff_ne.mpr c4
      have c4b1 : (a1 != 0) = true := bne_iff_ne.mpr c4
      by_cases c5 : (Int.tmod a0 a1) < 0
      · rw [if_pos c5] at H
        have c5b0 : decide ((Int.tmod a0 a1) < 0) = true := decide_eq_true c5
        clear c5
        obtain rfl := Option.some.inj H
        go_enter Try.func18, Try.ntmps18
        go_wp2
        go_ret
        exact ⟨by first | rfl | (simp; done) | (simp [*]; done), by repeat (first | exact Drawn0.refl _ | apply Drawn0.step)⟩
      · rw [if_neg c5] at H
        have c5b0 : decide ((Int.tmod a0 a1) < 0) = false := decide_eq_false c5
        clear c5
        obtain rfl := Option.some.inj H
        go_enter Try.func18, Try.ntmps18
        go_wp2
        go_ret
        exact ⟨by first | rfl | (simp; done) | (simp [*]; done), by repeat (first | exact Drawn0.refl _ | apply Drawn0.step)⟩
end Go.Proofs.Ytlnmdfffmflhgaa.P

namespace Go.Proofs.Ytlnmdfffmflhgaa.P
open Go.RowKit Go.Proofs.YtlnmdfffmflhgaaW.PrintWords Go.Proofs.YtlnmdfffmflhgaaW.PrintLast Go.Proofs.YtlnmdfffmflhgaaW.PrintMore
attribute [local go_sem] max2_int min2_int max_two min_two max_three min_three max_four min_four   -- for this text's walks alone
open Go.Proofs.YtlnmdfffmflhgaaO
attribute [local go_sem] min2_str max2_str
set_option linter.unusedVariables false
set_option linter.unusedSimpArgs false
/-! ### careenagelaw04_FrameRot: function 4 (by hand) -/
/-- What a round makes of a row: the bit, where it is set, is turned at its place. -/
def burstRow (at_ bits m : Nat) (xs : List Int) : List Int := if bits / 2 ^ m % 2 = 1 then xs.set ((at_ + m) / 8) (((xs.getD ((at_ + m) / 8) 0).toNat ^^^ 2 ^ ((at_ + m) % 8) : Nat) : Int) else xs
def burstRows (at_ bits : Nat) : Nat → List Int → List Int
  | 0, xs => xs
  | m + 1, xs => burstRow at_ bits m (burstRows at_ bits m xs)
theorem bit_at (b m : Nat) (h : ((b : Nat) : Int) < 4294967296) : Go.bits .and .u32 ((b : Int) / 2 ^ m) 1 = ((b / 2 ^ m % 2 : Nat) : Int) := by
  have h1 : (b : Int) / 2 ^ m = ((b / 2 ^ m : Nat) : Int) := by simp
  rw [h1]
  exact bit_go (b / 2 ^ m) (Nat.lt_of_le_of_lt (Nat.div_le_self _ _) (by omega))
theorem xor_at (x k : Nat) (hx : x < 256) (hk : k < 8) : Go.bits .xor .u8 (x : Int) ((2 : Int) ^ k % 256) = ((x ^^^ 2 ^ k : Nat) : Int) := by
  have h2 : 2 ^ k < 2 ^ 8 := Nat.pow_lt_pow_right (by decide) hk
  have h1 : (2 : Int) ^ k % 256 = ((2 ^ k : Nat) : Int) := by
    have : (2 : Int) ^ k = ((2 ^ k : Nat) : Int) := by simp
    rw [this]
    exact Int.emod_eq_of_lt (Int.natCast_nonneg _) (Int.ofNat_lt.2 h2)
  rw [h1]
  exact u8_xor_nat x (2 ^ k) hx h2
/-- How many turned bits are in the check, and behind it. -/
def cntA (r bits : Nat) : Nat → Nat
  | 0 => 0
  | m + 1 => if bits / 2 ^ m % 2 = 1 ∧ r + m < 32 then cntA r bits m + 1 else cntA r bits m
def cntB (r bits : Nat) : Nat → Nat
  | 0 => 0
  | m + 1 => if bits / 2 ^ m % 2 = 1 ∧ ¬ r + m < 32 then cntB r bits m + 1 else cntB r bits m
theorem cntA_le (r bits : Nat) : ∀ m, cntA r bits m ≤ m
  | 0 => Nat.le_refl _
  | m + 1 => by
    have := cntA_le r bits m
    unfold cntA
    split <;> omega
theorem cntB_le (r bits : Nat) : ∀ m, cntB r bits m ≤ m
  | 0 => Nat.le_refl _
  | m + 1 => by
    have := cntB_le r bits m
    unfold cntB
    split <;> omega
def careenagelaw04_FrameRot.Pure : Prop := ∀ (a0 a1_0 a1_1 a1_2 a1_3 a1_4 : Int) (a1_5 : ByteArray) (a2 a3 : Int), (Lit.int .i64 a0).wf = true → (Lit.int .i64 a1_0).wf = true → (Lit.int .i64 a1_1).wf = true → (Lit.int .u32 a1_2).wf = true → (Lit.int .u32 a1_3).wf = true → (Lit.int .u64 a1_4).wf = true → a1_5.size ≤ 140737488351232 → (Lit.int .i64 a2).wf = true → (Lit.int .u32 a3).wf = true → 
  careenagelaw04_lives.f 300 = some true ∧ 0 ≤ a3 ∧ a3 < 4294967296 ∧ (a1_5.size ≤ 4200 → a3 ≠ 0 → ∃ (s : ByteArray) (e : Int), frame_Put.f a0 a1_0 a1_1 a1_2 a1_3 a1_4 a1_5 = some (s, e) ∧ (e = 0 → s.size ≤ 5000 ∧ 5 ≤ s.size ∧ ∃ r : Nat, careenagekit_Pick.f a2 (8 * (s.size : Int) - 31) = some (r : Int) ∧ (r : Int) < 8 * (s.size : Int) - 31 ∧ (∀ m, m ≤ 32 → isB (burstRows r a3.toNat m (B s)) ∧ (burstRows r a3.toNat m (B s)).length = s.size) ∧
    (¬ (0 < cntA r a3.toNat 32 ∧ 0 < cntB r a3.toNat 32) → ∃ (q1 q2 q3 q4 q5 : Int) (q6 : ByteArray), frame_Get.f a0 a1_2 (strOfNums (burstRows r a3.toNat 32 (B s))) = some (q1, q2, q3, q4, q5, q6, 4))))
set_option maxHeartbeats 8000000 in
set_option maxRecDepth 100000 in
theorem careenagelaw04_FrameRot.walk (P : careenagelaw04_FrameRot.Pure) (a0 a1_0 a1_1 a1_2 a1_3 a1_4 : Int) (a1_5 : ByteArray) (a2 a3 : Int) (w : World) (w0 : (Lit.int .i64 a0).wf = true) (w1 : (Lit.int .i64 a1_0).wf = true) (w2 : (Lit.int .i64 a1_1).wf = true) (w3 : (Lit.int .u32 a1_2).wf = true) (w4 : (Lit.int .u32 a1_3).wf = true) (w5 : (Lit.int .u64 a1_4).wf = true) (w6 : a1_5.size ≤ 140737488351232) (w7 : (Lit.int .i64 a2).wf = true) (w8 : (Lit.int .u32 a3).wf = true) :
    Calls Try.prog 4 #[.int .i64 a0, .agg #[.int .i64 a1_0, .int .i64 a1_1, .int .u32 a1_2, .int .u32 a1_3, .int .u64 a1_4, .string a1_5], .int .i64 a2, .int .u32 a3] w fun e w' => e = .returned (.bool true) ∧ Below w.heap.size w w' := by
  obtain ⟨p0, hb0, hb1, hp⟩ := P a0 a1_0 a1_1 a1_2 a1_3 a1_4 a1_5 a2 a3 w0 w1 w2 w3 w4 w5 w6 w7 w8
  obtain ⟨bits, rfl⟩ := Int.eq_ofNat_of_zero_le hb0
  have P0 := Aside0.mk p0
  have HBITS := Aside0.mk hb1
  clear p0 w0 w1 w2 w3 w4 w5 w6 w7 w8 hb0 hb1 P
  have HB := Aside0.mk (Below.refl w.heap.size w)
  by_cases c1 : (4200 : Int) < (a1_5.size : Int)
  · have c1b : decide ((4200 : Int) < (a1_5.size : Int)) = true := decide_eq_true c1
    clear hp c1
    go_enter Try.func4, Try.ntmps4
    go_wp2_with (first | ((with_reducible refine gate_dst (N := 5) rfl ?_); refine box_event ?hg (N := 5) ?hd (cs := #[.int .i64 a1_0, .int .i64 a1_1, .int .u32 a1_2, .int .u32 a1_3, .int .u64 a1_4, .string a1_5]) (t := 27) ?hr ?_; (case hd => rfl); (case hg => rfl); (case hr => first | (go_simp; done) | (go_simp; rfl)); intro gb hg_ w1 hb hbel; have n0_ := Aside0.mk (below_step HB.out hbel); have BK := Aside0.mk hb; clear HB; have HB := n0_; clear n0_ hg_ hb hbel; have hc0 : w1.cell? ⟨gb, 0, none⟩ = some (.int .i64 a1_0) := (blk_cell BK.out 0).trans rfl; have hc1 : w1.cell? ⟨gb, 1, none⟩ = some (.int .i64 a1_1) := (blk_cell BK.out 1).trans rfl; have hc2 : w1.cell? ⟨gb, 2, none⟩ = some (.int .u32 a1_2) := (blk_cell BK.out 2).trans rfl; have hc3 : w1.cell? ⟨gb, 3, none⟩ = some (.int .u32 a1_3) := (blk_cell BK.out 3).trans rfl; have hc4 : w1.cell? ⟨gb, 4, none⟩ = some (.int .u64 a1_4) := (blk_cell BK.out 4).trans rfl; have hc5 : w1.cell? ⟨gb, 5, none⟩ = some (.string a1_5) := (blk_cell BK.out 5).trans rfl; have hf0 := blk_frozen BK.out 0; have hf1 := blk_frozen BK.out 1; have hf2 := blk_frozen BK.out 2; have hf3 := blk_frozen BK.out 3; have hf4 := blk_frozen BK.out 4; have hf5 := blk_frozen BK.out 5) | (go_at_call 16; (with_reducible refine (careenagelaw04_lives.calls 300 true _ P0.out).mono ?_); rintro e w2 ⟨rfl, hb⟩; have n0_ := Aside0.mk (blk_below BK.out hb); have n1_ := Aside0.mk (below_step HB.out hb); clear hc0 hf0 hc1 hf1 hc2 hf2 hc3 hf3 hc4 hf4 hc5 hf5; clear BK HB hb; have BK := n0_; have HB := n1_; clear n0_ n1_; have hc0 : w2.cell? ⟨gb, 0, none⟩ = some (.int .i64 a1_0) := (blk_cell BK.out 0).trans rfl; have hc1 : w2.cell? ⟨gb, 1, none⟩ = some (.int .i64 a1_1) := (blk_cell BK.out 1).trans rfl; have hc2 : w2.cell? ⟨gb, 2, none⟩ = some (.int .u32 a1_2) := (blk_cell BK.out 2).trans rfl; have hc3 : w2.cell? ⟨gb, 3, none⟩ = some (.int .u32 a1_3) := (blk_cell BK.out 3).trans rfl; have hc4 : w2.cell? ⟨gb, 4, none⟩ = some (.int .u64 a1_4) := (blk_cell BK.out 4).trans rfl; have hc5 : w2.cell? ⟨gb, 5, none⟩ = some (.string a1_5) := (blk_cell BK.out 5).trans rfl; have hf0 := blk_frozen BK.out 0; have hf1 := blk_frozen BK.out 1; have hf2 := blk_frozen BK.out 2; have hf3 := blk_frozen BK.out 3; have hf4 := blk_frozen BK.out 4; have hf5 := blk_frozen BK.out 5))
    all_goals (go_ret; exact ⟨rfl, HB.out⟩)
  have c1b : decide ((4200 : Int) < (a1_5.size : Int)) = false := decide_eq_false c1
  by_cases c3 : (bits : Int) = 0
  · have c3b : ((bits : Int) == 0) = true := beq_iff_eq.mpr c3
    clear hp c1 c3
    go_enter Try.func4, Try.ntmps4
    go_wp2_with (first | ((with_reducible refine gate_dst (N := 5) rfl ?_); refine box_event ?hg (N := 5) ?hd (cs := #[.int .i64 a1_0, .int .i64 a1_1, .int .u32 a1_2, .int .u32 a1_3, .int .u64 a1_4, .string a1_5]) (t := 27) ?hr ?_; (case hd => rfl); (case hg => rfl); (case hr => first | (go_simp; done) | (go_simp; rfl)); intro gb hg_ w1 hb hbel; have n0_ := Aside0.mk (below_step HB.out hbel); have BK := Aside0.mk hb; clear HB; have HB := n0_; clear n0_ hg_ hb hbel; have hc0 : w1.cell? ⟨gb, 0, none⟩ = some (.int .i64 a1_0) := (blk_cell BK.out 0).trans rfl; have hc1 : w1.cell? ⟨gb, 1, none⟩ = some (.int .i64 a1_1) := (blk_cell BK.out 1).trans rfl; have hc2 : w1.cell? ⟨gb, 2, none⟩ = some (.int .u32 a1_2) := (blk_cell BK.out 2).trans rfl; have hc3 : w1.cell? ⟨gb, 3, none⟩ = some (.int .u32 a1_3) := (blk_cell BK.out 3).trans rfl; have hc4 : w1.cell? ⟨gb, 4, none⟩ = some (.int .u64 a1_4) := (blk_cell BK.out 4).trans rfl; have hc5 : w1.cell? ⟨gb, 5, none⟩ = some (.string a1_5) := (blk_cell BK.out 5).trans rfl; have hf0 := blk_frozen BK.out 0; have hf1 := blk_frozen BK.out 1; have hf2 := blk_frozen BK.out 2; have hf3 := blk_frozen BK.out 3; have hf4 := blk_frozen BK.out 4; have hf5 := blk_frozen BK.out 5) | (go_at_call 16; (with_reducible refine (careenagelaw04_lives.calls 300 true _ P0.out).mono ?_); rintro e w2 ⟨rfl, hb⟩; have n0_ := Aside0.mk (blk_below BK.out hb); have n1_ := Aside0.mk (below_step HB.out hb); clear hc0 hf0 hc1 hf1 hc2 hf2 hc3 hf3 hc4 hf4 hc5 hf5; clear BK HB hb; have BK := n0_; have HB := n1_; clear n0_ n1_; have hc0 : w2.cell? ⟨gb, 0, none⟩ = some (.int .i64 a1_0) := (blk_cell BK.out 0).trans rfl; have hc1 : w2.cell? ⟨gb, 1, none⟩ = some (.int .i64 a1_1) := (blk_cell BK.out 1).trans rfl; have hc2 : w2.cell? ⟨gb, 2, none⟩ = some (.int .u32 a1_2) := (blk_cell BK.out 2).trans rfl; have hc3 : w2.cell? ⟨gb, 3, none⟩ = some (.int .u32 a1_3) := (blk_cell BK.out 3).trans rfl; have hc4 : w2.cell? ⟨gb, 4, none⟩ = some (.int .u64 a1_4) := (blk_cell BK.out 4).trans rfl; have hc5 : w2.cell? ⟨gb, 5, none⟩ = some (.string a1_5) := (blk_cell BK.out 5).trans rfl; have hf0 := blk_frozen BK.out 0; have hf1 := blk_frozen BK.out 1; have hf2 := blk_frozen BK.out 2; have hf3 := blk_frozen BK.out 3; have hf4 := blk_frozen BK.out 4; have hf5 := blk_frozen BK.out 5))
    all_goals (go_ret; exact ⟨rfl, HB.out⟩)
  have c3b : ((bits : Int) == 0) = false := beq_eq_false_iff_ne.mpr c3
  obtain ⟨s, e, hput, hp⟩ := hp (by omega) c3
  have PP := Aside0.mk hput
  clear hput c3
  by_cases c4 : e = 0
  case neg =>
    have c4a : (e != 0) = true := bne_iff_ne.mpr c4
    have c4b : (e == 0) = false := beq_eq_false_iff_ne.mpr c4
    clear hp c1 c4
    go_enter Try.func4, Try.ntmps4
    go_wp2_with (first | ((with_reducible refine gate_dst (N := 5) rfl ?_); refine box_event ?hg (N := 5) ?hd (cs := #[.int .i64 a1_0, .int .i64 a1_1, .int .u32 a1_2, .int .u32 a1_3, .int .u64 a1_4, .string a1_5]) (t := 27) ?hr ?_; (case hd => rfl); (case hg => rfl); (case hr => first | (go_simp; done) | (go_simp; rfl)); intro gb hg_ w1 hb hbel; have n0_ := Aside0.mk (below_step HB.out hbel); have BK := Aside0.mk hb; clear HB; have HB := n0_; clear n0_ hg_ hb hbel; have hc0 : w1.cell? ⟨gb, 0, none⟩ = some (.int .i64 a1_0) := (blk_cell BK.out 0).trans rfl; have hc1 : w1.cell? ⟨gb, 1, none⟩ = some (.int .i64 a1_1) := (blk_cell BK.out 1).trans rfl; have hc2 : w1.cell? ⟨gb, 2, none⟩ = some (.int .u32 a1_2) := (blk_cell BK.out 2).trans rfl; have hc3 : w1.cell? ⟨gb, 3, none⟩ = some (.int .u32 a1_3) := (blk_cell BK.out 3).trans rfl; have hc4 : w1.cell? ⟨gb, 4, none⟩ = some (.int .u64 a1_4) := (blk_cell BK.out 4).trans rfl; have hc5 : w1.cell? ⟨gb, 5, none⟩ = some (.string a1_5) := (blk_cell BK.out 5).trans rfl; have hf0 := blk_frozen BK.out 0; have hf1 := blk_frozen BK.out 1; have hf2 := blk_frozen BK.out 2; have hf3 := blk_frozen BK.out 3; have hf4 := blk_frozen BK.out 4; have hf5 := blk_frozen BK.out 5) | (go_at_call 16; (with_reducible refine (careenagelaw04_lives.calls 300 true _ P0.out).mono ?_); rintro e w2 ⟨rfl, hb⟩; have n0_ := Aside0.mk (blk_below BK.out hb); have n1_ := Aside0.mk (below_step HB.out hb); clear hc0 hf0 hc1 hf1 hc2 hf2 hc3 hf3 hc4 hf4 hc5 hf5; clear BK HB hb; have BK := n0_; have HB := n1_; clear n0_ n1_; have hc0 : w2.cell? ⟨gb, 0, none⟩ = some (.int .i64 a1_0) := (blk_cell BK.out 0).trans rfl; have hc1 : w2.cell? ⟨gb, 1, none⟩ = some (.int .i64 a1_1) := (blk_cell BK.out 1).trans rfl; have hc2 : w2.cell? ⟨gb, 2, none⟩ = some (.int .u32 a1_2) := (blk_cell BK.out 2).trans rfl; have hc3 : w2.cell? ⟨gb, 3, none⟩ = some (.int .u32 a1_3) := (blk_cell BK.out 3).trans rfl; have hc4 : w2.cell? ⟨gb, 4, none⟩ = some (.int .u64 a1_4) := (blk_cell BK.out 4).trans rfl; have hc5 : w2.cell? ⟨gb, 5, none⟩ = some (.string a1_5) := (blk_cell BK.out 5).trans rfl; have hf0 := blk_frozen BK.out 0; have hf1 := blk_frozen BK.out 1; have hf2 := blk_frozen BK.out 2; have hf3 := blk_frozen BK.out 3; have hf4 := blk_frozen BK.out 4; have hf5 := blk_frozen BK.out 5) | (go_at_call 17; (with_reducible refine (frame_Put.calls a0 a1_0 a1_1 a1_2 a1_3 a1_4 a1_5 s e _ PP.out).mono ?_); rintro e w3 ⟨rfl, hb⟩; have n0_ := Aside0.mk (blk_below BK.out hb); have n1_ := Aside0.mk (below_step HB.out hb); clear hc0 hf0 hc1 hf1 hc2 hf2 hc3 hf3 hc4 hf4 hc5 hf5; clear BK HB hb; have BK := n0_; have HB := n1_; clear n0_ n1_; have hc0 : w3.cell? ⟨gb, 0, none⟩ = some (.int .i64 a1_0) := (blk_cell BK.out 0).trans rfl; have hc1 : w3.cell? ⟨gb, 1, none⟩ = some (.int .i64 a1_1) := (blk_cell BK.out 1).trans rfl; have hc2 : w3.cell? ⟨gb, 2, none⟩ = some (.int .u32 a1_2) := (blk_cell BK.out 2).trans rfl; have hc3 : w3.cell? ⟨gb, 3, none⟩ = some (.int .u32 a1_3) := (blk_cell BK.out 3).trans rfl; have hc4 : w3.cell? ⟨gb, 4, none⟩ = some (.int .u64 a1_4) := (blk_cell BK.out 4).trans rfl; have hc5 : w3.cell? ⟨gb, 5, none⟩ = some (.string a1_5) := (blk_cell BK.out 5).trans rfl; have hf0 := blk_frozen BK.out 0; have hf1 := blk_frozen BK.out 1; have hf2 := blk_frozen BK.out 2; have hf3 := blk_frozen BK.out 3; have hf4 := blk_frozen BK.out 4; have hf5 := blk_frozen BK.out 5))
    all_goals (go_ret; exact ⟨rfl, HB.out⟩)
  subst c4
  obtain ⟨hs0, hs5, r, hpick, hr, hrows, hget⟩ := hp rfl
  rw [Int.toNat_natCast] at hrows hget
  have PR := Aside0.mk hpick
  have S0 := Aside0.mk hs0
  have PRW := Aside0.mk hrows
  have PG := Aside0.mk hget
  clear hpick hrows hget hp c1
  have hw8 : wrap64 (wrap64 (8 * (s.size : Int)) - 31) = 8 * (s.size : Int) - 31 := by unfold wrap64; omega
  have hw9 : wrap64 (8 * (s.size : Int)) = 8 * (s.size : Int) := by unfold wrap64; omega
  have hw10 : wrap64 (8 * (s.size : Int) - 31) = 8 * (s.size : Int) - 31 := by unfold wrap64; omega
  go_enter Try.func4, Try.ntmps4
  go_wp2_with (first | ((with_reducible refine gate_dst (N := 5) rfl ?_); refine box_event ?hg (N := 5) ?hd (cs := #[.int .i64 a1_0, .int .i64 a1_1, .int .u32 a1_2, .int .u32 a1_3, .int .u64 a1_4, .string a1_5]) (t := 27) ?hr ?_; (case hd => rfl); (case hg => rfl); (case hr => first | (go_simp; done) | (go_simp; rfl)); intro gb hg_ w1 hb hbel; have n0_ := Aside0.mk (below_step HB.out hbel); have BK := Aside0.mk hb; clear HB; have HB := n0_; clear n0_ hg_ hb hbel; have hc0 : w1.cell? ⟨gb, 0, none⟩ = some (.int .i64 a1_0) := (blk_cell BK.out 0).trans rfl; have hc1 : w1.cell? ⟨gb, 1, none⟩ = some (.int .i64 a1_1) := (blk_cell BK.out 1).trans rfl; have hc2 : w1.cell? ⟨gb, 2, none⟩ = some (.int .u32 a1_2) := (blk_cell BK.out 2).trans rfl; have hc3 : w1.cell? ⟨gb, 3, none⟩ = some (.int .u32 a1_3) := (blk_cell BK.out 3).trans rfl; have hc4 : w1.cell? ⟨gb, 4, none⟩ = some (.int .u64 a1_4) := (blk_cell BK.out 4).trans rfl; have hc5 : w1.cell? ⟨gb, 5, none⟩ = some (.string a1_5) := (blk_cell BK.out 5).trans rfl; have hf0 := blk_frozen BK.out 0; have hf1 := blk_frozen BK.out 1; have hf2 := blk_frozen BK.out 2; have hf3 := blk_frozen BK.out 3; have hf4 := blk_frozen BK.out 4; have hf5 := blk_frozen BK.out 5) | (go_at_call 16; (with_reducible refine (careenagelaw04_lives.calls 300 true _ P0.out).mono ?_); rintro e w2 ⟨rfl, hb⟩; have n0_ := Aside0.mk (blk_below BK.out hb); have n1_ := Aside0.mk (below_step HB.out hb); clear hc0 hf0 hc1 hf1 hc2 hf2 hc3 hf3 hc4 hf4 hc5 hf5; clear BK HB hb; have BK := n0_; have HB := n1_; clear n0_ n1_; have hc0 : w2.cell? ⟨gb, 0, none⟩ = some (.int .i64 a1_0) := (blk_cell BK.out 0).trans rfl; have hc1 : w2.cell? ⟨gb, 1, none⟩ = some (.int .i64 a1_1) := (blk_cell BK.out 1).trans rfl; have hc2 : w2.cell? ⟨gb, 2, none⟩ = some (.int .u32 a1_2) := (blk_cell BK.out 2).trans rfl; have hc3 : w2.cell? ⟨gb, 3, none⟩ = some (.int .u32 a1_3) := (blk_cell BK.out 3).trans rfl; have hc4 : w2.cell? ⟨gb, 4, none⟩ = some (.int .u64 a1_4) := (blk_cell BK.out 4).trans rfl; have hc5 : w2.cell? ⟨gb, 5, none⟩ = some (.string a1_5) := (blk_cell BK.out 5).trans rfl; have hf0 := blk_frozen BK.out 0; have hf1 := blk_frozen BK.out 1; have hf2 := blk_frozen BK.out 2; have hf3 := blk_frozen BK.out 3; have hf4 := blk_frozen BK.out 4; have hf5 := blk_frozen BK.out 5) | (go_at_call 17; (with_reducible refine (frame_Put.calls a0 a1_0 a1_1 a1_2 a1_3 a1_4 a1_5 s 0 _ PP.out).mono ?_); rintro e w3 ⟨rfl, hb⟩; have n0_ := Aside0.mk (blk_below BK.out hb); have n1_ := Aside0.mk (below_step HB.out hb); clear hc0 hf0 hc1 hf1 hc2 hf2 hc3 hf3 hc4 hf4 hc5 hf5; clear BK HB hb; have BK := n0_; have HB := n1_; clear n0_ n1_; have hc0 : w3.cell? ⟨gb, 0, none⟩ = some (.int .i64 a1_0) := (blk_cell BK.out 0).trans rfl; have hc1 : w3.cell? ⟨gb, 1, none⟩ = some (.int .i64 a1_1) := (blk_cell BK.out 1).trans rfl; have hc2 : w3.cell? ⟨gb, 2, none⟩ = some (.int .u32 a1_2) := (blk_cell BK.out 2).trans rfl; have hc3 : w3.cell? ⟨gb, 3, none⟩ = some (.int .u32 a1_3) := (blk_cell BK.out 3).trans rfl; have hc4 : w3.cell? ⟨gb, 4, none⟩ = some (.int .u64 a1_4) := (blk_cell BK.out 4).trans rfl; have hc5 : w3.cell? ⟨gb, 5, none⟩ = some (.string a1_5) := (blk_cell BK.out 5).trans rfl; have hf0 := blk_frozen BK.out 0; have hf1 := blk_frozen BK.out 1; have hf2 := blk_frozen BK.out 2; have hf3 := blk_frozen BK.out 3; have hf4 := blk_frozen BK.out 4; have hf5 := blk_frozen BK.out 5) | (go_at_call 18; (with_reducible refine (careenagekit_Pick.calls a2 _ _ _ PR.out).mono ?_); rintro e w4 ⟨rfl, hd⟩; have hb : Below w3.heap.size w3 w4 := (by obtain ⟨nd, rfl⟩ := hd; exact pw_below_drewN (Below.refl _ _) nd); clear hd; have n0_ := Aside0.mk (blk_below BK.out hb); have n1_ := Aside0.mk (below_step HB.out hb); clear hc0 hf0 hc1 hf1 hc2 hf2 hc3 hf3 hc4 hf4 hc5 hf5; clear BK HB hb; have BK := n0_; have HB := n1_; clear n0_ n1_; have hc0 : w4.cell? ⟨gb, 0, none⟩ = some (.int .i64 a1_0) := (blk_cell BK.out 0).trans rfl; have hc1 : w4.cell? ⟨gb, 1, none⟩ = some (.int .i64 a1_1) := (blk_cell BK.out 1).trans rfl; have hc2 : w4.cell? ⟨gb, 2, none⟩ = some (.int .u32 a1_2) := (blk_cell BK.out 2).trans rfl; have hc3 : w4.cell? ⟨gb, 3, none⟩ = some (.int .u32 a1_3) := (blk_cell BK.out 3).trans rfl; have hc4 : w4.cell? ⟨gb, 4, none⟩ = some (.int .u64 a1_4) := (blk_cell BK.out 4).trans rfl; have hc5 : w4.cell? ⟨gb, 5, none⟩ = some (.string a1_5) := (blk_cell BK.out 5).trans rfl; have hf0 := blk_frozen BK.out 0; have hf1 := blk_frozen BK.out 1; have hf2 := blk_frozen BK.out 2; have hf3 := blk_frozen BK.out 3; have hf4 := blk_frozen BK.out 4; have hf5 := blk_frozen BK.out 5) | ((with_reducible refine gate_dst (N := 42) rfl ?_); refine mk_event ?hg (N := 42) ?hd 9 39 5 (.tmp 41) ?ho s ?hx Try.underlying9 Try.underlying39 Try.underlying5 (Nat.le_trans S0.out (by decide)) ?_; (case hd => rfl); (case hg => rfl); (case ho => rfl); (case hx => rfl); intro g cc hg w5 hmk hb; have HM := Aside0.mk hmk; have HG := Aside0.mk (by rw [hg]; exact HB.out.size : w.heap.size ≤ g); have NG := Aside0.mk (by rw [hg]; exact Nat.ne_of_lt (blk_lt BK.out) : gb ≠ g); have n0_ := Aside0.mk (blk_below BK.out hb); have n1_ := Aside0.mk (below_step HB.out hb); clear hc0 hf0 hc1 hf1 hc2 hf2 hc3 hf3 hc4 hf4 hc5 hf5; clear BK HB hb; have BK := n0_; have HB := n1_; clear n0_ n1_; have hc0 : w5.cell? ⟨gb, 0, none⟩ = some (.int .i64 a1_0) := (blk_cell BK.out 0).trans rfl; have hc1 : w5.cell? ⟨gb, 1, none⟩ = some (.int .i64 a1_1) := (blk_cell BK.out 1).trans rfl; have hc2 : w5.cell? ⟨gb, 2, none⟩ = some (.int .u32 a1_2) := (blk_cell BK.out 2).trans rfl; have hc3 : w5.cell? ⟨gb, 3, none⟩ = some (.int .u32 a1_3) := (blk_cell BK.out 3).trans rfl; have hc4 : w5.cell? ⟨gb, 4, none⟩ = some (.int .u64 a1_4) := (blk_cell BK.out 4).trans rfl; have hc5 : w5.cell? ⟨gb, 5, none⟩ = some (.string a1_5) := (blk_cell BK.out 5).trans rfl; have hf0 := blk_frozen BK.out 0; have hf1 := blk_frozen BK.out 1; have hf2 := blk_frozen BK.out 2; have hf3 := blk_frozen BK.out 3; have hf4 := blk_frozen BK.out 4; have hf5 := blk_frozen BK.out 5; clear hmk hg))
  go_loopg [12, 13, 14] 32 (fun kq v12 v13 v14 w' => ∃ m ca cb : Nat, v12 = .int .i64 (ca : Int) ∧ v13 = .int .i64 (cb : Int) ∧ v14 = .int .i64 (m : Int) ∧ Aside0 (ca = cntA r bits m) ∧ Aside0 (cb = cntB r bits m) ∧ Aside0 (kq + m = 32) ∧ Aside0 (Below w.heap.size w w') ∧ Aside0 (MkRow w' g 5 (burstRows r bits m (B s))) ∧ Aside0 (w'.heap[gb]? = some (.cells #[.int .i64 a1_0, .int .i64 a1_1, .int .u32 a1_2, .int .u32 a1_3, .int .u64 a1_4, .string a1_5] 27 (0, 0))))
  case atStart => exact ⟨0, 0, 0, rfl, rfl, rfl, ⟨rfl⟩, ⟨rfl⟩, ⟨rfl⟩, HB, HM, BK⟩
  case round =>
    clear hc0 hf0 hc1 hf1 hc2 hf2 hc3 hf3 hc4 hf4 hc5 hf5
    clear HB HM BK
    obtain ⟨m, ca, cb, rfl, rfl, rfl, HA1, HA2, HK, HB, HM, BK⟩ := hrel
    by_cases hm : m < 32
    · have d1 : decide ((m : Int) < 32) = true := decide_eq_true (by omega)
      cases gk with
      | zero => have := HK.out; omega
      | succ k1 =>
      obtain ⟨hxB, hxl⟩ := PRW.out m (by omega)
      have hnx : burstRows r bits (m + 1) (B s) = burstRow r bits m (burstRows r bits m (B s)) := rfl
      obtain ⟨xs, hxs⟩ : ∃ xs, xs = burstRows r bits m (B s) := ⟨_, rfl⟩
      rw [← hxs] at hxB hxl hnx HM
      clear hxs
      have hj : (r + m) / 8 < xs.length := by omega
      have hcell := mk_cell HM.out _ hj
      have hfro := mk_frozen HM.out _ hj
      have hxr : 0 ≤ xs.getD ((r + m) / 8) 0 ∧ xs.getD ((r + m) / 8) 0 < 256 := hxB _ (by rw [List.getD_eq_getElem?_getD, List.getElem?_eq_getElem hj]; exact List.getElem_mem hj)
      obtain ⟨x, hx⟩ := Int.eq_ofNat_of_zero_le hxr.1
      rw [hx] at hcell
      have hxn : x < 256 := by omega
      have hbitn : Go.bits .and .u32 ((bits : Int) / 2 ^ m) 1 = ((bits / 2 ^ m % 2 : Nat) : Int) := bit_at bits m HBITS.out
      have hmk : k1 < k1 + 1 := Nat.lt_succ_self k1
      have hmeas : k1 + (m + 1) = 32 := by rw [← HK.out, Nat.add_assoc, Nat.add_comm 1 m]
      have hla : ca ≤ 32 := by have := cntA_le r bits m; have := HA1.out; omega
      have hlb : cb ≤ 32 := by have := cntB_le r bits m; have := HA2.out; omega
      have hwa : wrap64 ((ca : Int) + 1) = (ca : Int) + 1 := by unfold wrap64; omega
      have hwb : wrap64 ((cb : Int) + 1) = (cb : Int) + 1 := by unfold wrap64; omega
      by_cases hbit : bits / 2 ^ m % 2 = 1
      · have hd : (Go.bits .and .u32 ((bits : Int) / 2 ^ m) 1 == 1) = true := by rw [hbitn, hbit]; rfl
        have hmset := mk_set HM.out ((r + m) / 8) ((x ^^^ 2 ^ ((r + m) % 8) : Nat) : Int)
        have hn2 : burstRow r bits m xs = xs.set ((r + m) / 8) ((x ^^^ 2 ^ ((r + m) % 8) : Nat) : Int) := by
          unfold burstRow
          rw [if_pos hbit, hx, Int.toNat_natCast]
        rw [← hn2, ← hnx] at hmset
        have HMS := Aside0.mk hmset
        have HMB := Aside0.mk (below_set (j := (r + m) / 8) (v := .int .u8 ((x ^^^ 2 ^ ((r + m) % 8) : Nat) : Int)) HB.out HG.out)
        have BKS := Aside0.mk (blk_far BK.out NG.out (p := ⟨g, (r + m) / 8, none⟩) (.int .u8 ((x ^^^ 2 ^ ((r + m) % 8) : Nat) : Int)))
        clear hx hn2 hnx hbitn hmset
        have hval := xor_at x ((r + m) % 8) hxn (Nat.mod_lt _ (by decide))
        by_cases hh : r + m < 32
        · have hhb : decide ((r : Int) + (m : Int) < 32) = true := decide_eq_true (by omega)
          go_wp2
          go_roundg k1
          case measure => exact hmk
          case rel => exact ⟨m + 1, ca + 1, cb, by (first | (simp; done) | (rw [hwa]; simp; done) | (simp [hwa]; done)), rfl, by simp, ⟨by rw [cntA, if_pos ⟨hbit, hh⟩, HA1.out]⟩, ⟨by rw [cntB, if_neg (fun z => z.2 hh)]; exact HA2.out⟩, ⟨hmeas⟩, HMB, HMS, BKS⟩
        · have hhb : decide ((r : Int) + (m : Int) < 32) = false := decide_eq_false (by omega)
          go_wp2
          go_roundg k1
          case measure => exact hmk
          case rel => exact ⟨m + 1, ca, cb + 1, rfl, by (first | (simp; done) | (rw [hwb]; simp; done) | (simp [hwb]; done)), by simp, ⟨by rw [cntA, if_neg (fun z => hh z.2)]; exact HA1.out⟩, ⟨by rw [cntB, if_pos ⟨hbit, hh⟩, HA2.out]⟩, ⟨hmeas⟩, HMB, HMS, BKS⟩
      · have hb0 : bits / 2 ^ m % 2 = 0 := by have := Nat.mod_two_eq_zero_or_one (bits / 2 ^ m); omega
        have hd : (Go.bits .and .u32 ((bits : Int) / 2 ^ m) 1 == 1) = false := by rw [hbitn, hb0]; rfl
        have hn2 : burstRows r bits (m + 1) (B s) = xs := by
          rw [hnx]
          unfold burstRow
          rw [if_neg hbit]
        go_wp2
        go_roundg k1
        case measure => exact hmk
        case rel => exact ⟨m + 1, ca, cb, rfl, rfl, by simp, ⟨by rw [cntA, if_neg (fun z => hbit z.1)]; exact HA1.out⟩, ⟨by rw [cntB, if_neg (fun z => hbit z.1)]; exact HA2.out⟩, ⟨hmeas⟩, HB, by rw [hn2]; exact HM, BK⟩
    · have hm32 : m = 32 := by have := HK.out; omega
      subst hm32
      have d1 : decide (((32 : Nat) : Int) < 32) = false := by decide
      have hlen := (PRW.out 32 (by decide)).2
      have hstr := mk_string (P := Try.prog) (c := cc) Try.underlying39 Try.underlying5 Try.underlying9 HM.out
      rw [hlen] at hstr
      clear hlen
      have hc0 : wr.cell? ⟨gb, 0, none⟩ = some (.int .i64 a1_0) := (blk_cell BK.out 0).trans rfl
      have hc1 : wr.cell? ⟨gb, 1, none⟩ = some (.int .i64 a1_1) := (blk_cell BK.out 1).trans rfl
      have hc2 : wr.cell? ⟨gb, 2, none⟩ = some (.int .u32 a1_2) := (blk_cell BK.out 2).trans rfl
      have hc3 : wr.cell? ⟨gb, 3, none⟩ = some (.int .u32 a1_3) := (blk_cell BK.out 3).trans rfl
      have hc4 : wr.cell? ⟨gb, 4, none⟩ = some (.int .u64 a1_4) := (blk_cell BK.out 4).trans rfl
      have hc5 : wr.cell? ⟨gb, 5, none⟩ = some (.string a1_5) := (blk_cell BK.out 5).trans rfl
      have hf0 := blk_frozen BK.out 0
      have hf1 := blk_frozen BK.out 1
      have hf2 := blk_frozen BK.out 2
      have hf3 := blk_frozen BK.out 3
      have hf4 := blk_frozen BK.out 4
      have hf5 := blk_frozen BK.out 5
      by_cases e1 : 0 < ca
      · have e1b : decide ((0 : Int) < (ca : Int)) = true := decide_eq_true (by omega)
        by_cases e2 : 0 < cb
        · have e2b : decide ((0 : Int) < (cb : Int)) = true := decide_eq_true (by omega)
          go_wp2
          go_ret
          exact ⟨rfl, HB.out⟩
        · have e2b : decide ((0 : Int) < (cb : Int)) = false := decide_eq_false (by omega)
          obtain ⟨q1, q2, q3, q4, q5, q6, hq⟩ := PG.out (fun z => e2 (by rw [HA2.out]; exact z.2))
          have GQ := Aside0.mk hq
          clear hq
          go_wp2_with (first | (go_at_call 19; (with_reducible refine (frame_Get.calls a0 a1_2 _ q1 q2 q3 q4 q5 q6 4 _ GQ.out).mono ?_); rintro e w6 ⟨rfl, hb⟩; have n0_ := Aside0.mk (blk_below BK.out hb); have n1_ := Aside0.mk (below_step HB.out hb); clear hc0 hf0 hc1 hf1 hc2 hf2 hc3 hf3 hc4 hf4 hc5 hf5; clear BK HB hb; have BK := n0_; have HB := n1_; clear n0_ n1_; have hc0 : w6.cell? ⟨gb, 0, none⟩ = some (.int .i64 a1_0) := (blk_cell BK.out 0).trans rfl; have hc1 : w6.cell? ⟨gb, 1, none⟩ = some (.int .i64 a1_1) := (blk_cell BK.out 1).trans rfl; have hc2 : w6.cell? ⟨gb, 2, none⟩ = some (.int .u32 a1_2) := (blk_cell BK.out 2).trans rfl; have hc3 : w6.cell? ⟨gb, 3, none⟩ = some (.int .u32 a1_3) := (blk_cell BK.out 3).trans rfl; have hc4 : w6.cell? ⟨gb, 4, none⟩ = some (.int .u64 a1_4) := (blk_cell BK.out 4).trans rfl; have hc5 : w6.cell? ⟨gb, 5, none⟩ = some (.string a1_5) := (blk_cell BK.out 5).trans rfl; have hf0 := blk_frozen BK.out 0; have hf1 := blk_frozen BK.out 1; have hf2 := blk_frozen BK.out 2; have hf3 := blk_frozen BK.out 3; have hf4 := blk_frozen BK.out 4; have hf5 := blk_frozen BK.out 5) | ((with_reducible refine gate_dst (N := 15) rfl ?_); refine box_event ?hg (N := 15) ?hd (cs := #[.int .i64 0, .int .i64 0, .int .u32 0, .int .u32 0, .int .u64 0, .string (⟨#[]⟩ : ByteArray)]) (t := 27) ?hr ?_; (case hd => rfl); (case hg => rfl); (case hr => first | (go_simp; done) | (go_simp; rfl)); intro gx hg_ w7 hb hbel; have BX := Aside0.mk hb; clear hc0 hf0 hc1 hf1 hc2 hf2 hc3 hf3 hc4 hf4 hc5 hf5; have n1_ := Aside0.mk (below_step HB.out hbel); have HGX := Aside0.mk (by rw [hg_]; exact HB.out.size : w.heap.size ≤ gx); clear HB BK hb hbel hg_; have HB := n1_; clear n1_; have hx0 : w7.cell? ⟨gx, 0, none⟩ = some (.int .i64 0) := (blk_cell BX.out 0).trans rfl; have hx1 : w7.cell? ⟨gx, 1, none⟩ = some (.int .i64 0) := (blk_cell BX.out 1).trans rfl; have hx2 : w7.cell? ⟨gx, 2, none⟩ = some (.int .u32 0) := (blk_cell BX.out 2).trans rfl; have hx3 : w7.cell? ⟨gx, 3, none⟩ = some (.int .u32 0) := (blk_cell BX.out 3).trans rfl; have hx4 : w7.cell? ⟨gx, 4, none⟩ = some (.int .u64 0) := (blk_cell BX.out 4).trans rfl; have hx5 : w7.cell? ⟨gx, 5, none⟩ = some (.string (⟨#[]⟩ : ByteArray)) := (blk_cell BX.out 5).trans rfl; have hy0 := blk_frozen BX.out 0; have hy1 := blk_frozen BX.out 1; have hy2 := blk_frozen BX.out 2; have hy3 := blk_frozen BX.out 3; have hy4 := blk_frozen BX.out 4; have hy5 := blk_frozen BX.out 5))
          go_ret
          exact ⟨rfl, by repeat (first | exact HB.out | refine below_set ?_ HGX.out)⟩
      · have e1b : decide ((0 : Int) < (ca : Int)) = false := decide_eq_false (by omega)
        obtain ⟨q1, q2, q3, q4, q5, q6, hq⟩ := PG.out (fun z => e1 (by rw [HA1.out]; exact z.1))
        have GQ := Aside0.mk hq
        clear hq
        go_wp2_with (first | (go_at_call 19; (with_reducible refine (frame_Get.calls a0 a1_2 _ q1 q2 q3 q4 q5 q6 4 _ GQ.out).mono ?_); rintro e w6 ⟨rfl, hb⟩; have n0_ := Aside0.mk (blk_below BK.out hb); have n1_ := Aside0.mk (below_step HB.out hb); clear hc0 hf0 hc1 hf1 hc2 hf2 hc3 hf3 hc4 hf4 hc5 hf5; clear BK HB hb; have BK := n0_; have HB := n1_; clear n0_ n1_; have hc0 : w6.cell? ⟨gb, 0, none⟩ = some (.int .i64 a1_0) := (blk_cell BK.out 0).trans rfl; have hc1 : w6.cell? ⟨gb, 1, none⟩ = some (.int .i64 a1_1) := (blk_cell BK.out 1).trans rfl; have hc2 : w6.cell? ⟨gb, 2, none⟩ = some (.int .u32 a1_2) := (blk_cell BK.out 2).trans rfl; have hc3 : w6.cell? ⟨gb, 3, none⟩ = some (.int .u32 a1_3) := (blk_cell BK.out 3).trans rfl; have hc4 : w6.cell? ⟨gb, 4, none⟩ = some (.int .u64 a1_4) := (blk_cell BK.out 4).trans rfl; have hc5 : w6.cell? ⟨gb, 5, none⟩ = some (.string a1_5) := (blk_cell BK.out 5).trans rfl; have hf0 := blk_frozen BK.out 0; have hf1 := blk_frozen BK.out 1; have hf2 := blk_frozen BK.out 2; have hf3 := blk_frozen BK.out 3; have hf4 := blk_frozen BK.out 4; have hf5 := blk_frozen BK.out 5) | ((with_reducible refine gate_dst (N := 15) rfl ?_); refine box_event ?hg (N := 15) ?hd (cs := #[.int .i64 0, .int .i64 0, .int .u32 0, .int .u32 0, .int .u64 0, .string (⟨#[]⟩ : ByteArray)]) (t := 27) ?hr ?_; (case hd => rfl); (case hg => rfl); (case hr => first | (go_simp; done) | (go_simp; rfl)); intro gx hg_ w7 hb hbel; have BX := Aside0.mk hb; clear hc0 hf0 hc1 hf1 hc2 hf2 hc3 hf3 hc4 hf4 hc5 hf5; have n1_ := Aside0.mk (below_step HB.out hbel); have HGX := Aside0.mk (by rw [hg_]; exact HB.out.size : w.heap.size ≤ gx); clear HB BK hb hbel hg_; have HB := n1_; clear n1_; have hx0 : w7.cell? ⟨gx, 0, none⟩ = some (.int .i64 0) := (blk_cell BX.out 0).trans rfl; have hx1 : w7.cell? ⟨gx, 1, none⟩ = some (.int .i64 0) := (blk_cell BX.out 1).trans rfl; have hx2 : w7.cell? ⟨gx, 2, none⟩ = some (.int .u32 0) := (blk_cell BX.out 2).trans rfl; have hx3 : w7.cell? ⟨gx, 3, none⟩ = some (.int .u32 0) := (blk_cell BX.out 3).trans rfl; have hx4 : w7.cell? ⟨gx, 4, none⟩ = some (.int .u64 0) := (blk_cell BX.out 4).trans rfl; have hx5 : w7.cell? ⟨gx, 5, none⟩ = some (.string (⟨#[]⟩ : ByteArray)) := (blk_cell BX.out 5).trans rfl; have hy0 := blk_frozen BX.out 0; have hy1 := blk_frozen BX.out 1; have hy2 := blk_frozen BX.out 2; have hy3 := blk_frozen BX.out 3; have hy4 := blk_frozen BX.out 4; have hy5 := blk_frozen BX.out 5))
        go_ret
        exact ⟨rfl, by repeat (first | exact HB.out | refine below_set ?_ HGX.out)⟩
end Go.Proofs.Ytlnmdfffmflhgaa.P

namespace Go.Proofs.Ytlnmdfffmflhgaa.P
open Go.RowKit Go.Proofs.YtlnmdfffmflhgaaW.PrintWords Go.Proofs.YtlnmdfffmflhgaaW.PrintLast Go.Proofs.YtlnmdfffmflhgaaW.PrintMore
attribute [local go_sem] max2_int min2_int max_two min_two max_three min_three max_four min_four   -- for this text's walks alone
open Go.Proofs.YtlnmdfffmflhgaaO
attribute [local go_sem] min2_str max2_str
set_option linter.unusedVariables false
set_option linter.unusedSimpArgs false
/-! ### careenageref03_Good: function 58 -/
def careenageref03_Good.f (a0 : Int) : Option (Bool) := if a0 ≥ 128 then (if a0 ≤ 4096 then (some ((Int.tmod a0 64) == 0)) else (some false)) else (some false)
end Go.Proofs.Ytlnmdfffmflhgaa.P

namespace Go.Proofs.Ytlnmdfffmflhgaa.P
open Go.RowKit Go.Proofs.YtlnmdfffmflhgaaW.PrintWords Go.Proofs.YtlnmdfffmflhgaaW.PrintLast Go.Proofs.YtlnmdfffmflhgaaW.PrintMore
attribute [local go_sem] max2_int min2_int max_two min_two max_three min_three max_four min_four   -- for this text's walks alone
open Go.Proofs.YtlnmdfffmflhgaaO
attribute [local go_sem] min2_str max2_str
set_option linter.unusedVariables false
set_option linter.unusedSimpArgs false
/-! ### careenageref04_Room: function 66 -/
def careenageref04_Room.f (a0 : Int) : Option (Int) := (careenageref03_Good.f a0).bind fun t406 => (if t406 = true then (some (wrap64 (a0 - 24))) else (some 0))
end Go.Proofs.Ytlnmdfffmflhgaa.P

namespace Go.Proofs.Ytlnmdfffmflhgaa.P
open Go.RowKit Go.Proofs.YtlnmdfffmflhgaaW.PrintWords Go.Proofs.YtlnmdfffmflhgaaW.PrintLast Go.Proofs.YtlnmdfffmflhgaaW.PrintMore
attribute [local go_sem] max2_int min2_int max_two min_two max_three min_three max_four min_four   -- for this text's walks alone
open Go.Proofs.YtlnmdfffmflhgaaO
attribute [local go_sem] min2_str max2_str
set_option linter.unusedVariables false
set_option linter.unusedSimpArgs false
/-! ### careenageref04_Body: function 54 -/
def careenageref04_Body.f (a0 : Int) (l1 : List Int) : Option (ByteArray × Int) := (careenageref03_Good.f a0).bind fun t407 => (if t407 = true then ((careenageref04_Room.f a0).bind fun t408 => (if (l1.length : Int) > t408 then (some ((⟨#[]⟩ : ByteArray), 3)) else ((careenageref04_Room.f a0).bind fun t409 => (if 0 ≤ (wrap64 (t409 - (l1.length : Int))) then (if (wrap64 (t409 - (l1.length : Int)) : Int).toNat ≤ 281474976710656 then ((some (List.replicate (wrap64 (t409 - (l1.length : Int)) : Int).toNat 0 : List Int)).bind fun y410 => (if (strOfNums l1).size + (strOfNums y410).size ≤ 9223372036854775807 then (some ((strOfNums l1) ++ (strOfNums y410), 0)) else (none))) else (none)) else (none))))) else (some ((⟨#[]⟩ : ByteArray), 2)))
end Go.Proofs.Ytlnmdfffmflhgaa.P

namespace Go.Proofs.Ytlnmdfffmflhgaa.P
open Go.RowKit Go.Proofs.YtlnmdfffmflhgaaW.PrintWords Go.Proofs.YtlnmdfffmflhgaaW.PrintLast Go.Proofs.YtlnmdfffmflhgaaW.PrintMore
attribute [local go_sem] max2_int min2_int max_two min_two max_three min_three max_four min_four   -- for this text's walks alone
open Go.Proofs.YtlnmdfffmflhgaaO
attribute [local go_sem] min2_str max2_str
set_option linter.unusedVariables false
set_option linter.unusedSimpArgs false
/-! ### frame_Body: function 21 (by hand) -/
/-- The bytes, and zeros behind them, as many as a page has room for. -/
def padded (m : Int) (l : List Int) : List Int := l.take (min l.length m.toNat) ++ (List.replicate m.toNat (0 : Int)).drop (min l.length m.toNat)
def frame_Body.f (a0 : Int) (l1 : List Int) : Option (ByteArray × Int) := (device_Good.f a0).bind fun g => if g = true then (frame_Room.f a0).bind fun m => (if m < (l1.length : Int) then some ((⟨#[]⟩ : ByteArray), 3) else if 0 ≤ m ∧ m ≤ 4096 then some (strOfNums (padded m l1), 0) else none) else some ((⟨#[]⟩ : ByteArray), 2)
end Go.Proofs.Ytlnmdfffmflhgaa.P

namespace Go.Proofs.Ytlnmdfffmflhgaa.Q
set_option linter.unusedVariables false
set_option linter.unusedSimpArgs false
open Go.RowKit Go.Proofs.Ytlnmdfffmflhgaa.P Go.Proofs.YtlnmdfffmflhgaaW.PrintWords Go.Proofs.YtlnmdfffmflhgaaW.PrintLast Go.Proofs.YtlnmdfffmflhgaaW.PrintMore Go.Proofs.YtlnmdfffmflhgaaO
/-- The sizes of pages. -/
def goodS (a : Int) : Bool := decide (128 ≤ a) && decide (a ≤ 4096) && (Int.tmod a 64 == 0)
def roomS (a : Int) : Int := if goodS a = true then a - 24 else 0
theorem roomS_range (a : Int) : 0 ≤ roomS a ∧ roomS a ≤ 4072 := by
  unfold roomS goodS
  split
  · rename_i h
    simp only [Bool.and_eq_true, decide_eq_true_eq, beq_iff_eq] at h
    omega
  · omega
theorem good_is (a : Int) : device_Good.f a = some (goodS a) := by
  unfold device_Good.f goodS
  by_cases h1 : a ≥ 128
  · by_cases h2 : a ≤ 4096
    · simp [h1, h2]
    · simp [h1, h2]
  · have h3 : ¬ (128 ≤ a) := by omega
    simp [h3]
theorem room_is (a : Int) : frame_Room.f a = some (roomS a) := by
  unfold frame_Room.f
  rw [good_is, bs]
  unfold roomS
  by_cases h : goodS a = true
  · rw [if_pos h, if_pos h]
    unfold goodS at h
    simp only [Bool.and_eq_true, decide_eq_true_eq, beq_iff_eq] at h
    congr 1
    unfold wrap64
    omega
  · rw [if_neg h, if_neg h]
end Go.Proofs.Ytlnmdfffmflhgaa.Q

namespace Go.Proofs.Ytlnmdfffmflhgaa.P
open Go.RowKit Go.Proofs.YtlnmdfffmflhgaaW.PrintWords Go.Proofs.YtlnmdfffmflhgaaW.PrintLast Go.Proofs.YtlnmdfffmflhgaaW.PrintMore
attribute [local go_sem] max2_int min2_int max_two min_two max_three min_three max_four min_four   -- for this text's walks alone
open Go.Proofs.YtlnmdfffmflhgaaO
attribute [local go_sem] min2_str max2_str
set_option linter.unusedVariables false
set_option linter.unusedSimpArgs false
/-! ### careenageref01_Put: function 53 -/
mutual
def careenageref01_Put.j0 : Nat → Int → Int → List Int → Bool → Option (List Int)
  | 0, _, _, _, _ => none
  | k + 1, x1, x2, x7, x17 => if x17 = true then (some x7) else (careenageref01_Put.l0 k x1 x2 x7 0)
def careenageref01_Put.l0 : Nat → Int → Int → List Int → Int → Option (List Int)
  | 0, _, _, _, _ => none
  | k + 1, x1, x2, x7, x8 => if x8 < x2 then (if 0 ≤ (IntKind.u64.wrap (wrap64 (8 * x8))) then (if x7.length < 140737488355328 then (careenageref01_Put.l0 k x1 x2 (x7 ++ [(shr .u64 x1 (IntKind.u64.wrap (wrap64 (8 * x8)))) % 256]) (wrap64 (x8 + 1))) else (none)) else (none)) else (some x7)
end
def careenageref01_Put.f (k : Nat) (l0 : List Int) (a1 : Int) (a2 : Int) : Option (List Int) := (some (([] : List Int) : List Int)).bind fun y397 => (if y397.length + l0.length < 140737488355328 then ((some (y397 ++ l0 : List Int)).bind fun y400 => (if a2 < 1 then (careenageref01_Put.j0 k a1 a2 y400 true) else (careenageref01_Put.j0 k a1 a2 y400 (decide (a2 > 8))))) else (none))
end Go.Proofs.Ytlnmdfffmflhgaa.P

namespace Go.Proofs.Ytlnmdfffmflhgaa.Q
set_option linter.unusedVariables false
set_option linter.unusedSimpArgs false
open Go.RowKit Go.Proofs.Ytlnmdfffmflhgaa.P Go.Proofs.YtlnmdfffmflhgaaW.PrintWords Go.Proofs.YtlnmdfffmflhgaaW.PrintLast Go.Proofs.YtlnmdfffmflhgaaW.PrintMore Go.Proofs.YtlnmdfffmflhgaaO
theorem w64 {x : Int} (h0 : -9223372036854775808 ≤ x) (h1 : x ≤ 9223372036854775807) : wrap64 x = x := by
  unfold wrap64
  omega
theorem u64w {x : Int} (h0 : 0 ≤ x) (h1 : x < 18446744073709551616) : IntKind.u64.wrap x = x := by
  rw [IntKind.wrap_u64]
  omega
theorem pow8 (i : Nat) : (2 : Int) ^ (8 * i) = 256 ^ i := by
  rw [Int.pow_mul]
  rfl
theorem pow256_le {i : Nat} (h : i ≤ 8) : (256 : Int) ^ i ≤ 18446744073709551616 := by
  have : i = 0 ∨ i = 1 ∨ i = 2 ∨ i = 3 ∨ i = 4 ∨ i = 5 ∨ i = 6 ∨ i = 7 ∨ i = 8 := by omega
  rcases this with rfl | rfl | rfl | rfl | rfl | rfl | rfl | rfl | rfl <;> decide
theorem shr_byte (n : Int) (i : Nat) (h : i ≤ 8) : shr .u64 n (8 * (i : Int)) = n / 256 ^ i := by
  unfold shr
  rw [show min (8 * (i : Int)).toNat IntKind.u64.bits = 8 * i by simp only [IntKind.bits]; omega, pow8]
theorem shl_byte (b : Int) (i : Nat) (h : i ≤ 7) (hb : 0 ≤ b ∧ b < 256) : shl .u64 b (8 * (i : Int)) = b * 256 ^ i := by
  unfold shl
  rw [show min (8 * (i : Int)).toNat IntKind.u64.bits = 8 * i by simp only [IntKind.bits]; omega, pow8]
  have h1 := pow256_le (i := i + 1) (by omega)
  rw [pow_succ256] at h1
  have h2 := pow_pos256 i
  refine u64w (Int.mul_nonneg hb.1 (Int.le_of_lt h2)) ?_
  have h3 : b * 256 ^ i ≤ 255 * 256 ^ i := Int.mul_le_mul_of_nonneg_right (by omega) (Int.le_of_lt h2)
  omega
theorem or_byte (v b : Int) (i : Nat) (h : i ≤ 7) (hv : 0 ≤ v ∧ v < 256 ^ i) (hb : 0 ≤ b ∧ b < 256) : Go.bits .or .u64 v (b * 256 ^ i) = v + b * 256 ^ i := by
  have h1 := pow256_le (i := i + 1) (by omega)
  rw [pow_succ256] at h1
  have h2 := pow_pos256 i
  have h3 : b * 256 ^ i ≤ 255 * 256 ^ i := Int.mul_le_mul_of_nonneg_right (by omega) (Int.le_of_lt h2)
  have h4 : 0 ≤ b * 256 ^ i := Int.mul_nonneg hb.1 (Int.le_of_lt h2)
  rw [u64_or _ _ hv.1 (by omega) h4 (by omega)]
  obtain ⟨v, rfl⟩ := Int.eq_ofNat_of_zero_le hv.1
  obtain ⟨b, rfl⟩ := Int.eq_ofNat_of_zero_le hb.1
  have e : ((b : Int) * 256 ^ i) = ((b * 256 ^ i : Nat) : Int) := by rw [Int.natCast_mul, Int.natCast_pow]; rfl
  have hv2 : v < 2 ^ (8 * i) := by
    have := hv.2
    rw [Nat.pow_mul]
    have e2 : ((256 : Int) ^ i) = (((2 ^ 8) ^ i : Nat) : Int) := by rw [Int.natCast_pow]; rfl
    rw [e2] at this
    exact Int.ofNat_lt.1 this
  rw [e, Int.toNat_natCast, Int.toNat_natCast, Nat.or_comm, nat_join (8 * i) (b * 256 ^ i) v (by rw [Nat.pow_mul]; exact Nat.mul_mod_left _ _) hv2]
  omega
theorem le_drop : ∀ (K i : Nat) (n : Int), i < K → (le n K).drop i = (n / 256 ^ i % 256) :: (le n K).drop (i + 1)
  | 0, i, n, h => by omega
  | K + 1, 0, n, h => by simp [le]
  | K + 1, i + 1, n, h => by
    simp only [le, List.drop_succ_cons]
    rw [le_drop K i _ (by omega), pow_succ256, Int.ediv_ediv_of_nonneg (by decide)]
theorem put_l0 (n : Int) (K : Nat) (hK : K ≤ 8) : ∀ (d k i : Nat) (x : List Int), i + d = K → d < k → x.length + d ≤ 140737488355327 → octet_Put.l0 k n x K i = some (x ++ (le n K).drop i)
  | 0, k + 1, i, x, h, _, _ => by
    simp only [octet_Put.l0]
    rw [if_neg (by omega), List.drop_eq_nil_of_le (by rw [le_length]; omega), List.append_nil]
  | d + 1, k + 1, i, x, h, hk, hl => by
    simp only [octet_Put.l0]
    have e1 : wrap64 (8 * (i : Int)) = 8 * (i : Int) := w64 (by omega) (by omega)
    have e2 : wrap64 ((i : Int) + 1) = ((i + 1 : Nat) : Int) := by rw [w64 (by omega) (by omega)]; rfl
    rw [if_pos (by omega), e1, if_pos (by omega), if_pos (by omega), shr_byte n i (by omega), e2,
      put_l0 n K hK d k (i + 1) _ (by omega) (by omega) (by simp; omega), le_drop K i n (by omega)]
    simp
/-- What Put answers. -/
def putL (l : List Int) (n K : Int) : List Int := if 1 ≤ K ∧ K ≤ 8 then l ++ le n K.toNat else l
theorem put_is (k : Nat) (l : List Int) (n K : Int) (hk : 12 ≤ k) (hl : l.length ≤ 140737488355000) : octet_Put.f k l n K = some (putL l n K) := by
  obtain ⟨k, rfl⟩ : ∃ m, k = m + 2 := ⟨k - 2, by omega⟩
  unfold octet_Put.f putL
  have e1 : wrap64 ((l.length : Int) + 8) = (l.length : Int) + 8 := w64 (by omega) (by omega)
  rw [e1, if_pos (by omega), if_pos (by omega)]
  simp only [bs, List.nil_append]
  rw [if_pos (by simp; omega)]
  by_cases h1 : K < 1
  · rw [if_pos h1, if_neg (by omega)]
    simp [octet_Put.j0]
  · rw [if_neg h1]
    by_cases h2 : K > 8
    · rw [if_neg (by omega)]
      simp [octet_Put.j0, h2]
    · rw [if_pos (by omega)]
      obtain ⟨K, rfl⟩ := Int.eq_ofNat_of_zero_le (show 0 ≤ K by omega)
      simp only [octet_Put.j0, h2, decide_false]
      rw [if_neg (by decide), show (0 : Int) = ((0 : Nat) : Int) from rfl, put_l0 n K (by omega) K (k + 1) 0 l (by omega) (by omega) (by omega)]
      simp
end Go.Proofs.Ytlnmdfffmflhgaa.Q

namespace Go.Proofs.Ytlnmdfffmflhgaa.Q
set_option linter.unusedVariables false
set_option linter.unusedSimpArgs false
open Go.RowKit Go.Proofs.Ytlnmdfffmflhgaa.P Go.Proofs.YtlnmdfffmflhgaaW.PrintWords Go.Proofs.YtlnmdfffmflhgaaW.PrintLast Go.Proofs.YtlnmdfffmflhgaaW.PrintMore Go.Proofs.YtlnmdfffmflhgaaO
theorem put4 (l : List Int) (n : Int) : putL l n 4 = l ++ le n 4 := by
  unfold putL
  rw [if_pos (by decide)]
  rfl
end Go.Proofs.Ytlnmdfffmflhgaa.Q

namespace Go.Proofs.Ytlnmdfffmflhgaa.Q
set_option linter.unusedVariables false
set_option linter.unusedSimpArgs false
open Go.RowKit Go.Proofs.Ytlnmdfffmflhgaa.P Go.Proofs.YtlnmdfffmflhgaaW.PrintWords Go.Proofs.YtlnmdfffmflhgaaW.PrintLast Go.Proofs.YtlnmdfffmflhgaaW.PrintMore Go.Proofs.YtlnmdfffmflhgaaO
theorem bt_get {s : ByteArray} {i : Nat} (h : i < (B s).length) : bt s (i : Int) = (B s)[i] := by rw [bt_B, rd_get h]
/-- What Number answers. -/
def numR (s : ByteArray) (n : Int) : Int × Int × ByteArray :=
  if n < 1 ∨ n > 8 then (0, 2, s) else if (s.size : Int) < n then (0, 7, s) else (ofLe ((B s).take n.toNat), 0, s.extract n.toNat s.size)
theorem ofLe_step {l : List Int} (hl : isB l) {i : Nat} (hi : i < l.length) (h8 : i ≤ 7) : Go.bits .or .u64 (ofLe (l.take i)) (shl .u64 (IntKind.u64.wrap l[i]) (8 * (i : Int))) = ofLe (l.take (i + 1)) := by
  have hb := hl l[i] (List.getElem_mem hi)
  have hv := ofLe_lt (isB_take hl i)
  rw [List.length_take, Nat.min_eq_left (by omega)] at hv
  rw [u64w hb.1 (by omega), shl_byte _ _ h8 hb, or_byte _ _ _ h8 ⟨ofLe_nonneg (isB_take hl i), hv⟩ hb, List.take_succ_eq_append_getElem hi, ofLe_snoc, List.length_take, Nat.min_eq_left (by omega)]
theorem num_l0 (s x : ByteArray) (e : Int) (hx : x.size ≤ 8) : ∀ (d k i : Nat), i + d = x.size → d < k → octet_Reader_Number.l0 k (ofLe ((B x).take i)) e x (x.size : Int) i s = some (ofLe (B x), e, s)
  | 0, k + 1, i, h, _ => by
    simp only [octet_Reader_Number.l0]
    rw [if_neg (by omega), List.take_of_length_le (by rw [B_length]; omega)]
  | d + 1, k + 1, i, h, hk => by
    have hi : i < (B x).length := by rw [B_length]; omega
    simp only [octet_Reader_Number.l0]
    rw [if_pos (by omega), if_pos (by omega), if_pos (by omega), w64 (x := 8 * (i : Int)) (by omega) (by omega), if_pos (by omega), bt_get hi, ofLe_step (isB_B x) hi (by omega), w64 (by omega) (by omega)]
    exact num_l0 s x e hx d k (i + 1) (by omega) (by omega)
theorem num_is (s : ByteArray) (n : Int) (k : Nat) (hk : 9 < k) : octet_Reader_Number.f k s n = some (numR s n) := by
  unfold octet_Reader_Number.f numR
  by_cases h1 : n < 1
  · rw [if_pos h1, if_pos (.inl h1)]
  · rw [if_neg h1]
    by_cases h2 : n > 8
    · rw [if_pos h2, if_pos (.inr h2)]
    · rw [if_neg h2, if_neg (by omega)]
      unfold octet_Reader_take.f
      by_cases h3 : n > (s.size : Int)
      · rw [if_pos h3, if_pos h3]
        simp only [bs]
        have := num_l0 s ⟨#[]⟩ 7 (by decide) 0 k 0 rfl (by omega)
        simpa [B_empty, ofLe] using this
      · rw [if_neg h3, if_neg h3, if_pos (by omega), if_pos (by omega)]
        simp only [bs]
        have hsz : (s.extract 0 n.toNat).size = n.toNat := by rw [ByteArray.size_extract]; omega
        have := num_l0 (s.extract n.toNat s.size) (s.extract 0 n.toNat) 0 (by omega) n.toNat k 0 (by omega) (by omega)
        rw [B_take] at this
        simpa [ofLe] using this
end Go.Proofs.Ytlnmdfffmflhgaa.Q

namespace Go.Proofs.Ytlnmdfffmflhgaa.P
open Go.RowKit Go.Proofs.YtlnmdfffmflhgaaW.PrintWords Go.Proofs.YtlnmdfffmflhgaaW.PrintLast Go.Proofs.YtlnmdfffmflhgaaW.PrintMore
attribute [local go_sem] max2_int min2_int max_two min_two max_three min_three max_four min_four   -- for this text's walks alone
open Go.Proofs.YtlnmdfffmflhgaaO
attribute [local go_sem] min2_str max2_str
set_option linter.unusedVariables false
set_option linter.unusedSimpArgs false
/-- A state of type 90 at block g of W; what its slices lead to came in by w0. -/
def IsS90 (w0 W : World) (g : Nat) (f0 : ByteArray) : Prop := W.heap[g]? = some (.cells #[.string f0] 90 (0, 0)) ∧ w0.heap.size ≤ g
theorem IsS90.drewN {w0 W : World} {g : Nat} {f0 : ByteArray} (h : IsS90 w0 W g f0) (m : Nat) : IsS90 w0 (W.drewN m) g f0 := h
theorem IsS90.at_ {w0 W : World} {g : Nat} {f0 : ByteArray} {w' : World} {m : Nat} (hq : W.drewN m = w') (h : IsS90 w0 W g f0) : IsS90 w0 w' g f0 := by subst hq; exact IsS90.drewN h m
theorem IsS90.apart {w0 W : World} {g : Nat} {f0 : ByteArray} {α : Type} {d : Kd α} {e : Nat} {base : Nat} {ok : Nat → Prop} {v : Value} {xs : List α} (h : IsS90 w0 W g f0) (ho : d.R e W base ok v xs) (ht : ∀ q, q ∈ e :: d.E → q ≠ 90) : d.R e W base (fun k => ok k ∧ k ≠ g) v xs := by
  obtain ⟨hb, hg⟩ := h
  exact Kd.R_types ho hb ht
/-! ### careenageref01_New: function 55 -/
def careenageref01_New.f (a0 : ByteArray) : Option (ByteArray) := some a0
end Go.Proofs.Ytlnmdfffmflhgaa.P

namespace Go.Proofs.Ytlnmdfffmflhgaa.P
open Go.RowKit Go.Proofs.YtlnmdfffmflhgaaW.PrintWords Go.Proofs.YtlnmdfffmflhgaaW.PrintLast Go.Proofs.YtlnmdfffmflhgaaW.PrintMore
attribute [local go_sem] max2_int min2_int max_two min_two max_three min_three max_four min_four   -- for this text's walks alone
open Go.Proofs.YtlnmdfffmflhgaaO
attribute [local go_sem] min2_str max2_str
set_option linter.unusedVariables false
set_option linter.unusedSimpArgs false
/-! ### careenageref01_Reader_Number: function 56 -/
mutual
def careenageref01_Reader_Number.j0 : Nat → Int → Bool → ByteArray → Option (Int × Int × ByteArray)
  | 0, _, _, _ => none
  | k + 1, x1, x13, x1000 => if x13 = true then (some (0, 2, x1000)) else (if (x1000.size : Int) < x1 then (some (0, 7, x1000)) else (careenageref01_Reader_Number.l0 k x1 0 0 x1000))
def careenageref01_Reader_Number.l0 : Nat → Int → Int → Int → ByteArray → Option (Int × Int × ByteArray)
  | 0, _, _, _, _ => none
  | k + 1, x1, x6, x7, x1000 => if x7 < x1 then (if 0 ≤ x7 then (if x7 < (x1000.size : Int) then (if 0 ≤ (IntKind.u64.wrap (wrap64 (8 * x7))) then (careenageref01_Reader_Number.l0 k x1 (Go.bits .or .u64 x6 (shl .u64 (IntKind.u64.wrap (bt x1000 x7)) (IntKind.u64.wrap (wrap64 (8 * x7))))) (wrap64 (x7 + 1)) x1000) else (none)) else (none)) else (none)) else (if 0 ≤ x1 then (if x1 ≤ (x1000.size : Int) then (some (x6, 0, x1000.extract (x1 : Int).toNat x1000.size)) else (none)) else (none))
end
def careenageref01_Reader_Number.f (k : Nat) (s0_0 : ByteArray) (a1 : Int) : Option (Int × Int × ByteArray) := if a1 < 1 then (careenageref01_Reader_Number.j0 k a1 true s0_0) else (careenageref01_Reader_Number.j0 k a1 (decide (a1 > 8)) s0_0)
end Go.Proofs.Ytlnmdfffmflhgaa.P

namespace Go.Proofs.Ytlnmdfffmflhgaa.Q
set_option linter.unusedVariables false
set_option linter.unusedSimpArgs false
open Go.RowKit Go.Proofs.Ytlnmdfffmflhgaa.P Go.Proofs.YtlnmdfffmflhgaaW.PrintWords Go.Proofs.YtlnmdfffmflhgaaW.PrintLast Go.Proofs.YtlnmdfffmflhgaaW.PrintMore Go.Proofs.YtlnmdfffmflhgaaO
theorem isB_zeros (n : Nat) : isB (List.replicate n 0) := by
  intro x hx
  have := (List.mem_replicate.1 hx).2
  omega
end Go.Proofs.Ytlnmdfffmflhgaa.Q

namespace Go.Proofs.Ytlnmdfffmflhgaa.Q
set_option linter.unusedVariables false
set_option linter.unusedSimpArgs false
open Go.RowKit Go.Proofs.Ytlnmdfffmflhgaa.P Go.Proofs.YtlnmdfffmflhgaaW.PrintWords Go.Proofs.YtlnmdfffmflhgaaW.PrintLast Go.Proofs.YtlnmdfffmflhgaaW.PrintMore Go.Proofs.YtlnmdfffmflhgaaO
theorem crcI_nn (c : Int) (s : ByteArray) : 0 ≤ crcI c s := by unfold crcI; exact Int.natCast_nonneg _
theorem crcI_lt (c : Int) (s : ByteArray) (h : c < 4294967296) : crcI c s < 4294967296 := by
  have := crcN_lt (c := c.toNat) (l := nb s) (by omega) (nb_lt s)
  unfold crcI
  omega
theorem more_is (c : Int) (s : ByteArray) (h0 : 0 ≤ c) (h1 : c < 4294967296) (hs : s.size < 4611686018427387904) : crc_More.f c s = some (crcI c s) := by
  unfold crc_More.f
  rw [if_pos ⟨h0, h1, hs⟩]
theorem of_is (s : ByteArray) (hs : s.size < 4611686018427387904) : crc_Of.f s = some (crcI 0 s) := by
  unfold crc_Of.f
  rw [more_is 0 s (by decide) (by decide) hs]
  rfl
theorem pick_range (a n : Int) (h : 1 ≤ n) (hn : n ≤ 4611686018427387904) : ∃ r, careenagekit_Pick.f a n = some r ∧ 0 ≤ r ∧ r < n := by
  unfold careenagekit_Pick.f
  rw [if_neg (by omega), if_neg (by omega)]
  have h1 := Int.tmod_lt_of_pos a (show 0 < n by omega)
  have h2 : -n < Int.tmod a n := by
    have := Int.tmod_lt_of_pos (-a) (show 0 < n by omega)
    rw [Int.neg_tmod] at this
    omega
  split
  · refine ⟨_, rfl, ?_⟩
    unfold wrap64
    omega
  · exact ⟨_, rfl, by omega⟩
end Go.Proofs.Ytlnmdfffmflhgaa.Q

namespace Go.Proofs.Ytlnmdfffmflhgaa.Q
set_option linter.unusedVariables false
set_option linter.unusedSimpArgs false
open Go.RowKit Go.Proofs.Ytlnmdfffmflhgaa.P Go.Proofs.YtlnmdfffmflhgaaW.PrintWords Go.Proofs.YtlnmdfffmflhgaaW.PrintLast Go.Proofs.YtlnmdfffmflhgaaW.PrintMore Go.Proofs.YtlnmdfffmflhgaaO
theorem lev_cons_xor (b l : Nat) (h : b < 256) : b + l * 256 = l * 2 ^ 8 ^^^ b := by rw [join_xor 8 _ _ h]; omega
theorem mul_xor (a b n : Nat) : (a ^^^ b) * 2 ^ n = a * 2 ^ n ^^^ b * 2 ^ n := by
  simp only [← Nat.shiftLeft_eq]
  exact Nat.shiftLeft_xor_distrib
theorem lev_set : ∀ (l : List Nat) (i v : Nat), i < l.length → (∀ b ∈ l, b < 256) → v < 256 → lev (l.set i (l.getD i 0 ^^^ v)) = lev l ^^^ v * 2 ^ (8 * i)
  | [], i, v, h, _, _ => by simp at h
  | b :: l, 0, v, _, hl, hv => by
    have hb := hl b (List.mem_cons_self ..)
    simp only [List.set_cons_zero, List.getD_cons_zero, lev]
    rw [lev_cons_xor _ _ (Nat.xor_lt_two_pow (n := 8) hb hv), lev_cons_xor b _ hb, Nat.mul_zero, Nat.pow_zero, Nat.mul_one, Nat.xor_assoc]
  | b :: l, i + 1, v, h, hl, hv => by
    have hb := hl b (List.mem_cons_self ..)
    have ih := lev_set l i v (by simpa using h) (fun x hx => hl x (List.mem_cons_of_mem _ hx)) hv
    simp only [List.set_cons_succ, List.getD_cons_succ, lev]
    rw [ih, lev_cons_xor _ _ hb, lev_cons_xor b _ hb, mul_xor, Nat.mul_assoc, ← Nat.pow_add, show 8 * i + 8 = 8 * (i + 1) by omega]
    ac_rfl
theorem crc_of {s : ByteArray} {l : List Nat} (h : nb s = l) : crcI 0 s = ((crcN 0 l : Nat) : Int) := by
  rw [← h]
  unfold crcI
  exact congrArg (fun n : Nat => ((crcN n (nb s) : Nat) : Int)) (show (0 : Int).toNat = 0 from rfl)
end Go.Proofs.Ytlnmdfffmflhgaa.Q

namespace Go.Proofs.Ytlnmdfffmflhgaa.Q
set_option linter.unusedVariables false
set_option linter.unusedSimpArgs false
open Go.RowKit Go.Proofs.Ytlnmdfffmflhgaa.P Go.Proofs.YtlnmdfffmflhgaaW.PrintWords Go.Proofs.YtlnmdfffmflhgaaW.PrintLast Go.Proofs.YtlnmdfffmflhgaaW.PrintMore Go.Proofs.YtlnmdfffmflhgaaO
def mayP (s k n pg lk tx : Int) (b : ByteArray) : Bool := goodS s && decide (1 ≤ k) && decide (k ≤ 6) && decide (0 ≤ n) && decide (n ≤ 65535) && decide (pg ≤ 2147483647) && decide (lk ≤ 2147483647) && decide (tx ≤ 4611686018427387904) && ((b.size : Int) == roomS s)
theorem fmay_is (s k n pg lk tx : Int) (b : ByteArray) : frame_may.f s k n pg lk tx b = some (mayP s k n pg lk tx b) := by
  unfold frame_may.f mayP
  rw [good_is, bs, room_is, bs]
  cases goodS s with
  | false => simp
  | true =>
    rw [if_pos rfl]
    by_cases h1 : k ≥ 1
    · by_cases h2 : k ≤ 6
      · by_cases h3 : n ≥ 0
        · by_cases h4 : n ≤ 65535
          · by_cases h5 : pg ≤ 2147483647
            · by_cases h6 : lk ≤ 2147483647
              · by_cases h7 : tx ≤ 4611686018427387904
                · rw [if_pos h1, if_pos h2, if_pos h3, if_pos h4, if_pos h5, if_pos h6, if_pos h7, decide_eq_true (show 1 ≤ k from h1), decide_eq_true h2, decide_eq_true (show 0 ≤ n from h3), decide_eq_true h4, decide_eq_true h5, decide_eq_true h6, decide_eq_true h7]
                  simp
                · simp [h7]
              · simp [h6]
            · simp [h5]
          · simp [h4]
        · simp [show ¬ 0 ≤ n from h3]
      · simp [h2]
    · simp [show ¬ 1 ≤ k from h1]
theorem mayP_parts {s k n pg lk tx : Int} {b : ByteArray} (h : mayP s k n pg lk tx b = true) : goodS s = true ∧ 1 ≤ k ∧ k ≤ 6 ∧ 0 ≤ n ∧ n ≤ 65535 ∧ pg ≤ 2147483647 ∧ lk ≤ 2147483647 ∧ tx ≤ 4611686018427387904 ∧ (b.size : Int) = roomS s := by
  unfold mayP at h
  simp only [Bool.and_eq_true, decide_eq_true_eq, beq_iff_eq] at h
  obtain ⟨⟨⟨⟨⟨⟨⟨⟨h1, h2⟩, h3⟩, h4⟩, h5⟩, h6⟩, h7⟩, h8⟩, h9⟩ := h
  exact ⟨h1, h2, h3, h4, h5, h6, h7, h8, h9⟩
theorem good_rng {s : Int} (h : goodS s = true) : 128 ≤ s ∧ s ≤ 4096 ∧ roomS s = s - 24 := by
  have h2 := h
  unfold goodS at h2
  simp only [Bool.and_eq_true, decide_eq_true_eq, beq_iff_eq] at h2
  unfold roomS
  rw [if_pos h]
  omega
theorem putW (l : List Int) (v : Int) (d : Nat) (h : 1 ≤ d ∧ d ≤ 8) : putL l v (d : Int) = l ++ le v d := by
  unfold putL
  rw [if_pos (by omega), Int.toNat_natCast]
/-- The bytes of a head behind its check. -/
def headL (k n pg lk tx : Int) : List Int := le (IntKind.u64.wrap k) 1 ++ (le 1 1 ++ (le (IntKind.u64.wrap n) 2 ++ (le (IntKind.u64.wrap pg) 4 ++ (le (IntKind.u64.wrap lk) 4 ++ le tx 8))))
theorem headL_length (k n pg lk tx : Int) : (headL k n pg lk tx).length = 20 := by simp [headL, le_length]
theorem isB_headL (k n pg lk tx : Int) : isB (headL k n pg lk tx) := isB_append (isB_le _ _) (isB_append (isB_le _ _) (isB_append (isB_le _ _) (isB_append (isB_le _ _) (isB_append (isB_le _ _) (isB_le _ _)))))
theorem putAll_is (k n pg lk tx : Int) : putAll 12 (headV k n pg lk tx) [] = some (le 0 4 ++ headL k n pg lk tx) := by
  have e (l : List Int) (v : Int) (d : Nat) (t : List (Int × Int)) (h : 1 ≤ d ∧ d ≤ 8) (hl : l.length ≤ 1000) : putAll 12 ((v, (d : Int)) :: t) l = putAll 12 t (l ++ le v d) := by
    rw [P.putAll, put_is 12 l v d (by decide) (by omega), bs, putW l v d h]
  have h4 : (4 : Int) = ((4 : Nat) : Int) := rfl
  have h1 : (1 : Int) = ((1 : Nat) : Int) := rfl
  have h2 : (2 : Int) = ((2 : Nat) : Int) := rfl
  have h8 : (8 : Int) = ((8 : Nat) : Int) := rfl
  show putAll 12 [((0 : Int), ((4 : Nat) : Int)), (IntKind.u64.wrap k, ((1 : Nat) : Int)), ((1 : Int), ((1 : Nat) : Int)), (IntKind.u64.wrap n, ((2 : Nat) : Int)), (IntKind.u64.wrap pg, ((4 : Nat) : Int)), (IntKind.u64.wrap lk, ((4 : Nat) : Int)), (tx, ((8 : Nat) : Int))] [] = _
  rw [e _ _ _ _ (by omega) (by simp), e _ _ _ _ (by omega) (by simp [le_length]), e _ _ _ _ (by omega) (by simp [le_length]), e _ _ _ _ (by omega) (by simp [le_length]), e _ _ _ _ (by omega) (by simp [le_length]), e _ _ _ _ (by omega) (by simp [le_length]), e _ _ _ _ (by omega) (by simp [le_length]), P.putAll]
  unfold headL
  simp only [List.append_assoc, List.nil_append]
/-- A page's bytes behind its check, and all of them. -/
def restB (k n pg lk tx : Int) (b : ByteArray) : ByteArray := strOfNums (headL k n pg lk tx) ++ b
def pageB (k n pg lk tx : Int) (b : ByteArray) : ByteArray := strOfNums (le (crcI 0 (restB k n pg lk tx b)) 4) ++ restB k n pg lk tx b
theorem restB_size (k n pg lk tx : Int) (b : ByteArray) : (restB k n pg lk tx b).size = 20 + b.size := by
  unfold restB
  rw [ByteArray.size_append, size_str, headL_length]
theorem pageB_size (k n pg lk tx : Int) (b : ByteArray) : (pageB k n pg lk tx b).size = 24 + b.size := by
  unfold pageB
  rw [ByteArray.size_append, size_str, le_length, restB_size]
  omega
theorem B_restB (k n pg lk tx : Int) (b : ByteArray) : B (restB k n pg lk tx b) = headL k n pg lk tx ++ B b := by
  unfold restB
  rw [B_append, B_str (isB_headL _ _ _ _ _)]
theorem B_pageB (k n pg lk tx : Int) (b : ByteArray) : B (pageB k n pg lk tx b) = le (crcI 0 (restB k n pg lk tx b)) 4 ++ (headL k n pg lk tx ++ B b) := by
  unfold pageB
  rw [B_append, B_str (isB_le _ _), B_restB]
theorem fput_is (s k n pg lk tx : Int) (b : ByteArray) : frame_Put.f s k n pg lk tx b = some (if mayP s k n pg lk tx b = true then (pageB k n pg lk tx b, 0) else ((⟨#[]⟩ : ByteArray), 2)) := by
  unfold frame_Put.f frame_Put.fk
  rw [fmay_is, bs]
  cases hm : mayP s k n pg lk tx b with
  | false => rw [if_neg (by decide), if_neg (by decide)]
  | true =>
    obtain ⟨h1, _, _, _, _, _, _, _, h9⟩ := mayP_parts hm
    obtain ⟨g1, g2, g3⟩ := good_rng h1
    have hd : (le 0 4 ++ headL k n pg lk tx).drop 4 = headL k n pg lk tx := List.drop_left' (le_length 4 _)
    have hz : (strOfNums (headL k n pg lk tx) ++ b).size = 20 + b.size := restB_size k n pg lk tx b
    have hc := crcI_lt 0 (restB k n pg lk tx b) (by decide)
    have hc0 := crcI_nn 0 (restB k n pg lk tx b)
    rw [if_pos rfl, if_pos rfl, putAll_is, bs, if_pos (by rw [List.length_append, le_length]; omega), hd, if_pos (by rw [size_str, headL_length]; omega), of_is _ (by rw [hz]; omega), bs]
    rw [show crcI 0 (strOfNums (headL k n pg lk tx) ++ b) = crcI 0 (restB k n pg lk tx b) from rfl, u64w hc0 (by omega), put_is 12 _ _ _ (by decide) (by simp), bs, put4, List.nil_append, if_pos (by rw [size_str, le_length, hz]; omega)]
    rfl
theorem headR_step (n : Nat) (t : List Int) (s : ByteArray) (h : 1 ≤ n ∧ n ≤ 8) (hs : n ≤ s.size) (r : List Int) (s' : ByteArray) (ht : headR t (s.extract n s.size) = some (some r, s')) : headR ((n : Int) :: t) s = some (some (ofLe ((B s).take n) :: r), s') := by
  have hn : numR s (n : Int) = (ofLe ((B s).take n), 0, s.extract n s.size) := by
    unfold numR
    rw [if_neg (by omega), if_neg (by omega), Int.toNat_natCast]
  rw [headR, num_is s n 12 (by decide), bs, hn]
  simp only [if_true]
  rw [ht, bs]
  rfl
theorem drop_drop' (l : List Int) (a b : Nat) : (l.drop a).drop b = l.drop (a + b) := by rw [List.drop_drop]
/-- What the parts of a head are. -/
theorem headR_is (s : ByteArray) (h : 24 ≤ s.size) : headR widL s = some (some [ofLe ((B s).take 4), ofLe (((B s).drop 4).take 1), ofLe (((B s).drop 5).take 1), ofLe (((B s).drop 6).take 2), ofLe (((B s).drop 8).take 4), ofLe (((B s).drop 12).take 4), ofLe (((B s).drop 16).take 8)], strOfNums ((B s).drop 24)) := by
  obtain ⟨s1, h1⟩ : ∃ u, u = s.extract 4 s.size := ⟨_, rfl⟩
  have b1 : B s1 = (B s).drop 4 := by rw [h1, B_drop]
  obtain ⟨s2, h2⟩ : ∃ u, u = s1.extract 1 s1.size := ⟨_, rfl⟩
  have b2 : B s2 = (B s).drop 5 := by rw [h2, B_drop, b1, drop_drop']
  obtain ⟨s3, h3⟩ : ∃ u, u = s2.extract 1 s2.size := ⟨_, rfl⟩
  have b3 : B s3 = (B s).drop 6 := by rw [h3, B_drop, b2, drop_drop']
  obtain ⟨s4, h4⟩ : ∃ u, u = s3.extract 2 s3.size := ⟨_, rfl⟩
  have b4 : B s4 = (B s).drop 8 := by rw [h4, B_drop, b3, drop_drop']
  obtain ⟨s5, h5⟩ : ∃ u, u = s4.extract 4 s4.size := ⟨_, rfl⟩
  have b5 : B s5 = (B s).drop 12 := by rw [h5, B_drop, b4, drop_drop']
  obtain ⟨s6, h6⟩ : ∃ u, u = s5.extract 4 s5.size := ⟨_, rfl⟩
  have b6 : B s6 = (B s).drop 16 := by rw [h6, B_drop, b5, drop_drop']
  obtain ⟨s7, h7⟩ : ∃ u, u = s6.extract 8 s6.size := ⟨_, rfl⟩
  have b7 : B s7 = (B s).drop 24 := by rw [h7, B_drop, b6, drop_drop']
  have sz {u : ByteArray} {a : Nat} (hu : B u = (B s).drop a) : u.size = s.size - a := by rw [← B_length, hu, List.length_drop, B_length]
  have z1 := sz b1
  have z2 := sz b2
  have z3 := sz b3
  have z4 := sz b4
  have z5 := sz b5
  have z6 := sz b6
  have e7 : s7 = strOfNums ((B s).drop 24) := (str_B _).symm.trans (congrArg strOfNums b7)
  have q7 := headR_step 8 [] s6 (by omega) (by omega) [] s7 (by rw [← h7]; rfl)
  have q6 := headR_step 4 _ s5 (by omega) (by omega) _ _ (by rw [← h6]; exact q7)
  have q5 := headR_step 4 _ s4 (by omega) (by omega) _ _ (by rw [← h5]; exact q6)
  have q4 := headR_step 2 _ s3 (by omega) (by omega) _ _ (by rw [← h4]; exact q5)
  have q3 := headR_step 1 _ s2 (by omega) (by omega) _ _ (by rw [← h3]; exact q4)
  have q2 := headR_step 1 _ s1 (by omega) (by omega) _ _ (by rw [← h2]; exact q3)
  have q1 := headR_step 4 _ s (by omega) (by omega) _ _ (by rw [← h1]; exact q2)
  rw [b1, b2, b3, b4, b5, b6, e7] at q1
  exact q1
abbrev P7 := Int × Int × Int × Int × Int × ByteArray × Int
def badP (e : Int) : P7 := (0, 0, 0, 0, 0, (⟨#[]⟩ : ByteArray), e)
def getC (s : ByteArray) : Int := ofLe ((B s).take 4)
def getK (s : ByteArray) : Int := ofLe (((B s).drop 4).take 1)
def getV (s : ByteArray) : Int := ofLe (((B s).drop 5).take 1)
def getN (s : ByteArray) : Int := ofLe (((B s).drop 6).take 2)
def getP (s : ByteArray) : Int := ofLe (((B s).drop 8).take 4)
def getL (s : ByteArray) : Int := ofLe (((B s).drop 12).take 4)
def getT (s : ByteArray) : Int := ofLe (((B s).drop 16).take 8)
def getB (s : ByteArray) : ByteArray := strOfNums ((B s).drop 24)
def getS (a0 a1 : Int) (s : ByteArray) : P7 :=
  if goodS a0 = true then (if (s.size : Int) = a0 then (if mayP a0 (getK s) (getN s) (getP s) (getL s) (getT s) (getB s) = true ∧ getV s = 1 ∧ getP s = a1 ∧ getC s = crcI 0 (s.extract 4 s.size) then (getK s, getN s, getP s, getL s, getT s, getB s, 0) else badP 4) else badP 4) else badP 2
theorem part_rng (s : ByteArray) (a n : Nat) : 0 ≤ ofLe (((B s).drop a).take n) ∧ ofLe (((B s).drop a).take n) < 256 ^ n := by
  have hB : isB (((B s).drop a).take n) := isB_take (isB_drop (isB_B s) a) n
  have h1 := ofLe_lt hB
  have h2 : (256 : Int) ^ (((B s).drop a).take n).length ≤ 256 ^ n := by
    have hn : (((B s).drop a).take n).length ≤ n := by rw [List.length_take]; omega
    have hp := Nat.pow_le_pow_right (n := 256) (by decide) hn
    have e (j : Nat) : (256 : Int) ^ j = ((256 ^ j : Nat) : Int) := by rw [Int.natCast_pow]; rfl
    rw [e, e]
    exact Int.ofNat_le.2 hp
  exact ⟨ofLe_nonneg hB, by omega⟩
theorem fget_is (a0 a1 : Int) (s : ByteArray) : frame_Get.f a0 a1 s = some (getS a0 a1 s) := by
  unfold frame_Get.f getS
  rw [good_is, bs]
  cases hg : goodS a0 with
  | false => rfl
  | true =>
    rw [if_pos rfl, if_pos rfl]
    by_cases hs : (s.size : Int) = a0
    · obtain ⟨g1, g2, g3⟩ := good_rng hg
      rw [if_pos hs, if_pos hs, headR_is s (by omega), bs]
      simp only []
      unfold frame_Get.fin
      have r1 := part_rng s 4 1
      have r3 := part_rng s 6 2
      have r4 := part_rng s 8 4
      have r5 := part_rng s 12 4
      have p1 : (256 : Int) ^ 1 = 256 := by decide
      have p2 : (256 : Int) ^ 2 = 65536 := by decide
      have p4 : (256 : Int) ^ 4 = 4294967296 := by decide
      rw [p1] at r1
      rw [p2] at r3
      rw [p4] at r4 r5
      have hc := crcI_lt 0 (s.extract 4 s.size) (by decide)
      have hc0 := crcI_nn 0 (s.extract 4 s.size)
      rw [show wrap64 (ofLe (((B s).drop 4).take 1)) = getK s from w64 (by omega) (by omega), show wrap64 (ofLe (((B s).drop 6).take 2)) = getN s from w64 (by omega) (by omega), show ofLe (((B s).drop 8).take 4) % 4294967296 = getP s from Int.emod_eq_of_lt r4.1 r4.2, show ofLe (((B s).drop 12).take 4) % 4294967296 = getL s from Int.emod_eq_of_lt r5.1 r5.2,
        show ofLe (((B s).drop 16).take 8) = getT s from rfl, show strOfNums ((B s).drop 24) = getB s from rfl, show ofLe (((B s).drop 5).take 1) = getV s from rfl, show ofLe ((B s).take 4) = getC s from rfl, fmay_is, bs]
      cases hm : mayP a0 (getK s) (getN s) (getP s) (getL s) (getT s) (getB s) with
      | false => rw [if_neg (by decide), if_neg (fun z => by cases z.1)]; rfl
      | true =>
        rw [if_pos rfl]
        by_cases h2 : getV s = 1
        · rw [if_pos h2]
          by_cases h3 : getP s = a1
          · rw [if_pos h3, if_pos (by omega), of_is _ (by rw [ByteArray.size_extract]; omega), bs, u64w hc0 (by omega)]
            by_cases h4 : getC s = crcI 0 (s.extract 4 s.size)
            · rw [if_pos h4, if_pos ⟨rfl, h2, h3, h4⟩]
            · rw [if_neg h4, if_neg (fun z => h4 z.2.2.2)]; rfl
          · rw [if_neg h3, if_neg (fun z => h3 z.2.2.1)]; rfl
        · rw [if_neg h2, if_neg (fun z => h2 z.2.1)]; rfl
    · rw [if_neg hs, if_neg hs]; rfl
theorem rep2 (l : List Int) : ∀ q : Nat, (List.replicate q (l ++ l)).flatten = (List.replicate (2 * q) l).flatten
  | 0 => rfl
  | q + 1 => by
    rw [show 2 * (q + 1) = 2 * q + 1 + 1 by omega, List.replicate_succ, List.replicate_succ, List.replicate_succ, List.flatten_cons, List.flatten_cons, List.flatten_cons, rep2 l q, List.append_assoc]
/-- A string, so many times. -/
theorem times_l0 : ∀ (k n : Nat) (s acc : ByteArray), n < 2 ^ k → n ≤ 1000000 → s.size * (2 * n) ≤ 1000000000000 → acc.size + s.size * n ≤ 1000000000000 → ∃ r, careenagekit_Times.l0 (k + 1) s (n : Int) acc = some r ∧ B r = B acc ++ (List.replicate n (B s)).flatten
  | 0, n, s, acc, h, _, _, _ => by
    obtain rfl : n = 0 := by omega
    exact ⟨acc, by rw [careenagekit_Times.l0, if_neg (by decide)], by rw [List.replicate_zero, List.flatten_nil, List.append_nil]⟩
  | k + 1, n, s, acc, h, hn, h1, h2 => by
    by_cases h0 : n = 0
    · subst h0
      exact ⟨acc, by rw [careenagekit_Times.l0, if_neg (by decide)], by rw [List.replicate_zero, List.flatten_nil, List.append_nil]⟩
    · obtain ⟨q, hq⟩ : ∃ q, q = n / 2 := ⟨_, rfl⟩
      have hqn : n = 2 * q ∨ n = 2 * q + 1 := by omega
      have hw : wrap64 (Int.tdiv (n : Int) 2) = (q : Int) := by
        rw [Int.tdiv_eq_ediv_of_nonneg (by omega)]
        unfold wrap64
        omega
      have hm : Int.tmod (n : Int) 2 = (n : Int) % 2 := Int.tmod_eq_emod_of_nonneg (by omega)
      have h2k : q < 2 ^ k := by rw [Nat.pow_succ] at h; omega
      have hs1 : s.size * 1 ≤ s.size * n := Nat.mul_le_mul_left _ (by omega)
      have hs2 : s.size * (2 * n) = 2 * (s.size * n) := by rw [Nat.mul_left_comm]
      have hz : (s ++ s).size = 2 * s.size := by rw [ByteArray.size_append]; omega
      have hq4 : (s ++ s).size * (2 * q) ≤ 1000000000000 := by
        rw [hz, show 2 * s.size * (2 * q) = s.size * (2 * (2 * q)) by rw [Nat.mul_comm 2 s.size, Nat.mul_assoc]]
        exact Nat.le_trans (Nat.mul_le_mul_left _ (by omega)) h1
      have hsq : (s ++ s).size * q = s.size * (2 * q) := by rw [hz, Nat.mul_comm 2 s.size, Nat.mul_assoc]
      rw [careenagekit_Times.l0, if_pos (by omega), hm, hw]
      rcases hqn with he | he
      · have hsn : s.size * n = s.size * (2 * q) := by rw [he]
        obtain ⟨r, e1, e2⟩ := times_l0 k q (s ++ s) acc h2k (by omega) hq4 (by omega)
        refine ⟨r, ?_, ?_⟩
        · rw [if_neg (by omega), if_pos (by omega)]
          exact e1
        · rw [e2, B_append, rep2, ← he]
      · have hsn : s.size * n = s.size * (2 * q) + s.size := by rw [he, Nat.mul_succ]
        obtain ⟨r, e1, e2⟩ := times_l0 k q (s ++ s) (acc ++ s) h2k (by omega) hq4 (by rw [ByteArray.size_append]; omega)
        refine ⟨r, ?_, ?_⟩
        · rw [if_pos (by omega), if_pos (by omega), if_pos (by omega)]
          exact e1
        · rw [e2, B_append, B_append, rep2, he, List.replicate_succ, List.flatten_cons, List.append_assoc]
theorem times_is (k n : Nat) (s : ByteArray) (hk : 21 ≤ k) (hn : n ≤ 1000000) (hs : s.size ≤ 1000) : ∃ r, careenagekit_Times.f k s (n : Int) = some r ∧ B r = (List.replicate n (B s)).flatten := by
  obtain ⟨m, rfl⟩ : ∃ m, k = m + 1 := ⟨k - 1, by omega⟩
  have hp : 2 ^ 20 ≤ 2 ^ m := Nat.pow_le_pow_right (by decide) (by omega)
  have h1 : s.size * n ≤ 1000 * 1000000 := Nat.mul_le_mul hs hn
  have h2 : s.size * (2 * n) = 2 * (s.size * n) := by rw [Nat.mul_left_comm]
  obtain ⟨r, e1, e2⟩ := times_l0 m n s ⟨#[]⟩ (by omega) hn (by omega) (by rw [show (⟨#[]⟩ : ByteArray).size = 0 from rfl]; omega)
  exact ⟨r, e1, by rw [e2, B_empty, List.nil_append]⟩
/-- The chapter's example lives. -/
theorem lives4 (k : Nat) (hk : 21 ≤ k) : careenagelaw04_lives.f k = some true := by
  obtain ⟨r, e1, e2⟩ := times_is k 104 (⟨#[98]⟩ : ByteArray) hk (by decide) (by decide)
  have hz : r.size = 104 := by
    rw [← B_length, e2]
    rfl
  have hr : roomS 128 = 104 := by decide
  have hm : mayP 128 4 3 7 9 5 r = true := by
    unfold mayP
    rw [hz, hr]
    decide
  have hg : getS 128 0 (strOfNums (List.replicate 128 0)) = badP 4 := by
    have hK : getK (strOfNums (List.replicate 128 0)) = 0 := by
      unfold getK
      rw [B_str (isB_zeros 128)]
      rfl
    have hmm : ∀ (n p l t : Int) (b : ByteArray), mayP 128 0 n p l t b = false := fun n p l t b => by simp [mayP]
    unfold getS
    rw [if_pos (by decide), if_pos (by rw [size_str, List.length_replicate]; rfl), hK, hmm, if_neg (fun z => by cases z.1)]
  unfold careenagelaw04_lives.f careenagelaw04_page.f
  rw [if_pos (by decide), fget_is, hg, bs, show (104 : Int) = ((104 : Nat) : Int) from rfl, e1, bs, bs]
  simp only []
  rw [fput_is, hm, bs, room_is, bs, hr, if_pos rfl, if_pos rfl]
  simp only [if_true]
  rw [pageB_size, hz]
  rfl
end Go.Proofs.Ytlnmdfffmflhgaa.Q

namespace Go.Proofs.Ytlnmdfffmflhgaa.Pure
set_option linter.unusedVariables false
set_option linter.unusedSimpArgs false
open Go.RowKit Go.Proofs.Ytlnmdfffmflhgaa.P Go.Proofs.YtlnmdfffmflhgaaW.PrintWords Go.Proofs.YtlnmdfffmflhgaaW.PrintLast Go.Proofs.YtlnmdfffmflhgaaW.PrintMore Go.Proofs.YtlnmdfffmflhgaaO Go.Proofs.Ytlnmdfffmflhgaa.Q
theorem rows_isB (r bits : Nat) (m : Nat) (xs : List Int) (h : isB xs) (hx : ∀ k, k < m → (r + k) / 8 < xs.length) : isB (burstRows r bits m xs) ∧ (burstRows r bits m xs).length = xs.length ∧ lev ((burstRows r bits m xs).map Int.toNat) = lev (xs.map Int.toNat) ^^^ bits % 2 ^ m * 2 ^ r := by
  induction m with
  | zero => exact ⟨h, rfl, by simp [burstRows, Nat.mod_one]⟩
  | succ m ih =>
    obtain ⟨hB, hl, hv⟩ := ih (fun k hk => hx k (by omega))
    obtain ⟨ys, hys⟩ : ∃ ys, ys = burstRows r bits m xs := ⟨_, rfl⟩
    have hs : burstRows r bits (m + 1) xs = burstRow r bits m ys := by rw [hys]; rfl
    rw [hs]
    rw [← hys] at hB hl hv
    unfold burstRow
    have hj : (r + m) / 8 < ys.length := by rw [hl]; exact hx m (by omega)
    have hp : 2 ^ ((r + m) % 8) < 2 ^ 8 := Nat.pow_lt_pow_right (by decide) (Nat.mod_lt _ (by decide))
    have hg : ys.getD ((r + m) / 8) 0 = ys[(r + m) / 8] := by simp [hj]
    have hyb := hB _ (List.getElem_mem hj)
    have hms : bits % 2 ^ (m + 1) = bits % 2 ^ m + 2 ^ m * (bits / 2 ^ m % 2) := Nat.mod_pow_succ
    split
    · rename_i hb
      refine ⟨fun x hx => ?_, by rw [List.length_set]; exact hl, ?_⟩
      · rcases List.mem_or_eq_of_mem_set hx with hx | rfl
        · exact hB x hx
        · have : (ys.getD ((r + m) / 8) 0).toNat < 2 ^ 8 := by rw [hg]; omega
          have h3 := Nat.xor_lt_two_pow this hp
          omega
      · have hmap : ((ys.set ((r + m) / 8) (((ys.getD ((r + m) / 8) 0).toNat ^^^ 2 ^ ((r + m) % 8) : Nat) : Int)).map Int.toNat) = (ys.map Int.toNat).set ((r + m) / 8) ((ys.map Int.toNat).getD ((r + m) / 8) 0 ^^^ 2 ^ ((r + m) % 8)) := by
          rw [List.map_set, Int.toNat_natCast]
          congr 2
          simp [hj]
        rw [hmap, lev_set _ _ _ (by simpa using hj) (fun b hb => by
          simp only [List.mem_map] at hb
          obtain ⟨x, hx, rfl⟩ := hb
          have := hB x hx
          omega) (by omega), hv, hms, hb, Nat.mul_one, ← Nat.pow_add, show (r + m) % 8 + 8 * ((r + m) / 8) = m + r by omega, Nat.xor_assoc]
        congr 1
        rw [show bits % 2 ^ m + 2 ^ m = 1 * 2 ^ m + bits % 2 ^ m by omega, ← join_xor m 1 _ (Nat.mod_lt _ (Nat.two_pow_pos m)), mul_xor, Nat.one_mul, ← Nat.pow_add, Nat.xor_comm]
    · rename_i hb
      have hb0 : bits / 2 ^ m % 2 = 0 := by have := Nat.mod_two_eq_zero_or_one (bits / 2 ^ m); omega
      refine ⟨hB, hl, ?_⟩
      rw [hv, hms, hb0, Nat.mul_zero, Nat.add_zero]
theorem rows_drop (r bits : Nat) (xs : List Int) : ∀ m, cntB r bits m = 0 → (burstRows r bits m xs).drop 4 = xs.drop 4
  | 0, _ => rfl
  | m + 1, h => by
    unfold cntB at h
    show (burstRow r bits m (burstRows r bits m xs)).drop 4 = _
    unfold burstRow
    split
    · rename_i hb
      split at h
      · omega
      · rename_i hh
        have h32 : r + m < 32 := Decidable.byContradiction fun z => hh ⟨hb, z⟩
        rw [List.drop_set_of_lt (by omega)]
        exact rows_drop r bits xs m h
    · rename_i hb
      rw [if_neg (fun z => hb z.1)] at h
      exact rows_drop r bits xs m h
theorem rows_take (r bits : Nat) (xs : List Int) : ∀ m, cntA r bits m = 0 → (burstRows r bits m xs).take 4 = xs.take 4
  | 0, _ => rfl
  | m + 1, h => by
    unfold cntA at h
    show (burstRow r bits m (burstRows r bits m xs)).take 4 = _
    unfold burstRow
    split
    · rename_i hb
      split at h
      · omega
      · rename_i hh
        have h32 : ¬ r + m < 32 := fun z => hh ⟨hb, z⟩
        rw [List.take_set_of_le (by omega)]
        exact rows_take r bits xs m h
    · rename_i hb
      rw [if_neg (fun z => hb z.1)] at h
      exact rows_take r bits xs m h
theorem lev_append : ∀ (a b : List Nat), lev (a ++ b) = lev a + lev b * 2 ^ (8 * a.length)
  | [], b => by simp [lev]
  | x :: a, b => by
    have e8 : 2 ^ (8 * (x :: a).length) = 2 ^ (8 * a.length) * 256 := by rw [List.length_cons, show 8 * (a.length + 1) = 8 * a.length + 8 by omega, Nat.pow_add]
    rw [List.cons_append, lev, lev, lev_append a b, e8, Nat.add_mul, Nat.mul_assoc, Nat.add_assoc]
theorem lev_lt : ∀ (a : List Nat), (∀ b ∈ a, b < 256) → lev a < 2 ^ (8 * a.length)
  | [], _ => by simp [lev]
  | x :: a, h => by
    have h1 := h x (List.mem_cons_self ..)
    have h2 := lev_lt a (fun b hb => h b (List.mem_cons_of_mem _ hb))
    have e8 : 2 ^ (8 * (x :: a).length) = 2 ^ (8 * a.length) * 256 := by rw [List.length_cons, show 8 * (a.length + 1) = 8 * a.length + 8 by omega, Nat.pow_add]
    rw [lev, e8]
    omega
theorem lev_cut (l : List Nat) (hl : 4 ≤ l.length) (h : ∀ b ∈ l, b < 256) : lev l / 2 ^ 32 = lev (l.drop 4) ∧ lev l % 2 ^ 32 = lev (l.take 4) := by
  have h4 : (l.take 4).length = 4 := by rw [List.length_take]; omega
  have h1 := lev_append (l.take 4) (l.drop 4)
  have h2 := lev_lt (l.take 4) (fun b hb => h b (List.mem_of_mem_take hb))
  rw [List.take_append_drop, h4] at h1
  rw [h4] at h2
  have h5 : 8 * 4 = 32 := rfl
  rw [h5] at h1 h2
  rw [h1]
  have : (2 : Nat) ^ 32 = 4294967296 := by decide
  rw [this] at h2 ⊢
  omega
theorem byt {l : List Int} (h : isB l) : ∀ x ∈ l.map Int.toNat, x < 256 := fun x hx => by
  simp only [List.mem_map] at hx
  obtain ⟨y, hy, rfl⟩ := hx
  have := h y hy
  omega
theorem FrameRot : careenagelaw04_FrameRot.Pure := by
  intro sz k n pg lk tx b at_ bits w0 w1 w2 w3 w4 w5 w6 w7 w8
  have hb2 : 0 ≤ bits ∧ bits < 4294967296 := by
    simp [Lit.wf, IntKind.min, IntKind.max, IntKind.signed, IntKind.bits] at w8
    omega
  refine ⟨lives4 300 (by decide), hb2.1, hb2.2, fun hb h0 => ?_⟩
  rw [fput_is]
  cases hm : mayP sz k n pg lk tx b with
  | false => exact ⟨_, _, rfl, fun h => absurd h (by decide)⟩
  | true =>
    refine ⟨pageB k n pg lk tx b, 0, rfl, fun _ => ?_⟩
    obtain ⟨m1, m2, m3, m4, m5, m6, m7, m8, m9⟩ := mayP_parts hm
    obtain ⟨g1, g2, g3⟩ := good_rng m1
    have hz := pageB_size k n pg lk tx b
    have hB := B_pageB k n pg lk tx b
    have hbr := B_restB k n pg lk tx b
    generalize hs : pageB k n pg lk tx b = s at hz hB ⊢
    have hc := crcI_lt 0 (restB k n pg lk tx b) (by decide)
    have hc0 := crcI_nn 0 (restB k n pg lk tx b)
    obtain ⟨r, hr, hr0, hr1⟩ := pick_range at_ (8 * (s.size : Int) - 31) (by omega) (by omega)
    obtain ⟨r, rfl⟩ := Int.eq_ofNat_of_zero_le hr0
    obtain ⟨bt, rfl⟩ := Int.eq_ofNat_of_zero_le hb2.1
    rw [Int.toNat_natCast]
    have hrow := fun (m : Nat) (hm : m ≤ 32) => rows_isB r bt m (B s) (isB_B s) (fun k hk => by rw [B_length]; omega)
    refine ⟨by omega, by omega, r, hr, hr1, fun m hm => ⟨(hrow m hm).1, by rw [(hrow m hm).2.1, B_length]⟩, fun hcnt => ?_⟩
    obtain ⟨q1, q2, q3⟩ := hrow 32 (by decide)
    rw [Nat.mod_eq_of_lt (show bt < 2 ^ 32 by omega)] at q3
    have hdr := rows_drop r bt (B s) 32
    have htk := rows_take r bt (B s) 32
    generalize burstRows r bt 32 (B s) = ys at q1 q2 q3 hdr htk ⊢
    have hys : B (strOfNums ys) = ys := B_str q1
    have hlen : ys.length = s.size := by rw [q2, B_length]
    rw [fget_is]
    suffices hh : getS sz pg (strOfNums ys) = badP 4 from ⟨0, 0, 0, 0, 0, _, congrArg some hh⟩
    unfold getS
    rw [if_pos m1, if_pos (by rw [size_str]; omega), if_neg]
    rintro ⟨_, _, _, hC⟩
    have hx4 : B ((strOfNums ys).extract 4 (strOfNums ys).size) = ys.drop 4 := by rw [B_drop, hys]
    have hs4 : (B s).drop 4 = B (restB k n pg lk tx b) := by rw [hB, hbr]; exact List.drop_left' (le_length 4 _)
    have ht4 : (B s).take 4 = le (crcI 0 (restB k n pg lk tx b)) 4 := by rw [hB]; exact List.take_left' (le_length 4 _)
    unfold getC at hC
    rw [hys] at hC
    have hne : ys ≠ B s := by
      intro e
      rw [e] at q3
      have h3 : lev ((B s).map Int.toNat) ^^^ lev ((B s).map Int.toNat) = bt * 2 ^ r := by
        conv => lhs; rhs; rw [q3]
        rw [xor_cancel]
      rw [Nat.xor_self] at h3
      have h4 := Nat.pow_pos (n := r) (show 0 < 2 by decide)
      rcases Nat.mul_eq_zero.1 h3.symm with h5 | h5 <;> omega
    have hsplit : ∀ (u v : List Int), u.take 4 = v.take 4 → u.drop 4 = v.drop 4 → u = v := fun u v h1 h2 => by rw [← List.take_append_drop 4 u, h1, h2, List.take_append_drop]
    have p4 : (256 : Int) ^ 4 = 4294967296 := by decide
    by_cases hcb : cntB r bt 32 = 0
    · have hd := hdr hcb
      have he : (strOfNums ys).extract 4 (strOfNums ys).size = restB k n pg lk tx b := B_inj (by rw [hx4, hd, hs4])
      rw [he] at hC
      have hl4 : (ys.take 4).length = 4 := by rw [List.length_take]; omega
      have := le_ofLe (isB_take q1 4)
      rw [hl4, hC] at this
      exact hne (hsplit _ _ (by rw [ht4, this]) hd)
    · have hca : cntA r bt 32 = 0 := by omega
      have ht := htk hca
      rw [ht, ht4, ofLe_le, p4, Int.emod_eq_of_lt hc0 hc] at hC
      have c1 := lev_cut (ys.map Int.toNat) (by rw [List.length_map]; omega) (byt q1)
      have c2 := lev_cut ((B s).map Int.toNat) (by rw [List.length_map, B_length]; omega) (byt (isB_B s))
      have hx : lev ((ys.map Int.toNat).drop 4) ^^^ lev (((B s).map Int.toNat).drop 4) = bt * 2 ^ r / 2 ^ 32 := by
        rw [← c1.1, ← c2.1, q3, xor_div, Nat.xor_comm, xor_cancel]
      rw [← List.map_drop, ← List.map_drop, hs4] at hx
      have hle : (ys.drop 4).length = (B (restB k n pg lk tx b)).length := by rw [← hs4, List.length_drop, List.length_drop, q2]
      have e1 := crc_of (show nb ((strOfNums ys).extract 4 (strOfNums ys).size) = (ys.drop 4).map Int.toNat by rw [nb_B]; exact congrArg (List.map Int.toNat) hx4)
      have e2 := crc_of (show nb (restB k n pg lk tx b) = (B (restB k n pg lk tx b)).map Int.toNat from nb_B _)
      rw [e1, e2] at hC
      have hCn := Int.ofNat_inj.1 hC
      have hyl : ((ys.drop 4).map Int.toNat).length = ys.length - 4 := by rw [List.length_map, List.length_drop]
      obtain ⟨bt2, a2, hb3, ha2, hbe⟩ : ∃ bt2 a2, bt2 < 2 ^ 32 ∧ a2 ≤ 8 * ((ys.drop 4).map Int.toNat).length ∧ bt * 2 ^ r / 2 ^ 32 = bt2 * 2 ^ a2 := by
        by_cases h32 : 32 ≤ r
        · refine ⟨bt, r - 32, by omega, by rw [hyl]; omega, ?_⟩
          obtain ⟨d, rfl⟩ : ∃ d, r = d + 32 := ⟨r - 32, by omega⟩
          rw [Nat.pow_add, ← Nat.mul_assoc, Nat.mul_div_cancel _ (Nat.two_pow_pos 32), Nat.add_sub_cancel]
        · refine ⟨bt * 2 ^ r / 2 ^ 32, 0, ?_, Nat.zero_le _, by simp⟩
          have h5 : 2 ^ r ≤ 2 ^ 32 := Nat.pow_le_pow_right (by decide) (by omega)
          have h6 : bt * 2 ^ r / 2 ^ 32 ≤ bt := by
            have := Nat.div_le_div_right (c := 2 ^ 32) (Nat.mul_le_mul_left bt h5)
            rwa [Nat.mul_div_cancel _ (Nat.two_pow_pos 32)] at this
          omega
      rw [hbe] at hx
      by_cases hz2 : bt2 = 0
      · subst hz2
        rw [Nat.zero_mul] at hx
        have hle2 := xor_zero_eq hx
        have q4 : lev (ys.map Int.toNat) = lev ((B s).map Int.toNat) := by
          have d1 := Nat.div_add_mod (lev (ys.map Int.toNat)) (2 ^ 32)
          have d2 := Nat.div_add_mod (lev ((B s).map Int.toNat)) (2 ^ 32)
          rw [c1.1, c1.2, ← List.map_drop, ← List.map_take, ht, hle2] at d1
          rw [c2.1, c2.2, ← List.map_drop, ← List.map_take, hs4] at d2
          rw [← d1, ← d2]
        rw [q4] at q3
        have h3 : bt * 2 ^ r = 0 := by
          have h6 := congrArg (fun z => lev ((B s).map Int.toNat) ^^^ z) q3
          simp only [Nat.xor_self] at h6
          rw [xor_cancel] at h6
          exact h6.symm
        have h4 := Nat.pow_pos (n := r) (show 0 < 2 by decide)
        rcases Nat.mul_eq_zero.1 h3 with h5 | h5 <;> omega
      · have hl2 : ((ys.drop 4).map Int.toNat).length = ((B (restB k n pg lk tx b)).map Int.toNat).length := by rw [List.length_map, List.length_map, hle]
        have hb5 := byt (isB_drop q1 4)
        have hb6 := byt (isB_B (restB k n pg lk tx b))
        clear hC e1 e2 hdr htk ht ht4 hs4 hle c1 c2 hyl hbe q3 hne hsplit hx4
        generalize (ys.drop 4).map Int.toNat = l1 at *
        generalize (B (restB k n pg lk tx b)).map Int.toNat = l2 at *
        exact crcN_burst l1 l2 hl2 hb5 hb6 bt2 a2 hb3 hz2 ha2 hx hCn.symm
end Go.Proofs.Ytlnmdfffmflhgaa.Pure
