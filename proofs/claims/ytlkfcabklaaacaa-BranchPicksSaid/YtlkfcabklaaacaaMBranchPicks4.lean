/- The texts that the statement's row rests on, one behind the other. -/
import Derived.Test.YtlkfcabklaaacaaMBranchPicks3
import Derived.Test.YtlkfcabklaaacaaMBranchPicks0
import Derived.Lib.Strings
import Derived.Lib.Bytes
import Derived.Laws.BitsAllLaws
import Derived.Test.YtlkfcabklaaacaaMBranchPicks1
import Derived.Test.YtlkfcabklaaacaaMBranchPicks2
namespace Go.Proofs.Ytlkfcabklaaacaa.P
open Go.RowKit Go.Proofs.YtlkfcabklaaacaaW.PrintWords Go.Proofs.YtlkfcabklaaacaaW.PrintLast Go.Proofs.YtlkfcabklaaacaaW.PrintMore
attribute [local go_sem] max2_int min2_int max_two min_two max_three min_three max_four min_four   -- for this text's walks alone
open Go.Proofs.YtlkfcabklaaacaaO
attribute [local go_sem] min2_str max2_str
set_option linter.unusedVariables false
set_option linter.unusedSimpArgs false

/-! ### free_Page: function 27 -/
mutual
def free_Page.j0 : Nat → Int → Int → Int → Int → List Int → Bool → Option (Int × Int × Int × Int × Int × ByteArray × Int)
  | 0, _, _, _, _, _, _ => none
  | k + 1, x0, x1, x2, x3, x4, x55 => if x55 = true then (some (0, 0, 0, 0, 0, (⟨#[]⟩ : ByteArray), 2)) else (free_Page.l0 k x0 x1 x2 x3 x4 ([] : List Int) x4 (x4.length : Int) 0)
def free_Page.l0 : Nat → Int → Int → Int → Int → List Int → List Int → List Int → Int → Int → Option (Int × Int × Int × Int × Int × ByteArray × Int)
  | 0, _, _, _, _, _, _, _, _, _ => none
  | k + 1, x0, x1, x2, x3, x4, x13, x57, x58, x59 => if x59 < x58 then (if 0 ≤ x59 then (if x59 < (x57.length : Int) then ((octet_Put.f k x13 (IntKind.u64.wrap (rd x57 x59)) 4).bind fun t211 => (free_Page.l0 k x0 x1 x2 x3 x4 t211 x57 x58 (wrap64 (x59 + 1)))) else (none)) else (none)) else ((frame_Body.f x0 x13).bind fun bt214 => (some (6, (x4.length : Int), x1, x2, x3, bt214.1, 0)))
end
def free_Page.f (k : Nat) (a0 : Int) (a1 : Int) (a2 : Int) (a3 : Int) (l4 : List Int) : Option (Int × Int × Int × Int × Int × ByteArray × Int) := (free_Most.f a0).bind fun t204 => (if t204 = 0 then (free_Page.j0 k a0 a1 a2 a3 l4 true) else ((free_Most.f a0).bind fun t205 => (if (l4.length : Int) > t205 then (free_Page.j0 k a0 a1 a2 a3 l4 true) else ((free_Rises.f k l4).bind fun t206 => (if t206 = true then ((slices_ContainsFunc_uint32_uint32_56.f k l4).bind fun t207 => (if t207 = true then (free_Page.j0 k a0 a1 a2 a3 l4 true) else ((free_Page_1.f a1).bind fun t208 => (if t208 = true then (free_Page.j0 k a0 a1 a2 a3 l4 true) else (if a2 = 0 then (free_Page.j0 k a0 a1 a2 a3 l4 (decide (a3 > 4611686018427387904))) else ((free_Page_1.f a2).bind fun t209 => (if t209 = true then (free_Page.j0 k a0 a1 a2 a3 l4 true) else (free_Page.j0 k a0 a1 a2 a3 l4 (decide (a3 > 4611686018427387904)))))))))) else (free_Page.j0 k a0 a1 a2 a3 l4 true))))))
theorem free_Page.mono_l : ∀ k, (∀ y0 y1 y2 y3 y4 y5, LeO (free_Page.j0 k y0 y1 y2 y3 y4 y5) (free_Page.j0 (k + 1) y0 y1 y2 y3 y4 y5)) ∧ (∀ y0 y1 y2 y3 y4 y5 y6 y7 y8, LeO (free_Page.l0 k y0 y1 y2 y3 y4 y5 y6 y7 y8) (free_Page.l0 (k + 1) y0 y1 y2 y3 y4 y5 y6 y7 y8))
  | 0 => ⟨fun _ _ _ _ _ _ r h => by simp [free_Page.j0] at h, fun _ _ _ _ _ _ _ _ _ r h => by simp [free_Page.l0] at h⟩
  | k + 1 => by
    obtain ⟨ih0, ih1⟩ := free_Page.mono_l k
    refine ⟨?_, ?_⟩
    · intro y0 y1 y2 y3 y4 y5
      unfold free_Page.j0
      repeat' first
      | (with_reducible exact ih0 _ _ _ _ _ _)
      | (with_reducible exact ih1 _ _ _ _ _ _ _ _ _)
      | (with_reducible exact free_Rises.mono _ _)
      | (with_reducible exact octet_Put.mono _ _ _ _)
      | (with_reducible exact slices_ContainsFunc_uint32_uint32_56.mono _ _)
      | (with_reducible exact LeO.refl _)
      | (with_reducible exact LeO.none _)
      | (with_reducible refine LeO.ite ?_ ?_)
      | (with_reducible refine LeO.bind ?_ (fun _ => ?_))
      | exact ih0 _ _ _ _ _ _
      | exact ih1 _ _ _ _ _ _ _ _ _
      | exact free_Rises.mono _ _
      | exact octet_Put.mono _ _ _ _
      | exact slices_ContainsFunc_uint32_uint32_56.mono _ _
      | exact LeO.none _
      | refine LeO.ite ?_ ?_
      | refine LeO.bind ?_ (fun _ => ?_)
    · intro y0 y1 y2 y3 y4 y5 y6 y7 y8
      unfold free_Page.l0
      repeat' first
      | (with_reducible exact ih0 _ _ _ _ _ _)
      | (with_reducible exact ih1 _ _ _ _ _ _ _ _ _)
      | (with_reducible exact free_Rises.mono _ _)
      | (with_reducible exact octet_Put.mono _ _ _ _)
      | (with_reducible exact slices_ContainsFunc_uint32_uint32_56.mono _ _)
      | (with_reducible exact LeO.refl _)
      | (with_reducible exact LeO.none _)
      | (with_reducible refine LeO.ite ?_ ?_)
      | (with_reducible refine LeO.bind ?_ (fun _ => ?_))
      | exact ih0 _ _ _ _ _ _
      | exact ih1 _ _ _ _ _ _ _ _ _
      | exact free_Rises.mono _ _
      | exact octet_Put.mono _ _ _ _
      | exact slices_ContainsFunc_uint32_uint32_56.mono _ _
      | exact LeO.none _
      | refine LeO.ite ?_ ?_
      | refine LeO.bind ?_ (fun _ => ?_)
theorem free_Page.mono : ∀ a0 a1 a2 a3 a4 k, LeO (free_Page.f k a0 a1 a2 a3 a4) (free_Page.f (k + 1) a0 a1 a2 a3 a4) := by
  intro a0 a1 a2 a3 a4 k
  obtain ⟨ih0, ih1⟩ := free_Page.mono_l k
  unfold free_Page.f
  repeat' first
      | (with_reducible exact ih0 _ _ _ _ _ _)
      | (with_reducible exact ih1 _ _ _ _ _ _ _ _ _)
      | (with_reducible exact free_Rises.mono _ _)
      | (with_reducible exact octet_Put.mono _ _ _ _)
      | (with_reducible exact slices_ContainsFunc_uint32_uint32_56.mono _ _)
      | (with_reducible exact LeO.refl _)
      | (with_reducible exact LeO.none _)
      | (with_reducible refine LeO.ite ?_ ?_)
      | (with_reducible refine LeO.bind ?_ (fun _ => ?_))
      | exact ih0 _ _ _ _ _ _
      | exact ih1 _ _ _ _ _ _ _ _ _
      | exact free_Rises.mono _ _
      | exact octet_Put.mono _ _ _ _
      | exact slices_ContainsFunc_uint32_uint32_56.mono _ _
      | exact LeO.none _
      | refine LeO.ite ?_ ?_
      | refine LeO.bind ?_ (fun _ => ?_)
set_option maxHeartbeats 8000000 in
set_option maxRecDepth 100000 in
theorem free_Page.calls (k : Nat) (a0 : Int) (a1 : Int) (a2 : Int) (a3 : Int) (A4 : Option Addr) (c4 : Nat) (l4 : List Int) (r1 : Int) (r2 : Int) (r3 : Int) (r4 : Int) (r5 : Int) (r6 : ByteArray) (r7 : Int) (w : World) (hr4 : Kd.C (Kd.int .u32) w A4 l4.length l4) (hc4 : l4.length ≤ c4) (h : free_Page.f k a0 a1 a2 a3 l4 = some (r1, r2, r3, r4, r5, r6, r7)) :
    Calls Try.prog 27 #[.int .i64 a0, .int .u32 a1, .int .u32 a2, .int .u64 a3, .slice A4 l4.length c4] w fun e w' => e = .returned (.tuple #[.agg #[.int .i64 r1, .int .i64 r2, .int .u32 r3, .int .u32 r4, .int .u64 r5, .string r6], .int .i64 r7]) ∧ Below w.heap.size w w' := by
  have hu39 := Try.underlying39
  have HR4 := Aside0.mk hr4
  have HC4 := Aside0.mk hc4
  clear hr4 hc4
  have HB := Aside0.mk (Below.refl w.heap.size w)
  have H : ((free_Most.f a0).bind fun t204 => (if t204 = 0 then (free_Page.j0 k a0 a1 a2 a3 l4 true) else ((free_Most.f a0).bind fun t205 => (if (l4.length : Int) > t205 then (free_Page.j0 k a0 a1 a2 a3 l4 true) else ((free_Rises.f k l4).bind fun t206 => (if t206 = true then ((slices_ContainsFunc_uint32_uint32_56.f k l4).bind fun t207 => (if t207 = true then (free_Page.j0 k a0 a1 a2 a3 l4 true) else ((free_Page_1.f a1).bind fun t208 => (if t208 = true then (free_Page.j0 k a0 a1 a2 a3 l4 true) else (if a2 = 0 then (free_Page.j0 k a0 a1 a2 a3 l4 (decide (a3 > 4611686018427387904))) else ((free_Page_1.f a2).bind fun t209 => (if t209 = true then (free_Page.j0 k a0 a1 a2 a3 l4 true) else (free_Page.j0 k a0 a1 a2 a3 l4 (decide (a3 > 4611686018427387904)))))))))) else (free_Page.j0 k a0 a1 a2 a3 l4 true))))))) = some (r1, r2, r3, r4, r5, r6, r7) := h
  clear h
  have HC6 := Aside0.mk H
  clear H
  go_enter Try.func27, Try.ntmps27
  go_upto_region 2 with (first | ((with_reducible refine gate_dst (N := 10) rfl ?_); (try (refine gate_guard (by rfl) ?_; dsimp only)); refine box_event ?hg (N := 10) ?hd (cs := #[.int .i64 0, .int .i64 0, .int .u32 0, .int .u32 0, .int .u64 0, .string (⟨#[]⟩ : ByteArray)]) (t := 39) ?hr ?_; (case hd => rfl); (case hg => rfl); (case hr => first | (go_simp; done) | (go_simp; rfl)); intro gb203 hg w7 hbox hb; have n0_ := Aside0.mk (below_step (by repeat (first | (with_reducible first | exact HB.out | apply below_alloc | apply pw_below_drewN | apply below_drew1) | exact HB.out)) hb); have n1_ := Aside0.mk (hbox); have n2_ := Aside0.mk ((by rw [hg]; exact (below_size (by repeat (first | (with_reducible first | exact HB.out | apply below_alloc | apply pw_below_drewN | apply below_drew1) | exact HB.out))) : w.heap.size ≤ gb203)); have n3_ := Aside0.mk ((by rw [hg]; exact (below_size (by repeat (first | (with_reducible first | exact HB.out | apply below_alloc | apply pw_below_drewN | apply below_drew1) | exact HB.out))) : w.heap.size ≤ gb203)); clear HB; have HB := n0_; have BK203 := n1_; have GW203 := n2_; have GE203 := n3_; clear n0_ n1_ n2_ n3_; clear hb hbox hg))
  (try simp only [Act.put, List.setIfInBounds_toArray, List.set_cons_zero, List.set_cons_succ])
  go_cut [55] (fun v55 wc => ∃ (kq : Nat) (x55_5 : Bool), v55 = .bool x55_5 ∧ Aside0 (free_Page.j0 kq a0 a1 a2 a3 l4 x55_5 = some (r1, r2, r3, r4, r5, r6, r7)) ∧ Aside0 (kq ≤ k) ∧ Aside0 (wc.heap[gb203]? = some (.cells #[.int .i64 0, .int .i64 0, .int .u32 0, .int .u32 0, .int .u64 0, .string (⟨#[]⟩ : ByteArray)] 39 (0, 0))) ∧ Aside0 (Below w.heap.size w wc))
  case first =>
    have H := HC6.out
    clear HC6
    replace H := Option.bind_eq_some_iff.mp H
    obtain ⟨t204, A80, H⟩ := H
    replace H : (if t204 = 0 then (free_Page.j0 k a0 a1 a2 a3 l4 true) else ((free_Most.f a0).bind fun t205 => (if (l4.length : Int) > t205 then (free_Page.j0 k a0 a1 a2 a3 l4 true) else ((free_Rises.f k l4).bind fun t206 => (if t206 = true then ((slices_ContainsFunc_uint32_uint32_56.f k l4).bind fun t207 => (if t207 = true then (free_Page.j0 k a0 a1 a2 a3 l4 true) else ((free_Page_1.f a1).bind fun t208 => (if t208 = true then (free_Page.j0 k a0 a1 a2 a3 l4 true) else (if a2 = 0 then (free_Page.j0 k a0 a1 a2 a3 l4 (decide (a3 > 4611686018427387904))) else ((free_Page_1.f a2).bind fun t209 => (if t209 = true then (free_Page.j0 k a0 a1 a2 a3 l4 true) else (free_Page.j0 k a0 a1 a2 a3 l4 (decide (a3 > 4611686018427387904)))))))))) else (free_Page.j0 k a0 a1 a2 a3 l4 true)))))) = some (r1, r2, r3, r4, r5, r6, r7) := H
    have A8 := Aside0.mk A80
    clear A80
    by_cases c9 : t204 = 0
    · rw [if_pos c9] at H
      have c9b0 : (t204 == 0) = true := beq_iff_eq.mpr c9
      have c9b1 : (t204 != 0) = false := bne_eq_false_iff_eq.mpr c9
      clear c9
      (first | rw [c9b0] | (simp only [i64_w, i32_w]; rw [c9b0]) | skip)
      have H' := Aside0.mk H
      clear H
      go_wp2_with (first | ((with_reducible refine gate_callee (f := 31) rfl ?_); refine goesL_ (some 19) rfl rfl Try.func31 (by kernel_rfl) rfl #[.int .i64 a0] rfl (by (try simp only [List.map_toArray, List.map_cons, List.map_nil]); first | done | rfl | (simp only [List.length_drop, List.length_take]; rfl)) ?_; (with_reducible refine (free_Most.calls a0 t204 _ A8.out).mono ?_); rintro e w' ⟨rfl, ⟨nd, rfl⟩⟩; refine ⟨_, rfl, ?_⟩))
      go_meet
      case rel => exact ⟨_, (true), (by first | rfl | (simp; done) | (simp [*]; done)), H', ⟨by first | omega | exact Nat.le_refl _⟩, ⟨by (with_reducible repeat (first | refine blk_drewN ?_ _ | refine blk_drew ?_ | refine blk_alloc ?_ _)); exact BK203.out⟩, ⟨by repeat (first | (with_reducible first | exact HB.out | apply below_alloc | apply pw_below_drewN | apply below_drew1 | refine below_set ?_ GE203.out) | exact HB.out)⟩⟩
    · rw [if_neg c9] at H
      have c9b0 : (t204 == 0) = false := beq_eq_false_iff_ne.mpr c9
      have c9b1 : (t204 != 0) = true := bne_iff_ne.mpr c9
      (first | rw [c9b0] | (simp only [i64_w, i32_w]; rw [c9b0]) | skip)
      replace H := Option.bind_eq_some_iff.mp H
      obtain ⟨t205, A100, H⟩ := H
      replace H : (if (l4.length : Int) > t205 then (free_Page.j0 k a0 a1 a2 a3 l4 true) else ((free_Rises.f k l4).bind fun t206 => (if t206 = true then ((slices_ContainsFunc_uint32_uint32_56.f k l4).bind fun t207 => (if t207 = true then (free_Page.j0 k a0 a1 a2 a3 l4 true) else ((free_Page_1.f a1).bind fun t208 => (if t208 = true then (free_Page.j0 k a0 a1 a2 a3 l4 true) else (if a2 = 0 then (free_Page.j0 k a0 a1 a2 a3 l4 (decide (a3 > 4611686018427387904))) else ((free_Page_1.f a2).bind fun t209 => (if t209 = true then (free_Page.j0 k a0 a1 a2 a3 l4 true) else (free_Page.j0 k a0 a1 a2 a3 l4 (decide (a3 > 4611686018427387904)))))))))) else (free_Page.j0 k a0 a1 a2 a3 l4 true)))) = some (r1, r2, r3, r4, r5, r6, r7) := H
      have A10 := Aside0.mk A100
      clear A100
      by_cases c11 : (l4.length : Int) > t205
      · rw [if_pos c11] at H
        have c11b0 : decide (t205 < (l4.length : Int)) = true := decide_eq_true c11
        clear c11
        have H' := Aside0.mk H
        clear H
        go_wp2_with (first | ((with_reducible refine gate_callee (f := 31) rfl ?_); refine goesL_ (some 19) rfl rfl Try.func31 (by kernel_rfl) rfl #[.int .i64 a0] rfl (by (try simp only [List.map_toArray, List.map_cons, List.map_nil]); first | done | rfl | (simp only [List.length_drop, List.length_take]; rfl)) ?_; (with_reducible refine (free_Most.calls a0 t204 _ A8.out).mono ?_); rintro e w' ⟨rfl, ⟨nd, rfl⟩⟩; refine ⟨_, rfl, ?_⟩) | ((with_reducible refine gate_dst (N := 25) rfl ?_); (try (refine gate_guard (by rfl) ?_; dsimp only)); (try (refine gate_guard (by rfl) ?_; dsimp only)); (with_reducible refine gate_callee (f := 31) rfl ?_); refine goesL_ (some 25) rfl rfl Try.func31 (by kernel_rfl) rfl #[.int .i64 a0] rfl (by (try simp only [List.map_toArray, List.map_cons, List.map_nil]); first | done | rfl | (simp only [List.length_drop, List.length_take]; rfl)) ?_; (with_reducible refine (free_Most.calls a0 t205 _ A10.out).mono ?_); rintro e w' ⟨rfl, ⟨nd, rfl⟩⟩; refine ⟨_, rfl, ?_⟩))
        go_meet
        case rel => exact ⟨_, (true), (by first | rfl | (simp; done) | (simp [*]; done)), H', ⟨by first | omega | exact Nat.le_refl _⟩, ⟨by (with_reducible repeat (first | refine blk_drewN ?_ _ | refine blk_drew ?_ | refine blk_alloc ?_ _)); exact BK203.out⟩, ⟨by repeat (first | (with_reducible first | exact HB.out | apply below_alloc | apply pw_below_drewN | apply below_drew1 | refine below_set ?_ GE203.out) | exact HB.out)⟩⟩
      · rw [if_neg c11] at H
        have c11b0 : decide (t205 < (l4.length : Int)) = false := decide_eq_false c11
        clear c11
        replace H := Option.bind_eq_some_iff.mp H
        obtain ⟨t206, A120, H⟩ := H
        replace H : (if t206 = true then ((slices_ContainsFunc_uint32_uint32_56.f k l4).bind fun t207 => (if t207 = true then (free_Page.j0 k a0 a1 a2 a3 l4 true) else ((free_Page_1.f a1).bind fun t208 => (if t208 = true then (free_Page.j0 k a0 a1 a2 a3 l4 true) else (if a2 = 0 then (free_Page.j0 k a0 a1 a2 a3 l4 (decide (a3 > 4611686018427387904))) else ((free_Page_1.f a2).bind fun t209 => (if t209 = true then (free_Page.j0 k a0 a1 a2 a3 l4 true) else (free_Page.j0 k a0 a1 a2 a3 l4 (decide (a3 > 4611686018427387904)))))))))) else (free_Page.j0 k a0 a1 a2 a3 l4 true)) = some (r1, r2, r3, r4, r5, r6, r7) := H
        have A12 := Aside0.mk A120
        clear A120
        by_cases c13 : t206 = true
        · subst c13
          have H1 : ((slices_ContainsFunc_uint32_uint32_56.f k l4).bind fun t207 => (if t207 = true then (free_Page.j0 k a0 a1 a2 a3 l4 true) else ((free_Page_1.f a1).bind fun t208 => (if t208 = true then (free_Page.j0 k a0 a1 a2 a3 l4 true) else (if a2 = 0 then (free_Page.j0 k a0 a1 a2 a3 l4 (decide (a3 > 4611686018427387904))) else ((free_Page_1.f a2).bind fun t209 => (if t209 = true then (free_Page.j0 k a0 a1 a2 a3 l4 true) else (free_Page.j0 k a0 a1 a2 a3 l4 (decide (a3 > 4611686018427387904)))))))))) = some (r1, r2, r3, r4, r5, r6, r7) := by rw [if_pos rfl] at H; exact H
          clear H
          have H := H1
          clear H1
          replace H := Option.bind_eq_some_iff.mp H
          obtain ⟨t207, A140, H⟩ := H
          replace H : (if t207 = true then (free_Page.j0 k a0 a1 a2 a3 l4 true) else ((free_Page_1.f a1).bind fun t208 => (if t208 = true then (free_Page.j0 k a0 a1 a2 a3 l4 true) else (if a2 = 0 then (free_Page.j0 k a0 a1 a2 a3 l4 (decide (a3 > 4611686018427387904))) else ((free_Page_1.f a2).bind fun t209 => (if t209 = true then (free_Page.j0 k a0 a1 a2 a3 l4 true) else (free_Page.j0 k a0 a1 a2 a3 l4 (decide (a3 > 4611686018427387904))))))))) = some (r1, r2, r3, r4, r5, r6, r7) := H
          have A14 := Aside0.mk A140
          clear A140
          by_cases c15 : t207 = true
          · subst c15
            have H1 : (free_Page.j0 k a0 a1 a2 a3 l4 true) = some (r1, r2, r3, r4, r5, r6, r7) := by rw [if_pos rfl] at H; exact H
            clear H
            have H := H1
            clear H1
            have H' := Aside0.mk H
            clear H
            go_wp2_with (first | ((with_reducible refine gate_callee (f := 31) rfl ?_); refine goesL_ (some 19) rfl rfl Try.func31 (by kernel_rfl) rfl #[.int .i64 a0] rfl (by (try simp only [List.map_toArray, List.map_cons, List.map_nil]); first | done | rfl | (simp only [List.length_drop, List.length_take]; rfl)) ?_; (with_reducible refine (free_Most.calls a0 t204 _ A8.out).mono ?_); rintro e w' ⟨rfl, ⟨nd, rfl⟩⟩; refine ⟨_, rfl, ?_⟩) | ((with_reducible refine gate_dst (N := 25) rfl ?_); (try (refine gate_guard (by rfl) ?_; dsimp only)); (try (refine gate_guard (by rfl) ?_; dsimp only)); (with_reducible refine gate_callee (f := 31) rfl ?_); refine goesL_ (some 25) rfl rfl Try.func31 (by kernel_rfl) rfl #[.int .i64 a0] rfl (by (try simp only [List.map_toArray, List.map_cons, List.map_nil]); first | done | rfl | (simp only [List.length_drop, List.length_take]; rfl)) ?_; (with_reducible refine (free_Most.calls a0 t205 _ A10.out).mono ?_); rintro e w' ⟨rfl, ⟨nd, rfl⟩⟩; refine ⟨_, rfl, ?_⟩) | ((with_reducible refine gate_dst (N := 30) rfl ?_); (try (refine gate_guard (by rfl) ?_; dsimp only)); (try (refine gate_guard (by rfl) ?_; dsimp only)); (with_reducible refine gate_callee (f := 29) rfl ?_); refine goesL_ (some 30) rfl rfl Try.func29 (by kernel_rfl) rfl #[.slice A4 l4.length c4] rfl (by (try simp only [List.map_toArray, List.map_cons, List.map_nil]); first | done | rfl | (simp only [List.length_drop, List.length_take]; rfl)) ?_; (with_reducible refine (free_Rises.calls k _ _ l4 true _ ?side1 ?side2 A12.out).mono ?_); (case side1 => repeat (first | exact (Kd.C_below HR4.out (by repeat (first | (with_reducible first | exact HB.out | apply below_alloc | apply pw_below_drewN | apply below_drew1 | refine below_set ?_ GE203.out) | exact HB.out))) | (with_reducible refine Kd.C_alloc ?_ _) | (with_reducible refine Kd.C_drewN ?_ _) | (with_reducible refine Kd.C_drew ?_))); (case side2 => exact HC4.out); rintro e w' ⟨rfl, ⟨nd, rfl⟩⟩; refine ⟨_, rfl, ?_⟩) | ((with_reducible refine gate_dst (N := 36) rfl ?_); (try (refine gate_guard (by rfl) ?_; dsimp only)); (try (refine gate_guard (by rfl) ?_; dsimp only)); (with_reducible refine gate_callee (f := 58) rfl ?_); refine goesL_ (some 36) rfl rfl Try.func58 (by kernel_rfl) rfl #[.slice A4 l4.length c4, .func (.func 56) #[] #[]] rfl (by (try simp only [List.map_toArray, List.map_cons, List.map_nil]); first | done | rfl | (simp only [List.length_drop, List.length_take]; rfl)) ?_; (with_reducible refine (slices_ContainsFunc_uint32_uint32_56.calls k _ _ l4 true _ ?side1 ?side2 A14.out).mono ?_); (case side1 => repeat (first | exact (Kd.C_below HR4.out (by repeat (first | (with_reducible first | exact HB.out | apply below_alloc | apply pw_below_drewN | apply below_drew1 | refine below_set ?_ GE203.out) | exact HB.out))) | (with_reducible refine Kd.C_alloc ?_ _) | (with_reducible refine Kd.C_drewN ?_ _) | (with_reducible refine Kd.C_drew ?_))); (case side2 => exact HC4.out); rintro e w' ⟨rfl, ⟨nd, rfl⟩⟩; refine ⟨_, rfl, ?_⟩))
            go_meet
            case rel => exact ⟨_, (true), (by first | rfl | (simp; done) | (simp [*]; done)), H', ⟨by first | omega | exact Nat.le_refl _⟩, ⟨by (with_reducible repeat (first | refine blk_drewN ?_ _ | refine blk_drew ?_ | refine blk_alloc ?_ _)); exact BK203.out⟩, ⟨by repeat (first | (with_reducible first | exact HB.out | apply below_alloc | apply pw_below_drewN | apply below_drew1 | refine below_set ?_ GE203.out) | exact HB.out)⟩⟩
          · replace c15 := Bool.eq_false_iff.mpr c15
            subst c15
            have H1 : ((free_Page_1.f a1).bind fun t208 => (if t208 = true then (free_Page.j0 k a0 a1 a2 a3 l4 true) else (if a2 = 0 then (free_Page.j0 k a0 a1 a2 a3 l4 (decide (a3 > 4611686018427387904))) else ((free_Page_1.f a2).bind fun t209 => (if t209 = true then (free_Page.j0 k a0 a1 a2 a3 l4 true) else (free_Page.j0 k a0 a1 a2 a3 l4 (decide (a3 > 4611686018427387904)))))))) = some (r1, r2, r3, r4, r5, r6, r7) := by rw [if_neg (show ¬ (false = true) by decide)] at H; exact H
            clear H
            have H := H1
            clear H1
            replace H := Option.bind_eq_some_iff.mp H
            obtain ⟨t208, A160, H⟩ := H
            replace H : (if t208 = true then (free_Page.j0 k a0 a1 a2 a3 l4 true) else (if a2 = 0 then (free_Page.j0 k a0 a1 a2 a3 l4 (decide (a3 > 4611686018427387904))) else ((free_Page_1.f a2).bind fun t209 => (if t209 = true then (free_Page.j0 k a0 a1 a2 a3 l4 true) else (free_Page.j0 k a0 a1 a2 a3 l4 (decide (a3 > 4611686018427387904))))))) = some (r1, r2, r3, r4, r5, r6, r7) := H
            have A16 := Aside0.mk A160
            clear A160
            by_cases c17 : t208 = true
            · subst c17
              have H1 : (free_Page.j0 k a0 a1 a2 a3 l4 true) = some (r1, r2, r3, r4, r5, r6, r7) := by rw [if_pos rfl] at H; exact H
              clear H
              have H := H1
              clear H1
              have H' := Aside0.mk H
              clear H
              go_wp2_with (first | ((with_reducible refine gate_callee (f := 31) rfl ?_); refine goesL_ (some 19) rfl rfl Try.func31 (by kernel_rfl) rfl #[.int .i64 a0] rfl (by (try simp only [List.map_toArray, List.map_cons, List.map_nil]); first | done | rfl | (simp only [List.length_drop, List.length_take]; rfl)) ?_; (with_reducible refine (free_Most.calls a0 t204 _ A8.out).mono ?_); rintro e w' ⟨rfl, ⟨nd, rfl⟩⟩; refine ⟨_, rfl, ?_⟩) | ((with_reducible refine gate_dst (N := 25) rfl ?_); (try (refine gate_guard (by rfl) ?_; dsimp only)); (try (refine gate_guard (by rfl) ?_; dsimp only)); (with_reducible refine gate_callee (f := 31) rfl ?_); refine goesL_ (some 25) rfl rfl Try.func31 (by kernel_rfl) rfl #[.int .i64 a0] rfl (by (try simp only [List.map_toArray, List.map_cons, List.map_nil]); first | done | rfl | (simp only [List.length_drop, List.length_take]; rfl)) ?_; (with_reducible refine (free_Most.calls a0 t205 _ A10.out).mono ?_); rintro e w' ⟨rfl, ⟨nd, rfl⟩⟩; refine ⟨_, rfl, ?_⟩) | ((with_reducible refine gate_dst (N := 30) rfl ?_); (try (refine gate_guard (by rfl) ?_; dsimp only)); (try (refine gate_guard (by rfl) ?_; dsimp only)); (with_reducible refine gate_callee (f := 29) rfl ?_); refine goesL_ (some 30) rfl rfl Try.func29 (by kernel_rfl) rfl #[.slice A4 l4.length c4] rfl (by (try simp only [List.map_toArray, List.map_cons, List.map_nil]); first | done | rfl | (simp only [List.length_drop, List.length_take]; rfl)) ?_; (with_reducible refine (free_Rises.calls k _ _ l4 true _ ?side1 ?side2 A12.out).mono ?_); (case side1 => repeat (first | exact (Kd.C_below HR4.out (by repeat (first | (with_reducible first | exact HB.out | apply below_alloc | apply pw_below_drewN | apply below_drew1 | refine below_set ?_ GE203.out) | exact HB.out))) | (with_reducible refine Kd.C_alloc ?_ _) | (with_reducible refine Kd.C_drewN ?_ _) | (with_reducible refine Kd.C_drew ?_))); (case side2 => exact HC4.out); rintro e w' ⟨rfl, ⟨nd, rfl⟩⟩; refine ⟨_, rfl, ?_⟩) | ((with_reducible refine gate_dst (N := 36) rfl ?_); (try (refine gate_guard (by rfl) ?_; dsimp only)); (try (refine gate_guard (by rfl) ?_; dsimp only)); (with_reducible refine gate_callee (f := 58) rfl ?_); refine goesL_ (some 36) rfl rfl Try.func58 (by kernel_rfl) rfl #[.slice A4 l4.length c4, .func (.func 56) #[] #[]] rfl (by (try simp only [List.map_toArray, List.map_cons, List.map_nil]); first | done | rfl | (simp only [List.length_drop, List.length_take]; rfl)) ?_; (with_reducible refine (slices_ContainsFunc_uint32_uint32_56.calls k _ _ l4 false _ ?side1 ?side2 A14.out).mono ?_); (case side1 => repeat (first | exact (Kd.C_below HR4.out (by repeat (first | (with_reducible first | exact HB.out | apply below_alloc | apply pw_below_drewN | apply below_drew1 | refine below_set ?_ GE203.out) | exact HB.out))) | (with_reducible refine Kd.C_alloc ?_ _) | (with_reducible refine Kd.C_drewN ?_ _) | (with_reducible refine Kd.C_drew ?_))); (case side2 => exact HC4.out); rintro e w' ⟨rfl, ⟨nd, rfl⟩⟩; refine ⟨_, rfl, ?_⟩) | ((with_reducible refine gate_dst (N := 41) rfl ?_); (try (refine gate_guard (by rfl) ?_; dsimp only)); (try (refine gate_guard (by rfl) ?_; dsimp only)); (with_reducible refine gate_callee_t (f := 56) rfl ?_); refine goesL_t (some 41) rfl rfl Try.func56 (by kernel_rfl) rfl #[.int .u32 a1] rfl (by (try simp only [List.map_toArray, List.map_cons, List.map_nil]); first | done | rfl | (simp only [List.length_drop, List.length_take]; rfl)) ?_; (with_reducible refine (free_Page_1.calls a1 true _ A16.out).mono ?_); rintro e w' ⟨rfl, ⟨nd, rfl⟩⟩; refine ⟨_, rfl, ?_⟩))
              go_meet
              case rel => exact ⟨_, (true), (by first | rfl | (simp; done) | (simp [*]; done)), H', ⟨by first | omega | exact Nat.le_refl _⟩, ⟨by (with_reducible repeat (first | refine blk_drewN ?_ _ | refine blk_drew ?_ | refine blk_alloc ?_ _)); exact BK203.out⟩, ⟨by repeat (first | (with_reducible first | exact HB.out | apply below_alloc | apply pw_below_drewN | apply below_drew1 | refine below_set ?_ GE203.out) | exact HB.out)⟩⟩
            · replace c17 := Bool.eq_false_iff.mpr c17
              subst c17
              have H1 : (if a2 = 0 then (free_Page.j0 k a0 a1 a2 a3 l4 (decide (a3 > 4611686018427387904))) else ((free_Page_1.f a2).bind fun t209 => (if t209 = true then (free_Page.j0 k a0 a1 a2 a3 l4 true) else (free_Page.j0 k a0 a1 a2 a3 l4 (decide (a3 > 4611686018427387904)))))) = some (r1, r2, r3, r4, r5, r6, r7) := by rw [if_neg (show ¬ (false = true) by decide)] at H; exact H
              clear H
              have H := H1
              clear H1
              by_cases c18 : a2 = 0
              · rw [if_pos c18] at H
                have c18b0 : (a2 == 0) = true := beq_iff_eq.mpr c18
                have c18b1 : (a2 != 0) = false := bne_eq_false_iff_eq.mpr c18
                clear c18
                have H' := Aside0.mk H
                clear H
                go_wp2_with (first | ((with_reducible refine gate_callee (f := 31) rfl ?_); refine goesL_ (some 19) rfl rfl Try.func31 (by kernel_rfl) rfl #[.int .i64 a0] rfl (by (try simp only [List.map_toArray, List.map_cons, List.map_nil]); first | done | rfl | (simp only [List.length_drop, List.length_take]; rfl)) ?_; (with_reducible refine (free_Most.calls a0 t204 _ A8.out).mono ?_); rintro e w' ⟨rfl, ⟨nd, rfl⟩⟩; refine ⟨_, rfl, ?_⟩) | ((with_reducible refine gate_dst (N := 25) rfl ?_); (try (refine gate_guard (by rfl) ?_; dsimp only)); (try (refine gate_guard (by rfl) ?_; dsimp only)); (with_reducible refine gate_callee (f := 31) rfl ?_); refine goesL_ (some 25) rfl rfl Try.func31 (by kernel_rfl) rfl #[.int .i64 a0] rfl (by (try simp only [List.map_toArray, List.map_cons, List.map_nil]); first | done | rfl | (simp only [List.length_drop, List.length_take]; rfl)) ?_; (with_reducible refine (free_Most.calls a0 t205 _ A10.out).mono ?_); rintro e w' ⟨rfl, ⟨nd, rfl⟩⟩; refine ⟨_, rfl, ?_⟩) | ((with_reducible refine gate_dst (N := 30) rfl ?_); (try (refine gate_guard (by rfl) ?_; dsimp only)); (try (refine gate_guard (by rfl) ?_; dsimp only)); (with_reducible refine gate_callee (f := 29) rfl ?_); refine goesL_ (some 30) rfl rfl Try.func29 (by kernel_rfl) rfl #[.slice A4 l4.length c4] rfl (by (try simp only [List.map_toArray, List.map_cons, List.map_nil]); first | done | rfl | (simp only [List.length_drop, List.length_take]; rfl)) ?_; (with_reducible refine (free_Rises.calls k _ _ l4 true _ ?side1 ?side2 A12.out).mono ?_); (case side1 => repeat (first | exact (Kd.C_below HR4.out (by repeat (first | (with_reducible first | exact HB.out | apply below_alloc | apply pw_below_drewN | apply below_drew1 | refine below_set ?_ GE203.out) | exact HB.out))) | (with_reducible refine Kd.C_alloc ?_ _) | (with_reducible refine Kd.C_drewN ?_ _) | (with_reducible refine Kd.C_drew ?_))); (case side2 => exact HC4.out); rintro e w' ⟨rfl, ⟨nd, rfl⟩⟩; refine ⟨_, rfl, ?_⟩) | ((with_reducible refine gate_dst (N := 36) rfl ?_); (try (refine gate_guard (by rfl) ?_; dsimp only)); (try (refine gate_guard (by rfl) ?_; dsimp only)); (with_reducible refine gate_callee (f := 58) rfl ?_); refine goesL_ (some 36) rfl rfl Try.func58 (by kernel_rfl) rfl #[.slice A4 l4.length c4, .func (.func 56) #[] #[]] rfl (by (try simp only [List.map_toArray, List.map_cons, List.map_nil]); first | done | rfl | (simp only [List.length_drop, List.length_take]; rfl)) ?_; (with_reducible refine (slices_ContainsFunc_uint32_uint32_56.calls k _ _ l4 false _ ?side1 ?side2 A14.out).mono ?_); (case side1 => repeat (first | exact (Kd.C_below HR4.out (by repeat (first | (with_reducible first | exact HB.out | apply below_alloc | apply pw_below_drewN | apply below_drew1 | refine below_set ?_ GE203.out) | exact HB.out))) | (with_reducible refine Kd.C_alloc ?_ _) | (with_reducible refine Kd.C_drewN ?_ _) | (with_reducible refine Kd.C_drew ?_))); (case side2 => exact HC4.out); rintro e w' ⟨rfl, ⟨nd, rfl⟩⟩; refine ⟨_, rfl, ?_⟩) | ((with_reducible refine gate_dst (N := 41) rfl ?_); (try (refine gate_guard (by rfl) ?_; dsimp only)); (try (refine gate_guard (by rfl) ?_; dsimp only)); (with_reducible refine gate_callee_t (f := 56) rfl ?_); refine goesL_t (some 41) rfl rfl Try.func56 (by kernel_rfl) rfl #[.int .u32 a1] rfl (by (try simp only [List.map_toArray, List.map_cons, List.map_nil]); first | done | rfl | (simp only [List.length_drop, List.length_take]; rfl)) ?_; (with_reducible refine (free_Page_1.calls a1 false _ A16.out).mono ?_); rintro e w' ⟨rfl, ⟨nd, rfl⟩⟩; refine ⟨_, rfl, ?_⟩))
                go_meet
                case rel => exact ⟨_, (decide (a3 > 4611686018427387904)), (by first | rfl | (simp; done) | (simp [*]; done)), H', ⟨by first | omega | exact Nat.le_refl _⟩, ⟨by (with_reducible repeat (first | refine blk_drewN ?_ _ | refine blk_drew ?_ | refine blk_alloc ?_ _)); exact BK203.out⟩, ⟨by repeat (first | (with_reducible first | exact HB.out | apply below_alloc | apply pw_below_drewN | apply below_drew1 | refine below_set ?_ GE203.out) | exact HB.out)⟩⟩
              · rw [if_neg c18] at H
                have c18b0 : (a2 == 0) = false := beq_eq_false_iff_ne.mpr c18
                have c18b1 : (a2 != 0) = true := bne_iff_ne.mpr c18
                replace H := Option.bind_eq_some_iff.mp H
                obtain ⟨t209, A190, H⟩ := H
                replace H : (if t209 = true then (free_Page.j0 k a0 a1 a2 a3 l4 true) else (free_Page.j0 k a0 a1 a2 a3 l4 (decide (a3 > 4611686018427387904)))) = some (r1, r2, r3, r4, r5, r6, r7) := H
                have A19 := Aside0.mk A190
                clear A190
                by_cases c20 : t209 = true
                · subst c20
                  have H1 : (free_Page.j0 k a0 a1 a2 a3 l4 true) = some (r1, r2, r3, r4, r5, r6, r7) := by rw [if_pos rfl] at H; exact H
                  clear H
                  have H := H1
                  clear H1
                  have H' := Aside0.mk H
                  clear H
                  go_wp2_with (first | ((with_reducible refine gate_callee (f := 31) rfl ?_); refine goesL_ (some 19) rfl rfl Try.func31 (by kernel_rfl) rfl #[.int .i64 a0] rfl (by (try simp only [List.map_toArray, List.map_cons, List.map_nil]); first | done | rfl | (simp only [List.length_drop, List.length_take]; rfl)) ?_; (with_reducible refine (free_Most.calls a0 t204 _ A8.out).mono ?_); rintro e w' ⟨rfl, ⟨nd, rfl⟩⟩; refine ⟨_, rfl, ?_⟩) | ((with_reducible refine gate_dst (N := 25) rfl ?_); (try (refine gate_guard (by rfl) ?_; dsimp only)); (try (refine gate_guard (by rfl) ?_; dsimp only)); (with_reducible refine gate_callee (f := 31) rfl ?_); refine goesL_ (some 25) rfl rfl Try.func31 (by kernel_rfl) rfl #[.int .i64 a0] rfl (by (try simp only [List.map_toArray, List.map_cons, List.map_nil]); first | done | rfl | (simp only [List.length_drop, List.length_take]; rfl)) ?_; (with_reducible refine (free_Most.calls a0 t205 _ A10.out).mono ?_); rintro e w' ⟨rfl, ⟨nd, rfl⟩⟩; refine ⟨_, rfl, ?_⟩) | ((with_reducible refine gate_dst (N := 30) rfl ?_); (try (refine gate_guard (by rfl) ?_; dsimp only)); (try (refine gate_guard (by rfl) ?_; dsimp only)); (with_reducible refine gate_callee (f := 29) rfl ?_); refine goesL_ (some 30) rfl rfl Try.func29 (by kernel_rfl) rfl #[.slice A4 l4.length c4] rfl (by (try simp only [List.map_toArray, List.map_cons, List.map_nil]); first | done | rfl | (simp only [List.length_drop, List.length_take]; rfl)) ?_; (with_reducible refine (free_Rises.calls k _ _ l4 true _ ?side1 ?side2 A12.out).mono ?_); (case side1 => repeat (first | exact (Kd.C_below HR4.out (by repeat (first | (with_reducible first | exact HB.out | apply below_alloc | apply pw_below_drewN | apply below_drew1 | refine below_set ?_ GE203.out) | exact HB.out))) | (with_reducible refine Kd.C_alloc ?_ _) | (with_reducible refine Kd.C_drewN ?_ _) | (with_reducible refine Kd.C_drew ?_))); (case side2 => exact HC4.out); rintro e w' ⟨rfl, ⟨nd, rfl⟩⟩; refine ⟨_, rfl, ?_⟩) | ((with_reducible refine gate_dst (N := 36) rfl ?_); (try (refine gate_guard (by rfl) ?_; dsimp only)); (try (refine gate_guard (by rfl) ?_; dsimp only)); (with_reducible refine gate_callee (f := 58) rfl ?_); refine goesL_ (some 36) rfl rfl Try.func58 (by kernel_rfl) rfl #[.slice A4 l4.length c4, .func (.func 56) #[] #[]] rfl (by (try simp only [List.map_toArray, List.map_cons, List.map_nil]); first | done | rfl | (simp only [List.length_drop, List.length_take]; rfl)) ?_; (with_reducible refine (slices_ContainsFunc_uint32_uint32_56.calls k _ _ l4 false _ ?side1 ?side2 A14.out).mono ?_); (case side1 => repeat (first | exact (Kd.C_below HR4.out (by repeat (first | (with_reducible first | exact HB.out | apply below_alloc | apply pw_below_drewN | apply below_drew1 | refine below_set ?_ GE203.out) | exact HB.out))) | (with_reducible refine Kd.C_alloc ?_ _) | (with_reducible refine Kd.C_drewN ?_ _) | (with_reducible refine Kd.C_drew ?_))); (case side2 => exact HC4.out); rintro e w' ⟨rfl, ⟨nd, rfl⟩⟩; refine ⟨_, rfl, ?_⟩) | ((with_reducible refine gate_dst (N := 41) rfl ?_); (try (refine gate_guard (by rfl) ?_; dsimp only)); (try (refine gate_guard (by rfl) ?_; dsimp only)); (with_reducible refine gate_callee_t (f := 56) rfl ?_); refine goesL_t (some 41) rfl rfl Try.func56 (by kernel_rfl) rfl #[.int .u32 a1] rfl (by (try simp only [List.map_toArray, List.map_cons, List.map_nil]); first | done | rfl | (simp only [List.length_drop, List.length_take]; rfl)) ?_; (with_reducible refine (free_Page_1.calls a1 false _ A16.out).mono ?_); rintro e w' ⟨rfl, ⟨nd, rfl⟩⟩; refine ⟨_, rfl, ?_⟩) | ((with_reducible refine gate_dst (N := 49) rfl ?_); (try (refine gate_guard (by rfl) ?_; dsimp only)); (try (refine gate_guard (by rfl) ?_; dsimp only)); (with_reducible refine gate_callee_t (f := 56) rfl ?_); refine goesL_t (some 49) rfl rfl Try.func56 (by kernel_rfl) rfl #[.int .u32 a2] rfl (by (try simp only [List.map_toArray, List.map_cons, List.map_nil]); first | done | rfl | (simp only [List.length_drop, List.length_take]; rfl)) ?_; (with_reducible refine (free_Page_1.calls a2 true _ A19.out).mono ?_); rintro e w' ⟨rfl, ⟨nd, rfl⟩⟩; refine ⟨_, rfl, ?_⟩))
                  go_meet
                  case rel => exact ⟨_, (true), (by first | rfl | (simp; done) | (simp [*]; done)), H', ⟨by first | omega | exact Nat.le_refl _⟩, ⟨by (with_reducible repeat (first | refine blk_drewN ?_ _ | refine blk_drew ?_ | refine blk_alloc ?_ _)); exact BK203.out⟩, ⟨by repeat (first | (with_reducible first | exact HB.out | apply below_alloc | apply pw_below_drewN | apply below_drew1 | refine below_set ?_ GE203.out) | exact HB.out)⟩⟩
                · replace c20 := Bool.eq_false_iff.mpr c20
                  subst c20
                  have H1 : (free_Page.j0 k a0 a1 a2 a3 l4 (decide (a3 > 4611686018427387904))) = some (r1, r2, r3, r4, r5, r6, r7) := by rw [if_neg (show ¬ (false = true) by decide)] at H; exact H
                  clear H
                  have H := H1
                  clear H1
                  have H' := Aside0.mk H
                  clear H
                  go_wp2_with (first | ((with_reducible refine gate_callee (f := 31) rfl ?_); refine goesL_ (some 19) rfl rfl Try.func31 (by kernel_rfl) rfl #[.int .i64 a0] rfl (by (try simp only [List.map_toArray, List.map_cons, List.map_nil]); first | done | rfl | (simp only [List.length_drop, List.length_take]; rfl)) ?_; (with_reducible refine (free_Most.calls a0 t204 _ A8.out).mono ?_); rintro e w' ⟨rfl, ⟨nd, rfl⟩⟩; refine ⟨_, rfl, ?_⟩) | ((with_reducible refine gate_dst (N := 25) rfl ?_); (try (refine gate_guard (by rfl) ?_; dsimp only)); (try (refine gate_guard (by rfl) ?_; dsimp only)); (with_reducible refine gate_callee (f := 31) rfl ?_); refine goesL_ (some 25) rfl rfl Try.func31 (by kernel_rfl) rfl #[.int .i64 a0] rfl (by (try simp only [List.map_toArray, List.map_cons, List.map_nil]); first | done | rfl | (simp only [List.length_drop, List.length_take]; rfl)) ?_; (with_reducible refine (free_Most.calls a0 t205 _ A10.out).mono ?_); rintro e w' ⟨rfl, ⟨nd, rfl⟩⟩; refine ⟨_, rfl, ?_⟩) | ((with_reducible refine gate_dst (N := 30) rfl ?_); (try (refine gate_guard (by rfl) ?_; dsimp only)); (try (refine gate_guard (by rfl) ?_; dsimp only)); (with_reducible refine gate_callee (f := 29) rfl ?_); refine goesL_ (some 30) rfl rfl Try.func29 (by kernel_rfl) rfl #[.slice A4 l4.length c4] rfl (by (try simp only [List.map_toArray, List.map_cons, List.map_nil]); first | done | rfl | (simp only [List.length_drop, List.length_take]; rfl)) ?_; (with_reducible refine (free_Rises.calls k _ _ l4 true _ ?side1 ?side2 A12.out).mono ?_); (case side1 => repeat (first | exact (Kd.C_below HR4.out (by repeat (first | (with_reducible first | exact HB.out | apply below_alloc | apply pw_below_drewN | apply below_drew1 | refine below_set ?_ GE203.out) | exact HB.out))) | (with_reducible refine Kd.C_alloc ?_ _) | (with_reducible refine Kd.C_drewN ?_ _) | (with_reducible refine Kd.C_drew ?_))); (case side2 => exact HC4.out); rintro e w' ⟨rfl, ⟨nd, rfl⟩⟩; refine ⟨_, rfl, ?_⟩) | ((with_reducible refine gate_dst (N := 36) rfl ?_); (try (refine gate_guard (by rfl) ?_; dsimp only)); (try (refine gate_guard (by rfl) ?_; dsimp only)); (with_reducible refine gate_callee (f := 58) rfl ?_); refine goesL_ (some 36) rfl rfl Try.func58 (by kernel_rfl) rfl #[.slice A4 l4.length c4, .func (.func 56) #[] #[]] rfl (by (try simp only [List.map_toArray, List.map_cons, List.map_nil]); first | done | rfl | (simp only [List.length_drop, List.length_take]; rfl)) ?_; (with_reducible refine (slices_ContainsFunc_uint32_uint32_56.calls k _ _ l4 false _ ?side1 ?side2 A14.out).mono ?_); (case side1 => repeat (first | exact (Kd.C_below HR4.out (by repeat (first | (with_reducible first | exact HB.out | apply below_alloc | apply pw_below_drewN | apply below_drew1 | refine below_set ?_ GE203.out) | exact HB.out))) | (with_reducible refine Kd.C_alloc ?_ _) | (with_reducible refine Kd.C_drewN ?_ _) | (with_reducible refine Kd.C_drew ?_))); (case side2 => exact HC4.out); rintro e w' ⟨rfl, ⟨nd, rfl⟩⟩; refine ⟨_, rfl, ?_⟩) | ((with_reducible refine gate_dst (N := 41) rfl ?_); (try (refine gate_guard (by rfl) ?_; dsimp only)); (try (refine gate_guard (by rfl) ?_; dsimp only)); (with_reducible refine gate_callee_t (f := 56) rfl ?_); refine goesL_t (some 41) rfl rfl Try.func56 (by kernel_rfl) rfl #[.int .u32 a1] rfl (by (try simp only [List.map_toArray, List.map_cons, List.map_nil]); first | done | rfl | (simp only [List.length_drop, List.length_take]; rfl)) ?_; (with_reducible refine (free_Page_1.calls a1 false _ A16.out).mono ?_); rintro e w' ⟨rfl, ⟨nd, rfl⟩⟩; refine ⟨_, rfl, ?_⟩) | ((with_reducible refine gate_dst (N := 49) rfl ?_); (try (refine gate_guard (by rfl) ?_; dsimp only)); (try (refine gate_guard (by rfl) ?_; dsimp only)); (with_reducible refine gate_callee_t (f := 56) rfl ?_); refine goesL_t (some 49) rfl rfl Try.func56 (by kernel_rfl) rfl #[.int .u32 a2] rfl (by (try simp only [List.map_toArray, List.map_cons, List.map_nil]); first | done | rfl | (simp only [List.length_drop, List.length_take]; rfl)) ?_; (with_reducible refine (free_Page_1.calls a2 false _ A19.out).mono ?_); rintro e w' ⟨rfl, ⟨nd, rfl⟩⟩; refine ⟨_, rfl, ?_⟩))
                  go_meet
                  case rel => exact ⟨_, (decide (a3 > 4611686018427387904)), (by first | rfl | (simp; done) | (simp [*]; done)), H', ⟨by first | omega | exact Nat.le_refl _⟩, ⟨by (with_reducible repeat (first | refine blk_drewN ?_ _ | refine blk_drew ?_ | refine blk_alloc ?_ _)); exact BK203.out⟩, ⟨by repeat (first | (with_reducible first | exact HB.out | apply below_alloc | apply pw_below_drewN | apply below_drew1 | refine below_set ?_ GE203.out) | exact HB.out)⟩⟩
        · replace c13 := Bool.eq_false_iff.mpr c13
          subst c13
          have H1 : (free_Page.j0 k a0 a1 a2 a3 l4 true) = some (r1, r2, r3, r4, r5, r6, r7) := by rw [if_neg (show ¬ (false = true) by decide)] at H; exact H
          clear H
          have H := H1
          clear H1
          have H' := Aside0.mk H
          clear H
          go_wp2_with (first | ((with_reducible refine gate_callee (f := 31) rfl ?_); refine goesL_ (some 19) rfl rfl Try.func31 (by kernel_rfl) rfl #[.int .i64 a0] rfl (by (try simp only [List.map_toArray, List.map_cons, List.map_nil]); first | done | rfl | (simp only [List.length_drop, List.length_take]; rfl)) ?_; (with_reducible refine (free_Most.calls a0 t204 _ A8.out).mono ?_); rintro e w' ⟨rfl, ⟨nd, rfl⟩⟩; refine ⟨_, rfl, ?_⟩) | ((with_reducible refine gate_dst (N := 25) rfl ?_); (try (refine gate_guard (by rfl) ?_; dsimp only)); (try (refine gate_guard (by rfl) ?_; dsimp only)); (with_reducible refine gate_callee (f := 31) rfl ?_); refine goesL_ (some 25) rfl rfl Try.func31 (by kernel_rfl) rfl #[.int .i64 a0] rfl (by (try simp only [List.map_toArray, List.map_cons, List.map_nil]); first | done | rfl | (simp only [List.length_drop, List.length_take]; rfl)) ?_; (with_reducible refine (free_Most.calls a0 t205 _ A10.out).mono ?_); rintro e w' ⟨rfl, ⟨nd, rfl⟩⟩; refine ⟨_, rfl, ?_⟩) | ((with_reducible refine gate_dst (N := 30) rfl ?_); (try (refine gate_guard (by rfl) ?_; dsimp only)); (try (refine gate_guard (by rfl) ?_; dsimp only)); (with_reducible refine gate_callee (f := 29) rfl ?_); refine goesL_ (some 30) rfl rfl Try.func29 (by kernel_rfl) rfl #[.slice A4 l4.length c4] rfl (by (try simp only [List.map_toArray, List.map_cons, List.map_nil]); first | done | rfl | (simp only [List.length_drop, List.length_take]; rfl)) ?_; (with_reducible refine (free_Rises.calls k _ _ l4 false _ ?side1 ?side2 A12.out).mono ?_); (case side1 => repeat (first | exact (Kd.C_below HR4.out (by repeat (first | (with_reducible first | exact HB.out | apply below_alloc | apply pw_below_drewN | apply below_drew1 | refine below_set ?_ GE203.out) | exact HB.out))) | (with_reducible refine Kd.C_alloc ?_ _) | (with_reducible refine Kd.C_drewN ?_ _) | (with_reducible refine Kd.C_drew ?_))); (case side2 => exact HC4.out); rintro e w' ⟨rfl, ⟨nd, rfl⟩⟩; refine ⟨_, rfl, ?_⟩))
          go_meet
          case rel => exact ⟨_, (true), (by first | rfl | (simp; done) | (simp [*]; done)), H', ⟨by first | omega | exact Nat.le_refl _⟩, ⟨by (with_reducible repeat (first | refine blk_drewN ?_ _ | refine blk_drew ?_ | refine blk_alloc ?_ _)); exact BK203.out⟩, ⟨by repeat (first | (with_reducible first | exact HB.out | apply below_alloc | apply pw_below_drewN | apply below_drew1 | refine below_set ?_ GE203.out) | exact HB.out)⟩⟩
  case rest =>
    clear HC6
    try clear c1
    try clear c2
    try clear p2
    try clear c3
    try clear c4
    try clear c5
    try clear c9
    try clear c9b0
    try clear c9b1
    try clear c11
    try clear c11b0
    try clear c13
    try clear c15
    try clear c17
    try clear c18
    try clear c18b0
    try clear c18b1
    try clear c20
    obtain ⟨kq, x55_5, rfl, HA, HJ5, BK203, HB⟩ := hcut
    cases kq with
    | zero => exact absurd HA.out (by simp [free_Page.j0])
    | succ kj5 =>
      have H := HA.out
      clear HA
      simp only [free_Page.j0] at H
      by_cases c21 : x55_5 = true
      · subst c21
        have H1 : (some (0, 0, 0, 0, 0, (⟨#[]⟩ : ByteArray), 2)) = some (r1, r2, r3, r4, r5, r6, r7) := by rw [if_pos rfl] at H; exact H
        clear H
        have H := H1
        clear H1
        simp only [Option.some.injEq, Prod.mk.injEq] at H
        obtain ⟨rfl, rfl, rfl, rfl, rfl, rfl, rfl⟩ := H
        have hcz22_0 : wc.cell? ⟨gb203, 0, none⟩ = some (.int .i64 0) := (blk_cell BK203.out 0).trans rfl
        have hcz22_1 : wc.cell? ⟨gb203, 1, none⟩ = some (.int .i64 0) := (blk_cell BK203.out 1).trans rfl
        have hcz22_2 : wc.cell? ⟨gb203, 2, none⟩ = some (.int .u32 0) := (blk_cell BK203.out 2).trans rfl
        have hcz22_3 : wc.cell? ⟨gb203, 3, none⟩ = some (.int .u32 0) := (blk_cell BK203.out 3).trans rfl
        have hcz22_4 : wc.cell? ⟨gb203, 4, none⟩ = some (.int .u64 0) := (blk_cell BK203.out 4).trans rfl
        have hcz22_5 : wc.cell? ⟨gb203, 5, none⟩ = some (.string (⟨#[]⟩ : ByteArray)) := (blk_cell BK203.out 5).trans rfl
        have hfz22_0 := blk_frozen BK203.out 0
        have hfz22_1 := blk_frozen BK203.out 1
        have hfz22_2 := blk_frozen BK203.out 2
        have hfz22_3 := blk_frozen BK203.out 3
        have hfz22_4 := blk_frozen BK203.out 4
        have hfz22_5 := blk_frozen BK203.out 5
        go_wp2
        refine bodyPost_ret (results_ct rfl _ _ gb203 39 #[.int .i64 0, .int .i64 0, .int .u32 0, .int .u32 0, .int .u64 0, .string (⟨#[]⟩ : ByteArray)] (0, 0) _ rfl (by (with_reducible repeat (first | refine blk_drewN ?_ _ | refine blk_drew ?_ | refine blk_alloc ?_ _)); refine blk_put (cs := #[.int .i64 0, .int .i64 0, .int .u32 0, .int .u32 0, .int .u64 0, .string (⟨#[]⟩ : ByteArray)]) ?_ 5 _ rfl; (with_reducible repeat (first | refine blk_drewN ?_ _ | refine blk_drew ?_ | refine blk_alloc ?_ _)); refine blk_put (cs := #[.int .i64 0, .int .i64 0, .int .u32 0, .int .u32 0, .int .u64 0, .string (⟨#[]⟩ : ByteArray)]) ?_ 4 _ rfl; (with_reducible repeat (first | refine blk_drewN ?_ _ | refine blk_drew ?_ | refine blk_alloc ?_ _)); refine blk_put (cs := #[.int .i64 0, .int .i64 0, .int .u32 0, .int .u32 0, .int .u64 0, .string (⟨#[]⟩ : ByteArray)]) ?_ 3 _ rfl; (with_reducible repeat (first | refine blk_drewN ?_ _ | refine blk_drew ?_ | refine blk_alloc ?_ _)); refine blk_put (cs := #[.int .i64 0, .int .i64 0, .int .u32 0, .int .u32 0, .int .u64 0, .string (⟨#[]⟩ : ByteArray)]) ?_ 2 _ rfl; (with_reducible repeat (first | refine blk_drewN ?_ _ | refine blk_drew ?_ | refine blk_alloc ?_ _)); refine blk_put (cs := #[.int .i64 0, .int .i64 0, .int .u32 0, .int .u32 0, .int .u64 0, .string (⟨#[]⟩ : ByteArray)]) ?_ 1 _ rfl; (with_reducible repeat (first | refine blk_drewN ?_ _ | refine blk_drew ?_ | refine blk_alloc ?_ _)); refine blk_put (cs := #[.int .i64 0, .int .i64 0, .int .u32 0, .int .u32 0, .int .u64 0, .string (⟨#[]⟩ : ByteArray)]) ?_ 0 _ rfl; (with_reducible repeat (first | refine blk_drewN ?_ _ | refine blk_drew ?_ | refine blk_alloc ?_ _)); exact BK203.out) Try.underlying39 rfl (by kernel_rfl)) rfl ?_
        exact ⟨by first | rfl | (simp [errW_none, errW_some] <;> rfl) | (simp [*, errW_none, errW_some] <;> rfl), by repeat (first | (with_reducible first | exact HB.out | apply below_alloc | apply pw_below_drewN | apply below_drew1 | refine below_set ?_ GE203.out) | exact HB.out)⟩
      · replace c21 := Bool.eq_false_iff.mpr c21
        subst c21
        have H1 : (free_Page.l0 kj5 a0 a1 a2 a3 l4 ([] : List Int) l4 (l4.length : Int) 0) = some (r1, r2, r3, r4, r5, r6, r7) := by rw [if_neg (show ¬ (false = true) by decide)] at H; exact H
        clear H
        have H := H1
        clear H1
        have H' := Aside0.mk H
        clear H
        go_wp2
        go_loopg [13, 59] kj5 (fun kq v13 v59 w' => ∃ (x13_2 : List Int) (x59_2 : Int), v59 = .int .i64 x59_2 ∧ Aside0 (free_Page.l0 kq a0 a1 a2 a3 l4 x13_2 l4 (l4.length : Int) x59_2 = some (r1, r2, r3, r4, r5, r6, r7)) ∧ Aside0 (kq ≤ kj5) ∧ Aside0 (Kd.R (Kd.int .u8) 5 w' w.heap.size (fun _ => True) v13 x13_2) ∧ Aside0 (w'.heap[gb203]? = some (.cells #[.int .i64 0, .int .i64 0, .int .u32 0, .int .u32 0, .int .u64 0, .string (⟨#[]⟩ : ByteArray)] 39 (0, 0))) ∧ Aside0 (Below w.heap.size w w'))
        case atStart => exact ⟨(([] : List Int)), (0), (by first | rfl | (simp; done) | (simp [*]; done)), H', ⟨Nat.le_refl _⟩, ⟨by first | exact Kd.R_nil _ _ _ _ _ | exact Kd.N_nil _ _ _ _ _ | exact Kd.V_nil _ _ _ _ _ | exact Kd.Q_nil _ _ _ _ _ | exact Kd.S_nil _ _ _ _ _⟩, ⟨by (with_reducible repeat (first | refine blk_drewN ?_ _ | refine blk_drew ?_ | refine blk_alloc ?_ _)); exact BK203.out⟩, ⟨by repeat (first | (with_reducible first | exact HB.out | apply below_alloc | apply pw_below_drewN | apply below_drew1 | refine below_set ?_ GE203.out) | exact HB.out)⟩⟩
        case round =>
          clear H'
          try clear c1
          try clear c2
          try clear p2
          try clear c3
          try clear c4
          try clear c5
          try clear c9
          try clear c9b0
          try clear c9b1
          try clear c11
          try clear c11b0
          try clear c13
          try clear c15
          try clear c17
          try clear c18
          try clear c18b0
          try clear c18b1
          try clear c20
          try clear c21
          try clear hcz22_0
          try clear hcz22_1
          try clear hcz22_2
          try clear hcz22_3
          try clear hcz22_4
          try clear hcz22_5
          try clear hfz22_0
          try clear hfz22_1
          try clear hfz22_2
          try clear hfz22_3
          try clear hfz22_4
          try clear hfz22_5
          try clear p2
          obtain ⟨x13_2, x59_2, rfl, HA, HK2, HO_13, BK203, HB⟩ := hrel
          cases gk with
          | zero => exact absurd HA.out (by simp [free_Page.l0])
          | succ k2 =>
            have H := HA.out
            clear HA
            simp only [free_Page.l0] at H
            by_cases c23 : x59_2 < (l4.length : Int)
            · rw [if_pos c23] at H
              have c23b0 : decide (x59_2 < (l4.length : Int)) = true := decide_eq_true c23
              clear c23
              by_cases c24 : 0 ≤ x59_2
              · rw [if_pos c24] at H
                have c24b0 : decide (0 ≤ x59_2) = true := decide_eq_true c24
                clear c24
                by_cases c25 : x59_2 < (l4.length : Int)
                · rw [if_pos c25] at H
                  have c25b0 : decide (x59_2 < (l4.length : Int)) = true := decide_eq_true c25
                  clear c25
                  replace H := Option.bind_eq_some_iff.mp H
                  obtain ⟨t211, A260, H⟩ := H
                  replace H : (free_Page.l0 k2 a0 a1 a2 a3 l4 t211 l4 (l4.length : Int) (wrap64 (x59_2 + 1))) = some (r1, r2, r3, r4, r5, r6, r7) := H
                  have A26 := Aside0.mk A260
                  clear A260
                  have H' := Aside0.mk H
                  clear H
                  have p210 : 0 ≤ (x59_2 : Int) := of_decide_eq_true (by first | (with_reducible assumption) | assumption)
                  have q210 : x59_2 < (l4.length : Int) := of_decide_eq_true (by first | (with_reducible assumption) | assumption)
                  obtain ⟨ad210, e210, hx210_0⟩ := Kd.at_int HR4.out x59_2 p210 q210
                  cases e210
                  replace hx210_0 := (HB.out.cell (World.block_lt_of_cell? w _ hx210_0)).trans hx210_0
                  replace p210 := eq_true p210
                  replace q210 := eq_true q210
                  obtain ⟨Ao27, co27, eo27⟩ := Kd.R_slice HO_13.out
                  subst eo27
                  go_wp2_with (first | ((with_reducible refine gate_callee (f := 54) rfl ?_); refine goesL_ (some 66) rfl rfl Try.func54 (by kernel_rfl) rfl #[.slice Ao27 x13_2.length co27, .int .u64 (IntKind.u64.wrap (rd l4 x59_2)), .int .i64 4] rfl (by (try simp only [List.map_toArray, List.map_cons, List.map_nil]); first | done | rfl | (simp only [List.length_drop, List.length_take]; rfl)) ?_; (with_reducible refine (octet_Put.calls k2 _ _ x13_2 (IntKind.u64.wrap (rd l4 x59_2)) 4 t211 _ ?side1 ?side2 A26.out).mono ?_); (case side1 => repeat (first | exact (Kd.R_reads' HO_13.out).2.2 | (with_reducible refine Kd.C_alloc ?_ _) | (with_reducible refine Kd.C_drewN ?_ _) | (with_reducible refine Kd.C_drew ?_))); (case side2 => exact (Kd.R_reads' HO_13.out).2.1); rintro e w28 ⟨v212, rfl, ho0, hb⟩; refine ⟨_, rfl, ?_⟩; have n0_ := Aside0.mk (Kd.R_elder' (by (with_reducible repeat (first | apply Kd.R_alloc | apply Kd.R_drewN | apply Kd.R_drew)); exact HO_13.out) (Kd.R_base ho0) hb); have n1_ := Aside0.mk (Kd.R_lower (Kd.R_new' ho0 (Kd.R_lt (by (with_reducible repeat (first | apply Kd.R_alloc | apply Kd.R_drewN | apply Kd.R_drew)); exact HO_13.out))) (below_size (by repeat (first | (with_reducible first | exact HB.out | apply below_alloc | apply pw_below_drewN | apply below_drew1 | refine below_set ?_ GE203.out) | exact HB.out)))); have n2_ := Aside0.mk (blk_below (g := gb203) (o := .cells #[.int .i64 0, .int .i64 0, .int .u32 0, .int .u32 0, .int .u64 0, .string (⟨#[]⟩ : ByteArray)] 39 (0, 0)) (by (with_reducible repeat (first | refine blk_drewN ?_ _ | refine blk_drew ?_ | refine blk_alloc ?_ _)); exact BK203.out) hb); have n3_ := Aside0.mk (below_step (by repeat (first | (with_reducible first | exact HB.out | apply below_alloc | apply pw_below_drewN | apply below_drew1 | refine below_set ?_ GE203.out) | exact HB.out)) hb); clear HO_13; clear BK203; clear HB; have HO_13 := n0_; have HO213 := n1_; have BK203 := n2_; have HB := n3_; clear n0_ n1_ n2_ n3_; (try clear hb); (try clear hb2); (try clear hk); (try clear hi); (try clear ho0)))
                  go_roundg k2
                  case measure => have := HJ5.out; have := HK2.out; omega
                  case rel => exact ⟨(t211), (wrap64 (x59_2 + 1)), (by first | rfl | (simp; done) | (simp [*]; done)), H', ⟨by have := HJ5.out; have := HK2.out; omega⟩, ⟨by (with_reducible repeat (first | apply Kd.R_alloc | apply Kd.R_drewN | apply Kd.R_drew)); exact Kd.R_mono HO213.out (fun _ hk => trivial)⟩, ⟨by (with_reducible repeat (first | refine blk_drewN ?_ _ | refine blk_drew ?_ | refine blk_alloc ?_ _)); exact BK203.out⟩, ⟨by repeat (first | (with_reducible first | exact HB.out | apply below_alloc | apply pw_below_drewN | apply below_drew1 | refine below_set ?_ GE203.out) | exact HB.out)⟩⟩
                · rw [if_neg c25] at H
                  exact absurd H (by simp)
              · rw [if_neg c24] at H
                exact absurd H (by simp)
            · rw [if_neg c23] at H
              have c23b0 : decide (x59_2 < (l4.length : Int)) = false := decide_eq_false c23
              clear c23
              replace H := Option.bind_eq_some_iff.mp H
              obtain ⟨⟨t214, t215⟩, A290, H⟩ := H
              replace H : (some (6, (l4.length : Int), a1, a2, a3, t214, 0)) = some (r1, r2, r3, r4, r5, r6, r7) := H
              have A29 := Aside0.mk A290
              clear A290
              simp only [Option.some.injEq, Prod.mk.injEq] at H
              obtain ⟨rfl, rfl, rfl, rfl, rfl, rfl, rfl⟩ := H
              obtain ⟨Ao30, co30, eo30⟩ := Kd.R_slice HO_13.out
              subst eo30
              go_wp2_with (first | ((with_reducible refine gate_callee (f := 55) rfl ?_); refine goesL_ (some 71) rfl rfl Try.func55 (by kernel_rfl) rfl #[.int .i64 a0, .slice Ao30 x13_2.length co30] rfl (by (try simp only [List.map_toArray, List.map_cons, List.map_nil]); first | done | rfl | (simp only [List.length_drop, List.length_take]; rfl)) ?_; (with_reducible refine (frame_Body.calls a0 _ _ x13_2 t214 t215 _ ?side1 ?side2 A29.out).mono ?_); (case side1 => repeat (first | exact (Kd.R_reads' HO_13.out).2.2 | (with_reducible refine Kd.C_alloc ?_ _) | (with_reducible refine Kd.C_drewN ?_ _) | (with_reducible refine Kd.C_drew ?_))); (case side2 => exact (Kd.R_reads' HO_13.out).2.1); rintro e w31 ⟨rfl, hb⟩; refine ⟨_, rfl, ?_⟩; have n0_ := Aside0.mk (Kd.R_below (by (with_reducible repeat (first | apply Kd.R_alloc | apply Kd.R_drewN | apply Kd.R_drew)); exact HO_13.out) hb); have n1_ := Aside0.mk (blk_below (g := gb203) (o := .cells #[.int .i64 0, .int .i64 0, .int .u32 0, .int .u32 0, .int .u64 0, .string (⟨#[]⟩ : ByteArray)] 39 (0, 0)) (by (with_reducible repeat (first | refine blk_drewN ?_ _ | refine blk_drew ?_ | refine blk_alloc ?_ _)); exact BK203.out) hb); have n2_ := Aside0.mk (below_step (by repeat (first | (with_reducible first | exact HB.out | apply below_alloc | apply pw_below_drewN | apply below_drew1 | refine below_set ?_ GE203.out) | exact HB.out)) hb); clear HO_13; clear BK203; clear HB; have HO_13 := n0_; have BK203 := n1_; have HB := n2_; clear n0_ n1_ n2_; (try clear hb); (try clear hb2); (try clear hk); (try clear hi); have hcz32_0 : w31.cell? ⟨gb203, 0, none⟩ = some (.int .i64 0) := (blk_cell BK203.out 0).trans rfl; have hcz32_1 : w31.cell? ⟨gb203, 1, none⟩ = some (.int .i64 0) := (blk_cell BK203.out 1).trans rfl; have hcz32_2 : w31.cell? ⟨gb203, 2, none⟩ = some (.int .u32 0) := (blk_cell BK203.out 2).trans rfl; have hcz32_3 : w31.cell? ⟨gb203, 3, none⟩ = some (.int .u32 0) := (blk_cell BK203.out 3).trans rfl; have hcz32_4 : w31.cell? ⟨gb203, 4, none⟩ = some (.int .u64 0) := (blk_cell BK203.out 4).trans rfl; have hcz32_5 : w31.cell? ⟨gb203, 5, none⟩ = some (.string (⟨#[]⟩ : ByteArray)) := (blk_cell BK203.out 5).trans rfl; have hfz32_0 := blk_frozen BK203.out 0; have hfz32_1 := blk_frozen BK203.out 1; have hfz32_2 := blk_frozen BK203.out 2; have hfz32_3 := blk_frozen BK203.out 3; have hfz32_4 := blk_frozen BK203.out 4; have hfz32_5 := blk_frozen BK203.out 5))
              refine bodyPost_ret (results_ct rfl _ _ gb203 39 #[.int .i64 6, .int .i64 (l4.length : Int), .int .u32 a1, .int .u32 a2, .int .u64 a3, .string t214] (0, 0) _ rfl (by (with_reducible repeat (first | refine blk_drewN ?_ _ | refine blk_drew ?_ | refine blk_alloc ?_ _)); refine blk_put (cs := #[.int .i64 6, .int .i64 (l4.length : Int), .int .u32 a1, .int .u32 a2, .int .u64 a3, .string (⟨#[]⟩ : ByteArray)]) ?_ 5 _ rfl; (with_reducible repeat (first | refine blk_drewN ?_ _ | refine blk_drew ?_ | refine blk_alloc ?_ _)); refine blk_put (cs := #[.int .i64 6, .int .i64 (l4.length : Int), .int .u32 a1, .int .u32 a2, .int .u64 0, .string (⟨#[]⟩ : ByteArray)]) ?_ 4 _ rfl; (with_reducible repeat (first | refine blk_drewN ?_ _ | refine blk_drew ?_ | refine blk_alloc ?_ _)); refine blk_put (cs := #[.int .i64 6, .int .i64 (l4.length : Int), .int .u32 a1, .int .u32 0, .int .u64 0, .string (⟨#[]⟩ : ByteArray)]) ?_ 3 _ rfl; (with_reducible repeat (first | refine blk_drewN ?_ _ | refine blk_drew ?_ | refine blk_alloc ?_ _)); refine blk_put (cs := #[.int .i64 6, .int .i64 (l4.length : Int), .int .u32 0, .int .u32 0, .int .u64 0, .string (⟨#[]⟩ : ByteArray)]) ?_ 2 _ rfl; (with_reducible repeat (first | refine blk_drewN ?_ _ | refine blk_drew ?_ | refine blk_alloc ?_ _)); refine blk_put (cs := #[.int .i64 6, .int .i64 0, .int .u32 0, .int .u32 0, .int .u64 0, .string (⟨#[]⟩ : ByteArray)]) ?_ 1 _ rfl; (with_reducible repeat (first | refine blk_drewN ?_ _ | refine blk_drew ?_ | refine blk_alloc ?_ _)); refine blk_put (cs := #[.int .i64 0, .int .i64 0, .int .u32 0, .int .u32 0, .int .u64 0, .string (⟨#[]⟩ : ByteArray)]) ?_ 0 _ rfl; (with_reducible repeat (first | refine blk_drewN ?_ _ | refine blk_drew ?_ | refine blk_alloc ?_ _)); exact BK203.out) Try.underlying39 rfl (by kernel_rfl)) rfl ?_
              exact ⟨by first | rfl | (simp [errW_none, errW_some] <;> rfl) | (simp [*, errW_none, errW_some] <;> rfl), by repeat (first | (with_reducible first | exact HB.out | apply below_alloc | apply pw_below_drewN | apply below_drew1 | refine below_set ?_ GE203.out) | exact HB.out)⟩

end Go.Proofs.Ytlkfcabklaaacaa.P

namespace Go.Proofs.YtlkfcabklaaacaaO
set_option linter.unusedVariables false
set_option linter.unusedSimpArgs false
open Go.RowKit Go.Proofs.YtlkfcabklaaacaaW.PrintWords
/-- As a step of its own (no unfolding: the kernel is not to compare what stands on both sides). -/
theorem bs {α β : Type} (a : α) (f : α → Option β) : (some a).bind f = f a := Eq.trans (Option.bind_some a f) (Eq.refl (f a))
/-- Numbers that are bytes. -/
def isB (l : List Int) : Prop := ∀ x ∈ l, 0 ≤ x ∧ x < 256
theorem isB_nil : isB [] := fun _ h => by cases h
theorem isB_cons {x : Int} {l : List Int} (hx : 0 ≤ x ∧ x < 256) (h : isB l) : isB (x :: l) := by
  intro y hy
  rcases List.mem_cons.1 hy with rfl | hy
  · exact hx
  · exact h y hy
theorem isB_append {l m : List Int} (h1 : isB l) (h2 : isB m) : isB (l ++ m) := by
  intro y hy
  rcases List.mem_append.1 hy with hy | hy
  · exact h1 y hy
  · exact h2 y hy
theorem isB_left {l m : List Int} (h : isB (l ++ m)) : isB l := fun x hx => h x (List.mem_append_left _ hx)
theorem isB_right {l m : List Int} (h : isB (l ++ m)) : isB m := fun x hx => h x (List.mem_append_right _ hx)
theorem isB_take {l : List Int} (h : isB l) (n : Nat) : isB (l.take n) := fun x hx => h x (List.mem_of_mem_take hx)
theorem isB_drop {l : List Int} (h : isB l) (n : Nat) : isB (l.drop n) := fun x hx => h x (List.mem_of_mem_drop hx)
theorem isB_wf {l : List Int} (h : ∀ x ∈ l, (Lit.int .u8 x).wf = true) : isB l := by
  intro x hx
  have := h x hx
  have h1 : IntKind.u8.min = 0 := rfl
  have h2 : IntKind.u8.max = 255 := rfl
  simp [Lit.wf, h1, h2] at this
  omega
/-- A string's bytes. -/
abbrev B (s : ByteArray) : List Int := bytesOf s
theorem isB_B (s : ByteArray) : isB (B s) := by
  intro x hx
  simp only [bytesOf, List.mem_map] at hx
  obtain ⟨b, _, rfl⟩ := hx
  have := b.toNat_lt
  omega
theorem B_length (s : ByteArray) : (B s).length = s.size := bytesOf_length s
theorem B_inj {s t : ByteArray} (h : B s = B t) : s = t := by
  have h2 : s.data.toList = t.data.toList := by
    refine List.map_inj_right (fun a b hab => ?_) |>.1 h
    exact UInt8.toNat_inj.1 (Int.ofNat_inj.1 hab)
  cases s; cases t
  simp only [ByteArray.mk.injEq]
  exact Array.toList_inj.1 h2
theorem toList_iff {s t : ByteArray} : s.toList = t.toList ↔ B s = B t := by
  rw [Lib.toList_data, Lib.toList_data]
  refine ⟨fun h => by simp only [bytesOf, h], fun h => by rw [B_inj h]⟩
theorem toList_eq_iff {s t : ByteArray} : s.toList = t.toList ↔ s = t := ⟨fun h => B_inj (toList_iff.1 h), fun h => by rw [h]⟩
theorem B_append (s t : ByteArray) : B (s ++ t) = B s ++ B t := by
  simp [bytesOf, ByteArray.data_append]
theorem B_extract (s : ByteArray) (a b : Nat) : B (s.extract a b) = ((B s).take b).drop a := by
  simp only [bytesOf, Lib.extract_data, List.map_take, List.map_drop]
  rw [List.drop_take]
theorem B_drop (s : ByteArray) (a : Nat) : B (s.extract a s.size) = (B s).drop a := by
  rw [B_extract, List.take_of_length_le (by rw [B_length]; exact Nat.le_refl _)]
theorem B_take (s : ByteArray) (b : Nat) : B (s.extract 0 b) = (B s).take b := by
  rw [B_extract, List.drop_zero]
theorem B_empty : B ⟨#[]⟩ = [] := rfl
theorem B_str {l : List Int} (h : isB l) : B (strOfNums l) = l := by
  simp only [bytesOf, strOfNums_data, List.map_map]
  refine (List.map_congr_left (g := id) (fun x hx => ?_)).trans (List.map_id l)
  have := h x hx
  simp only [Function.comp, id, UInt8.toNat_ofNat']
  omega
theorem str_B (s : ByteArray) : strOfNums (B s) = s := by
  apply B_inj
  exact B_str (isB_B s)
theorem size_str (l : List Int) : (strOfNums l).size = l.length := strOfNums_size l
theorem bt_B (s : ByteArray) (i : Int) : bt s i = rd (B s) i := (rd_bytesOf s i).symm
theorem rd_nat (l : List Int) (i : Nat) : rd l (i : Int) = l.getD i 0 := by simp [rd]
theorem rd_get {l : List Int} {i : Nat} (h : i < l.length) : rd l (i : Int) = l[i] := by simp [rd, h]

/-! ### numbers, the least byte first -/
def le : Int → Nat → List Int
  | _, 0 => []
  | n, k + 1 => n % 256 :: le (n / 256) k
def ofLe : List Int → Int
  | [] => 0
  | b :: l => b + ofLe l * 256
theorem le_length : ∀ (k : Nat) (n : Int), (le n k).length = k
  | 0, _ => rfl
  | k + 1, n => by simp [le, le_length k]
theorem isB_le : ∀ (k : Nat) (n : Int), isB (le n k)
  | 0, _ => isB_nil
  | k + 1, n => isB_cons (by omega) (isB_le k _)
theorem pow_succ256 (k : Nat) : (256 : Int) ^ (k + 1) = 256 * 256 ^ k := by rw [Int.pow_succ, Int.mul_comm]
theorem pow_pos256 (k : Nat) : (0 : Int) < 256 ^ k := Int.pow_pos (by decide)
theorem ofLe_le : ∀ (k : Nat) (n : Int), ofLe (le n k) = n % 256 ^ k
  | 0, n => by simp [le, ofLe, Int.emod_one]
  | k + 1, n => by
    simp only [le, ofLe]
    rw [ofLe_le k, pow_succ256]
    rw [Int.emod_def n (256 * 256 ^ k), Int.emod_def (n / 256), ← Int.ediv_ediv_of_nonneg (by decide), Int.mul_assoc 256]
    generalize 256 ^ k * (n / 256 / 256 ^ k) = z
    omega
theorem ofLe_nonneg : ∀ {l : List Int}, isB l → 0 ≤ ofLe l
  | [], _ => Int.le_refl _
  | b :: l, h => by
    have h1 := h b (List.mem_cons_self ..)
    have h2 := ofLe_nonneg (l := l) (fun x hx => h x (List.mem_cons_of_mem _ hx))
    simp only [ofLe]
    omega
theorem ofLe_lt : ∀ {l : List Int}, isB l → ofLe l < 256 ^ l.length
  | [], _ => by simp [ofLe]
  | b :: l, h => by
    have h1 := h b (List.mem_cons_self ..)
    have h2 := ofLe_lt (l := l) (fun x hx => h x (List.mem_cons_of_mem _ hx))
    simp only [ofLe, List.length_cons]
    rw [pow_succ256]
    omega
theorem le_ofLe : ∀ {l : List Int}, isB l → le (ofLe l) l.length = l
  | [], _ => rfl
  | b :: l, h => by
    have h1 := h b (List.mem_cons_self ..)
    have h2 := le_ofLe (l := l) (fun x hx => h x (List.mem_cons_of_mem _ hx))
    simp only [ofLe, List.length_cons, le]
    rw [show (b + ofLe l * 256) % 256 = b by omega, show (b + ofLe l * 256) / 256 = ofLe l by omega, h2]
theorem ofLe_snoc : ∀ (l : List Int) (b : Int), ofLe (l ++ [b]) = ofLe l + b * 256 ^ l.length
  | [], b => by simp [ofLe]
  | a :: l, b => by
    simp only [List.cons_append, ofLe, List.length_cons]
    rw [ofLe_snoc l b, pow_succ256, Int.add_mul, Int.mul_assoc b, Int.mul_comm (256 : Int) (256 ^ l.length), ← Int.mul_assoc b]
    omega
theorem le_snoc : ∀ (k : Nat) (n : Int), le n (k + 1) = le n k ++ [n / 256 ^ k % 256]
  | 0, n => by simp [le]
  | k + 1, n => by
    have h := le_snoc k (n / 256)
    rw [le, h, le, pow_succ256, ← Int.ediv_ediv_of_nonneg (by decide)]
    rfl
end Go.Proofs.YtlkfcabklaaacaaO

namespace Go.Proofs.Ytlkfcabklaaacaa.Q
set_option linter.unusedVariables false
set_option linter.unusedSimpArgs false
open Go.RowKit Go.Proofs.Ytlkfcabklaaacaa.P Go.Proofs.YtlkfcabklaaacaaW.PrintWords Go.Proofs.YtlkfcabklaaacaaW.PrintLast Go.Proofs.YtlkfcabklaaacaaW.PrintMore Go.Proofs.YtlkfcabklaaacaaO

/-- The sizes of pages. -/
def goodS (a : Int) : Bool := decide (128 ≤ a) && decide (a ≤ 4096) && (Int.tmod a 64 == 0)
def roomS (a : Int) : Int := if goodS a = true then a - 24 else 0
theorem roomS_range (a : Int) : 0 ≤ roomS a ∧ roomS a ≤ 4072 := by
  unfold roomS goodS
  split
  · rename_i h
    simp only [Bool.and_eq_true, decide_eq_true_eq, beq_iff_eq] at h
    omega
  · omega
theorem good_is (a : Int) : device_Good.f a = some (goodS a) := by
  unfold device_Good.f goodS
  by_cases h1 : a ≥ 128
  · by_cases h2 : a ≤ 4096
    · simp [h1, h2]
    · simp [h1, h2]
  · have h3 : ¬ (128 ≤ a) := by omega
    simp [h3]
theorem room_is (a : Int) : frame_Room.f a = some (roomS a) := by
  unfold frame_Room.f
  rw [good_is, bs]
  unfold roomS
  by_cases h : goodS a = true
  · rw [if_pos h, if_pos h]
    unfold goodS at h
    simp only [Bool.and_eq_true, decide_eq_true_eq, beq_iff_eq] at h
    congr 1
    unfold wrap64
    omega
  · rw [if_neg h, if_neg h]
theorem rgood_is (a : Int) : careenageref03_Good.f a = some (goodS a) := by
  unfold careenageref03_Good.f goodS
  by_cases h1 : a ≥ 128
  · by_cases h2 : a ≤ 4096
    · simp [h1, h2]
    · simp [h1, h2]
  · have h3 : ¬ (128 ≤ a) := by omega
    simp [h3]
theorem rroom_is (a : Int) : careenageref04_Room.f a = some (roomS a) := by
  unfold careenageref04_Room.f
  rw [rgood_is, bs]
  unfold roomS
  by_cases h : goodS a = true
  · rw [if_pos h, if_pos h]
    unfold goodS at h
    simp only [Bool.and_eq_true, decide_eq_true_eq, beq_iff_eq] at h
    congr 1
    unfold wrap64
    omega
  · rw [if_neg h, if_neg h]
def mostS (a : Int) : Int := roomS a / 4
theorem most_is (a : Int) : free_Most.f a = some (mostS a) := by
  unfold free_Most.f
  rw [room_is, bs]
  have := roomS_range a
  congr 1
  rw [Int.tdiv_eq_ediv_of_nonneg this.1]
  unfold mostS wrap64
  omega
theorem rmost_is (a : Int) : careenageref10_Most.f a = some (mostS a) := by
  unfold careenageref10_Most.f
  rw [rroom_is, bs]
  have := roomS_range a
  congr 1
  rw [Int.tdiv_eq_ediv_of_nonneg this.1]
  unfold mostS wrap64
  omega
theorem mostS_zero (a : Int) : mostS a = 0 ↔ goodS a = false := by
  unfold mostS roomS goodS
  split
  · rename_i h
    simp only [Bool.and_eq_true, decide_eq_true_eq, beq_iff_eq] at h
    simp only [h, decide_true, beq_self_eq_true, Bool.and_self, Bool.true_eq_false, iff_false]
    omega
  · rename_i h
    simp only [Bool.not_eq_true] at h
    simp [h]
/-- Each number is greater than the one before it. -/
def riseP (l : List Int) : Prop := ∀ i : Nat, 0 < i → i < l.length → rd l ((i : Int) - 1) < rd l (i : Int)
theorem rises_down (l : List Int) (hl : l.length < 4611686018427387904) : ∀ (n k : Nat), n < k → n < l.length → slices_IsSortedFunc_uint32_uint32_62.l0 k l (n : Int) = some true ∨ slices_IsSortedFunc_uint32_uint32_62.l0 k l (n : Int) = some false
  | n, 0, h, _ => by omega
  | 0, k + 1, _, _ => by
    rw [slices_IsSortedFunc_uint32_uint32_62.l0, if_neg (by omega)]
    exact Or.inl rfl
  | n + 1, k + 1, h, hn => by
    have ih := rises_down l hl n k (by omega) (by omega)
    have hw : wrap64 (((n + 1 : Nat) : Int) - 1) = (n : Int) := by unfold wrap64; omega
    rw [slices_IsSortedFunc_uint32_uint32_62.l0, if_pos (by omega), if_pos (by omega), if_pos (by omega), hw, if_pos (by omega), if_pos (by omega)]
    unfold free_Rises_1.f
    split
    · rw [bs, if_neg (by omega)]
      exact ih
    · rw [bs, if_pos (by omega)]
      exact Or.inr rfl
theorem rises_iff (l : List Int) (hl : l.length < 4611686018427387904) : ∀ (n k : Nat), n < k → n < l.length → (slices_IsSortedFunc_uint32_uint32_62.l0 k l (n : Int) = some true ↔ ∀ i : Nat, 0 < i → i ≤ n → rd l ((i : Int) - 1) < rd l (i : Int))
  | n, 0, h, _ => by omega
  | 0, k + 1, _, _ => by
    rw [slices_IsSortedFunc_uint32_uint32_62.l0, if_neg (by omega)]
    exact ⟨fun _ i h0 h1 => by omega, fun _ => rfl⟩
  | n + 1, k + 1, h, hn => by
    have ih := rises_iff l hl n k (by omega) (by omega)
    have hw : wrap64 (((n + 1 : Nat) : Int) - 1) = (n : Int) := by unfold wrap64; omega
    have hn1 : ((n + 1 : Nat) : Int) - 1 = (n : Int) := by omega
    rw [slices_IsSortedFunc_uint32_uint32_62.l0, if_pos (by omega), if_pos (by omega), if_pos (by omega), hw, if_pos (by omega), if_pos (by omega)]
    unfold free_Rises_1.f
    split
    · rename_i hlt
      rw [bs, if_neg (by omega), ih]
      refine ⟨fun hh i h0 h1 => ?_, fun hh i h0 h1 => hh i h0 (by omega)⟩
      by_cases e : i = n + 1
      · subst e
        rw [hn1]
        exact hlt
      · exact hh i h0 (by omega)
    · rename_i hlt
      rw [bs, if_pos (by omega)]
      refine ⟨fun hh => (by cases hh), fun hh => absurd (hh (n + 1) (by omega) (Nat.le_refl _)) ?_⟩
      rw [hn1]
      exact hlt
def riseB (l : List Int) : Bool := (List.range l.length).all (fun i => decide (i = 0 ∨ rd l ((i : Int) - 1) < rd l (i : Int)))
theorem riseB_iff (l : List Int) : riseB l = true ↔ riseP l := by
  unfold riseB riseP
  rw [List.all_eq_true]
  refine ⟨fun h i h0 h1 => ?_, fun h i hi => ?_⟩
  · have := h i (List.mem_range.2 h1)
    simp only [decide_eq_true_eq] at this
    rcases this with h2 | h2
    · omega
    · exact h2
  · simp only [decide_eq_true_eq]
    by_cases e : i = 0
    · exact Or.inl e
    · exact Or.inr (h i (by omega) (List.mem_range.1 hi))
theorem rises_is (l : List Int) (hl : l.length < 4611686018427387904) (k : Nat) (hk : l.length ≤ k) (hk0 : 0 < k) : free_Rises.f k l = some (riseB l) := by
  unfold free_Rises.f slices_IsSortedFunc_uint32_uint32_62.f
  by_cases h0 : l.length = 0
  · have hw : wrap64 ((l.length : Int) - 1) = -1 := by unfold wrap64; omega
    obtain ⟨k, rfl⟩ : ∃ j, k = j + 1 := ⟨k - 1, by omega⟩
    rw [hw, slices_IsSortedFunc_uint32_uint32_62.l0, if_neg (by omega), bs]
    congr 1
    symm
    rw [riseB_iff]
    intro i _ hi
    omega
  · obtain ⟨n, hn⟩ : ∃ n, l.length = n + 1 := ⟨l.length - 1, by omega⟩
    have hw : wrap64 ((l.length : Int) - 1) = (n : Int) := by unfold wrap64; omega
    rw [hw]
    have h1 := rises_iff l hl n k (by omega) (by omega)
    have h2 := rises_down l hl n k (by omega) (by omega)
    have h3 : (∀ i : Nat, 0 < i → i ≤ n → rd l ((i : Int) - 1) < rd l (i : Int)) ↔ riseB l = true := by
      rw [riseB_iff]
      exact ⟨fun h i a b => h i a (by omega), fun h i a b => h i a (by omega)⟩
    rw [h3] at h1
    rcases h2 with h2 | h2
    · rw [h2, bs, h1.1 h2]
    · rw [h2, bs]
      congr 1
      cases hb : riseB l with
      | false => rfl
      | true =>
        rw [h1.2 hb] at h2
        cases h2
theorem rrises_up (l : List Int) (hl : l.length < 4611686018427387904) : ∀ (d i k : Nat), i + d = l.length → d < k → 1 ≤ i → careenageref10_Rises.l0 k l (i : Int) = some (decide (∀ j, j < l.length → i ≤ j → rd l ((j : Int) - 1) < rd l (j : Int)))
  | d, i, 0, _, h, _ => by omega
  | 0, i, k + 1, hi, _, _ => by
    rw [careenageref10_Rises.l0, if_neg (by omega)]
    congr 1
    symm
    rw [decide_eq_true_eq]
    intro j hj hij
    omega
  | d + 1, i, k + 1, hi, hk, h1 => by
    have ih := rrises_up l hl d (i + 1) k (by omega) (by omega) (by omega)
    have hw : wrap64 ((i : Int) - 1) = (i : Int) - 1 := by unfold wrap64; omega
    have hw2 : wrap64 ((i : Int) + 1) = ((i + 1 : Nat) : Int) := by unfold wrap64; omega
    rw [careenageref10_Rises.l0, if_pos (by omega), hw, if_pos (by omega), if_pos (by omega), if_pos (by omega)]
    by_cases hge : rd l ((i : Int) - 1) ≥ rd l (i : Int)
    · rw [if_pos hge]
      congr 1
      symm
      rw [decide_eq_false_iff_not]
      intro h
      have := h i (by omega) (Nat.le_refl _)
      omega
    · rw [if_neg hge, hw2, ih]
      congr 1
      rw [decide_eq_decide]
      refine ⟨fun h j hj hij => ?_, fun h j hj hij => h j hj (by omega)⟩
      by_cases e : j = i
      · subst e
        omega
      · exact h j hj (by omega)
theorem rrises_is (l : List Int) (hl : l.length < 4611686018427387904) (k : Nat) (hk : l.length ≤ k) (hk0 : 0 < k) : careenageref10_Rises.f k l = some (riseB l) := by
  unfold careenageref10_Rises.f
  by_cases h0 : l.length = 0
  · obtain ⟨k, rfl⟩ : ∃ j, k = j + 1 := ⟨k - 1, by omega⟩
    rw [careenageref10_Rises.l0, if_neg (by omega)]
    congr 1
    symm
    rw [riseB_iff]
    intro i _ hi
    omega
  · have := rrises_up l hl (l.length - 1) 1 k (by omega) (by omega) (Nat.le_refl _)
    refine Eq.trans this ?_
    congr 1
    rw [Bool.eq_iff_iff, decide_eq_true_eq, riseB_iff]
    exact ⟨fun h i a b => h i b a, fun h j a b => h j b a⟩
def numB (x : Int) : Bool := decide (2 ≤ x) && decide (x ≤ 2147483647)
theorem number_is (a : Int) : free_number.f a = some (numB a) := by
  unfold free_number.f numB
  by_cases h : a ≥ 2
  · rw [if_pos h]
    simp [show (2 : Int) ≤ a from h]
  · rw [if_neg h]
    simp [show ¬ (2 : Int) ≤ a from h]
theorem rnumber_is (a : Int) : careenageref04_Number.f a = some (numB a) := by
  unfold careenageref04_Number.f numB
  by_cases h : a ≥ 2
  · rw [if_pos h]
    simp [show (2 : Int) ≤ a from h]
  · rw [if_neg h]
    simp [show ¬ (2 : Int) ≤ a from h]
theorem odd_is (a : Int) : free_Page_1.f a = some (!numB a) := by
  unfold free_Page_1.f
  rw [number_is, bs]
def numsB (l : List Int) : Bool := l.all numB
theorem numsB_iff (l : List Int) : numsB l = true ↔ ∀ j : Nat, j < l.length → numB (rd l (j : Int)) = true := by
  unfold numsB
  rw [List.all_eq_true]
  refine ⟨fun h j hj => ?_, fun h x hx => ?_⟩
  · rw [rd_get hj]
    exact h _ (List.getElem_mem hj)
  · obtain ⟨j, hj, rfl⟩ := List.mem_iff_getElem.1 hx
    have := h j hj
    rwa [rd_get hj] at this
theorem index_up (l : List Int) (hl : l.length < 4611686018427387904) : ∀ (d i k : Nat), i + d = l.length → d < k → ∃ r, slices_IndexFunc_uint32_uint32_56.l0 k l (l.length : Int) (i : Int) = some r ∧ (0 ≤ r ↔ ∃ j : Nat, i ≤ j ∧ j < l.length ∧ numB (rd l (j : Int)) = false)
  | d, i, 0, _, h => by omega
  | 0, i, k + 1, hi, _ => by
    rw [slices_IndexFunc_uint32_uint32_56.l0, if_neg (by omega)]
    refine ⟨-1, rfl, ⟨fun h => by omega, fun ⟨j, a, b, _⟩ => by omega⟩⟩
  | d + 1, i, k + 1, hi, hk => by
    obtain ⟨r, hr, hiff⟩ := index_up l hl d (i + 1) k (by omega) (by omega)
    have hw2 : wrap64 ((i : Int) + 1) = ((i + 1 : Nat) : Int) := by unfold wrap64; omega
    rw [slices_IndexFunc_uint32_uint32_56.l0, if_pos (by omega), if_pos (by omega), if_pos (by omega), odd_is, bs]
    cases hb : numB (rd l (i : Int)) with
    | false =>
      rw [Bool.not_false, if_pos rfl]
      exact ⟨_, rfl, ⟨fun _ => ⟨i, Nat.le_refl _, by omega, hb⟩, fun _ => by omega⟩⟩
    | true =>
      rw [Bool.not_true, if_neg (by decide), hw2, hr]
      refine ⟨r, rfl, hiff.trans ⟨fun ⟨j, a, b, c⟩ => ⟨j, by omega, b, c⟩, fun ⟨j, a, b, c⟩ => ?_⟩⟩
      by_cases e : j = i
      · subst e
        rw [hb] at c
        cases c
      · exact ⟨j, by omega, b, c⟩
theorem contains_is (l : List Int) (hl : l.length < 4611686018427387904) (k : Nat) (hk : l.length < k) : slices_ContainsFunc_uint32_uint32_56.f k l = some (!numsB l) := by
  unfold slices_ContainsFunc_uint32_uint32_56.f slices_IndexFunc_uint32_uint32_56.f
  obtain ⟨r, hr, hiff⟩ := index_up l hl l.length 0 k (by omega) hk
  rw [show (0 : Int) = ((0 : Nat) : Int) from rfl, hr, bs]
  congr 1
  cases hb : numsB l with
  | true =>
    rw [Bool.not_true, decide_eq_false_iff_not]
    intro h
    obtain ⟨j, _, hj, hf⟩ := hiff.1 h
    rw [(numsB_iff l).1 hb j hj] at hf
    cases hf
  | false =>
    rw [Bool.not_false, decide_eq_true_eq]
    refine hiff.2 ?_
    refine Classical.byContradiction fun hn => ?_
    have : numsB l = true := (numsB_iff l).2 fun j hj => by
      cases hq : numB (rd l (j : Int)) with
      | true => rfl
      | false => exact absurd ⟨j, Nat.zero_le _, hj, hq⟩ hn
    rw [hb] at this
    cases this
theorem rnums_up (l : List Int) (hl : l.length < 4611686018427387904) : ∀ (d i k : Nat), i + d = l.length → d + l.length + 1 < k → careenageref10_Numbers.l0 k l (i : Int) = some (decide (∀ j : Nat, j < l.length → i ≤ j → numB (rd l (j : Int)) = true) && riseB l)
  | d, i, 0, _, h => by omega
  | 0, i, k + 1, hi, hk => by
    rw [careenageref10_Numbers.l0, if_neg (by omega), rrises_is l hl k (by omega) (by omega), bs]
    congr 1
    rw [decide_eq_true (by intro j a b; omega), Bool.true_and]
  | d + 1, i, k + 1, hi, hk => by
    have ih := rnums_up l hl d (i + 1) k (by omega) (by omega)
    have hw2 : wrap64 ((i : Int) + 1) = ((i + 1 : Nat) : Int) := by unfold wrap64; omega
    rw [careenageref10_Numbers.l0, if_pos (by omega), if_pos (by omega), rnumber_is, bs]
    cases hb : numB (rd l (i : Int)) with
    | false =>
      rw [if_neg (by decide)]
      congr 1
      symm
      rw [decide_eq_false (fun h => by rw [h i (by omega) (Nat.le_refl _)] at hb; cases hb), Bool.false_and]
    | true =>
      rw [if_pos rfl, hw2, ih]
      congr 2
      rw [decide_eq_decide]
      refine ⟨fun h j a b => ?_, fun h j a b => h j a (by omega)⟩
      by_cases e : j = i
      · subst e
        exact hb
      · exact h j a (by omega)
theorem rnums_is (l : List Int) (hl : l.length < 4611686018427387904) (k : Nat) (hk : 2 * l.length + 1 < k) : careenageref10_Numbers.f k l = some (numsB l && riseB l) := by
  unfold careenageref10_Numbers.f
  have := rnums_up l hl l.length 0 k (by omega) (by omega)
  refine Eq.trans this ?_
  congr 2
  rw [Bool.eq_iff_iff, decide_eq_true_eq, numsB_iff]
  exact ⟨fun h j a => h j a (Nat.zero_le _), fun h j a _ => h j a⟩

end Go.Proofs.Ytlkfcabklaaacaa.Q

namespace Go.Proofs.Ytlkfcabklaaacaa.Q
set_option linter.unusedVariables false
set_option linter.unusedSimpArgs false
open Go.RowKit Go.Proofs.Ytlkfcabklaaacaa.P Go.Proofs.YtlkfcabklaaacaaW.PrintWords Go.Proofs.YtlkfcabklaaacaaW.PrintLast Go.Proofs.YtlkfcabklaaacaaW.PrintMore Go.Proofs.YtlkfcabklaaacaaO

theorem w64 {x : Int} (h0 : -9223372036854775808 ≤ x) (h1 : x ≤ 9223372036854775807) : wrap64 x = x := by
  unfold wrap64
  omega
theorem u64w {x : Int} (h0 : 0 ≤ x) (h1 : x < 18446744073709551616) : IntKind.u64.wrap x = x := by
  rw [IntKind.wrap_u64]
  omega
theorem pow8 (i : Nat) : (2 : Int) ^ (8 * i) = 256 ^ i := by
  rw [Int.pow_mul]
  rfl
theorem pow256_le {i : Nat} (h : i ≤ 8) : (256 : Int) ^ i ≤ 18446744073709551616 := by
  have : i = 0 ∨ i = 1 ∨ i = 2 ∨ i = 3 ∨ i = 4 ∨ i = 5 ∨ i = 6 ∨ i = 7 ∨ i = 8 := by omega
  rcases this with rfl | rfl | rfl | rfl | rfl | rfl | rfl | rfl | rfl <;> decide
theorem shr_byte (n : Int) (i : Nat) (h : i ≤ 8) : shr .u64 n (8 * (i : Int)) = n / 256 ^ i := by
  unfold shr
  rw [show min (8 * (i : Int)).toNat IntKind.u64.bits = 8 * i by simp only [IntKind.bits]; omega, pow8]
theorem shl_byte (b : Int) (i : Nat) (h : i ≤ 7) (hb : 0 ≤ b ∧ b < 256) : shl .u64 b (8 * (i : Int)) = b * 256 ^ i := by
  unfold shl
  rw [show min (8 * (i : Int)).toNat IntKind.u64.bits = 8 * i by simp only [IntKind.bits]; omega, pow8]
  have h1 := pow256_le (i := i + 1) (by omega)
  rw [pow_succ256] at h1
  have h2 := pow_pos256 i
  refine u64w (Int.mul_nonneg hb.1 (Int.le_of_lt h2)) ?_
  have h3 : b * 256 ^ i ≤ 255 * 256 ^ i := Int.mul_le_mul_of_nonneg_right (by omega) (Int.le_of_lt h2)
  omega
theorem or_byte (v b : Int) (i : Nat) (h : i ≤ 7) (hv : 0 ≤ v ∧ v < 256 ^ i) (hb : 0 ≤ b ∧ b < 256) : Go.bits .or .u64 v (b * 256 ^ i) = v + b * 256 ^ i := by
  have h1 := pow256_le (i := i + 1) (by omega)
  rw [pow_succ256] at h1
  have h2 := pow_pos256 i
  have h3 : b * 256 ^ i ≤ 255 * 256 ^ i := Int.mul_le_mul_of_nonneg_right (by omega) (Int.le_of_lt h2)
  have h4 : 0 ≤ b * 256 ^ i := Int.mul_nonneg hb.1 (Int.le_of_lt h2)
  rw [u64_or _ _ hv.1 (by omega) h4 (by omega)]
  obtain ⟨v, rfl⟩ := Int.eq_ofNat_of_zero_le hv.1
  obtain ⟨b, rfl⟩ := Int.eq_ofNat_of_zero_le hb.1
  have e : ((b : Int) * 256 ^ i) = ((b * 256 ^ i : Nat) : Int) := by rw [Int.natCast_mul, Int.natCast_pow]; rfl
  have hv2 : v < 2 ^ (8 * i) := by
    have := hv.2
    rw [Nat.pow_mul]
    have e2 : ((256 : Int) ^ i) = (((2 ^ 8) ^ i : Nat) : Int) := by rw [Int.natCast_pow]; rfl
    rw [e2] at this
    exact Int.ofNat_lt.1 this
  rw [e, Int.toNat_natCast, Int.toNat_natCast, Nat.or_comm, nat_join (8 * i) (b * 256 ^ i) v (by rw [Nat.pow_mul]; exact Nat.mul_mod_left _ _) hv2]
  omega
theorem le_drop : ∀ (K i : Nat) (n : Int), i < K → (le n K).drop i = (n / 256 ^ i % 256) :: (le n K).drop (i + 1)
  | 0, i, n, h => by omega
  | K + 1, 0, n, h => by simp [le]
  | K + 1, i + 1, n, h => by
    simp only [le, List.drop_succ_cons]
    rw [le_drop K i _ (by omega), pow_succ256, Int.ediv_ediv_of_nonneg (by decide)]
theorem put_l0 (n : Int) (K : Nat) (hK : K ≤ 8) : ∀ (d k i : Nat) (x : List Int), i + d = K → d < k → x.length + d ≤ 140737488355327 → octet_Put.l0 k n x K i = some (x ++ (le n K).drop i)
  | 0, k + 1, i, x, h, _, _ => by
    simp only [octet_Put.l0]
    rw [if_neg (by omega), List.drop_eq_nil_of_le (by rw [le_length]; omega), List.append_nil]
  | d + 1, k + 1, i, x, h, hk, hl => by
    simp only [octet_Put.l0]
    have e1 : wrap64 (8 * (i : Int)) = 8 * (i : Int) := w64 (by omega) (by omega)
    have e2 : wrap64 ((i : Int) + 1) = ((i + 1 : Nat) : Int) := by rw [w64 (by omega) (by omega)]; rfl
    rw [if_pos (by omega), e1, if_pos (by omega), if_pos (by omega), shr_byte n i (by omega), e2,
      put_l0 n K hK d k (i + 1) _ (by omega) (by omega) (by simp; omega), le_drop K i n (by omega)]
    simp
theorem rput_l0 (n : Int) (K : Nat) (hK : K ≤ 8) : ∀ (d k i : Nat) (x : List Int), i + d = K → d < k → x.length + d ≤ 140737488355327 → careenageref01_Put.l0 k n K x i = some (x ++ (le n K).drop i)
  | 0, k + 1, i, x, h, _, _ => by
    simp only [careenageref01_Put.l0]
    rw [if_neg (by omega), List.drop_eq_nil_of_le (by rw [le_length]; omega), List.append_nil]
  | d + 1, k + 1, i, x, h, hk, hl => by
    simp only [careenageref01_Put.l0]
    have e1 : IntKind.u64.wrap (wrap64 (8 * (i : Int))) = 8 * (i : Int) := by rw [w64 (by omega) (by omega), u64w (by omega) (by omega)]
    have e2 : wrap64 ((i : Int) + 1) = ((i + 1 : Nat) : Int) := by rw [w64 (by omega) (by omega)]; rfl
    rw [if_pos (by omega), e1, if_pos (by omega), if_pos (by omega), shr_byte n i (by omega), e2,
      rput_l0 n K hK d k (i + 1) _ (by omega) (by omega) (by simp; omega), le_drop K i n (by omega)]
    simp
/-- What Put answers. -/
def putL (l : List Int) (n K : Int) : List Int := if 1 ≤ K ∧ K ≤ 8 then l ++ le n K.toNat else l
theorem put_is (k : Nat) (l : List Int) (n K : Int) (hk : 12 ≤ k) (hl : l.length ≤ 140737488355000) : octet_Put.f k l n K = some (putL l n K) := by
  obtain ⟨k, rfl⟩ : ∃ m, k = m + 2 := ⟨k - 2, by omega⟩
  unfold octet_Put.f putL
  have e1 : wrap64 ((l.length : Int) + 8) = (l.length : Int) + 8 := w64 (by omega) (by omega)
  rw [e1, if_pos (by omega), if_pos (by omega)]
  simp only [bs, List.nil_append]
  rw [if_pos (by simp; omega)]
  by_cases h1 : K < 1
  · rw [if_pos h1, if_neg (by omega)]
    simp [octet_Put.j0]
  · rw [if_neg h1]
    by_cases h2 : K > 8
    · rw [if_neg (by omega)]
      simp [octet_Put.j0, h2]
    · rw [if_pos (by omega)]
      obtain ⟨K, rfl⟩ := Int.eq_ofNat_of_zero_le (show 0 ≤ K by omega)
      simp only [octet_Put.j0, h2, decide_false]
      rw [if_neg (by decide), show (0 : Int) = ((0 : Nat) : Int) from rfl, put_l0 n K (by omega) K (k + 1) 0 l (by omega) (by omega) (by omega)]
      simp
theorem rput_is (k : Nat) (l : List Int) (n K : Int) (hk : 12 ≤ k) (hl : l.length ≤ 140737488355000) : careenageref01_Put.f k l n K = some (putL l n K) := by
  obtain ⟨k, rfl⟩ : ∃ m, k = m + 2 := ⟨k - 2, by omega⟩
  unfold careenageref01_Put.f putL
  simp only [bs, List.nil_append]
  rw [if_pos (by simp; omega)]
  by_cases h1 : K < 1
  · rw [if_pos h1, if_neg (by omega)]
    simp [careenageref01_Put.j0]
  · rw [if_neg h1]
    by_cases h2 : K > 8
    · rw [if_neg (by omega)]
      simp [careenageref01_Put.j0, h2]
    · rw [if_pos (by omega)]
      obtain ⟨K, rfl⟩ := Int.eq_ofNat_of_zero_le (show 0 ≤ K by omega)
      simp only [careenageref01_Put.j0, h2, decide_false]
      rw [if_neg (by decide), show (0 : Int) = ((0 : Nat) : Int) from rfl, rput_l0 n K (by omega) K (k + 1) 0 l (by omega) (by omega) (by omega)]
      simp

end Go.Proofs.Ytlkfcabklaaacaa.Q

namespace Go.Proofs.Ytlkfcabklaaacaa.Q
set_option linter.unusedVariables false
set_option linter.unusedSimpArgs false
open Go.RowKit Go.Proofs.Ytlkfcabklaaacaa.P Go.Proofs.YtlkfcabklaaacaaW.PrintWords Go.Proofs.YtlkfcabklaaacaaW.PrintLast Go.Proofs.YtlkfcabklaaacaaW.PrintMore Go.Proofs.YtlkfcabklaaacaaO

def numL (x : Int) : List Int := le (IntKind.u64.wrap x) 4
theorem numL_length (x : Int) : (numL x).length = 4 := le_length 4 _
theorem put4 (l : List Int) (n : Int) : putL l n 4 = l ++ le n 4 := by
  unfold putL
  rw [if_pos (by decide)]
  rfl
theorem drop_rd (l : List Int) (i : Nat) (h : i < l.length) : l.drop i = rd l (i : Int) :: l.drop (i + 1) := by
  rw [rd_get h]
  exact List.drop_eq_getElem_cons h
theorem page_loop (s n nx tx : Int) (l : List Int) (hl : l.length < 1000000) : ∀ (d i k : Nat) (acc : List Int), i + d = l.length → d + 13 ≤ k → acc.length + 4 * d ≤ 8000000 →
    free_Page.l0 k s n nx tx l acc l (l.length : Int) (i : Int) = (frame_Body.f s (acc ++ (l.drop i).flatMap numL)).bind fun bt => some (6, (l.length : Int), n, nx, tx, bt.1, 0)
  | d, i, 0, acc, _, h, _ => by omega
  | 0, i, k + 1, acc, hi, hk, ha => by
    rw [free_Page.l0, if_neg (by omega), List.drop_of_length_le (by omega), List.flatMap_nil, List.append_nil]
  | d + 1, i, k + 1, acc, hi, hk, ha => by
    have hw2 : wrap64 ((i : Int) + 1) = ((i + 1 : Nat) : Int) := by unfold wrap64; omega
    rw [free_Page.l0, if_pos (by omega), if_pos (by omega), if_pos (by omega), put_is k acc _ 4 (by omega) (by omega), bs, put4, hw2,
      page_loop s n nx tx l hl d (i + 1) k _ (by omega) (by omega) (by rw [List.length_append, le_length]; omega), drop_rd l i (by omega), List.flatMap_cons, List.append_assoc]
    rfl
theorem rpage_loop (s n nx tx : Int) (l : List Int) (hl : l.length < 1000000) : ∀ (d i k : Nat) (acc : List Int), i + d = l.length → d + 13 ≤ k → acc.length + 4 * d ≤ 8000000 →
    careenageref10_Page.l0 k s n nx tx l acc (i : Int) = (careenageref04_Body.f s (acc ++ (l.drop i).flatMap numL)).bind fun bt => some (6, (l.length : Int), n, nx, tx, bt.1, 0)
  | d, i, 0, acc, _, h, _ => by omega
  | 0, i, k + 1, acc, hi, hk, ha => by
    rw [careenageref10_Page.l0, if_neg (by omega), List.drop_of_length_le (by omega), List.flatMap_nil, List.append_nil]
  | d + 1, i, k + 1, acc, hi, hk, ha => by
    have hw2 : wrap64 ((i : Int) + 1) = ((i + 1 : Nat) : Int) := by unfold wrap64; omega
    rw [careenageref10_Page.l0, if_pos (by omega), if_pos (by omega), rput_is k acc _ 4 (by omega) (by omega), bs, put4, hw2,
      rpage_loop s n nx tx l hl d (i + 1) k _ (by omega) (by omega) (by rw [List.length_append, le_length]; omega), drop_rd l i (by omega), List.flatMap_cons, List.append_assoc]
    rfl
theorem nums_length (l : List Int) : (l.flatMap numL).length = 4 * l.length := by
  induction l with
  | nil => rfl
  | cons x l ih =>
    rw [List.flatMap_cons, List.length_append, numL_length, ih, List.length_cons]
    omega
/-- The bytes, and zeros behind them, as many as there is room for. -/
def padS (m : Int) (l : List Int) : ByteArray := strOfNums (l ++ List.replicate (m.toNat - l.length) 0)
theorem body_is (s : Int) (l : List Int) (hg : goodS s = true) (hl : (l.length : Int) ≤ roomS s) : frame_Body.f s l = some (padS (roomS s) l, 0) := by
  have hr := roomS_range s
  unfold frame_Body.f padded padS
  rw [good_is, bs, if_pos hg, room_is, bs, if_neg (by omega), if_pos (by omega)]
  rw [show min l.length (roomS s).toNat = l.length by omega, List.take_length, List.drop_replicate]
theorem strOfNums_append (l m : List Int) : strOfNums (l ++ m) = strOfNums l ++ strOfNums m := by
  apply ByteArray.ext
  simp [strOfNums, ByteArray.data_append]
theorem rbody_is (s : Int) (l : List Int) (hg : goodS s = true) (hl : (l.length : Int) ≤ roomS s) : careenageref04_Body.f s l = some (padS (roomS s) l, 0) := by
  have hr := roomS_range s
  have hw : wrap64 (roomS s - (l.length : Int)) = roomS s - (l.length : Int) := by unfold wrap64; omega
  unfold careenageref04_Body.f padS
  rw [rgood_is, bs, if_pos hg, rroom_is, bs, if_neg (by omega), bs, hw, if_pos (by omega), if_pos (by omega), bs, if_pos (by rw [size_str, size_str, List.length_replicate]; omega),
    show (roomS s - (l.length : Int)).toNat = (roomS s).toNat - l.length by omega, strOfNums_append]
def okS (s n nx tx : Int) (l : List Int) : Bool := goodS s && (numsB l && riseB l) && decide ((l.length : Int) ≤ mostS s) && numB n && (decide (nx = 0) || numB nx) && decide (tx ≤ 4611686018427387904)
def pageS (s n nx tx : Int) (l : List Int) : Int × Int × Int × Int × Int × ByteArray × Int := if okS s n nx tx l = true then (6, (l.length : Int), n, nx, tx, padS (roomS s) (l.flatMap numL), 0) else (0, 0, 0, 0, 0, (⟨#[]⟩ : ByteArray), 2)
theorem most_len (s : Int) (l : List Int) (h : (l.length : Int) ≤ mostS s) : ((l.flatMap numL).length : Int) ≤ roomS s := by
  rw [nums_length]
  unfold mostS at h
  omega
theorem page_end (k : Nat) (s n nx tx : Int) (l : List Int) (b : Bool) (hl : l.length < 1000000) (hk : l.length + 14 ≤ k) (hg : goodS s = true) (hm : (l.length : Int) ≤ mostS s) :
    free_Page.j0 k s n nx tx l b = some (if b = true then (0, 0, 0, 0, 0, (⟨#[]⟩ : ByteArray), 2) else (6, (l.length : Int), n, nx, tx, padS (roomS s) (l.flatMap numL), 0)) := by
  obtain ⟨k, rfl⟩ : ∃ j, k = j + 1 := ⟨k - 1, by omega⟩
  rw [free_Page.j0]
  cases b with
  | true => rw [if_pos rfl, if_pos rfl]
  | false =>
    rw [if_neg (by decide), if_neg (by decide), show (0 : Int) = ((0 : Nat) : Int) from rfl, page_loop s n nx tx l hl l.length 0 k [] (by omega) (by omega) (by simp; omega), List.drop_zero, List.nil_append, body_is s _ hg (most_len s l hm), bs]
    rfl
theorem page_bad (k : Nat) (s n nx tx : Int) (l : List Int) (hk : 0 < k) : free_Page.j0 k s n nx tx l true = some (0, 0, 0, 0, 0, (⟨#[]⟩ : ByteArray), 2) := by
  obtain ⟨k, rfl⟩ : ∃ j, k = j + 1 := ⟨k - 1, by omega⟩
  rw [free_Page.j0, if_pos rfl]
theorem page_is (k : Nat) (s n nx tx : Int) (l : List Int) (hl : l.length < 1000000) (hk : 2 * l.length + 14 ≤ k) : free_Page.f k s n nx tx l = some (pageS s n nx tx l) := by
  have hbad := page_bad k s n nx tx l (by omega)
  have hnot : okS s n nx tx l = false → some (pageS s n nx tx l) = some (0, 0, 0, 0, 0, (⟨#[]⟩ : ByteArray), 2) := fun h => by
    unfold pageS
    rw [h, if_neg (by decide)]
  unfold free_Page.f
  rw [most_is, bs]
  by_cases h0 : mostS s = 0
  · rw [if_pos h0, hbad, hnot (by unfold okS; simp [(mostS_zero s).1 h0])]
  · have hg : goodS s = true := by
      cases hq : goodS s with
      | true => rfl
      | false => exact absurd ((mostS_zero s).2 hq) h0
    rw [if_neg h0, bs]
    by_cases h1 : (l.length : Int) > mostS s
    · rw [if_pos h1, hbad, hnot (by unfold okS; simp [show ¬ ((l.length : Int) ≤ mostS s) by omega])]
    · rw [if_neg h1, rises_is l (by omega) k (by omega) (by omega), bs]
      cases h2 : riseB l with
      | false => rw [if_neg (by decide), hbad, hnot (by unfold okS; simp [h2])]
      | true =>
        rw [if_pos rfl, contains_is l (by omega) k (by omega), bs]
        cases h3 : numsB l with
        | false => rw [Bool.not_false, if_pos rfl, hbad, hnot (by unfold okS; simp [h3])]
        | true =>
          rw [Bool.not_true, if_neg (by decide), odd_is, bs]
          cases h4 : numB n with
          | false => rw [Bool.not_false, if_pos rfl, hbad, hnot (by unfold okS; simp [h4])]
          | true =>
            rw [Bool.not_true, if_neg (by decide)]
            have hend := page_end k s n nx tx l (decide (tx > 4611686018427387904)) hl (by omega) hg (by omega)
            by_cases h5 : nx = 0
            · rw [if_pos h5, hend]
              congr 1
              unfold pageS okS
              by_cases h6 : tx > 4611686018427387904
              · simp [h6, show ¬ (tx ≤ 4611686018427387904) by omega]
              · simp [h6, show tx ≤ 4611686018427387904 by omega, hg, h2, h3, h4, h5, show (l.length : Int) ≤ mostS s by omega]
            · rw [if_neg h5, odd_is, bs]
              cases h7 : numB nx with
              | false => rw [Bool.not_false, if_pos rfl, hbad, hnot (by unfold okS; simp [h5, h7])]
              | true =>
                rw [Bool.not_true, if_neg (by decide), hend]
                congr 1
                unfold pageS okS
                by_cases h6 : tx > 4611686018427387904
                · simp [h6, show ¬ (tx ≤ 4611686018427387904) by omega]
                · simp [h6, show tx ≤ 4611686018427387904 by omega, hg, h2, h3, h4, h7, show (l.length : Int) ≤ mostS s by omega]
theorem rpage_end (k : Nat) (s n nx tx : Int) (l : List Int) (b : Bool) (hl : l.length < 1000000) (hk : l.length + 14 ≤ k) (hg : goodS s = true) (hm : (l.length : Int) ≤ mostS s) :
    careenageref10_Page.j0 k s n nx tx l b = some (if b = true then (0, 0, 0, 0, 0, (⟨#[]⟩ : ByteArray), 2) else (6, (l.length : Int), n, nx, tx, padS (roomS s) (l.flatMap numL), 0)) := by
  obtain ⟨k, rfl⟩ : ∃ j, k = j + 1 := ⟨k - 1, by omega⟩
  rw [careenageref10_Page.j0]
  cases b with
  | true => rw [if_pos rfl, if_pos rfl]
  | false =>
    rw [if_neg (by decide), if_neg (by decide), show (0 : Int) = ((0 : Nat) : Int) from rfl, rpage_loop s n nx tx l hl l.length 0 k [] (by omega) (by omega) (by simp; omega), List.drop_zero, List.nil_append, rbody_is s _ hg (most_len s l hm), bs]
    rfl
theorem rpage_bad (k : Nat) (s n nx tx : Int) (l : List Int) (hk : 0 < k) : careenageref10_Page.j0 k s n nx tx l true = some (0, 0, 0, 0, 0, (⟨#[]⟩ : ByteArray), 2) := by
  obtain ⟨k, rfl⟩ : ∃ j, k = j + 1 := ⟨k - 1, by omega⟩
  rw [careenageref10_Page.j0, if_pos rfl]
theorem rpage_is (k : Nat) (s n nx tx : Int) (l : List Int) (hl : l.length < 1000000) (hk : 2 * l.length + 14 ≤ k) : careenageref10_Page.f k s n nx tx l = some (pageS s n nx tx l) := by
  have hbad := rpage_bad k s n nx tx l (by omega)
  have hnot : okS s n nx tx l = false → some (pageS s n nx tx l) = some (0, 0, 0, 0, 0, (⟨#[]⟩ : ByteArray), 2) := fun h => by
    unfold pageS
    rw [h, if_neg (by decide)]
  unfold careenageref10_Page.f
  rw [rgood_is, bs]
  cases hg : goodS s with
  | false => rw [if_neg (by decide), hbad, hnot (by unfold okS; simp [hg])]
  | true =>
    rw [if_pos rfl, rnums_is l (by omega) k (by omega), bs]
    cases h2 : numsB l && riseB l with
    | false => rw [if_neg (by decide), hbad, hnot (by unfold okS; simp only [h2]; simp)]
    | true =>
      rw [if_pos rfl, rmost_is, bs]
      by_cases h1 : (l.length : Int) > mostS s
      · rw [if_pos h1, hbad, hnot (by unfold okS; simp [show ¬ ((l.length : Int) ≤ mostS s) by omega])]
      · rw [if_neg h1, rnumber_is, bs]
        cases h4 : numB n with
        | false => rw [if_neg (by decide), hbad, hnot (by unfold okS; simp [h4])]
        | true =>
          rw [if_pos rfl]
          have hend := rpage_end k s n nx tx l (decide (tx > 4611686018427387904)) hl (by omega) hg (by omega)
          by_cases h5 : nx = 0
          · rw [if_pos h5, hend]
            congr 1
            unfold pageS okS
            by_cases h6 : tx > 4611686018427387904
            · simp [h6, show ¬ (tx ≤ 4611686018427387904) by omega]
            · simp only [h2]
              simp [h6, show tx ≤ 4611686018427387904 by omega, hg, h4, h5, show (l.length : Int) ≤ mostS s by omega]
          · rw [if_neg h5, rnumber_is, bs]
            cases h7 : numB nx with
            | false => rw [if_neg (by decide), hbad, hnot (by unfold okS; simp [h5, h7])]
            | true =>
              rw [if_pos rfl, hend]
              congr 1
              unfold pageS okS
              by_cases h6 : tx > 4611686018427387904
              · simp [h6, show ¬ (tx ≤ 4611686018427387904) by omega]
              · simp only [h2]
                simp [h6, show tx ≤ 4611686018427387904 by omega, hg, h4, h7, show (l.length : Int) ≤ mostS s by omega]

end Go.Proofs.Ytlkfcabklaaacaa.Q

namespace Go.Proofs.Ytlkfcabklaaacaa.P
open Go.RowKit Go.Proofs.YtlkfcabklaaacaaW.PrintWords Go.Proofs.YtlkfcabklaaacaaW.PrintLast Go.Proofs.YtlkfcabklaaacaaW.PrintMore
attribute [local go_sem] max2_int min2_int max_two min_two max_three min_three max_four min_four   -- for this text's walks alone
open Go.Proofs.YtlkfcabklaaacaaO
attribute [local go_sem] min2_str max2_str
set_option linter.unusedVariables false
set_option linter.unusedSimpArgs false

/-- A state of type 93 at block g of W; what its slices lead to came in by w0. -/
def IsS93 (w0 W : World) (g : Nat) (f0 : ByteArray) : Prop := W.heap[g]? = some (.cells #[.string f0] 93 (0, 0)) ∧ w0.heap.size ≤ g
theorem IsS93.low {w0 w1 W : World} {g : Nat} {f0 : ByteArray} (h : IsS93 w1 W g f0) (hw : w0.heap.size ≤ w1.heap.size) : IsS93 w0 W g f0 := ⟨h.1, Nat.le_trans hw h.2⟩
theorem IsS93.grown {w0 W : World} {g : Nat} {f0 : ByteArray} {W1 : World} {row : Option Nat} (h : IsS93 w0 W g f0) (hw : W.grownBy W1 row) (hne : some g ≠ row) : IsS93 w0 W1 g f0 := by
  obtain ⟨hb, hg⟩ := h
  exact ⟨blk_grown hb hw hne, hg⟩
theorem IsS93.own_neN {w0 W : World} {g : Nat} {f0 : ByteArray} {α : Type} {d : Kd α} {e : Nat} {base : Nat} {ok : Nat → Prop} {v : Value} {xs : List α} (h : IsS93 w0 W g f0) (ho : Kd.N d e W base ok v xs) (ht : e ≠ 93) : some g ≠ v.ownBlock := by
  obtain ⟨hb, hg⟩ := h
  exact Kd.N_ne ho hb ht
theorem IsS93.fresh {w0 W : World} {g : Nat} {f0 : ByteArray} (h : IsS93 w0 W g f0) : ∀ k, W.heap.size ≤ k → k ≠ g := by
  obtain ⟨hb, hg⟩ := h
  exact Kd.freshB hb
theorem IsS93.kept {w0 W : World} {g : Nat} {f0 : ByteArray} {W1 : World} {S : Nat → Prop} (h : IsS93 w0 W g f0) (hk : Kept W W1 S) (hne : ¬ S g) : IsS93 w0 W1 g f0 := by
  obtain ⟨hb, hg⟩ := h
  exact ⟨blk_kept hb hk hne, hg⟩
theorem IsS93.below {w0 W : World} {g : Nat} {f0 : ByteArray} {W1 : World} (h : IsS93 w0 W g f0) (hw : Below W.heap.size W W1) : IsS93 w0 W1 g f0 := h.grown (grown_of_below hw none) (by simp)
theorem IsS93.alloc {w0 W : World} {g : Nat} {f0 : ByteArray} (h : IsS93 w0 W g f0) (o : Obj) : IsS93 w0 (W.alloc o) g f0 := h.below (below_alloc (Below.refl _ _) o)
theorem IsS93.drewN {w0 W : World} {g : Nat} {f0 : ByteArray} (h : IsS93 w0 W g f0) (m : Nat) : IsS93 w0 (W.drewN m) g f0 := h
theorem IsS93.drew {w0 W : World} {g : Nat} {f0 : ByteArray} (h : IsS93 w0 W g f0) : IsS93 w0 W.drew g f0 := h
theorem IsS93.at_ {w0 W : World} {g : Nat} {f0 : ByteArray} {w' : World} {m : Nat} (hq : W.drewN m = w') (h : IsS93 w0 W g f0) : IsS93 w0 w' g f0 := by subst hq; exact IsS93.drewN h m
theorem IsS93.apart {w0 W : World} {g : Nat} {f0 : ByteArray} {α : Type} {d : Kd α} {e : Nat} {base : Nat} {ok : Nat → Prop} {v : Value} {xs : List α} (h : IsS93 w0 W g f0) (ho : d.R e W base ok v xs) (ht : ∀ q, q ∈ e :: d.E → q ≠ 93) : d.R e W base (fun k => ok k ∧ k ≠ g) v xs := by
  obtain ⟨hb, hg⟩ := h
  exact Kd.R_types ho hb ht
theorem IsS93.own_ne {w0 W : World} {g : Nat} {f0 : ByteArray} {α : Type} {d : Kd α} {e : Nat} {base : Nat} {ok : Nat → Prop} {v : Value} {xs : List α} (h : IsS93 w0 W g f0) (ho : d.R e W base ok v xs) (ht : e ≠ 93) : some g ≠ v.ownBlock := by
  obtain ⟨hb, hg⟩ := h
  exact Kd.R_ne ho hb ht
theorem IsS93.apartQ {w0 W : World} {g : Nat} {f0 : ByteArray} {α : Type} {d : Kd α} {e : Nat} {base : Nat} {ok : Nat → Prop} {v : Value} {xs : List α} (h : IsS93 w0 W g f0) (ho : d.Q e W base ok v xs) (ht : ∀ q, q ∈ e :: d.E → q ≠ 93) : d.Q e W base (fun k => ok k ∧ k ≠ g) v xs := by
  obtain ⟨hb, hg⟩ := h
  exact Kd.Q_types ho hb ht
theorem IsS93.own_neQ {w0 W : World} {g : Nat} {f0 : ByteArray} {α : Type} {d : Kd α} {e : Nat} {base : Nat} {ok : Nat → Prop} {v : Value} {xs : List α} (h : IsS93 w0 W g f0) (ho : d.Q e W base ok v xs) (ht : e ≠ 93) : some g ≠ v.ownBlock := by
  obtain ⟨hb, hg⟩ := h
  exact Kd.Q_ne ho hb ht
theorem IsS93.apartS {w0 W : World} {g : Nat} {f0 : ByteArray} {α : Type} {d : Kd α} {e : Nat} {base : Nat} {ok : Nat → Prop} {v : Value} {xs : List α} (h : IsS93 w0 W g f0) (ho : d.S e W base ok v xs) (ht : ∀ q, q ∈ e :: d.E → q ≠ 93) : d.S e W base (fun k => ok k ∧ k ≠ g) v xs := by
  obtain ⟨hb, hg⟩ := h
  exact Kd.S_types ho hb ht
theorem IsS93.own_neS {w0 W : World} {g : Nat} {f0 : ByteArray} {α : Type} {d : Kd α} {e : Nat} {base : Nat} {ok : Nat → Prop} {v : Value} {xs : List α} (h : IsS93 w0 W g f0) (ho : d.S e W base ok v xs) (ht : e ≠ 93) : some g ≠ v.ownBlock := by
  obtain ⟨hb, hg⟩ := h
  exact Kd.S_ne ho hb ht
theorem IsS93.lt {w0 W : World} {g : Nat} {f0 : ByteArray} (h : IsS93 w0 W g f0) : g < W.heap.size := by
  obtain ⟨hb, hg⟩ := h
  exact blk_lt hb
theorem IsS93.ge {w0 W : World} {g : Nat} {f0 : ByteArray} (h : IsS93 w0 W g f0) : w0.heap.size ≤ g := by
  obtain ⟨hb, hg⟩ := h
  exact hg
theorem IsS93.ne_blk {w0 W : World} {g : Nat} {f0 : ByteArray} {a : Nat} {cs : Array Value} {t : TypeId} {fr : Nat × Nat} (h : IsS93 w0 W g f0) (hb2 : W.heap[a]? = some (.cells cs t fr)) (ht : t ≠ 93) : g ≠ a := by
  obtain ⟨hb, hg⟩ := h
  rintro rfl
  rw [hb] at hb2
  injection hb2 with hb2
  injection hb2 with _ ht2
  exact ht ht2.symm
theorem IsS93.far {w0 W : World} {g : Nat} {f0 : ByteArray} {p : Addr} (h : IsS93 w0 W g f0) (hne : g ≠ p.block) (u : Value) : IsS93 w0 (W.setCell p u) g f0 := by
  obtain ⟨hb, hg⟩ := h
  exact ⟨blk_far hb hne u, hg⟩
theorem cellS93_0 {W : World} {g : Nat} {f0 : ByteArray} (h : W.heap[g]? = some (.cells #[.string f0] 93 (0, 0))) : W.cell? ⟨g, 0, none⟩ = some (.string f0) := (blk_cell h 0).trans rfl
theorem IsS93.set_0 {w0 W : World} {g : Nat} {f0 : ByteArray} (h : IsS93 w0 W g f0) (x : ByteArray) : IsS93 w0 (W.setCell ⟨g, 0, none⟩ (.string x)) g x := by
  obtain ⟨hb, hg⟩ := h
  exact ⟨by first | (simp; done) | (simp at blk_set; done) | simpa using blk_set hb 0 (.string x), hg⟩
theorem IsS93.new (w0 W : World) (f0 : ByteArray) (hB : Below w0.heap.size w0 W) : IsS93 w0 (W.alloc (.cells #[.string f0] 93)) W.heap.size f0 := ⟨by first | (simp; done) | (simp at heap_alloc_new; done) | simpa using heap_alloc_new W _, hB.size⟩

/-! ### octet_New: function 59 -/
def octet_New.f (a0 : ByteArray) : Option (ByteArray) := some a0
set_option maxHeartbeats 8000000 in
set_option maxRecDepth 100000 in
theorem octet_New.calls (a0 : ByteArray) (r : ByteArray) (w0 w : World) (hB : Below w0.heap.size w0 w) (h : octet_New.f a0 = some r) :
    Calls Try.prog 59 #[.string a0] w fun e w' => ∃ g_ : Nat, e = .returned (.pointer (some ⟨g_, 0, none⟩)) ∧ IsS93 w0 w' g_ r ∧ Below w0.heap.size w0 w' ∧ Below w.heap.size w w' := by
  have hu93 := Try.underlying93
  have HBW := Aside0.mk (Below.refl w.heap.size w)
  have HW0 := Aside0.mk hB.size
  have HB := Aside0.mk hB
  clear hB
  have H : (some a0) = some r := h
  clear h
  obtain rfl := Option.some.inj H
  go_enter Try.func59, Try.ntmps59
  go_wp2_with (first | ((with_reducible refine gate_dst (N := 5) rfl ?_); refine box_event ?hg (N := 5) ?hd (cs := #[.string a0]) (t := 93) ?hr ?_; (case hd => rfl); (case hg => rfl); (case hr => first | (go_simp; done) | (go_simp; rfl)); intro gb216 hg w2 hbox hb; have n0_ := Aside0.mk (below_step HBW.out hb); have n1_ := Aside0.mk (below_step (by repeat (first | (with_reducible first | exact HB.out | apply below_alloc | apply pw_below_drewN | apply below_drew1) | exact HB.out)) hb); have n2_ := Aside0.mk (hbox); have n3_ := Aside0.mk ((by rw [hg]; exact (below_size (by repeat (first | (with_reducible first | exact HBW.out | apply below_alloc | apply pw_below_drewN | apply below_drew1) | exact HBW.out))) : w.heap.size ≤ gb216)); have n4_ := Aside0.mk ((Nat.le_trans HW0.out (by rw [hg]; exact (below_size (by repeat (first | (with_reducible first | exact HBW.out | apply below_alloc | apply pw_below_drewN | apply below_drew1) | exact HBW.out))) : w.heap.size ≤ gb216) : w0.heap.size ≤ gb216)); clear HBW; clear HB; have HBW := n0_; have HB := n1_; have BK216 := n2_; have GW216 := n3_; have GE216 := n4_; clear n0_ n1_ n2_ n3_ n4_; clear hb hbox hg))
  go_ret
  exact ⟨_, rfl, (show IsS93 w0 _ gb216 a0 from ⟨by (with_reducible repeat (first | refine blk_drewN ?_ _ | refine blk_drew ?_ | refine blk_alloc ?_ _)); exact BK216.out, GE216.out⟩), by repeat (first | (with_reducible first | exact HB.out | apply below_alloc | apply pw_below_drewN | apply below_drew1 | refine below_set ?_ GE216.out) | exact HB.out), by repeat (first | (with_reducible first | exact HBW.out | apply below_alloc | apply pw_below_drewN | apply below_drew1 | refine below_set ?_ GW216.out) | exact HBW.out)⟩
theorem octet_New.callsW (a0 : ByteArray) (r : ByteArray) (w : World) (h : octet_New.f a0 = some r) :
    Calls Try.prog 59 #[.string a0] w fun e w' => ∃ g_ : Nat, e = .returned (.pointer (some ⟨g_, 0, none⟩)) ∧ IsS93 w w' g_ r ∧ Below w.heap.size w w' ∧ Below w.heap.size w w' := octet_New.calls a0 r w w (Below.refl _ _) h

end Go.Proofs.Ytlkfcabklaaacaa.P

namespace Go.Proofs.Ytlkfcabklaaacaa.P
open Go.RowKit Go.Proofs.YtlkfcabklaaacaaW.PrintWords Go.Proofs.YtlkfcabklaaacaaW.PrintLast Go.Proofs.YtlkfcabklaaacaaW.PrintMore
attribute [local go_sem] max2_int min2_int max_two min_two max_three min_three max_four min_four   -- for this text's walks alone
open Go.Proofs.YtlkfcabklaaacaaO
attribute [local go_sem] min2_str max2_str
set_option linter.unusedVariables false
set_option linter.unusedSimpArgs false

/-! ### octet_Reader_take: function 78 -/
def octet_Reader_take.f (s0_0 : ByteArray) (a1 : Int) : Option (ByteArray × Int × ByteArray) := if a1 > (s0_0.size : Int) then (some ((⟨#[]⟩ : ByteArray), 7, s0_0)) else (if 0 ≤ a1 then (if a1 ≤ (s0_0.size : Int) then (some (s0_0.extract 0 (a1 : Int).toNat, 0, s0_0.extract (a1 : Int).toNat s0_0.size)) else (none)) else (none))
set_option maxHeartbeats 8000000 in
set_option maxRecDepth 100000 in
theorem octet_Reader_take.calls (g : Nat) (s0_0 : ByteArray) (a1 : Int) (r1 : ByteArray) (r2 : Int) (r3 : ByteArray) (w0 w : World) (hI : IsS93 w0 w g s0_0) (hB : Below w0.heap.size w0 w) (h : octet_Reader_take.f s0_0 a1 = some (r1, r2, r3)) :
    Calls Try.prog 78 #[.pointer (some ⟨g, 0, none⟩), .int .i64 a1] w fun e w' => e = .returned (.tuple #[.string r1, .int .i64 r2]) ∧ IsS93 w0 w' g r3 ∧ Below w0.heap.size w0 w' ∧ KeepBut w w' g none := by
  have HI0 := Aside0.mk hI
  have HK := Aside0.mk (KeepBut.refl w g none)
  have HL := Aside0.mk hB.size
  clear hI
  have HW0 := Aside0.mk hB.size
  have HB := Aside0.mk hB
  clear hB
  have H : (if a1 > (s0_0.size : Int) then (some ((⟨#[]⟩ : ByteArray), 7, s0_0)) else (if 0 ≤ a1 then (if a1 ≤ (s0_0.size : Int) then (some (s0_0.extract 0 (a1 : Int).toNat, 0, s0_0.extract (a1 : Int).toNat s0_0.size)) else (none)) else (none))) = some (r1, r2, r3) := h
  clear h
  by_cases c3 : a1 > (s0_0.size : Int)
  · rw [if_pos c3] at H
    have c3b0 : decide ((s0_0.size : Int) < a1) = true := decide_eq_true c3
    clear c3
    simp only [Option.some.injEq, Prod.mk.injEq] at H
    obtain ⟨rfl, rfl, rfl⟩ := H
    obtain ⟨HGz4, hgz4⟩ := HI0.out
    have hcz4_0 := cellS93_0 HGz4
    have hfz4_0 := blk_frozen HGz4 0
    clear HGz4 hgz4
    go_enter Try.func78, Try.ntmps78
    go_wp2
    go_ret2
    exact ⟨by first | rfl | (simp [errW_none, errW_some] <;> rfl) | (simp [*, errW_none, errW_some] <;> rfl), by repeat (first | (with_reducible first | exact HI0.out | apply IsS93.alloc | apply IsS93.drewN | apply IsS93.drew | apply IsS93.set_0) | exact HI0.out), by repeat (first | (with_reducible first | exact HB.out | apply below_alloc | apply pw_below_drewN | apply below_drew1 | refine below_set ?_ (IsS93.ge HI0.out)) | exact HB.out), by repeat (first | (with_reducible first | exact HK.out | apply KeepBut.set_ | apply keep_drewN | apply keep_drew | apply keep_alloc) | exact HK.out)⟩
  · rw [if_neg c3] at H
    have c3b0 : decide ((s0_0.size : Int) < a1) = false := decide_eq_false c3
    clear c3
    by_cases c5 : 0 ≤ a1
    · rw [if_pos c5] at H
      have c5b0 := eq_true c5
      have c5b1 : decide (0 ≤ a1) = true := decide_eq_true c5
      clear c5
      by_cases c6 : a1 ≤ (s0_0.size : Int)
      · rw [if_pos c6] at H
        have c6b0 := eq_true c6
        have c6b1 : decide (a1 ≤ (s0_0.size : Int)) = true := decide_eq_true c6
        clear c6
        have c7b0 := eq_true (of_decide_eq_true (by first | (with_reducible assumption) | assumption) : 0 ≤ a1)
        have c8b0 := eq_true (of_decide_eq_true (by first | (with_reducible assumption) | assumption) : a1 ≤ (s0_0.size : Int))
        simp only [Option.some.injEq, Prod.mk.injEq] at H
        obtain ⟨rfl, rfl, rfl⟩ := H
        obtain ⟨HGz9, hgz9⟩ := HI0.out
        have hcz9_0 := cellS93_0 HGz9
        have hfz9_0 := blk_frozen HGz9 0
        clear HGz9 hgz9
        go_enter Try.func78, Try.ntmps78
        go_wp2
        go_ret2
        exact ⟨by first | rfl | (simp [errW_none, errW_some] <;> rfl) | (simp [*, errW_none, errW_some] <;> rfl), by repeat (first | (with_reducible first | exact HI0.out | apply IsS93.alloc | apply IsS93.drewN | apply IsS93.drew | apply IsS93.set_0) | exact HI0.out), by repeat (first | (with_reducible first | exact HB.out | apply below_alloc | apply pw_below_drewN | apply below_drew1 | refine below_set ?_ (IsS93.ge HI0.out)) | exact HB.out), by repeat (first | (with_reducible first | exact HK.out | apply KeepBut.set_ | apply keep_drewN | apply keep_drew | apply keep_alloc) | exact HK.out)⟩
      · rw [if_neg c6] at H
        exact absurd H (by simp)
    · rw [if_neg c5] at H
      exact absurd H (by simp)

end Go.Proofs.Ytlkfcabklaaacaa.P

namespace Go.Proofs.Ytlkfcabklaaacaa.P
open Go.RowKit Go.Proofs.YtlkfcabklaaacaaW.PrintWords Go.Proofs.YtlkfcabklaaacaaW.PrintLast Go.Proofs.YtlkfcabklaaacaaW.PrintMore
attribute [local go_sem] max2_int min2_int max_two min_two max_three min_three max_four min_four   -- for this text's walks alone
open Go.Proofs.YtlkfcabklaaacaaO
attribute [local go_sem] min2_str max2_str
set_option linter.unusedVariables false
set_option linter.unusedSimpArgs false

/-! ### octet_Reader_Number: function 60 -/
def octet_Reader_Number.l0 : Nat → Int → Int → ByteArray → Int → Int → ByteArray → Option (Int × Int × ByteArray)
  | 0, _, _, _, _, _, _ => none
  | k + 1, x4, x5, x6, x25, x26, x1000 => if x26 < x25 then (if 0 ≤ x26 then (if x26 < (x6.size : Int) then (if 0 ≤ (wrap64 (8 * x26)) then (octet_Reader_Number.l0 k (Go.bits .or .u64 x4 (shl .u64 (IntKind.u64.wrap (bt x6 x26)) (wrap64 (8 * x26)))) x5 x6 x25 (wrap64 (x26 + 1)) x1000) else (none)) else (none)) else (none)) else (some (x4, x5, x1000))
def octet_Reader_Number.f (k : Nat) (s0_0 : ByteArray) (a1 : Int) : Option (Int × Int × ByteArray) := if a1 < 1 then (some (0, 2, s0_0)) else (if a1 > 8 then (some (0, 2, s0_0)) else ((octet_Reader_take.f s0_0 a1).bind fun bt217 => (octet_Reader_Number.l0 k 0 bt217.2.1 bt217.1 (bt217.1.size : Int) 0 bt217.2.2)))
theorem octet_Reader_Number.mono_l : ∀ k, (∀ y0 y1 y2 y3 y4 y5, LeO (octet_Reader_Number.l0 k y0 y1 y2 y3 y4 y5) (octet_Reader_Number.l0 (k + 1) y0 y1 y2 y3 y4 y5))
  | 0 => fun _ _ _ _ _ _ r h => by simp [octet_Reader_Number.l0] at h
  | k + 1 => by
    have ih0 := octet_Reader_Number.mono_l k
    · intro y0 y1 y2 y3 y4 y5
      unfold octet_Reader_Number.l0
      repeat' first
      | (with_reducible exact ih0 _ _ _ _ _ _)
      | (with_reducible exact LeO.refl _)
      | (with_reducible exact LeO.none _)
      | (with_reducible refine LeO.ite ?_ ?_)
      | (with_reducible refine LeO.bind ?_ (fun _ => ?_))
      | exact ih0 _ _ _ _ _ _
      | exact LeO.none _
      | refine LeO.ite ?_ ?_
      | refine LeO.bind ?_ (fun _ => ?_)
theorem octet_Reader_Number.mono : ∀ a0 a1 k, LeO (octet_Reader_Number.f k a0 a1) (octet_Reader_Number.f (k + 1) a0 a1) := by
  intro a0 a1 k
  have ih0 := octet_Reader_Number.mono_l k
  unfold octet_Reader_Number.f
  repeat' first
      | (with_reducible exact ih0 _ _ _ _ _ _)
      | (with_reducible exact LeO.refl _)
      | (with_reducible exact LeO.none _)
      | (with_reducible refine LeO.ite ?_ ?_)
      | (with_reducible refine LeO.bind ?_ (fun _ => ?_))
      | exact ih0 _ _ _ _ _ _
      | exact LeO.none _
      | refine LeO.ite ?_ ?_
      | refine LeO.bind ?_ (fun _ => ?_)
set_option maxHeartbeats 8000000 in
set_option maxRecDepth 100000 in
theorem octet_Reader_Number.calls (k : Nat) (g : Nat) (s0_0 : ByteArray) (a1 : Int) (r1 : Int) (r2 : Int) (r3 : ByteArray) (w0 w : World) (hI : IsS93 w0 w g s0_0) (hB : Below w0.heap.size w0 w) (h : octet_Reader_Number.f k s0_0 a1 = some (r1, r2, r3)) :
    Calls Try.prog 60 #[.pointer (some ⟨g, 0, none⟩), .int .i64 a1] w fun e w' => e = .returned (.tuple #[.int .u64 r1, .int .i64 r2]) ∧ IsS93 w0 w' g r3 ∧ Below w0.heap.size w0 w' ∧ KeepBut w w' g none := by
  have HI0 := Aside0.mk hI
  have HK := Aside0.mk (KeepBut.refl w g none)
  have HL := Aside0.mk hB.size
  clear hI
  have HW0 := Aside0.mk hB.size
  have HB := Aside0.mk hB
  clear hB
  have H : (if a1 < 1 then (some (0, 2, s0_0)) else (if a1 > 8 then (some (0, 2, s0_0)) else ((octet_Reader_take.f s0_0 a1).bind fun bt217 => (octet_Reader_Number.l0 k 0 bt217.2.1 bt217.1 (bt217.1.size : Int) 0 bt217.2.2)))) = some (r1, r2, r3) := h
  clear h
  by_cases c3 : a1 < 1
  · rw [if_pos c3] at H
    have c3b0 : decide (a1 < 1) = true := decide_eq_true c3
    clear c3
    simp only [Option.some.injEq, Prod.mk.injEq] at H
    obtain ⟨rfl, rfl, rfl⟩ := H
    go_enter Try.func60, Try.ntmps60
    go_wp2
    go_ret2
    exact ⟨by first | rfl | (simp [errW_none, errW_some] <;> rfl) | (simp [*, errW_none, errW_some] <;> rfl), by repeat (first | (with_reducible first | exact HI0.out | apply IsS93.alloc | apply IsS93.drewN | apply IsS93.drew | apply IsS93.set_0) | exact HI0.out), by repeat (first | (with_reducible first | exact HB.out | apply below_alloc | apply pw_below_drewN | apply below_drew1 | refine below_set ?_ (IsS93.ge HI0.out)) | exact HB.out), by repeat (first | (with_reducible first | exact HK.out | apply KeepBut.set_ | apply keep_drewN | apply keep_drew | apply keep_alloc) | exact HK.out)⟩
  · rw [if_neg c3] at H
    have c3b0 : decide (a1 < 1) = false := decide_eq_false c3
    clear c3
    by_cases c4 : a1 > 8
    · rw [if_pos c4] at H
      have c4b0 : decide (8 < a1) = true := decide_eq_true c4
      clear c4
      simp only [Option.some.injEq, Prod.mk.injEq] at H
      obtain ⟨rfl, rfl, rfl⟩ := H
      go_enter Try.func60, Try.ntmps60
      go_wp2
      go_ret2
      exact ⟨by first | rfl | (simp [errW_none, errW_some] <;> rfl) | (simp [*, errW_none, errW_some] <;> rfl), by repeat (first | (with_reducible first | exact HI0.out | apply IsS93.alloc | apply IsS93.drewN | apply IsS93.drew | apply IsS93.set_0) | exact HI0.out), by repeat (first | (with_reducible first | exact HB.out | apply below_alloc | apply pw_below_drewN | apply below_drew1 | refine below_set ?_ (IsS93.ge HI0.out)) | exact HB.out), by repeat (first | (with_reducible first | exact HK.out | apply KeepBut.set_ | apply keep_drewN | apply keep_drew | apply keep_alloc) | exact HK.out)⟩
    · rw [if_neg c4] at H
      have c4b0 : decide (8 < a1) = false := decide_eq_false c4
      clear c4
      replace H := Option.bind_eq_some_iff.mp H
      obtain ⟨⟨t217, t218, t219⟩, A50, H⟩ := H
      replace H : (octet_Reader_Number.l0 k 0 t218 t217 (t217.size : Int) 0 t219) = some (r1, r2, r3) := H
      have A5 := Aside0.mk A50
      clear A50
      have H' := Aside0.mk H
      clear H
      go_enter Try.func60, Try.ntmps60
      go_wp2_with (first | ((with_reducible refine gate_callee (f := 78) rfl ?_); refine goesL_ (some 21) rfl rfl Try.func78 (by kernel_rfl) rfl #[.pointer (some ⟨g, 0, none⟩), .int .i64 a1] rfl (by (try simp only [List.map_toArray, List.map_cons, List.map_nil]); first | done | rfl | (simp only [List.length_drop, List.length_take]; rfl)) ?_; (with_reducible refine (octet_Reader_take.calls g s0_0 a1 t217 t218 t219 w0 _ ?side1 ?side2 A5.out).mono ?_); (case side1 => repeat (first | (with_reducible first | exact HI0.out | apply IsS93.alloc | apply IsS93.drewN | apply IsS93.drew | apply IsS93.set_0) | exact HI0.out)); (case side2 => repeat (first | (with_reducible first | exact HB.out | apply below_alloc | apply pw_below_drewN | apply below_drew1 | refine below_set ?_ (IsS93.ge HI0.out)) | exact HB.out)); rintro e w6 ⟨rfl, hi, hb, hk⟩; refine ⟨_, rfl, ?_⟩; have n0_ := Aside0.mk (KeepBut.trans (by repeat (first | (with_reducible first | exact HK.out | apply KeepBut.set_ | apply keep_drewN | apply keep_drew | apply keep_alloc) | exact HK.out)) hk (.inl rfl)); have n1_ := Aside0.mk (hb); have n2_ := Aside0.mk (hi); clear HK; clear HB; clear HI0; have HK := n0_; have HB := n1_; have HI0 := n2_; clear n0_ n1_ n2_; (try clear hb); (try clear hb2); (try clear hk); (try clear hi)))
      go_loopg [4, 26] k (fun kq v4 v26 w' => ∃ (x4_1 : Int) (x26_1 : Int), v4 = .int .u64 x4_1 ∧ v26 = .int .i64 x26_1 ∧ Aside0 (octet_Reader_Number.l0 kq x4_1 t218 t217 (t217.size : Int) x26_1 t219 = some (r1, r2, r3)) ∧ Aside0 (kq ≤ k) ∧ Aside0 (IsS93 w0 w' g t219) ∧ Aside0 (KeepBut w w' g none) ∧ Aside0 (Below w0.heap.size w0 w'))
      case atStart => exact ⟨(0), (0), (by first | rfl | (simp; done) | (simp [*]; done)), (by first | rfl | (simp; done) | (simp [*]; done)), H', ⟨Nat.le_refl _⟩, ⟨by repeat (first | (with_reducible first | exact HI0.out | apply IsS93.alloc | apply IsS93.drewN | apply IsS93.drew | apply IsS93.set_0) | exact HI0.out)⟩, ⟨by repeat (first | (with_reducible first | exact HK.out | apply KeepBut.set_ | apply keep_drewN | apply keep_drew | apply keep_alloc) | exact HK.out)⟩, ⟨by repeat (first | (with_reducible first | exact HB.out | apply below_alloc | apply pw_below_drewN | apply below_drew1 | refine below_set ?_ (IsS93.ge HI0.out)) | exact HB.out)⟩⟩
      case round =>
        clear H'
        try clear p2
        try clear c3
        try clear c3b0
        try clear c4
        try clear c4b0
        try clear c6
        obtain ⟨x4_1, x26_1, rfl, rfl, HA, HK1, HI0, HK, HB⟩ := hrel
        cases gk with
        | zero => exact absurd HA.out (by simp [octet_Reader_Number.l0])
        | succ k1 =>
          have H := HA.out
          clear HA
          simp only [octet_Reader_Number.l0] at H
          by_cases c7 : x26_1 < (t217.size : Int)
          · rw [if_pos c7] at H
            have c7b0 : decide (x26_1 < (t217.size : Int)) = true := decide_eq_true c7
            clear c7
            by_cases c8 : 0 ≤ x26_1
            · rw [if_pos c8] at H
              have c8b0 : decide (0 ≤ x26_1) = true := decide_eq_true c8
              clear c8
              by_cases c9 : x26_1 < (t217.size : Int)
              · rw [if_pos c9] at H
                have c9b0 : decide (x26_1 < (t217.size : Int)) = true := decide_eq_true c9
                clear c9
                obtain ⟨ji11, hji11⟩ : ∃ j_ : Int, (wrap64 (8 * x26_1)) = j_ := ⟨_, rfl⟩
                replace H : (if 0 ≤ (ji11) then (octet_Reader_Number.l0 k1 (Go.bits .or .u64 x4_1 (shl .u64 (IntKind.u64.wrap (bt t217 x26_1)) (ji11))) t218 t217 (t217.size : Int) (wrap64 (x26_1 + 1)) t219) else (none)) = some (r1, r2, r3) := by first | (rw [hji11] at H; exact H) | (simp only [hji11] at H ⊢; exact H)
                have hji11w : (IntKind.i64.wrap (8 * x26_1)) = ji11 := (i64_w _).trans hji11
                by_cases c12 : 0 ≤ (ji11)
                · rw [if_pos c12] at H
                  have c12b0 := eq_true c12
                  have c12b1 : decide (0 ≤ (ji11)) = true := decide_eq_true c12
                  clear c12
                  obtain ⟨ji13, hji13⟩ : ∃ j_ : Int, (shl .u64 (IntKind.u64.wrap (bt t217 x26_1)) (ji11)) = j_ := ⟨_, rfl⟩
                  replace H : (octet_Reader_Number.l0 k1 (Go.bits .or .u64 x4_1 (ji13)) t218 t217 (t217.size : Int) (wrap64 (x26_1 + 1)) t219) = some (r1, r2, r3) := by first | (rw [hji13] at H; exact H) | (simp only [hji13] at H ⊢; exact H)
                  have hji13_ : (IntKind.u64.wrap ((IntKind.u64.wrap (bt t217 x26_1)) * 2 ^ min (ji11).toNat 64)) = ji13 := hji13
                  have hji13z : (ji11) ≤ 64 → (IntKind.u64.wrap ((IntKind.u64.wrap (bt t217 x26_1)) * 2 ^ (ji11).toNat)) = ji13 := shl_small hji13
                  have H' := Aside0.mk H
                  clear H
                  have p10 : 0 ≤ (x26_1 : Int) := of_decide_eq_true (by first | (with_reducible assumption) | assumption)
                  have q10 : x26_1 < (t217.size : Int) := of_decide_eq_true (by first | (with_reducible assumption) | assumption)
                  have hx10 := bt_at t217 x26_1
                  replace p10 := eq_true p10
                  replace q10 := eq_true q10
                  go_wp2
                  go_roundg k1
                  case measure => have := HK1.out; omega
                  case rel => exact ⟨(Go.bits .or .u64 x4_1 (ji13)), (wrap64 (x26_1 + 1)), (by first | rfl | (simp; done) | (simp only [← hji13] <;> (first | rfl | simp)) | (simp [*]; done)), (by first | rfl | (simp; done) | (simp [*]; done)), H', ⟨by have := HK1.out; omega⟩, ⟨by repeat (first | (with_reducible first | exact HI0.out | apply IsS93.alloc | apply IsS93.drewN | apply IsS93.drew | apply IsS93.set_0) | exact HI0.out)⟩, ⟨by repeat (first | (with_reducible first | exact HK.out | apply KeepBut.set_ | apply keep_drewN | apply keep_drew | apply keep_alloc) | exact HK.out)⟩, ⟨by repeat (first | (with_reducible first | exact HB.out | apply below_alloc | apply pw_below_drewN | apply below_drew1 | refine below_set ?_ (IsS93.ge HI0.out)) | exact HB.out)⟩⟩
                · rw [if_neg c12] at H
                  exact absurd H (by simp)
              · rw [if_neg c9] at H
                exact absurd H (by simp)
            · rw [if_neg c8] at H
              exact absurd H (by simp)
          · rw [if_neg c7] at H
            have c7b0 : decide (x26_1 < (t217.size : Int)) = false := decide_eq_false c7
            clear c7
            simp only [Option.some.injEq, Prod.mk.injEq] at H
            obtain ⟨rfl, rfl, rfl⟩ := H
            go_wp2
            go_ret2
            exact ⟨by first | rfl | (simp [errW_none, errW_some] <;> rfl) | (simp [*, errW_none, errW_some] <;> rfl), by repeat (first | (with_reducible first | exact HI0.out | apply IsS93.alloc | apply IsS93.drewN | apply IsS93.drew | apply IsS93.set_0) | exact HI0.out), by repeat (first | (with_reducible first | exact HB.out | apply below_alloc | apply pw_below_drewN | apply below_drew1 | refine below_set ?_ (IsS93.ge HI0.out)) | exact HB.out), by repeat (first | (with_reducible first | exact HK.out | apply KeepBut.set_ | apply keep_drewN | apply keep_drew | apply keep_alloc) | exact HK.out)⟩

end Go.Proofs.Ytlkfcabklaaacaa.P

namespace Go.Proofs.Ytlkfcabklaaacaa.Q
set_option linter.unusedVariables false
set_option linter.unusedSimpArgs false
open Go.RowKit Go.Proofs.Ytlkfcabklaaacaa.P Go.Proofs.YtlkfcabklaaacaaW.PrintWords Go.Proofs.YtlkfcabklaaacaaW.PrintLast Go.Proofs.YtlkfcabklaaacaaW.PrintMore Go.Proofs.YtlkfcabklaaacaaO

def zeroL (l : List Int) : Bool := l.all (· == 0)
theorem B_size (s : ByteArray) : (s.size : Int) = ((B s).length : Int) := by rw [B_length]
theorem bt_get {s : ByteArray} {i : Nat} (h : i < (B s).length) : bt s (i : Int) = (B s)[i] := by rw [bt_B, rd_get h]
/-- What Bytes answers. -/
def bytesR (s : ByteArray) (n : Int) : ByteArray × Int × ByteArray :=
  if n < 0 then (⟨#[]⟩, 2, s) else if n > (s.size : Int) then (⟨#[]⟩, 7, s) else (s.extract 0 n.toNat, 0, s.extract n.toNat s.size)
/-- What Number answers. -/
def numR (s : ByteArray) (n : Int) : Int × Int × ByteArray :=
  if n < 1 ∨ n > 8 then (0, 2, s) else if (s.size : Int) < n then (0, 7, s) else (ofLe ((B s).take n.toNat), 0, s.extract n.toNat s.size)
theorem ofLe_step {l : List Int} (hl : isB l) {i : Nat} (hi : i < l.length) (h8 : i ≤ 7) : Go.bits .or .u64 (ofLe (l.take i)) (shl .u64 (IntKind.u64.wrap l[i]) (8 * (i : Int))) = ofLe (l.take (i + 1)) := by
  have hb := hl l[i] (List.getElem_mem hi)
  have hv := ofLe_lt (isB_take hl i)
  rw [List.length_take, Nat.min_eq_left (by omega)] at hv
  rw [u64w hb.1 (by omega), shl_byte _ _ h8 hb, or_byte _ _ _ h8 ⟨ofLe_nonneg (isB_take hl i), hv⟩ hb, List.take_succ_eq_append_getElem hi, ofLe_snoc, List.length_take, Nat.min_eq_left (by omega)]
theorem num_l0 (s x : ByteArray) (e : Int) (hx : x.size ≤ 8) : ∀ (d k i : Nat), i + d = x.size → d < k → octet_Reader_Number.l0 k (ofLe ((B x).take i)) e x (x.size : Int) i s = some (ofLe (B x), e, s)
  | 0, k + 1, i, h, _ => by
    simp only [octet_Reader_Number.l0]
    rw [if_neg (by omega), List.take_of_length_le (by rw [B_length]; omega)]
  | d + 1, k + 1, i, h, hk => by
    have hi : i < (B x).length := by rw [B_length]; omega
    simp only [octet_Reader_Number.l0]
    rw [if_pos (by omega), if_pos (by omega), if_pos (by omega), w64 (x := 8 * (i : Int)) (by omega) (by omega), if_pos (by omega), bt_get hi, ofLe_step (isB_B x) hi (by omega), w64 (by omega) (by omega)]
    exact num_l0 s x e hx d k (i + 1) (by omega) (by omega)
theorem num_is (s : ByteArray) (n : Int) (k : Nat) (hk : 9 < k) : octet_Reader_Number.f k s n = some (numR s n) := by
  unfold octet_Reader_Number.f numR
  by_cases h1 : n < 1
  · rw [if_pos h1, if_pos (.inl h1)]
  · rw [if_neg h1]
    by_cases h2 : n > 8
    · rw [if_pos h2, if_pos (.inr h2)]
    · rw [if_neg h2, if_neg (by omega)]
      unfold octet_Reader_take.f
      by_cases h3 : n > (s.size : Int)
      · rw [if_pos h3, if_pos h3]
        simp only [bs]
        have := num_l0 s ⟨#[]⟩ 7 (by decide) 0 k 0 rfl (by omega)
        simpa [B_empty, ofLe] using this
      · rw [if_neg h3, if_neg h3, if_pos (by omega), if_pos (by omega)]
        simp only [bs]
        have hsz : (s.extract 0 n.toNat).size = n.toNat := by rw [ByteArray.size_extract]; omega
        have := num_l0 (s.extract n.toNat s.size) (s.extract 0 n.toNat) 0 (by omega) n.toNat k 0 (by omega) (by omega)
        rw [B_take] at this
        simpa [ofLe] using this

end Go.Proofs.Ytlkfcabklaaacaa.Q

namespace Go.Proofs.Ytlkfcabklaaacaa.Q
set_option linter.unusedVariables false
set_option linter.unusedSimpArgs false
open Go.RowKit Go.Proofs.Ytlkfcabklaaacaa.P Go.Proofs.YtlkfcabklaaacaaW.PrintWords Go.Proofs.YtlkfcabklaaacaaW.PrintLast Go.Proofs.YtlkfcabklaaacaaW.PrintMore Go.Proofs.YtlkfcabklaaacaaO

abbrev SF := S46
/-- A fork's key. -/
abbrev keyF (l : List SF) (j : Nat) : List UInt8 := (rd_T46 l (j : Int)).f0.toList
def okF (l : List SF) (j : Nat) : Prop := (rd_T46 l (j : Int)).f0.size ≤ 40 ∧ numB (rd_T46 l (j : Int)).f1 = true ∧ (0 < j → Op.bytesLess (keyF l (j - 1)) (keyF l j) = true)
instance (l : List SF) (j : Nat) : Decidable (okF l j) := by unfold okF; exact inferInstance
def mayF (l : List SF) : Bool := decide (∀ j, j < l.length → okF l j) && decide (0 < l.length)
theorem bnumber_is (a : Int) : branch_number.f a = some (numB a) := by
  unfold branch_number.f numB
  by_cases h : a ≥ 2
  · rw [if_pos h]
    simp [show (2 : Int) ≤ a from h]
  · rw [if_neg h]
    simp [show ¬ (2 : Int) ≤ a from h]
theorem may_up (l : List SF) (hl : l.length < 4611686018427387904) : ∀ (d i k : Nat), i + d = l.length → d < k → branch_may.l0 k l l (l.length : Int) (i : Int) = some (decide (∀ j, j < l.length → i ≤ j → okF l j) && decide (0 < l.length))
  | d, i, 0, _, h => by omega
  | 0, i, k + 1, hi, _ => by
    rw [branch_may.l0, if_neg (by omega), decide_eq_true (by intro j a b; omega : ∀ j, j < l.length → i ≤ j → okF l j), Bool.true_and]
    congr 1
    rw [decide_eq_decide]
    omega
  | d + 1, i, k + 1, hi, hk => by
    have ih := may_up l hl d (i + 1) k (by omega) (by omega)
    have hw2 : wrap64 ((i : Int) + 1) = ((i + 1 : Nat) : Int) := by unfold wrap64; omega
    have hbad : ¬ okF l i → some false = some (decide (∀ j, j < l.length → i ≤ j → okF l j) && decide (0 < l.length)) := fun h => by
      rw [decide_eq_false (fun h2 => h (h2 i (by omega) (Nat.le_refl _))), Bool.false_and]
    have hgood : okF l i → some (decide (∀ j, j < l.length → i + 1 ≤ j → okF l j) && decide (0 < l.length)) = some (decide (∀ j, j < l.length → i ≤ j → okF l j) && decide (0 < l.length)) := fun h => by
      congr 2
      rw [decide_eq_decide]
      refine ⟨fun hh j a b => ?_, fun hh j a b => hh j a (by omega)⟩
      by_cases e : j = i
      · subst e
        exact h
      · exact hh j a (by omega)
    rw [branch_may.l0, if_pos (by omega), if_pos (by omega), if_pos (by omega)]
    unfold branch_Key.f
    rw [bs, bnumber_is]
    by_cases h1 : (rd_T46 l (i : Int)).f0.size ≤ 40
    · rw [if_pos (by rw [decide_eq_true_eq]; omega), bs]
      cases h2 : numB (rd_T46 l (i : Int)).f1 with
      | false =>
        rw [if_neg (by decide)]
        exact hbad (fun h => by rw [h.2.1] at h2; cases h2)
      | true =>
        rw [if_pos rfl]
        by_cases h3 : (i : Int) > 0
        · have hw : wrap64 ((i : Int) - 1) = ((i - 1 : Nat) : Int) := by unfold wrap64; omega
          rw [if_pos h3, hw, if_pos (by omega), if_pos (by omega)]
          by_cases h4 : Op.bytesLess (keyF l (i - 1)) (keyF l i) = true
          · rw [if_pos h4, hw2, ih]
            exact hgood ⟨h1, h2, fun _ => h4⟩
          · rw [if_neg h4]
            exact hbad (fun h => h4 (h.2.2 (by omega)))
        · rw [if_neg h3, hw2, ih]
          exact hgood ⟨h1, h2, fun h => by omega⟩
    · rw [if_neg (by rw [decide_eq_true_eq]; omega)]
      exact hbad (fun h => h1 h.1)
theorem may_is (l : List SF) (hl : l.length < 4611686018427387904) (k : Nat) (hk : l.length < k) : branch_may.f k l = some (mayF l) := by
  unfold branch_may.f
  refine Eq.trans (may_up l hl l.length 0 k (by omega) hk) ?_
  unfold mayF
  congr 2
  rw [decide_eq_decide]
  exact ⟨fun h j a => h j a (Nat.zero_le _), fun h j a _ => h j a⟩
theorem rmay_up (l : List SF) (hl : l.length < 4611686018427387904) : ∀ (d i k : Nat), i + d = l.length → d < k → careenageref07_May.l0 k l (i : Int) = some (decide (∀ j, j < l.length → i ≤ j → okF l j) && decide (0 < l.length))
  | d, i, 0, _, h => by omega
  | 0, i, k + 1, hi, _ => by
    rw [careenageref07_May.l0, if_neg (by omega), decide_eq_true (by intro j a b; omega : ∀ j, j < l.length → i ≤ j → okF l j), Bool.true_and]
    congr 1
    rw [decide_eq_decide]
    omega
  | d + 1, i, k + 1, hi, hk => by
    have ih := rmay_up l hl d (i + 1) k (by omega) (by omega)
    have hw2 : wrap64 ((i : Int) + 1) = ((i + 1 : Nat) : Int) := by unfold wrap64; omega
    have hbad : ¬ okF l i → some false = some (decide (∀ j, j < l.length → i ≤ j → okF l j) && decide (0 < l.length)) := fun h => by
      rw [decide_eq_false (fun h2 => h (h2 i (by omega) (Nat.le_refl _))), Bool.false_and]
    have hgood : okF l i → some (decide (∀ j, j < l.length → i + 1 ≤ j → okF l j) && decide (0 < l.length)) = some (decide (∀ j, j < l.length → i ≤ j → okF l j) && decide (0 < l.length)) := fun h => by
      congr 2
      rw [decide_eq_decide]
      refine ⟨fun hh j a b => ?_, fun hh j a b => hh j a (by omega)⟩
      by_cases e : j = i
      · subst e
        exact h
      · exact hh j a (by omega)
    rw [careenageref07_May.l0, if_pos (by omega), if_pos (by omega)]
    unfold careenageref07_Key.f
    rw [bs, rnumber_is]
    by_cases h1 : (rd_T46 l (i : Int)).f0.size ≤ 40
    · rw [if_pos (by rw [decide_eq_true_eq]; omega), bs]
      cases h2 : numB (rd_T46 l (i : Int)).f1 with
      | false =>
        rw [if_neg (by decide)]
        exact hbad (fun h => by rw [h.2.1] at h2; cases h2)
      | true =>
        rw [if_pos rfl]
        by_cases h3 : (i : Int) > 0
        · have hw : wrap64 ((i : Int) - 1) = ((i - 1 : Nat) : Int) := by unfold wrap64; omega
          rw [if_pos h3, hw, if_pos (by omega), if_pos (by omega)]
          by_cases h4 : Op.bytesLess (keyF l (i - 1)) (keyF l i) = true
          · rw [if_pos h4, hw2, ih]
            exact hgood ⟨h1, h2, fun _ => h4⟩
          · rw [if_neg h4]
            exact hbad (fun h => h4 (h.2.2 (by omega)))
        · rw [if_neg h3, hw2, ih]
          exact hgood ⟨h1, h2, fun h => by omega⟩
    · rw [if_neg (by rw [decide_eq_true_eq]; omega)]
      exact hbad (fun h => h1 h.1)
theorem rmay_is (l : List SF) (hl : l.length < 4611686018427387904) (k : Nat) (hk : l.length < k) : careenageref07_May.f k l = some (mayF l) := by
  unfold careenageref07_May.f
  refine Eq.trans (rmay_up l hl l.length 0 k (by omega) hk) ?_
  unfold mayF
  congr 2
  rw [decide_eq_decide]
  exact ⟨fun h j a => h j a (Nat.zero_le _), fun h j a _ => h j a⟩
/-- How great forks are, as both count it. -/
def sizeW (n : Int) (l : List SF) : Int := l.foldl (fun n f => wrap64 (n + wrap64 (5 + (f.f0.size : Int)))) n
theorem drop_F (l : List SF) (i : Nat) (h : i < l.length) : l.drop i = rd_T46 l (i : Int) :: l.drop (i + 1) := by
  rw [List.drop_eq_getElem_cons h]
  simp [rd_T46, h]
theorem size_up (l : List SF) (hl : l.length < 4611686018427387904) : ∀ (d i k : Nat) (n : Int), i + d = l.length → d < k → branch_Size.l0 k n l (l.length : Int) (i : Int) = some (sizeW n (l.drop i))
  | d, i, 0, _, _, h => by omega
  | 0, i, k + 1, n, hi, _ => by
    rw [branch_Size.l0, if_neg (by omega), List.drop_of_length_le (by omega)]
    rfl
  | d + 1, i, k + 1, n, hi, hk => by
    have hw2 : wrap64 ((i : Int) + 1) = ((i + 1 : Nat) : Int) := by unfold wrap64; omega
    rw [branch_Size.l0, if_pos (by omega), if_pos (by omega), if_pos (by omega), hw2, size_up l hl d (i + 1) k _ (by omega) (by omega), drop_F l i (by omega)]
    rfl
theorem size_is (l : List SF) (hl : l.length < 4611686018427387904) (k : Nat) (hk : l.length < k) : branch_Size.f k l = some (sizeW 0 l) := by
  unfold branch_Size.f
  exact size_up l hl l.length 0 k 0 (by omega) hk
theorem rsize_up (l : List SF) (hl : l.length < 4611686018427387904) : ∀ (d i k : Nat) (n : Int), i + d = l.length → d < k → careenageref07_Size.l0 k l n (i : Int) = some (sizeW n (l.drop i))
  | d, i, 0, _, _, h => by omega
  | 0, i, k + 1, n, hi, _ => by
    rw [careenageref07_Size.l0, if_neg (by omega), List.drop_of_length_le (by omega)]
    rfl
  | d + 1, i, k + 1, n, hi, hk => by
    have hw2 : wrap64 ((i : Int) + 1) = ((i + 1 : Nat) : Int) := by unfold wrap64; omega
    rw [careenageref07_Size.l0, if_pos (by omega), if_pos (by omega)]
    unfold careenageref07_One.f
    rw [bs, hw2, rsize_up l hl d (i + 1) k _ (by omega) (by omega), drop_F l i (by omega)]
    rfl
theorem rsize_is (l : List SF) (hl : l.length < 4611686018427387904) (k : Nat) (hk : l.length < k) : careenageref07_Size.f k l = some (sizeW 0 l) := by
  unfold careenageref07_Size.f
  exact rsize_up l hl l.length 0 k 0 (by omega) hk
/-- A fork's bytes. -/
def forkL (f : SF) : List Int := le (IntKind.u64.wrap (f.f0.size : Int)) 1 ++ bytesOf f.f0 ++ le (IntKind.u64.wrap f.f1) 4
theorem forkL_length (f : SF) : (forkL f).length = 5 + f.f0.size := by
  unfold forkL
  rw [List.length_append, List.length_append, le_length, le_length, bytesOf_length]
  omega
def sizeN (l : List SF) : Nat := (l.map (fun f => 5 + f.f0.size)).sum
theorem forks_length (l : List SF) : (l.flatMap forkL).length = sizeN l := by
  unfold sizeN
  rw [List.length_flatMap]
  congr 1
  exact List.map_congr_left (fun f _ => forkL_length f)
theorem sizeN_cons (f : SF) (l : List SF) : sizeN (f :: l) = 5 + f.f0.size + sizeN l := by simp [sizeN]
theorem sizeW_is : ∀ (l : List SF) (n : Int), 0 ≤ n → n + (sizeN l : Int) ≤ 9223372036854775807 → sizeW n l = n + (sizeN l : Int)
  | [], n, _, _ => by simp [sizeW, sizeN]
  | f :: l, n, h0, h => by
    rw [sizeN_cons] at h ⊢
    have hw : wrap64 (n + wrap64 (5 + (f.f0.size : Int))) = n + (5 + (f.f0.size : Int)) := by
      have : wrap64 (5 + (f.f0.size : Int)) = 5 + (f.f0.size : Int) := w64 (by omega) (by omega)
      rw [this]
      exact w64 (by omega) (by omega)
    show sizeW (wrap64 (n + wrap64 (5 + (f.f0.size : Int)))) l = _
    rw [hw, sizeW_is l _ (by omega) (by omega)]
    omega
theorem sizeN_bound (b : Nat) : ∀ (l : List SF), (∀ f ∈ l, f.f0.size ≤ b) → sizeN l ≤ (5 + b) * l.length
  | [], _ => by simp [sizeN]
  | f :: l, h => by
    have h1 := h f (List.mem_cons_self ..)
    have h2 := sizeN_bound b l (fun g hg => h g (List.mem_cons_of_mem _ hg))
    rw [sizeN_cons, List.length_cons, Nat.mul_succ]
    omega
theorem mayF_ok {l : List SF} (h : mayF l = true) : ∀ j, j < l.length → okF l j := by
  unfold mayF at h
  rw [Bool.and_eq_true, decide_eq_true_eq] at h
  exact h.1
theorem mayF_pos {l : List SF} (h : mayF l = true) : 0 < l.length := by
  unfold mayF at h
  rw [Bool.and_eq_true, decide_eq_true_eq, decide_eq_true_eq] at h
  exact h.2
theorem rd_mem {l : List SF} {f : SF} (h : f ∈ l) : ∃ j, j < l.length ∧ rd_T46 l (j : Int) = f := by
  obtain ⟨j, hj, rfl⟩ := List.mem_iff_getElem.1 h
  exact ⟨j, hj, by simp [rd_T46, hj]⟩
theorem mayF_keys {l : List SF} (h : mayF l = true) : ∀ f ∈ l, f.f0.size ≤ 40 := by
  intro f hf
  obtain ⟨j, hj, rfl⟩ := rd_mem hf
  exact (mayF_ok h j hj).1
theorem mayF_size {l : List SF} (h : mayF l = true) (hl : l.length ≤ 100000000000000) : sizeW 0 l = (sizeN l : Int) := by
  have := sizeN_bound 40 l (mayF_keys h)
  rw [sizeW_is l 0 (by omega) (by omega)]
  omega
theorem sizeN_length : ∀ (l : List SF), 5 * l.length ≤ sizeN l
  | [] => by simp
  | f :: l => by
    have := sizeN_length l
    rw [sizeN_cons, List.length_cons]
    omega
/-- Forks that may be a page of this size. -/
def okP (s n tx : Int) (l : List SF) : Bool := mayF l && decide (sizeW 0 l ≤ roomS s) && numB n && decide (tx ≤ 4611686018427387904)
def pageP (s n tx : Int) (l : List SF) : Int × Int × Int × Int × Int × ByteArray × Int := if okP s n tx l = true then (3, (l.length : Int), n, 0, tx, padS (roomS s) (l.flatMap forkL), 0) else (0, 0, 0, 0, 0, (⟨#[]⟩ : ByteArray), 2)
theorem put1 (l : List Int) (n : Int) : putL l n 1 = l ++ le n 1 := by
  unfold putL
  rw [if_pos (by decide)]
  rfl
theorem bpage_loop (s n tx : Int) (l : List SF) (hl : l.length < 1000000) (hs : sizeN l ≤ 100000) : ∀ (d i k : Nat) (acc : List Int), i + d = l.length → d + 13 ≤ k → acc.length + sizeN (l.drop i) ≤ 8000000 →
    branch_Page.l0 k s n tx l acc l (l.length : Int) (i : Int) = (frame_Body.f s (acc ++ (l.drop i).flatMap forkL)).bind fun bt => some (3, (l.length : Int), n, 0, tx, bt.1, 0)
  | d, i, 0, acc, _, h, _ => by omega
  | 0, i, k + 1, acc, hi, hk, ha => by
    rw [branch_Page.l0, if_neg (by omega), List.drop_of_length_le (by omega), List.flatMap_nil, List.append_nil]
  | d + 1, i, k + 1, acc, hi, hk, ha => by
    have hw2 : wrap64 ((i : Int) + 1) = ((i + 1 : Nat) : Int) := by unfold wrap64; omega
    rw [drop_F l i (by omega), sizeN_cons] at ha
    rw [branch_Page.l0, if_pos (by omega), if_pos (by omega), if_pos (by omega), put_is k acc _ 1 (by omega) (by omega), bs, put1, if_pos (by rw [List.length_append, le_length]; omega), put_is k _ _ 4 (by omega) (by rw [List.length_append, List.length_append, le_length, bytesOf_length]; omega), bs, put4, hw2,
      bpage_loop s n tx l hl hs d (i + 1) k _ (by omega) (by omega) (by rw [List.length_append, List.length_append, List.length_append, le_length, le_length, bytesOf_length]; omega), drop_F l i (by omega), List.flatMap_cons]
    congr 2
    simp only [forkL, List.append_assoc]
theorem rbpage_loop (s n tx : Int) (l : List SF) (hl : l.length < 1000000) (hs : sizeN l ≤ 100000) : ∀ (d i k : Nat) (acc : List Int), i + d = l.length → d + 13 ≤ k → acc.length + sizeN (l.drop i) ≤ 8000000 →
    careenageref07_Page.l0 k s n tx l acc (i : Int) = (careenageref04_Body.f s (acc ++ (l.drop i).flatMap forkL)).bind fun bt => some (3, (l.length : Int), n, 0, tx, bt.1, 0)
  | d, i, 0, acc, _, h, _ => by omega
  | 0, i, k + 1, acc, hi, hk, ha => by
    rw [careenageref07_Page.l0, if_neg (by omega), List.drop_of_length_le (by omega), List.flatMap_nil, List.append_nil]
  | d + 1, i, k + 1, acc, hi, hk, ha => by
    have hw2 : wrap64 ((i : Int) + 1) = ((i + 1 : Nat) : Int) := by unfold wrap64; omega
    rw [drop_F l i (by omega), sizeN_cons] at ha
    rw [careenageref07_Page.l0, if_pos (by omega), if_pos (by omega), rput_is k acc _ 1 (by omega) (by omega), bs, put1, if_pos (by rw [List.length_append, le_length]; omega), rput_is k _ _ 4 (by omega) (by rw [List.length_append, List.length_append, le_length, bytesOf_length]; omega), bs, put4, hw2,
      rbpage_loop s n tx l hl hs d (i + 1) k _ (by omega) (by omega) (by rw [List.length_append, List.length_append, List.length_append, le_length, le_length, bytesOf_length]; omega), drop_F l i (by omega), List.flatMap_cons]
    congr 2
    simp only [forkL, List.append_assoc]
theorem pageP_bad {s n tx : Int} {l : List SF} (h : okP s n tx l = false) : some (pageP s n tx l) = some (0, 0, 0, 0, 0, (⟨#[]⟩ : ByteArray), 2) := by
  unfold pageP
  rw [h, if_neg (by decide)]
theorem good_of_room {s : Int} (h : 0 < roomS s) : goodS s = true := by
  unfold roomS at h
  split at h
  · assumption
  · omega
theorem bpage_end (k : Nat) (s n tx : Int) (l : List SF) (b : Bool) (hl : l.length < 1000000) (hs : (sizeN l : Int) ≤ roomS s) (h0 : 0 < l.length) (hk : l.length + 14 ≤ k) :
    branch_Page.j0 k s n tx l b = some (if b = true then (0, 0, 0, 0, 0, (⟨#[]⟩ : ByteArray), 2) else (3, (l.length : Int), n, 0, tx, padS (roomS s) (l.flatMap forkL), 0)) := by
  have hr := roomS_range s
  have hsl := sizeN_length l
  obtain ⟨k, rfl⟩ : ∃ j, k = j + 1 := ⟨k - 1, by omega⟩
  rw [branch_Page.j0]
  cases b with
  | true => rw [if_pos rfl, if_pos rfl]
  | false =>
    rw [if_neg (by decide), if_neg (by decide), show (0 : Int) = ((0 : Nat) : Int) from rfl, bpage_loop s n tx l hl (by omega) l.length 0 k [] (by omega) (by omega) (by simp; omega), List.drop_zero, List.nil_append, body_is s _ (good_of_room (by omega)) (by rw [forks_length]; exact hs), bs]
    rfl
theorem rbpage_end (k : Nat) (s n tx : Int) (l : List SF) (b : Bool) (hl : l.length < 1000000) (hs : (sizeN l : Int) ≤ roomS s) (h0 : 0 < l.length) (hk : l.length + 14 ≤ k) :
    careenageref07_Page.j0 k s n tx l b = some (if b = true then (0, 0, 0, 0, 0, (⟨#[]⟩ : ByteArray), 2) else (3, (l.length : Int), n, 0, tx, padS (roomS s) (l.flatMap forkL), 0)) := by
  have hr := roomS_range s
  have hsl := sizeN_length l
  obtain ⟨k, rfl⟩ : ∃ j, k = j + 1 := ⟨k - 1, by omega⟩
  rw [careenageref07_Page.j0]
  cases b with
  | true => rw [if_pos rfl, if_pos rfl]
  | false =>
    rw [if_neg (by decide), if_neg (by decide), show (0 : Int) = ((0 : Nat) : Int) from rfl, rbpage_loop s n tx l hl (by omega) l.length 0 k [] (by omega) (by omega) (by simp; omega), List.drop_zero, List.nil_append, rbody_is s _ (good_of_room (by omega)) (by rw [forks_length]; exact hs), bs]
    rfl
theorem bpage_is (k : Nat) (s n tx : Int) (l : List SF) (hl : l.length ≤ 100000000000000) (hk : l.length + 1000 ≤ k) : branch_Page.f k s n tx l = some (pageP s n tx l) := by
  have hr := roomS_range s
  have hbad : branch_Page.j0 k s n tx l true = some (0, 0, 0, 0, 0, (⟨#[]⟩ : ByteArray), 2) := by
    obtain ⟨k, rfl⟩ : ∃ j, k = j + 1 := ⟨k - 1, by omega⟩
    rw [branch_Page.j0, if_pos rfl]
  unfold branch_Page.f
  rw [may_is l (by omega) k (by omega), bs]
  cases h1 : mayF l with
  | false => rw [if_neg (by decide), hbad, pageP_bad (by unfold okP; simp [h1])]
  | true =>
    rw [if_pos rfl, size_is l (by omega) k (by omega), bs, room_is, bs]
    by_cases h2 : sizeW 0 l > roomS s
    · rw [if_pos h2, hbad, pageP_bad (by unfold okP; simp [show ¬ (sizeW 0 l ≤ roomS s) by omega])]
    · rw [if_neg h2, bnumber_is, bs]
      have h3 := mayF_size h1 hl
      have h4 := sizeN_length l
      cases h5 : numB n with
      | false => rw [if_neg (by decide), hbad, pageP_bad (by unfold okP; simp [h5])]
      | true =>
        rw [if_pos rfl, bpage_end k s n tx l _ (by omega) (by omega) (mayF_pos h1) (by omega)]
        congr 1
        unfold pageP okP
        by_cases h6 : tx > 4611686018427387904
        · simp [h6, show ¬ (tx ≤ 4611686018427387904) by omega]
        · simp [h6, show tx ≤ 4611686018427387904 by omega, h1, h5, show sizeW 0 l ≤ roomS s by omega]
theorem rbpage_is (k : Nat) (s n tx : Int) (l : List SF) (hl : l.length ≤ 100000000000000) (hk : l.length + 1000 ≤ k) : careenageref07_Page.f k s n tx l = some (pageP s n tx l) := by
  have hr := roomS_range s
  have hbad : careenageref07_Page.j0 k s n tx l true = some (0, 0, 0, 0, 0, (⟨#[]⟩ : ByteArray), 2) := by
    obtain ⟨k, rfl⟩ : ∃ j, k = j + 1 := ⟨k - 1, by omega⟩
    rw [careenageref07_Page.j0, if_pos rfl]
  unfold careenageref07_Page.f
  rw [rgood_is, bs]
  cases hg : goodS s with
  | false =>
    have h0 : roomS s = 0 := by unfold roomS; rw [hg, if_neg (by decide)]
    rw [if_neg (by decide), hbad]
    cases h1 : mayF l with
    | false => rw [pageP_bad (by unfold okP; simp [h1])]
    | true =>
      have h3 := mayF_size h1 hl
      have h4 := sizeN_length l
      have h5 := mayF_pos h1
      rw [pageP_bad (by unfold okP; simp [show ¬ (sizeW 0 l ≤ roomS s) by omega])]
  | true =>
    rw [if_pos rfl, rmay_is l (by omega) k (by omega), bs]
    cases h1 : mayF l with
    | false => rw [if_neg (by decide), hbad, pageP_bad (by unfold okP; simp [h1])]
    | true =>
      rw [if_pos rfl, rsize_is l (by omega) k (by omega), bs, rroom_is, bs]
      by_cases h2 : sizeW 0 l > roomS s
      · rw [if_pos h2, hbad, pageP_bad (by unfold okP; simp [show ¬ (sizeW 0 l ≤ roomS s) by omega])]
      · rw [if_neg h2, rnumber_is, bs]
        have h3 := mayF_size h1 hl
        have h4 := sizeN_length l
        cases h5 : numB n with
        | false => rw [if_neg (by decide), hbad, pageP_bad (by unfold okP; simp [h5])]
        | true =>
          rw [if_pos rfl, rbpage_end k s n tx l _ (by omega) (by omega) (mayF_pos h1) (by omega)]
          congr 1
          unfold pageP okP
          by_cases h6 : tx > 4611686018427387904
          · simp [h6, show ¬ (tx ≤ 4611686018427387904) by omega]
          · simp [h6, show tx ≤ 4611686018427387904 by omega, h1, h5, show sizeW 0 l ≤ roomS s by omega]
/-- How many forks stand ahead of the first one that begins behind the key. -/
def fa (key : List UInt8) : List SF → Nat
  | [] => 0
  | f :: l => if Op.bytesLess key f.f0.toList = true then 0 else fa key l + 1
theorem pick_up (l : List SF) (key : ByteArray) (hl : l.length < 4611686018427387904) : ∀ (d i k : Nat), i + d = l.length → d < k → branch_Pick.l0 k key ((i - 1 : Nat) : Int) l (l.length : Int) (i : Int) = some ((i + fa key.toList (l.drop i) - 1 : Nat) : Int)
  | d, i, 0, _, h => by omega
  | 0, i, k + 1, hi, _ => by
    rw [branch_Pick.l0, if_neg (by omega), List.drop_of_length_le (by omega)]
    rfl
  | d + 1, i, k + 1, hi, hk => by
    have hw2 : wrap64 ((i : Int) + 1) = ((i + 1 : Nat) : Int) := by unfold wrap64; omega
    have ih := pick_up l key hl d (i + 1) k (by omega) (by omega)
    rw [show i + 1 - 1 = i from rfl] at ih
    rw [branch_Pick.l0, if_pos (by omega), if_pos (by omega), if_pos (by omega), drop_F l i (by omega), fa]
    by_cases h : Op.bytesLess key.toList (rd_T46 l (i : Int)).f0.toList = true
    · rw [if_pos h, if_pos h]
      rfl
    · rw [if_neg h, if_neg h, hw2, ih]
      congr 2
      omega
theorem pick_is (l : List SF) (key : ByteArray) (hl : l.length < 4611686018427387904) (k : Nat) (hk : l.length < k) : branch_Pick.f k l key = some ((fa key.toList l - 1 : Nat) : Int) := by
  unfold branch_Pick.f
  refine Eq.trans (pick_up l key hl l.length 0 k (by omega) hk) ?_
  rw [Nat.zero_add, List.drop_zero]
theorem rpick_up (l : List SF) (key : ByteArray) (hl : l.length < 4611686018427387904) : ∀ (d i k : Nat), i + d = l.length → d < k → careenageref07_Pick.l0 k l key (i : Int) = some ((i + fa key.toList (l.drop i) - 1 : Nat) : Int)
  | d, i, 0, _, h => by omega
  | 0, i, k + 1, hi, _ => by
    have hw : wrap64 ((i : Int) - 1) = (i : Int) - 1 := w64 (by omega) (by omega)
    rw [careenageref07_Pick.l0, if_neg (by omega), List.drop_of_length_le (by omega), hw]
    congr 1
    unfold mx fa
    split <;> omega
  | d + 1, i, k + 1, hi, hk => by
    have hw2 : wrap64 ((i : Int) + 1) = ((i + 1 : Nat) : Int) := by unfold wrap64; omega
    have hw : wrap64 ((i : Int) - 1) = (i : Int) - 1 := w64 (by omega) (by omega)
    have ih := rpick_up l key hl d (i + 1) k (by omega) (by omega)
    rw [careenageref07_Pick.l0, if_pos (by omega), if_pos (by omega), drop_F l i (by omega), fa]
    by_cases h : Op.bytesLess key.toList (rd_T46 l (i : Int)).f0.toList = true
    · rw [if_pos h, if_pos h, hw]
      congr 1
      unfold mx
      split <;> omega
    · rw [if_neg h, if_neg h, hw2, ih]
      congr 2
      omega
theorem rpick_is (l : List SF) (key : ByteArray) (hl : l.length < 4611686018427387904) (k : Nat) (hk : l.length < k) : careenageref07_Pick.f k l key = some ((fa key.toList l - 1 : Nat) : Int) := by
  unfold careenageref07_Pick.f
  refine Eq.trans (rpick_up l key hl l.length 0 k (by omega) hk) ?_
  rw [Nat.zero_add, List.drop_zero]
theorem fa_le (key : List UInt8) : ∀ (l : List SF), fa key l ≤ l.length
  | [] => Nat.le_refl _
  | f :: l => by
    have := fa_le key l
    rw [fa, List.length_cons]
    split <;> omega
theorem keyF_cons (f : SF) (l : List SF) (j : Nat) : keyF (f :: l) (j + 1) = keyF l j := by simp [keyF, rd_T46]
theorem keyF_zero (f : SF) (l : List SF) : keyF (f :: l) 0 = f.f0.toList := by simp [keyF, rd_T46]
theorem fa_lt (key : List UInt8) : ∀ (l : List SF) (j : Nat), j < fa key l → Op.bytesLess key (keyF l j) = false
  | [], j, h => by simp [fa] at h
  | f :: l, j, h => by
    rw [fa] at h
    split at h
    · omega
    · rename_i hn
      cases j with
      | zero => rw [keyF_zero]; simpa using hn
      | succ j => rw [keyF_cons]; exact fa_lt key l j (by omega)
theorem fa_at (key : List UInt8) : ∀ (l : List SF), fa key l < l.length → Op.bytesLess key (keyF l (fa key l)) = true
  | [], h => by simp at h
  | f :: l, h => by
    rw [fa] at h ⊢
    split
    · rename_i hp
      rw [keyF_zero]
      exact hp
    · rename_i hn
      rw [if_neg hn, List.length_cons] at h
      rw [keyF_cons]
      exact fa_at key l (by omega)
/-- With rising keys what stands behind is greater. -/
theorem rise_F {l : List SF} (h : ∀ j, j < l.length → okF l j) : ∀ (d i : Nat), i + d + 1 < l.length → Op.bytesLess (keyF l i) (keyF l (i + d + 1)) = true
  | 0, i, hi => by
    have := (h (i + 1) (by omega)).2.2 (by omega)
    exact this
  | d + 1, i, hi => by
    have h1 := rise_F h d i (by omega)
    have h2 := (h (i + d + 1 + 1) (by omega)).2.2 (by omega)
    exact bl_trans h1 h2
theorem fa_self {l : List SF} (h : ∀ j, j < l.length → okF l j) (i : Nat) (hi : i < l.length) : fa (keyF l i) l = i + 1 := by
  have h1 := fa_le (keyF l i) l
  rcases Nat.lt_trichotomy (fa (keyF l i) l) (i + 1) with h2 | h2 | h2
  · have h3 := fa_at (keyF l i) l (by omega)
    by_cases e : fa (keyF l i) l = i
    · rw [e, bl_irrefl] at h3
      cases h3
    · have h4 := rise_F h (i - fa (keyF l i) l - 1) (fa (keyF l i) l) (by omega)
      rw [show fa (keyF l i) l + (i - fa (keyF l i) l - 1) + 1 = i by omega] at h4
      rw [bl_asymm h4] at h3
      cases h3
  · exact h2
  · have h3 := fa_lt (keyF l i) l (i + 1) h2
    have h4 := rise_F h 0 i (by omega)
    rw [show i + 0 + 1 = i + 1 by omega] at h4
    rw [h4] at h3
    cases h3
theorem fa_mono {l : List SF} {c d : List UInt8} (h : Op.bytesLess d c = false) : fa c l ≤ fa d l := by
  rcases Nat.lt_or_ge (fa d l) (fa c l) with h1 | h1
  · have h2 := fa_lt c l (fa d l) h1
    have h3 := fa_at d l (by have := fa_le c l; omega)
    rw [bl_of_le h h3] at h2
    cases h2
  · exact h1
/-- Few forks, few bytes. -/
theorem light_up (l : List SF) (hl : l.length ≤ 1000000000000000) : ∀ (d i k : Nat) (n : Int), i + d = l.length → d < k → 0 ≤ n → n ≤ 3000 * i → ∃ b, careenagelaw07_light.l0 k l n (i : Int) = some b ∧ (b = true → l.length ≤ 100 ∧ n ≤ 3000 ∧ ∀ j, j < l.length → i ≤ j → n + (mn ((rd_T46 l (j : Int)).f0.size : Int) 3000) ≤ 3000)
  | d, i, 0, _, _, h, _, _ => by omega
  | 0, i, k + 1, n, hi, _, h0, _ => by
    rw [careenagelaw07_light.l0, if_neg (by omega)]
    by_cases h : (l.length : Int) ≤ 100
    · rw [if_pos h]
      exact ⟨_, rfl, fun hb => ⟨by omega, by simpa using hb, fun j a b => by omega⟩⟩
    · rw [if_neg h]
      exact ⟨_, rfl, fun hb => by cases hb⟩
  | d + 1, i, k + 1, n, hi, hk, h0, hn => by
    have hw2 : wrap64 ((i : Int) + 1) = ((i + 1 : Nat) : Int) := by unfold wrap64; omega
    have hm : 0 ≤ mn ((rd_T46 l (i : Int)).f0.size : Int) 3000 ∧ mn ((rd_T46 l (i : Int)).f0.size : Int) 3000 ≤ 3000 := by unfold mn; split <;> omega
    have hw : wrap64 (n + mn ((rd_T46 l (i : Int)).f0.size : Int) 3000) = n + mn ((rd_T46 l (i : Int)).f0.size : Int) 3000 := w64 (by omega) (by omega)
    obtain ⟨b, hb, hi2⟩ := light_up l hl d (i + 1) k (n + mn ((rd_T46 l (i : Int)).f0.size : Int) 3000) (by omega) (by omega) (by omega) (by omega)
    rw [careenagelaw07_light.l0, if_pos (by omega), if_pos (by omega), hw, hw2, hb]
    refine ⟨b, rfl, fun h => ?_⟩
    obtain ⟨h1, h2, h3⟩ := hi2 h
    refine ⟨h1, by omega, fun j a c => ?_⟩
    by_cases e : j = i
    · subst e
      exact h2
    · have := h3 j a (by omega)
      omega
theorem light_is (l : List SF) (hl : l.length ≤ 1000000000000000) (k : Nat) (hk : l.length < k) : ∃ b, careenagelaw07_light.f k l = some b ∧ (b = true → l.length ≤ 100) := by
  obtain ⟨b, h, h2⟩ := light_up l hl l.length 0 k 0 (by omega) hk (by omega) (by omega)
  exact ⟨b, h, fun hb => (h2 hb).1⟩

end Go.Proofs.Ytlkfcabklaaacaa.Q

namespace Go.Proofs.Ytlkfcabklaaacaa.Pure
set_option linter.unusedVariables false
set_option linter.unusedSimpArgs false
open Go.RowKit Go.Proofs.Ytlkfcabklaaacaa.P Go.Proofs.YtlkfcabklaaacaaW.PrintWords Go.Proofs.YtlkfcabklaaacaaW.PrintLast Go.Proofs.YtlkfcabklaaacaaW.PrintMore Go.Proofs.YtlkfcabklaaacaaO Go.Proofs.Ytlkfcabklaaacaa.Q

theorem lives7 (k : Nat) (hk : 5 ≤ k) : careenagelaw07_lives.f k = some true := by
  unfold careenagelaw07_lives.f careenagelaw07_row.f
  rw [bs, pick_is _ _ (by decide) k (by simp; omega), bs, if_pos (by decide +kernel), bs, pick_is _ _ (by decide) k (by simp; omega), bs, if_pos (by decide +kernel), bs, pick_is _ _ (by decide) k (by simp; omega), bs]
  decide +kernel
theorem picks_all (l : List SF) (a b : ByteArray) (h : ∀ j, j < l.length → okF l j) (hl : l.length ≤ 100) : ∀ (d i k : Nat), i + d = l.length → d + 200 < k → careenagelaw07_BranchPicks.l0 k l a b (i : Int) = some true
  | d, i, 0, _, h => by omega
  | 0, i, k + 1, hi, hk => by
    rw [careenagelaw07_BranchPicks.l0, if_neg (by omega), pick_is _ _ (by omega) k (by omega), bs, pick_is _ _ (by omega) k (by omega), bs]
    have := fa_mono (l := l) (smn_le_smx a b)
    congr 1
    rw [decide_eq_true_eq]
    omega
  | d + 1, i, k + 1, hi, hk => by
    have hw2 : wrap64 ((i : Int) + 1) = ((i + 1 : Nat) : Int) := by unfold wrap64; omega
    rw [careenagelaw07_BranchPicks.l0, if_pos (by omega), if_pos (by omega), pick_is _ _ (by omega) k (by omega), bs, if_pos, hw2]
    · exact picks_all l a b h hl d (i + 1) k (by omega) (by omega)
    · have := fa_self h i (by omega)
      unfold keyF at this
      rw [this]
      rfl
theorem BranchPicks : careenagelaw07_BranchPicks.Pure := by
  intro s l a b w0 wl1 wl2 wl3 w2 w3
  refine ⟨l.length + 2000, ?_⟩
  have hl : l.length ≤ 100000000000000 := by omega
  unfold careenagelaw07_BranchPicks.f
  obtain ⟨g, hg, hg2⟩ := light_is l (by omega) (l.length + 2000) (by omega)
  rw [lives7 _ (by omega), bs, if_pos rfl, bpage_is _ _ _ _ _ hl (by omega), bs, hg, bs]
  have hstop : careenagelaw07_BranchPicks.j0 (l.length + 2000) l a b true = some true := by
    rw [careenagelaw07_BranchPicks.j0, if_pos rfl]
  cases g with
  | false => rw [if_neg (by decide), hstop]
  | true =>
    rw [if_pos rfl]
    have hl2 := hg2 rfl
    cases hok : okP s 2 0 l with
    | false =>
      have h2 : (pageP s 2 0 l).2.2.2.2.2.2 = 2 := by
        unfold pageP
        rw [hok]
        rfl
      rw [h2, if_neg (show ¬ ((2 : Int) = 0) by decide), hstop]
    | true =>
      have hm : mayF l = true := by
        unfold okP at hok
        simp only [Bool.and_eq_true] at hok
        exact hok.1.1.1
      have hF := mayF_ok hm
      have hp := mayF_pos hm
      have hgo : careenagelaw07_BranchPicks.j0 (l.length + 2000) l a b false = some true := by
        rw [careenagelaw07_BranchPicks.j0, if_neg (by decide), pick_is _ _ (by omega) _ (by omega), bs]
        have hfa := fa_le a.toList l
        have hj1 : careenagelaw07_BranchPicks.j1 (l.length + 1999) l a b false = some true := by
          rw [careenagelaw07_BranchPicks.j1, if_neg (by decide)]
          exact picks_all l a b hF hl2 l.length 0 (l.length + 1998) (by omega) (by omega)
        obtain ⟨i, hi⟩ : ∃ i, i = fa a.toList l - 1 := ⟨_, rfl⟩
        rw [← hi]
        have hw : wrap64 ((i : Int) + 1) = ((i + 1 : Nat) : Int) := by unfold wrap64; omega
        have hnext : i + 1 < l.length → Op.bytesLess a.toList (keyF l (i + 1)) = true := fun hlt => by
          by_cases e : fa a.toList l = 0
          · have h1 := fa_at a.toList l (by omega)
            rw [e] at h1
            have h2 := rise_F hF 0 0 (by omega)
            obtain rfl : i = 0 := by omega
            exact bl_trans h1 h2
          · have h1 := fa_at a.toList l (by omega)
            rwa [show fa a.toList l = i + 1 by omega] at h1
        have hrest : (if (wrap64 ((i : Int) + 1)) < (l.length : Int) then (if 0 ≤ (wrap64 ((i : Int) + 1)) then (careenagelaw07_BranchPicks.j1 (l.length + 1999) l a b (!(Op.bytesLess a.toList (((rd_T46 l (wrap64 ((i : Int) + 1))).f0).toList)))) else (none)) else (careenagelaw07_BranchPicks.j1 (l.length + 1999) l a b false)) = some true := by
          rw [hw]
          by_cases hlt : i + 1 < l.length
          · rw [if_pos (by omega), if_pos (by omega)]
            have := hnext hlt
            unfold keyF at this
            rw [this]
            exact hj1
          · rw [if_neg (by omega)]
            exact hj1
        rw [if_neg (by omega), if_neg (by omega)]
        by_cases h0 : (i : Int) > 0
        · rw [if_pos h0, if_pos (by omega), if_pos (by omega), if_neg, hrest]
          have := fa_lt a.toList l i (by omega)
          unfold keyF at this
          rw [this]
          decide
        · rw [if_neg h0, hrest]
      have h2 : (pageP s 2 0 l).2.2.2.2.2.2 = 0 := by
        unfold pageP
        rw [hok]
        rfl
      rw [h2, if_pos rfl]
      split
      · exact hstop
      · rename_i h4
        by_cases h5 : (b.size : Int) > 200
        · rw [decide_eq_true h5, hstop]
        · rw [decide_eq_false h5, hgo]

end Go.Proofs.Ytlkfcabklaaacaa.Pure
