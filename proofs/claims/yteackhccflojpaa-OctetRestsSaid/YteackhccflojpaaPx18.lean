-- Made by a changed print program (wip/pp) for this claim; Lean checks it.
import Derived.Test.YteackhccflojpaaPx0
import Derived.Test.YteackhccflojpaaPx7
import Derived.Test.YteackhccflojpaaPx8
import Derived.Test.YteackhccflojpaaPx13
import Derived.Test.YteackhccflojpaaPx14
import Derived.Test.YteackhccflojpaaPx16
import Derived.Test.YteackhccflojpaaPx17
namespace Go.Proofs.Yteackhccflojpaa.P
open Go.RowKit Go.Proofs.YteackhccflojpaaW.PrintWords Go.Proofs.YteackhccflojpaaW.PrintLast Go.Proofs.YteackhccflojpaaW.PrintMore
attribute [local go_sem] max2_int min2_int max_two min_two max_three min_three max_four min_four   -- for this text's walks alone
open Go.Proofs.YteackhccflojpaaO
attribute [local go_sem] min2_str max2_str
set_option linter.unusedVariables false
set_option linter.unusedSimpArgs false

/-! ### careenagelaw01_OctetRests: function 10 -/
mutual
def careenagelaw01_OctetRests.j0 : Nat → ByteArray → List Int → Bool → Option (Bool)
  | 0, _, _, _ => none
  | k + 1, x0, x1, x22 => if x22 = true then (some true) else ((octet_New.f x0).bind fun t156 => (careenagelaw01_OctetRests.l0 k x0 x1 (⟨#[]⟩ : ByteArray) 0 t156))
def careenagelaw01_OctetRests.l0 : Nat → ByteArray → List Int → ByteArray → Int → ByteArray → Option (Bool)
  | 0, _, _, _, _, _ => none
  | k + 1, x0, x1, x6, x7, x158000 => if x7 < (x1.length : Int) then ((octet_Reader_Rest.f x158000).bind fun bt158 => (if 0 ≤ x7 then ((octet_Reader_Bytes.f bt158.2 (rd x1 x7)).bind fun bt161 => (if (rd x1 x7) ≥ 0 then (if ((bt161.2.1 == 0) != (decide ((rd x1 x7) ≤ (bt158.1.size : Int)))) = true then (careenagelaw01_OctetRests.j2 k x0 x1 x6 x7 bt161.1 true bt161.2.2) else (if bt161.2.1 = 0 then (careenagelaw01_OctetRests.j2 k x0 x1 x6 x7 bt161.1 false bt161.2.2) else (if bt161.1.toList = ([] : List UInt8) then ((octet_Reader_Rest.f bt161.2.2).bind fun bt166 => (careenagelaw01_OctetRests.j2 k x0 x1 x6 x7 bt161.1 (bt166.1.toList != bt158.1.toList) bt166.2)) else (careenagelaw01_OctetRests.j2 k x0 x1 x6 x7 bt161.1 true bt161.2.2)))) else (if bt161.2.1 = 0 then (careenagelaw01_OctetRests.j2 k x0 x1 x6 x7 bt161.1 true bt161.2.2) else (if bt161.1.toList = ([] : List UInt8) then ((octet_Reader_Rest.f bt161.2.2).bind fun bt168 => (careenagelaw01_OctetRests.j2 k x0 x1 x6 x7 bt161.1 (bt168.1.toList != bt158.1.toList) bt168.2)) else (careenagelaw01_OctetRests.j2 k x0 x1 x6 x7 bt161.1 true bt161.2.2))))) else (none))) else (careenagelaw01_OctetRests.l1 k x0 true 0)
def careenagelaw01_OctetRests.j2 : Nat → ByteArray → List Int → ByteArray → Int → ByteArray → Bool → ByteArray → Option (Bool)
  | 0, _, _, _, _, _, _, _ => none
  | k + 1, x0, x1, x6, x7, x9, x72, x158000 => if x72 = true then (some false) else (if x6.size + x9.size ≤ 9223372036854775807 then ((octet_Reader_Rest.f x158000).bind fun bt170 => (if (x6 ++ x9).size + bt170.1.size ≤ 9223372036854775807 then (if ((x6 ++ x9) ++ bt170.1).toList = x0.toList then ((octet_Reader_Left.f bt170.2).bind fun bt172 => ((octet_Reader_Rest.f bt172.2).bind fun bt174 => (if bt172.1 = (bt174.1.size : Int) then (careenagelaw01_OctetRests.l0 k x0 x1 (x6 ++ x9) (wrap64 (x7 + 1)) bt174.2) else (some false)))) else (some false)) else (none))) else (none))
def careenagelaw01_OctetRests.l1 : Nat → ByteArray → Bool → Int → Option (Bool)
  | 0, _, _, _ => none
  | k + 1, x0, x11, x12 => if x12 < (x0.size : Int) then (if x11 = true then (if 0 ≤ x12 then (careenagelaw01_OctetRests.l1 k x0 ((bt x0 x12) == 0) (wrap64 (x12 + 1))) else (none)) else (careenagelaw01_OctetRests.l1 k x0 false (wrap64 (x12 + 1)))) else ((octet_Zero.f k x0).bind fun t176 => (some (t176 == x11)))
end
def careenagelaw01_OctetRests.f (k : Nat) (a0 : ByteArray) (l1 : List Int) : Option (Bool) := (careenagelaw01_lives.f k).bind fun t155 => (if t155 = true then (if (a0.size : Int) > 300 then (careenagelaw01_OctetRests.j0 k a0 l1 true) else (careenagelaw01_OctetRests.j0 k a0 l1 (decide ((l1.length : Int) > 40)))) else (some false))
theorem careenagelaw01_OctetRests.mono_l : ∀ k, (∀ y0 y1 y2, LeO (careenagelaw01_OctetRests.j0 k y0 y1 y2) (careenagelaw01_OctetRests.j0 (k + 1) y0 y1 y2)) ∧ (∀ y0 y1 y2 y3 y4, LeO (careenagelaw01_OctetRests.l0 k y0 y1 y2 y3 y4) (careenagelaw01_OctetRests.l0 (k + 1) y0 y1 y2 y3 y4)) ∧ (∀ y0 y1 y2 y3 y4 y5 y6, LeO (careenagelaw01_OctetRests.j2 k y0 y1 y2 y3 y4 y5 y6) (careenagelaw01_OctetRests.j2 (k + 1) y0 y1 y2 y3 y4 y5 y6)) ∧ (∀ y0 y1 y2, LeO (careenagelaw01_OctetRests.l1 k y0 y1 y2) (careenagelaw01_OctetRests.l1 (k + 1) y0 y1 y2))
  | 0 => ⟨fun _ _ _ r h => by simp [careenagelaw01_OctetRests.j0] at h, fun _ _ _ _ _ r h => by simp [careenagelaw01_OctetRests.l0] at h, fun _ _ _ _ _ _ _ r h => by simp [careenagelaw01_OctetRests.j2] at h, fun _ _ _ r h => by simp [careenagelaw01_OctetRests.l1] at h⟩
  | k + 1 => by
    obtain ⟨ih0, ih1, ih2, ih3⟩ := careenagelaw01_OctetRests.mono_l k
    refine ⟨?_, ?_, ?_, ?_⟩
    · intro y0 y1 y2
      unfold careenagelaw01_OctetRests.j0
      repeat' first
      | (with_reducible exact ih0 _ _ _)
      | (with_reducible exact ih1 _ _ _ _ _)
      | (with_reducible exact ih2 _ _ _ _ _ _ _)
      | (with_reducible exact ih3 _ _ _)
      | (with_reducible exact careenagelaw01_lives.mono _)
      | (with_reducible exact octet_Zero.mono _ _)
      | (with_reducible exact LeO.refl _)
      | (with_reducible exact LeO.none _)
      | (with_reducible refine LeO.ite ?_ ?_)
      | (with_reducible refine LeO.bind ?_ (fun _ => ?_))
      | exact ih0 _ _ _
      | exact ih1 _ _ _ _ _
      | exact ih2 _ _ _ _ _ _ _
      | exact ih3 _ _ _
      | exact careenagelaw01_lives.mono _
      | exact octet_Zero.mono _ _
      | exact LeO.none _
      | refine LeO.ite ?_ ?_
      | refine LeO.bind ?_ (fun _ => ?_)
    · intro y0 y1 y2 y3 y4
      unfold careenagelaw01_OctetRests.l0
      repeat' first
      | (with_reducible exact ih0 _ _ _)
      | (with_reducible exact ih1 _ _ _ _ _)
      | (with_reducible exact ih2 _ _ _ _ _ _ _)
      | (with_reducible exact ih3 _ _ _)
      | (with_reducible exact careenagelaw01_lives.mono _)
      | (with_reducible exact octet_Zero.mono _ _)
      | (with_reducible exact LeO.refl _)
      | (with_reducible exact LeO.none _)
      | (with_reducible refine LeO.ite ?_ ?_)
      | (with_reducible refine LeO.bind ?_ (fun _ => ?_))
      | exact ih0 _ _ _
      | exact ih1 _ _ _ _ _
      | exact ih2 _ _ _ _ _ _ _
      | exact ih3 _ _ _
      | exact careenagelaw01_lives.mono _
      | exact octet_Zero.mono _ _
      | exact LeO.none _
      | refine LeO.ite ?_ ?_
      | refine LeO.bind ?_ (fun _ => ?_)
    · intro y0 y1 y2 y3 y4 y5 y6
      unfold careenagelaw01_OctetRests.j2
      repeat' first
      | (with_reducible exact ih0 _ _ _)
      | (with_reducible exact ih1 _ _ _ _ _)
      | (with_reducible exact ih2 _ _ _ _ _ _ _)
      | (with_reducible exact ih3 _ _ _)
      | (with_reducible exact careenagelaw01_lives.mono _)
      | (with_reducible exact octet_Zero.mono _ _)
      | (with_reducible exact LeO.refl _)
      | (with_reducible exact LeO.none _)
      | (with_reducible refine LeO.ite ?_ ?_)
      | (with_reducible refine LeO.bind ?_ (fun _ => ?_))
      | exact ih0 _ _ _
      | exact ih1 _ _ _ _ _
      | exact ih2 _ _ _ _ _ _ _
      | exact ih3 _ _ _
      | exact careenagelaw01_lives.mono _
      | exact octet_Zero.mono _ _
      | exact LeO.none _
      | refine LeO.ite ?_ ?_
      | refine LeO.bind ?_ (fun _ => ?_)
    · intro y0 y1 y2
      unfold careenagelaw01_OctetRests.l1
      repeat' first
      | (with_reducible exact ih0 _ _ _)
      | (with_reducible exact ih1 _ _ _ _ _)
      | (with_reducible exact ih2 _ _ _ _ _ _ _)
      | (with_reducible exact ih3 _ _ _)
      | (with_reducible exact careenagelaw01_lives.mono _)
      | (with_reducible exact octet_Zero.mono _ _)
      | (with_reducible exact LeO.refl _)
      | (with_reducible exact LeO.none _)
      | (with_reducible refine LeO.ite ?_ ?_)
      | (with_reducible refine LeO.bind ?_ (fun _ => ?_))
      | exact ih0 _ _ _
      | exact ih1 _ _ _ _ _
      | exact ih2 _ _ _ _ _ _ _
      | exact ih3 _ _ _
      | exact careenagelaw01_lives.mono _
      | exact octet_Zero.mono _ _
      | exact LeO.none _
      | refine LeO.ite ?_ ?_
      | refine LeO.bind ?_ (fun _ => ?_)
theorem careenagelaw01_OctetRests.mono : ∀ a0 a1 k, LeO (careenagelaw01_OctetRests.f k a0 a1) (careenagelaw01_OctetRests.f (k + 1) a0 a1) := by
  intro a0 a1 k
  obtain ⟨ih0, ih1, ih2, ih3⟩ := careenagelaw01_OctetRests.mono_l k
  unfold careenagelaw01_OctetRests.f
  repeat' first
      | (with_reducible exact ih0 _ _ _)
      | (with_reducible exact ih1 _ _ _ _ _)
      | (with_reducible exact ih2 _ _ _ _ _ _ _)
      | (with_reducible exact ih3 _ _ _)
      | (with_reducible exact careenagelaw01_lives.mono _)
      | (with_reducible exact octet_Zero.mono _ _)
      | (with_reducible exact LeO.refl _)
      | (with_reducible exact LeO.none _)
      | (with_reducible refine LeO.ite ?_ ?_)
      | (with_reducible refine LeO.bind ?_ (fun _ => ?_))
      | exact ih0 _ _ _
      | exact ih1 _ _ _ _ _
      | exact ih2 _ _ _ _ _ _ _
      | exact ih3 _ _ _
      | exact careenagelaw01_lives.mono _
      | exact octet_Zero.mono _ _
      | exact LeO.none _
      | refine LeO.ite ?_ ?_
      | refine LeO.bind ?_ (fun _ => ?_)
set_option maxHeartbeats 8000000 in
set_option maxRecDepth 100000 in
theorem careenagelaw01_OctetRests.calls (k : Nat) (a0 : ByteArray) (A1 : Option Addr) (c1 : Nat) (l1 : List Int) (r : Bool) (w : World) (hr1 : Kd.C (Kd.int .i64) w A1 l1.length l1) (hc1 : l1.length ≤ c1) (h : careenagelaw01_OctetRests.f k a0 l1 = some r) :
    Calls Try.prog 10 #[.string a0, .slice A1 l1.length c1] w fun e w' => e = .returned (.bool r) ∧ Below w.heap.size w w' := by
  have HR1 := Aside0.mk hr1
  have HC1 := Aside0.mk hc1
  clear hr1 hc1
  have HB := Aside0.mk (Below.refl w.heap.size w)
  have H : ((careenagelaw01_lives.f k).bind fun t155 => (if t155 = true then (if (a0.size : Int) > 300 then (careenagelaw01_OctetRests.j0 k a0 l1 true) else (careenagelaw01_OctetRests.j0 k a0 l1 (decide ((l1.length : Int) > 40)))) else (some false))) = some r := h
  clear h
  replace H := Option.bind_eq_some_iff.mp H
  obtain ⟨t155, A30, H⟩ := H
  replace H : (if t155 = true then (if (a0.size : Int) > 300 then (careenagelaw01_OctetRests.j0 k a0 l1 true) else (careenagelaw01_OctetRests.j0 k a0 l1 (decide ((l1.length : Int) > 40)))) else (some false)) = some r := H
  have A3 := Aside0.mk A30
  clear A30
  by_cases c4 : t155 = true
  · subst c4
    have H1 : (if (a0.size : Int) > 300 then (careenagelaw01_OctetRests.j0 k a0 l1 true) else (careenagelaw01_OctetRests.j0 k a0 l1 (decide ((l1.length : Int) > 40)))) = some r := by rw [if_pos rfl] at H; exact H
    clear H
    have H := H1
    clear H1
    have HC5 := Aside0.mk H
    clear H
    go_enter Try.func10, Try.ntmps10
    go_upto_region 3 with (first | ((with_reducible refine gate_callee (f := 16) rfl ?_); refine goesL_ (some 13) rfl rfl Try.func16 (by kernel_rfl) rfl #[] rfl (by (try simp only [List.map_toArray, List.map_cons, List.map_nil]); first | done | rfl | (simp only [List.length_drop, List.length_take]; rfl)) ?_; (with_reducible refine (careenagelaw01_lives.calls k  true _ A3.out).mono ?_); rintro e w6 ⟨rfl, hb⟩; refine ⟨_, rfl, ?_⟩; have n0_ := Aside0.mk (below_step (by repeat (first | (with_reducible first | exact HB.out | apply below_alloc | apply pw_below_drewN | apply below_drew1) | exact HB.out)) hb); clear HB; have HB := n0_; clear n0_; (try clear hb); (try clear hb2); (try clear hk); (try clear hi)))
    (try simp only [Act.put, List.setIfInBounds_toArray, List.set_cons_zero, List.set_cons_succ])
    go_cut [22] (fun v22 wc => ∃ (kq : Nat) (x22_4 : Bool), v22 = .bool x22_4 ∧ Aside0 (careenagelaw01_OctetRests.j0 kq a0 l1 x22_4 = some r) ∧ Aside0 (kq ≤ k) ∧ Aside0 (Below w.heap.size w wc))
    case first =>
      have H := HC5.out
      clear HC5
      by_cases c7 : (a0.size : Int) > 300
      · rw [if_pos c7] at H
        have c7b0 : decide (300 < (a0.size : Int)) = true := decide_eq_true c7
        have c7b1 : decide (300 < a0.size) = true := decide_eq_true (by omega)
        clear c7
        (first | rw [c7b0] | (simp only [i64_w, i32_w]; rw [c7b0]) | skip)
        have H' := Aside0.mk H
        clear H
        go_wp2
        go_meet
        case rel => exact ⟨_, (true), (by first | rfl | (simp; done) | (simp [*]; done)), H', ⟨by first | omega | exact Nat.le_refl _⟩, ⟨by repeat (first | (with_reducible first | exact HB.out | apply below_alloc | apply pw_below_drewN | apply below_drew1) | exact HB.out)⟩⟩
      · rw [if_neg c7] at H
        have c7b0 : decide (300 < (a0.size : Int)) = false := decide_eq_false c7
        have c7b1 : decide (300 < a0.size) = false := decide_eq_false (by omega)
        clear c7
        (first | rw [c7b0] | (simp only [i64_w, i32_w]; rw [c7b0]) | skip)
        have H' := Aside0.mk H
        clear H
        go_wp2
        go_meet
        case rel => exact ⟨_, (decide ((l1.length : Int) > 40)), (by first | rfl | (simp; done) | (simp [*]; done)), H', ⟨by first | omega | exact Nat.le_refl _⟩, ⟨by repeat (first | (with_reducible first | exact HB.out | apply below_alloc | apply pw_below_drewN | apply below_drew1) | exact HB.out)⟩⟩
    case rest =>
      clear HC5
      try clear c1
      try clear p2
      try clear c4
      try clear c7
      try clear c7b0
      try clear c7b1
      obtain ⟨kq, x22_4, rfl, HA, HJ4, HB⟩ := hcut
      cases kq with
      | zero => exact absurd HA.out (by simp [careenagelaw01_OctetRests.j0])
      | succ kj4 =>
        have H := HA.out
        clear HA
        simp only [careenagelaw01_OctetRests.j0] at H
        by_cases c8 : x22_4 = true
        · subst c8
          have H1 : (some true) = some r := by rw [if_pos rfl] at H; exact H
          clear H
          have H := H1
          clear H1
          obtain rfl := Option.some.inj H
          go_wp2
          go_ret
          exact ⟨by first | rfl | (simp [errW_none, errW_some] <;> rfl) | (simp [*, errW_none, errW_some] <;> rfl), by repeat (first | (with_reducible first | exact HB.out | apply below_alloc | apply pw_below_drewN | apply below_drew1) | exact HB.out)⟩
        · replace c8 := Bool.eq_false_iff.mpr c8
          subst c8
          have H1 : ((octet_New.f a0).bind fun t156 => (careenagelaw01_OctetRests.l0 kj4 a0 l1 (⟨#[]⟩ : ByteArray) 0 t156)) = some r := by rw [if_neg (show ¬ (false = true) by decide)] at H; exact H
          clear H
          have H := H1
          clear H1
          replace H := Option.bind_eq_some_iff.mp H
          obtain ⟨t156, A90, H⟩ := H
          replace H : (careenagelaw01_OctetRests.l0 kj4 a0 l1 (⟨#[]⟩ : ByteArray) 0 t156) = some r := H
          have A9 := Aside0.mk A90
          clear A90
          have H' := Aside0.mk H
          clear H
          go_wp2_with (first | ((with_reducible refine gate_callee (f := 27) rfl ?_); refine goesL_ (some 24) rfl rfl Try.func27 (by kernel_rfl) rfl #[.string a0] rfl (by (try simp only [List.map_toArray, List.map_cons, List.map_nil]); first | done | rfl | (simp only [List.length_drop, List.length_take]; rfl)) ?_; (with_reducible refine (octet_New.calls a0 t156 w _ ?side1 A9.out).mono ?_); (case side1 => repeat (first | (with_reducible first | exact HB.out | apply below_alloc | apply pw_below_drewN | apply below_drew1) | exact HB.out)); rintro e w10 ⟨g157, rfl, hi, hb, hb2⟩; refine ⟨_, rfl, ?_⟩; have n0_ := Aside0.mk (hb); have n1_ := Aside0.mk (hi); clear HB; have HB := n0_; have HI157 := n1_; clear n0_ n1_; (try clear hb); (try clear hb2); (try clear hk); (try clear hi)))
          go_loopg [6, 7] kj4 (fun kq v6 v7 w' => ∃ (x6_2 : ByteArray) (x7_2 : Int) (x158000_2 : ByteArray), v6 = .string x6_2 ∧ v7 = .int .i64 x7_2 ∧ Aside0 (careenagelaw01_OctetRests.l0 kq a0 l1 x6_2 x7_2 x158000_2 = some r) ∧ Aside0 (kq ≤ kj4) ∧ Aside0 (IsS71 w w' g157 x158000_2) ∧ Aside0 (Below w.heap.size w w'))
          case atStart => exact ⟨((⟨#[]⟩ : ByteArray)), (0), (t156), (by first | rfl | (simp; done) | (simp [*]; done)), (by first | rfl | (simp; done) | (simp [*]; done)), H', ⟨Nat.le_refl _⟩, ⟨by repeat (first | (with_reducible first | exact HI157.out | apply IsS71.alloc | apply IsS71.drewN | apply IsS71.drew | apply IsS71.set_0) | exact HI157.out)⟩, ⟨by repeat (first | (with_reducible first | exact HB.out | apply below_alloc | apply pw_below_drewN | apply below_drew1 | refine below_set ?_ (IsS71.ge HI157.out)) | exact HB.out)⟩⟩
          case round =>
            clear H'
            try clear c1
            try clear c2
            try clear p2
            try clear c4
            try clear c7
            try clear c7b0
            try clear c7b1
            try clear c8
            try clear c10
            try clear p2
            obtain ⟨x6_2, x7_2, x158000_2, rfl, rfl, HA, HK2, HI157, HB⟩ := hrel
            cases gk with
            | zero => exact absurd HA.out (by simp [careenagelaw01_OctetRests.l0])
            | succ k2 =>
              have H := HA.out
              clear HA
              simp only [careenagelaw01_OctetRests.l0] at H
              by_cases c11 : x7_2 < (l1.length : Int)
              · rw [if_pos c11] at H
                have c11b0 : decide (x7_2 < (l1.length : Int)) = true := decide_eq_true c11
                clear c11
                replace H := Option.bind_eq_some_iff.mp H
                obtain ⟨⟨t158, t159⟩, A120, H⟩ := H
                replace H : (if 0 ≤ x7_2 then ((octet_Reader_Bytes.f t159 (rd l1 x7_2)).bind fun bt161 => (if (rd l1 x7_2) ≥ 0 then (if ((bt161.2.1 == 0) != (decide ((rd l1 x7_2) ≤ (t158.size : Int)))) = true then (careenagelaw01_OctetRests.j2 k2 a0 l1 x6_2 x7_2 bt161.1 true bt161.2.2) else (if bt161.2.1 = 0 then (careenagelaw01_OctetRests.j2 k2 a0 l1 x6_2 x7_2 bt161.1 false bt161.2.2) else (if bt161.1.toList = ([] : List UInt8) then ((octet_Reader_Rest.f bt161.2.2).bind fun bt166 => (careenagelaw01_OctetRests.j2 k2 a0 l1 x6_2 x7_2 bt161.1 (bt166.1.toList != t158.toList) bt166.2)) else (careenagelaw01_OctetRests.j2 k2 a0 l1 x6_2 x7_2 bt161.1 true bt161.2.2)))) else (if bt161.2.1 = 0 then (careenagelaw01_OctetRests.j2 k2 a0 l1 x6_2 x7_2 bt161.1 true bt161.2.2) else (if bt161.1.toList = ([] : List UInt8) then ((octet_Reader_Rest.f bt161.2.2).bind fun bt168 => (careenagelaw01_OctetRests.j2 k2 a0 l1 x6_2 x7_2 bt161.1 (bt168.1.toList != t158.toList) bt168.2)) else (careenagelaw01_OctetRests.j2 k2 a0 l1 x6_2 x7_2 bt161.1 true bt161.2.2))))) else (none)) = some r := H
                have A12 := Aside0.mk A120
                clear A120
                by_cases c13 : 0 ≤ x7_2
                · rw [if_pos c13] at H
                  have c13b0 : decide (0 ≤ x7_2) = true := decide_eq_true c13
                  clear c13
                  replace H := Option.bind_eq_some_iff.mp H
                  obtain ⟨⟨t161, t162, t163⟩, A140, H⟩ := H
                  replace H : (if (rd l1 x7_2) ≥ 0 then (if ((t162 == 0) != (decide ((rd l1 x7_2) ≤ (t158.size : Int)))) = true then (careenagelaw01_OctetRests.j2 k2 a0 l1 x6_2 x7_2 t161 true t163) else (if t162 = 0 then (careenagelaw01_OctetRests.j2 k2 a0 l1 x6_2 x7_2 t161 false t163) else (if t161.toList = ([] : List UInt8) then ((octet_Reader_Rest.f t163).bind fun bt166 => (careenagelaw01_OctetRests.j2 k2 a0 l1 x6_2 x7_2 t161 (bt166.1.toList != t158.toList) bt166.2)) else (careenagelaw01_OctetRests.j2 k2 a0 l1 x6_2 x7_2 t161 true t163)))) else (if t162 = 0 then (careenagelaw01_OctetRests.j2 k2 a0 l1 x6_2 x7_2 t161 true t163) else (if t161.toList = ([] : List UInt8) then ((octet_Reader_Rest.f t163).bind fun bt168 => (careenagelaw01_OctetRests.j2 k2 a0 l1 x6_2 x7_2 t161 (bt168.1.toList != t158.toList) bt168.2)) else (careenagelaw01_OctetRests.j2 k2 a0 l1 x6_2 x7_2 t161 true t163)))) = some r := H
                  have A14 := Aside0.mk A140
                  clear A140
                  have HC15 := Aside0.mk H
                  clear H
                  go_upto_region 12 with (first | ((with_reducible refine gate_callee (f := 28) rfl ?_); refine goesL_ (some 32) rfl rfl Try.func28 (by kernel_rfl) rfl #[.pointer (some ⟨g157, 0, none⟩)] rfl (by (try simp only [List.map_toArray, List.map_cons, List.map_nil]); first | done | rfl | (simp only [List.length_drop, List.length_take]; rfl)) ?_; (with_reducible refine (octet_Reader_Rest.calls g157 x158000_2 t158 t159 w _ ?side1 ?side2 A12.out).mono ?_); (case side1 => repeat (first | (with_reducible first | exact HI157.out | apply IsS71.alloc | apply IsS71.drewN | apply IsS71.drew | apply IsS71.set_0) | exact HI157.out)); (case side2 => repeat (first | (with_reducible first | exact HB.out | apply below_alloc | apply pw_below_drewN | apply below_drew1 | refine below_set ?_ (IsS71.ge HI157.out)) | exact HB.out)); rintro e w16 ⟨rfl, hi, hb, hk⟩; refine ⟨_, rfl, ?_⟩; have n0_ := Aside0.mk (hb); have n1_ := Aside0.mk (hi); clear HB; clear HI157; have HB := n0_; have HI157 := n1_; clear n0_ n1_; (try clear hb); (try clear hb2); (try clear hk); (try clear hi); have p160 : 0 ≤ (x7_2 : Int) := of_decide_eq_true (by first | (with_reducible assumption) | assumption); have q160 : x7_2 < (l1.length : Int) := of_decide_eq_true (by first | (with_reducible assumption) | assumption); obtain ⟨ad160, e160, hx160_0⟩ := Kd.at_int HR1.out x7_2 p160 q160; cases e160; replace hx160_0 := (HB.out.cell (World.block_lt_of_cell? w _ hx160_0)).trans hx160_0; replace p160 := eq_true p160; replace q160 := eq_true q160) | ((with_reducible refine gate_callee (f := 29) rfl ?_); refine goesL_ (some 39) rfl rfl Try.func29 (by kernel_rfl) rfl #[.pointer (some ⟨g157, 0, none⟩), .int .i64 (rd l1 x7_2)] rfl (by (try simp only [List.map_toArray, List.map_cons, List.map_nil]); first | done | rfl | (simp only [List.length_drop, List.length_take]; rfl)) ?_; (with_reducible refine (octet_Reader_Bytes.calls g157 t159 (rd l1 x7_2) t161 t162 t163 w _ ?side1 ?side2 A14.out).mono ?_); (case side1 => repeat (first | (with_reducible first | exact HI157.out | apply IsS71.alloc | apply IsS71.drewN | apply IsS71.drew | apply IsS71.set_0) | exact HI157.out)); (case side2 => repeat (first | (with_reducible first | exact HB.out | apply below_alloc | apply pw_below_drewN | apply below_drew1 | refine below_set ?_ (IsS71.ge HI157.out)) | exact HB.out)); rintro e w17 ⟨rfl, hi, hb, hk⟩; refine ⟨_, rfl, ?_⟩; have n0_ := Aside0.mk (hb); have n1_ := Aside0.mk (hi); clear HB; clear HI157; have HB := n0_; have HI157 := n1_; clear n0_ n1_; (try clear hb); (try clear hb2); (try clear hk); (try clear hi)))
                  (try simp only [Act.put, List.setIfInBounds_toArray, List.set_cons_zero, List.set_cons_succ])
                  go_cut [72] (fun v72 wc => ∃ (kq : Nat) (x72_14 : Bool) (x158000_14 : ByteArray), v72 = .bool x72_14 ∧ Aside0 (careenagelaw01_OctetRests.j2 kq a0 l1 x6_2 x7_2 t161 x72_14 x158000_14 = some r) ∧ Aside0 (kq ≤ k2) ∧ Aside0 (IsS71 w wc g157 x158000_14) ∧ Aside0 (Below w.heap.size w wc))
                  case first =>
                    have H := HC15.out
                    clear HC15
                    by_cases c18 : (rd l1 x7_2) ≥ 0
                    · rw [if_pos c18] at H
                      have c18b0 : decide (0 ≤ (rd l1 x7_2)) = true := decide_eq_true c18
                      clear c18
                      (first | rw [c18b0] | (simp only [i64_w, i32_w]; rw [c18b0]) | skip)
                      by_cases c19 : ((t162 == 0) != (decide ((rd l1 x7_2) ≤ (t158.size : Int)))) = true
                      · rw [if_pos c19] at H
                        have c19b0 : ((t162 == 0) != (decide ((rd l1 x7_2) ≤ (t158.size : Int)))) = true := c19
                        (try (have c19b1 : ((t162 == 0) = true) → ((decide ((rd l1 x7_2) ≤ (t158.size : Int))) = false) := by intro h_; have z_ := c19; rw [h_] at z_; revert z_; cases ((decide ((rd l1 x7_2) ≤ (t158.size : Int)))) <;> simp))
                        (try (have c19b2 : ((t162 == 0) = false) → ((decide ((rd l1 x7_2) ≤ (t158.size : Int))) = true) := by intro h_; have z_ := c19; rw [h_] at z_; revert z_; cases ((decide ((rd l1 x7_2) ≤ (t158.size : Int)))) <;> simp))
                        (try (have c19b3 : ((decide ((rd l1 x7_2) ≤ (t158.size : Int))) = true) → ((t162 == 0) = false) := by intro h_; have z_ := c19; rw [h_] at z_; revert z_; cases ((t162 == 0)) <;> simp))
                        (try (have c19b4 : ((decide ((rd l1 x7_2) ≤ (t158.size : Int))) = false) → ((t162 == 0) = true) := by intro h_; have z_ := c19; rw [h_] at z_; revert z_; cases ((t162 == 0)) <;> simp))
                        (try (have c19b5 : decide ((t162 == 0) = (decide ((rd l1 x7_2) ≤ (t158.size : Int)))) = false := by first | (simp; done) | (simp at c19; done) | simpa using c19))
                        (try (have c19b6 : ((t162 == 0) == (decide ((rd l1 x7_2) ≤ (t158.size : Int)))) = false := by first | (simp; done) | (simp at c19; done) | simpa using c19))
                        (try (have c19b7 : ¬ ((t162 == 0) = (decide ((rd l1 x7_2) ≤ (t158.size : Int)))) := by first | (simp; done) | (simp at c19; done) | simpa using c19))
                        clear c19
                        have H' := Aside0.mk H
                        clear H
                        have p164 : 0 ≤ (x7_2 : Int) := of_decide_eq_true (by first | (with_reducible assumption) | assumption)
                        have q164 : x7_2 < (l1.length : Int) := of_decide_eq_true (by first | (with_reducible assumption) | assumption)
                        obtain ⟨ad164, e164, hx164_0⟩ := Kd.at_int HR1.out x7_2 p164 q164
                        obtain rfl : ad160 = ad164 := (by injection e164)
                        replace hx164_0 := (HB.out.cell (World.block_lt_of_cell? w _ hx164_0)).trans hx164_0
                        replace p164 := eq_true p164
                        replace q164 := eq_true q164
                        have p165 : 0 ≤ (x7_2 : Int) := of_decide_eq_true (by first | (with_reducible assumption) | assumption)
                        have q165 : x7_2 < (l1.length : Int) := of_decide_eq_true (by first | (with_reducible assumption) | assumption)
                        obtain ⟨ad165, e165, hx165_0⟩ := Kd.at_int HR1.out x7_2 p165 q165
                        obtain rfl : ad160 = ad165 := (by injection e165)
                        replace hx165_0 := (HB.out.cell (World.block_lt_of_cell? w _ hx165_0)).trans hx165_0
                        replace p165 := eq_true p165
                        replace q165 := eq_true q165
                        go_wp2
                        go_meet
                        case rel => exact ⟨_, (true), (t163), (by first | rfl | (simp; done) | (simp [*]; done)), H', ⟨by have := HJ4.out; have := HK2.out; first | omega | exact Nat.le_refl _⟩, ⟨by repeat (first | (with_reducible first | exact HI157.out | apply IsS71.alloc | apply IsS71.drewN | apply IsS71.drew | apply IsS71.set_0) | exact HI157.out)⟩, ⟨by repeat (first | (with_reducible first | exact HB.out | apply below_alloc | apply pw_below_drewN | apply below_drew1 | refine below_set ?_ (IsS71.ge HI157.out)) | exact HB.out)⟩⟩
                      · rw [if_neg c19] at H
                        have c19b0 : ((t162 == 0) != (decide ((rd l1 x7_2) ≤ (t158.size : Int)))) = false := by first | (simp; done) | (simp at c19; done) | simpa using c19
                        (try (have c19b1 : ((t162 == 0) = true) → ((decide ((rd l1 x7_2) ≤ (t158.size : Int))) = true) := by intro h_; have z_ := c19; rw [h_] at z_; revert z_; cases ((decide ((rd l1 x7_2) ≤ (t158.size : Int)))) <;> simp))
                        (try (have c19b2 : ((t162 == 0) = false) → ((decide ((rd l1 x7_2) ≤ (t158.size : Int))) = false) := by intro h_; have z_ := c19; rw [h_] at z_; revert z_; cases ((decide ((rd l1 x7_2) ≤ (t158.size : Int)))) <;> simp))
                        (try (have c19b3 : ((decide ((rd l1 x7_2) ≤ (t158.size : Int))) = true) → ((t162 == 0) = true) := by intro h_; have z_ := c19; rw [h_] at z_; revert z_; cases ((t162 == 0)) <;> simp))
                        (try (have c19b4 : ((decide ((rd l1 x7_2) ≤ (t158.size : Int))) = false) → ((t162 == 0) = false) := by intro h_; have z_ := c19; rw [h_] at z_; revert z_; cases ((t162 == 0)) <;> simp))
                        (try (have c19b5 : decide ((t162 == 0) = (decide ((rd l1 x7_2) ≤ (t158.size : Int)))) = true := by first | (simp; done) | (simp at c19; done) | simpa using c19))
                        (try (have c19b6 : ((t162 == 0) == (decide ((rd l1 x7_2) ≤ (t158.size : Int)))) = true := by first | (simp; done) | (simp at c19; done) | simpa using c19))
                        clear c19
                        by_cases c20 : t162 = 0
                        · rw [if_pos c20] at H
                          have c20b0 : (t162 == 0) = true := beq_iff_eq.mpr c20
                          have c20b1 : (t162 != 0) = false := bne_eq_false_iff_eq.mpr c20
                          clear c20
                          have H' := Aside0.mk H
                          clear H
                          have p164 : 0 ≤ (x7_2 : Int) := of_decide_eq_true (by first | (with_reducible assumption) | assumption)
                          have q164 : x7_2 < (l1.length : Int) := of_decide_eq_true (by first | (with_reducible assumption) | assumption)
                          obtain ⟨ad164, e164, hx164_0⟩ := Kd.at_int HR1.out x7_2 p164 q164
                          obtain rfl : ad160 = ad164 := (by injection e164)
                          replace hx164_0 := (HB.out.cell (World.block_lt_of_cell? w _ hx164_0)).trans hx164_0
                          replace p164 := eq_true p164
                          replace q164 := eq_true q164
                          have p165 : 0 ≤ (x7_2 : Int) := of_decide_eq_true (by first | (with_reducible assumption) | assumption)
                          have q165 : x7_2 < (l1.length : Int) := of_decide_eq_true (by first | (with_reducible assumption) | assumption)
                          obtain ⟨ad165, e165, hx165_0⟩ := Kd.at_int HR1.out x7_2 p165 q165
                          obtain rfl : ad160 = ad165 := (by injection e165)
                          replace hx165_0 := (HB.out.cell (World.block_lt_of_cell? w _ hx165_0)).trans hx165_0
                          replace p165 := eq_true p165
                          replace q165 := eq_true q165
                          go_wp2
                          go_meet
                          case rel => exact ⟨_, (false), (t163), (by first | rfl | (simp; done) | (simp [*]; done)), H', ⟨by have := HJ4.out; have := HK2.out; first | omega | exact Nat.le_refl _⟩, ⟨by repeat (first | (with_reducible first | exact HI157.out | apply IsS71.alloc | apply IsS71.drewN | apply IsS71.drew | apply IsS71.set_0) | exact HI157.out)⟩, ⟨by repeat (first | (with_reducible first | exact HB.out | apply below_alloc | apply pw_below_drewN | apply below_drew1 | refine below_set ?_ (IsS71.ge HI157.out)) | exact HB.out)⟩⟩
                        · rw [if_neg c20] at H
                          have c20b0 : (t162 == 0) = false := beq_eq_false_iff_ne.mpr c20
                          have c20b1 : (t162 != 0) = true := bne_iff_ne.mpr c20
                          by_cases c21 : t161.toList = ([] : List UInt8)
                          · rw [if_pos c21] at H
                            have c21b0 : (t161.toList == ([] : List UInt8)) = true := beq_iff_eq.mpr c21
                            have c21b1 : (t161.toList != ([] : List UInt8)) = false := bne_eq_false_iff_eq.mpr c21
                            clear c21
                            replace H := Option.bind_eq_some_iff.mp H
                            obtain ⟨⟨t166, t167⟩, A220, H⟩ := H
                            replace H : (careenagelaw01_OctetRests.j2 k2 a0 l1 x6_2 x7_2 t161 (t166.toList != t158.toList) t167) = some r := H
                            have A22 := Aside0.mk A220
                            clear A220
                            have H' := Aside0.mk H
                            clear H
                            have p164 : 0 ≤ (x7_2 : Int) := of_decide_eq_true (by first | (with_reducible assumption) | assumption)
                            have q164 : x7_2 < (l1.length : Int) := of_decide_eq_true (by first | (with_reducible assumption) | assumption)
                            obtain ⟨ad164, e164, hx164_0⟩ := Kd.at_int HR1.out x7_2 p164 q164
                            obtain rfl : ad160 = ad164 := (by injection e164)
                            replace hx164_0 := (HB.out.cell (World.block_lt_of_cell? w _ hx164_0)).trans hx164_0
                            replace p164 := eq_true p164
                            replace q164 := eq_true q164
                            have p165 : 0 ≤ (x7_2 : Int) := of_decide_eq_true (by first | (with_reducible assumption) | assumption)
                            have q165 : x7_2 < (l1.length : Int) := of_decide_eq_true (by first | (with_reducible assumption) | assumption)
                            obtain ⟨ad165, e165, hx165_0⟩ := Kd.at_int HR1.out x7_2 p165 q165
                            obtain rfl : ad160 = ad165 := (by injection e165)
                            replace hx165_0 := (HB.out.cell (World.block_lt_of_cell? w _ hx165_0)).trans hx165_0
                            replace p165 := eq_true p165
                            replace q165 := eq_true q165
                            go_wp2_with (first | (go_at_call 28; (with_reducible refine (octet_Reader_Rest.calls g157 t163 t166 t167 w _ ?side1 ?side2 A22.out).mono ?_); (case side1 => repeat (first | (with_reducible first | exact HI157.out | apply IsS71.alloc | apply IsS71.drewN | apply IsS71.drew | apply IsS71.set_0) | exact HI157.out)); (case side2 => repeat (first | (with_reducible first | exact HB.out | apply below_alloc | apply pw_below_drewN | apply below_drew1 | refine below_set ?_ (IsS71.ge HI157.out)) | exact HB.out)); rintro e w23 ⟨rfl, hi, hb, hk⟩; have n0_ := Aside0.mk (hb); have n1_ := Aside0.mk (hi); clear HB; clear HI157; have HB := n0_; have HI157 := n1_; clear n0_ n1_; (try clear hb); (try clear hb2); (try clear hk); (try clear hi)))
                            go_meet
                            case rel => exact ⟨_, ((t166.toList != t158.toList)), (t167), (by first | rfl | (simp; done) | (simp [*]; done)), H', ⟨by have := HJ4.out; have := HK2.out; first | omega | exact Nat.le_refl _⟩, ⟨by repeat (first | (with_reducible first | exact HI157.out | apply IsS71.alloc | apply IsS71.drewN | apply IsS71.drew | apply IsS71.set_0) | exact HI157.out)⟩, ⟨by repeat (first | (with_reducible first | exact HB.out | apply below_alloc | apply pw_below_drewN | apply below_drew1 | refine below_set ?_ (IsS71.ge HI157.out)) | exact HB.out)⟩⟩
                          · rw [if_neg c21] at H
                            have c21b0 : (t161.toList == ([] : List UInt8)) = false := beq_eq_false_iff_ne.mpr c21
                            have c21b1 : (t161.toList != ([] : List UInt8)) = true := bne_iff_ne.mpr c21
                            have H' := Aside0.mk H
                            clear H
                            have p164 : 0 ≤ (x7_2 : Int) := of_decide_eq_true (by first | (with_reducible assumption) | assumption)
                            have q164 : x7_2 < (l1.length : Int) := of_decide_eq_true (by first | (with_reducible assumption) | assumption)
                            obtain ⟨ad164, e164, hx164_0⟩ := Kd.at_int HR1.out x7_2 p164 q164
                            obtain rfl : ad160 = ad164 := (by injection e164)
                            replace hx164_0 := (HB.out.cell (World.block_lt_of_cell? w _ hx164_0)).trans hx164_0
                            replace p164 := eq_true p164
                            replace q164 := eq_true q164
                            have p165 : 0 ≤ (x7_2 : Int) := of_decide_eq_true (by first | (with_reducible assumption) | assumption)
                            have q165 : x7_2 < (l1.length : Int) := of_decide_eq_true (by first | (with_reducible assumption) | assumption)
                            obtain ⟨ad165, e165, hx165_0⟩ := Kd.at_int HR1.out x7_2 p165 q165
                            obtain rfl : ad160 = ad165 := (by injection e165)
                            replace hx165_0 := (HB.out.cell (World.block_lt_of_cell? w _ hx165_0)).trans hx165_0
                            replace p165 := eq_true p165
                            replace q165 := eq_true q165
                            go_wp2
                            go_meet
                            case rel => exact ⟨_, (true), (t163), (by first | rfl | (simp; done) | (simp [*]; done)), H', ⟨by have := HJ4.out; have := HK2.out; first | omega | exact Nat.le_refl _⟩, ⟨by repeat (first | (with_reducible first | exact HI157.out | apply IsS71.alloc | apply IsS71.drewN | apply IsS71.drew | apply IsS71.set_0) | exact HI157.out)⟩, ⟨by repeat (first | (with_reducible first | exact HB.out | apply below_alloc | apply pw_below_drewN | apply below_drew1 | refine below_set ?_ (IsS71.ge HI157.out)) | exact HB.out)⟩⟩
                    · rw [if_neg c18] at H
                      have c18b0 : decide (0 ≤ (rd l1 x7_2)) = false := decide_eq_false c18
                      clear c18
                      (first | rw [c18b0] | (simp only [i64_w, i32_w]; rw [c18b0]) | skip)
                      by_cases c24 : t162 = 0
                      · rw [if_pos c24] at H
                        have c24b0 : (t162 == 0) = true := beq_iff_eq.mpr c24
                        have c24b1 : (t162 != 0) = false := bne_eq_false_iff_eq.mpr c24
                        clear c24
                        have H' := Aside0.mk H
                        clear H
                        have p164 : 0 ≤ (x7_2 : Int) := of_decide_eq_true (by first | (with_reducible assumption) | assumption)
                        have q164 : x7_2 < (l1.length : Int) := of_decide_eq_true (by first | (with_reducible assumption) | assumption)
                        obtain ⟨ad164, e164, hx164_0⟩ := Kd.at_int HR1.out x7_2 p164 q164
                        obtain rfl : ad160 = ad164 := (by injection e164)
                        replace hx164_0 := (HB.out.cell (World.block_lt_of_cell? w _ hx164_0)).trans hx164_0
                        replace p164 := eq_true p164
                        replace q164 := eq_true q164
                        go_wp2
                        go_meet
                        case rel => exact ⟨_, (true), (t163), (by first | rfl | (simp; done) | (simp [*]; done)), H', ⟨by have := HJ4.out; have := HK2.out; first | omega | exact Nat.le_refl _⟩, ⟨by repeat (first | (with_reducible first | exact HI157.out | apply IsS71.alloc | apply IsS71.drewN | apply IsS71.drew | apply IsS71.set_0) | exact HI157.out)⟩, ⟨by repeat (first | (with_reducible first | exact HB.out | apply below_alloc | apply pw_below_drewN | apply below_drew1 | refine below_set ?_ (IsS71.ge HI157.out)) | exact HB.out)⟩⟩
                      · rw [if_neg c24] at H
                        have c24b0 : (t162 == 0) = false := beq_eq_false_iff_ne.mpr c24
                        have c24b1 : (t162 != 0) = true := bne_iff_ne.mpr c24
                        by_cases c25 : t161.toList = ([] : List UInt8)
                        · rw [if_pos c25] at H
                          have c25b0 : (t161.toList == ([] : List UInt8)) = true := beq_iff_eq.mpr c25
                          have c25b1 : (t161.toList != ([] : List UInt8)) = false := bne_eq_false_iff_eq.mpr c25
                          clear c25
                          replace H := Option.bind_eq_some_iff.mp H
                          obtain ⟨⟨t168, t169⟩, A260, H⟩ := H
                          replace H : (careenagelaw01_OctetRests.j2 k2 a0 l1 x6_2 x7_2 t161 (t168.toList != t158.toList) t169) = some r := H
                          have A26 := Aside0.mk A260
                          clear A260
                          have H' := Aside0.mk H
                          clear H
                          have p164 : 0 ≤ (x7_2 : Int) := of_decide_eq_true (by first | (with_reducible assumption) | assumption)
                          have q164 : x7_2 < (l1.length : Int) := of_decide_eq_true (by first | (with_reducible assumption) | assumption)
                          obtain ⟨ad164, e164, hx164_0⟩ := Kd.at_int HR1.out x7_2 p164 q164
                          obtain rfl : ad160 = ad164 := (by injection e164)
                          replace hx164_0 := (HB.out.cell (World.block_lt_of_cell? w _ hx164_0)).trans hx164_0
                          replace p164 := eq_true p164
                          replace q164 := eq_true q164
                          go_wp2_with (first | (go_at_call 28; (with_reducible refine (octet_Reader_Rest.calls g157 t163 t168 t169 w _ ?side1 ?side2 A26.out).mono ?_); (case side1 => repeat (first | (with_reducible first | exact HI157.out | apply IsS71.alloc | apply IsS71.drewN | apply IsS71.drew | apply IsS71.set_0) | exact HI157.out)); (case side2 => repeat (first | (with_reducible first | exact HB.out | apply below_alloc | apply pw_below_drewN | apply below_drew1 | refine below_set ?_ (IsS71.ge HI157.out)) | exact HB.out)); rintro e w27 ⟨rfl, hi, hb, hk⟩; have n0_ := Aside0.mk (hb); have n1_ := Aside0.mk (hi); clear HB; clear HI157; have HB := n0_; have HI157 := n1_; clear n0_ n1_; (try clear hb); (try clear hb2); (try clear hk); (try clear hi)))
                          go_meet
                          case rel => exact ⟨_, ((t168.toList != t158.toList)), (t169), (by first | rfl | (simp; done) | (simp [*]; done)), H', ⟨by have := HJ4.out; have := HK2.out; first | omega | exact Nat.le_refl _⟩, ⟨by repeat (first | (with_reducible first | exact HI157.out | apply IsS71.alloc | apply IsS71.drewN | apply IsS71.drew | apply IsS71.set_0) | exact HI157.out)⟩, ⟨by repeat (first | (with_reducible first | exact HB.out | apply below_alloc | apply pw_below_drewN | apply below_drew1 | refine below_set ?_ (IsS71.ge HI157.out)) | exact HB.out)⟩⟩
                        · rw [if_neg c25] at H
                          have c25b0 : (t161.toList == ([] : List UInt8)) = false := beq_eq_false_iff_ne.mpr c25
                          have c25b1 : (t161.toList != ([] : List UInt8)) = true := bne_iff_ne.mpr c25
                          have H' := Aside0.mk H
                          clear H
                          have p164 : 0 ≤ (x7_2 : Int) := of_decide_eq_true (by first | (with_reducible assumption) | assumption)
                          have q164 : x7_2 < (l1.length : Int) := of_decide_eq_true (by first | (with_reducible assumption) | assumption)
                          obtain ⟨ad164, e164, hx164_0⟩ := Kd.at_int HR1.out x7_2 p164 q164
                          obtain rfl : ad160 = ad164 := (by injection e164)
                          replace hx164_0 := (HB.out.cell (World.block_lt_of_cell? w _ hx164_0)).trans hx164_0
                          replace p164 := eq_true p164
                          replace q164 := eq_true q164
                          go_wp2
                          go_meet
                          case rel => exact ⟨_, (true), (t163), (by first | rfl | (simp; done) | (simp [*]; done)), H', ⟨by have := HJ4.out; have := HK2.out; first | omega | exact Nat.le_refl _⟩, ⟨by repeat (first | (with_reducible first | exact HI157.out | apply IsS71.alloc | apply IsS71.drewN | apply IsS71.drew | apply IsS71.set_0) | exact HI157.out)⟩, ⟨by repeat (first | (with_reducible first | exact HB.out | apply below_alloc | apply pw_below_drewN | apply below_drew1 | refine below_set ?_ (IsS71.ge HI157.out)) | exact HB.out)⟩⟩
                  case rest =>
                    clear HC15
                    try clear c1
                    try clear p1
                    try clear q1
                    try clear hx1
                    try clear c2
                    try clear p2
                    try clear c4
                    try clear c7
                    try clear c7b0
                    try clear c7b1
                    try clear c8
                    try clear c10
                    try clear c11
                    try clear c11b0
                    try clear c13
                    try clear c13b0
                    try clear c16
                    try clear p16
                    try clear q16
                    try clear hx16
                    try clear c18
                    try clear c18b0
                    try clear c19
                    try clear c19b0
                    try clear c19b1
                    try clear c19b2
                    try clear c20
                    try clear c20b0
                    try clear c20b1
                    try clear c21
                    try clear c21b0
                    try clear c21b1
                    try clear c24
                    try clear c24b0
                    try clear c24b1
                    try clear c25
                    try clear c25b0
                    try clear c25b1
                    try clear c27
                    try clear hx160_0
                    try clear hx164_0
                    try clear hx165_0
                    try clear p160
                    try clear p164
                    try clear p165
                    try clear p2
                    try clear q160
                    try clear q164
                    try clear q165
                    obtain ⟨kq, x72_14, x158000_14, rfl, HA, HJ14, HI157, HB⟩ := hcut
                    cases kq with
                    | zero => exact absurd HA.out (by simp [careenagelaw01_OctetRests.j2])
                    | succ kj14 =>
                      have H := HA.out
                      clear HA
                      simp only [careenagelaw01_OctetRests.j2] at H
                      by_cases c28 : x72_14 = true
                      · subst c28
                        have H1 : (some false) = some r := by rw [if_pos rfl] at H; exact H
                        clear H
                        have H := H1
                        clear H1
                        obtain rfl := Option.some.inj H
                        go_wp2
                        go_ret
                        exact ⟨by first | rfl | (simp [errW_none, errW_some] <;> rfl) | (simp [*, errW_none, errW_some] <;> rfl), by repeat (first | (with_reducible first | exact HB.out | apply below_alloc | apply pw_below_drewN | apply below_drew1 | refine below_set ?_ (IsS71.ge HI157.out)) | exact HB.out)⟩
                      · replace c28 := Bool.eq_false_iff.mpr c28
                        subst c28
                        have H1 : (if x6_2.size + t161.size ≤ 9223372036854775807 then ((octet_Reader_Rest.f x158000_14).bind fun bt170 => (if (x6_2 ++ t161).size + bt170.1.size ≤ 9223372036854775807 then (if ((x6_2 ++ t161) ++ bt170.1).toList = a0.toList then ((octet_Reader_Left.f bt170.2).bind fun bt172 => ((octet_Reader_Rest.f bt172.2).bind fun bt174 => (if bt172.1 = (bt174.1.size : Int) then (careenagelaw01_OctetRests.l0 kj14 a0 l1 (x6_2 ++ t161) (wrap64 (x7_2 + 1)) bt174.2) else (some false)))) else (some false)) else (none))) else (none)) = some r := by rw [if_neg (show ¬ (false = true) by decide)] at H; exact H
                        clear H
                        have H := H1
                        clear H1
                        by_cases c29 : x6_2.size + t161.size ≤ 9223372036854775807
                        · rw [if_pos c29] at H
                          have c29b0 := eq_true c29
                          have c29b1 : decide (x6_2.size + t161.size ≤ 9223372036854775807) = true := decide_eq_true c29
                          try have c29b2 : (9223372036854775807 < x6_2.size + t161.size) = False := eq_false (Nat.not_lt.2 c29)
                          replace H := Option.bind_eq_some_iff.mp H
                          obtain ⟨⟨t170, t171⟩, A300, H⟩ := H
                          replace H : (if (x6_2 ++ t161).size + t170.size ≤ 9223372036854775807 then (if ((x6_2 ++ t161) ++ t170).toList = a0.toList then ((octet_Reader_Left.f t171).bind fun bt172 => ((octet_Reader_Rest.f bt172.2).bind fun bt174 => (if bt172.1 = (bt174.1.size : Int) then (careenagelaw01_OctetRests.l0 kj14 a0 l1 (x6_2 ++ t161) (wrap64 (x7_2 + 1)) bt174.2) else (some false)))) else (some false)) else (none)) = some r := H
                          have A30 := Aside0.mk A300
                          clear A300
                          by_cases c31 : (x6_2 ++ t161).size + t170.size ≤ 9223372036854775807
                          · rw [if_pos c31] at H
                            have c31b0 := eq_true c31
                            have c31b1 : decide ((x6_2 ++ t161).size + t170.size ≤ 9223372036854775807) = true := decide_eq_true c31
                            try have c31b2 : (9223372036854775807 < (x6_2 ++ t161).size + t170.size) = False := eq_false (Nat.not_lt.2 c31)
                            try (have c31b3 := Nat.not_lt.2 c31; simp only [ByteArray.size_append] at c31b3; replace c31b3 := eq_false c31b3)
                            by_cases c32 : ((x6_2 ++ t161) ++ t170).toList = a0.toList
                            · rw [if_pos c32] at H
                              have c32b0 : (((x6_2 ++ t161) ++ t170).toList == a0.toList) = true := beq_iff_eq.mpr c32
                              have c32b1 : (((x6_2 ++ t161) ++ t170).toList != a0.toList) = false := bne_eq_false_iff_eq.mpr c32
                              clear c32
                              replace H := Option.bind_eq_some_iff.mp H
                              obtain ⟨⟨t172, t173⟩, A330, H⟩ := H
                              replace H : ((octet_Reader_Rest.f t173).bind fun bt174 => (if t172 = (bt174.1.size : Int) then (careenagelaw01_OctetRests.l0 kj14 a0 l1 (x6_2 ++ t161) (wrap64 (x7_2 + 1)) bt174.2) else (some false))) = some r := H
                              have A33 := Aside0.mk A330
                              clear A330
                              replace H := Option.bind_eq_some_iff.mp H
                              obtain ⟨⟨t174, t175⟩, A340, H⟩ := H
                              replace H : (if t172 = (t174.size : Int) then (careenagelaw01_OctetRests.l0 kj14 a0 l1 (x6_2 ++ t161) (wrap64 (x7_2 + 1)) t175) else (some false)) = some r := H
                              have A34 := Aside0.mk A340
                              clear A340
                              by_cases c35 : t172 = (t174.size : Int)
                              · rw [if_pos c35] at H
                                have c35b0 : (t172 == (t174.size : Int)) = true := beq_iff_eq.mpr c35
                                have c35b1 : (t172 != (t174.size : Int)) = false := bne_eq_false_iff_eq.mpr c35
                                clear c35
                                have H' := Aside0.mk H
                                clear H
                                go_wp2_with (first | ((with_reducible refine gate_callee (f := 28) rfl ?_); refine goesL_ (some 78) rfl rfl Try.func28 (by kernel_rfl) rfl #[.pointer (some ⟨g157, 0, none⟩)] rfl (by (try simp only [List.map_toArray, List.map_cons, List.map_nil]); first | done | rfl | (simp only [List.length_drop, List.length_take]; rfl)) ?_; (with_reducible refine (octet_Reader_Rest.calls g157 x158000_14 t170 t171 w _ ?side1 ?side2 A30.out).mono ?_); (case side1 => repeat (first | (with_reducible first | exact HI157.out | apply IsS71.alloc | apply IsS71.drewN | apply IsS71.drew | apply IsS71.set_0) | exact HI157.out)); (case side2 => repeat (first | (with_reducible first | exact HB.out | apply below_alloc | apply pw_below_drewN | apply below_drew1 | refine below_set ?_ (IsS71.ge HI157.out)) | exact HB.out)); rintro e w36 ⟨rfl, hi, hb, hk⟩; refine ⟨_, rfl, ?_⟩; have n0_ := Aside0.mk (hb); have n1_ := Aside0.mk (hi); clear HB; clear HI157; have HB := n0_; have HI157 := n1_; clear n0_ n1_; (try clear hb); (try clear hb2); (try clear hk); (try clear hi)) | (go_at_call 30; (with_reducible refine (octet_Reader_Left.calls g157 t171 t172 t173 w _ ?side1 ?side2 A33.out).mono ?_); (case side1 => repeat (first | (with_reducible first | exact HI157.out | apply IsS71.alloc | apply IsS71.drewN | apply IsS71.drew | apply IsS71.set_0) | exact HI157.out)); (case side2 => repeat (first | (with_reducible first | exact HB.out | apply below_alloc | apply pw_below_drewN | apply below_drew1 | refine below_set ?_ (IsS71.ge HI157.out)) | exact HB.out)); rintro e w37 ⟨rfl, hi, hb, hk⟩; have n0_ := Aside0.mk (hb); have n1_ := Aside0.mk (hi); clear HB; clear HI157; have HB := n0_; have HI157 := n1_; clear n0_ n1_; (try clear hb); (try clear hb2); (try clear hk); (try clear hi)) | (go_at_call 28; (with_reducible refine (octet_Reader_Rest.calls g157 t173 t174 t175 w _ ?side1 ?side2 A34.out).mono ?_); (case side1 => repeat (first | (with_reducible first | exact HI157.out | apply IsS71.alloc | apply IsS71.drewN | apply IsS71.drew | apply IsS71.set_0) | exact HI157.out)); (case side2 => repeat (first | (with_reducible first | exact HB.out | apply below_alloc | apply pw_below_drewN | apply below_drew1 | refine below_set ?_ (IsS71.ge HI157.out)) | exact HB.out)); rintro e w38 ⟨rfl, hi, hb, hk⟩; have n0_ := Aside0.mk (hb); have n1_ := Aside0.mk (hi); clear HB; clear HI157; have HB := n0_; have HI157 := n1_; clear n0_ n1_; (try clear hb); (try clear hb2); (try clear hk); (try clear hi)))
                                go_roundg kj14
                                case measure => have := HJ4.out; have := HK2.out; have := HJ14.out; omega
                                case rel => exact ⟨(x6_2 ++ t161), (wrap64 (x7_2 + 1)), (t175), (by first | rfl | (simp; done) | (simp [*]; done)), (by first | rfl | (simp; done) | (simp [*]; done)), H', ⟨by have := HJ4.out; have := HK2.out; have := HJ14.out; omega⟩, ⟨by repeat (first | (with_reducible first | exact HI157.out | apply IsS71.alloc | apply IsS71.drewN | apply IsS71.drew | apply IsS71.set_0) | exact HI157.out)⟩, ⟨by repeat (first | (with_reducible first | exact HB.out | apply below_alloc | apply pw_below_drewN | apply below_drew1 | refine below_set ?_ (IsS71.ge HI157.out)) | exact HB.out)⟩⟩
                              · rw [if_neg c35] at H
                                have c35b0 : (t172 == (t174.size : Int)) = false := beq_eq_false_iff_ne.mpr c35
                                have c35b1 : (t172 != (t174.size : Int)) = true := bne_iff_ne.mpr c35
                                obtain rfl := Option.some.inj H
                                go_wp2_with (first | ((with_reducible refine gate_callee (f := 28) rfl ?_); refine goesL_ (some 78) rfl rfl Try.func28 (by kernel_rfl) rfl #[.pointer (some ⟨g157, 0, none⟩)] rfl (by (try simp only [List.map_toArray, List.map_cons, List.map_nil]); first | done | rfl | (simp only [List.length_drop, List.length_take]; rfl)) ?_; (with_reducible refine (octet_Reader_Rest.calls g157 x158000_14 t170 t171 w _ ?side1 ?side2 A30.out).mono ?_); (case side1 => repeat (first | (with_reducible first | exact HI157.out | apply IsS71.alloc | apply IsS71.drewN | apply IsS71.drew | apply IsS71.set_0) | exact HI157.out)); (case side2 => repeat (first | (with_reducible first | exact HB.out | apply below_alloc | apply pw_below_drewN | apply below_drew1 | refine below_set ?_ (IsS71.ge HI157.out)) | exact HB.out)); rintro e w39 ⟨rfl, hi, hb, hk⟩; refine ⟨_, rfl, ?_⟩; have n0_ := Aside0.mk (hb); have n1_ := Aside0.mk (hi); clear HB; clear HI157; have HB := n0_; have HI157 := n1_; clear n0_ n1_; (try clear hb); (try clear hb2); (try clear hk); (try clear hi)) | (go_at_call 30; (with_reducible refine (octet_Reader_Left.calls g157 t171 t172 t173 w _ ?side1 ?side2 A33.out).mono ?_); (case side1 => repeat (first | (with_reducible first | exact HI157.out | apply IsS71.alloc | apply IsS71.drewN | apply IsS71.drew | apply IsS71.set_0) | exact HI157.out)); (case side2 => repeat (first | (with_reducible first | exact HB.out | apply below_alloc | apply pw_below_drewN | apply below_drew1 | refine below_set ?_ (IsS71.ge HI157.out)) | exact HB.out)); rintro e w40 ⟨rfl, hi, hb, hk⟩; have n0_ := Aside0.mk (hb); have n1_ := Aside0.mk (hi); clear HB; clear HI157; have HB := n0_; have HI157 := n1_; clear n0_ n1_; (try clear hb); (try clear hb2); (try clear hk); (try clear hi)) | (go_at_call 28; (with_reducible refine (octet_Reader_Rest.calls g157 t173 t174 t175 w _ ?side1 ?side2 A34.out).mono ?_); (case side1 => repeat (first | (with_reducible first | exact HI157.out | apply IsS71.alloc | apply IsS71.drewN | apply IsS71.drew | apply IsS71.set_0) | exact HI157.out)); (case side2 => repeat (first | (with_reducible first | exact HB.out | apply below_alloc | apply pw_below_drewN | apply below_drew1 | refine below_set ?_ (IsS71.ge HI157.out)) | exact HB.out)); rintro e w41 ⟨rfl, hi, hb, hk⟩; have n0_ := Aside0.mk (hb); have n1_ := Aside0.mk (hi); clear HB; clear HI157; have HB := n0_; have HI157 := n1_; clear n0_ n1_; (try clear hb); (try clear hb2); (try clear hk); (try clear hi)))
                                go_ret
                                exact ⟨by first | rfl | (simp [errW_none, errW_some] <;> rfl) | (simp [*, errW_none, errW_some] <;> rfl), by repeat (first | (with_reducible first | exact HB.out | apply below_alloc | apply pw_below_drewN | apply below_drew1 | refine below_set ?_ (IsS71.ge HI157.out)) | exact HB.out)⟩
                            · rw [if_neg c32] at H
                              have c32b0 : (((x6_2 ++ t161) ++ t170).toList == a0.toList) = false := beq_eq_false_iff_ne.mpr c32
                              have c32b1 : (((x6_2 ++ t161) ++ t170).toList != a0.toList) = true := bne_iff_ne.mpr c32
                              obtain rfl := Option.some.inj H
                              go_wp2_with (first | ((with_reducible refine gate_callee (f := 28) rfl ?_); refine goesL_ (some 78) rfl rfl Try.func28 (by kernel_rfl) rfl #[.pointer (some ⟨g157, 0, none⟩)] rfl (by (try simp only [List.map_toArray, List.map_cons, List.map_nil]); first | done | rfl | (simp only [List.length_drop, List.length_take]; rfl)) ?_; (with_reducible refine (octet_Reader_Rest.calls g157 x158000_14 t170 t171 w _ ?side1 ?side2 A30.out).mono ?_); (case side1 => repeat (first | (with_reducible first | exact HI157.out | apply IsS71.alloc | apply IsS71.drewN | apply IsS71.drew | apply IsS71.set_0) | exact HI157.out)); (case side2 => repeat (first | (with_reducible first | exact HB.out | apply below_alloc | apply pw_below_drewN | apply below_drew1 | refine below_set ?_ (IsS71.ge HI157.out)) | exact HB.out)); rintro e w42 ⟨rfl, hi, hb, hk⟩; refine ⟨_, rfl, ?_⟩; have n0_ := Aside0.mk (hb); have n1_ := Aside0.mk (hi); clear HB; clear HI157; have HB := n0_; have HI157 := n1_; clear n0_ n1_; (try clear hb); (try clear hb2); (try clear hk); (try clear hi)))
                              go_ret
                              exact ⟨by first | rfl | (simp [errW_none, errW_some] <;> rfl) | (simp [*, errW_none, errW_some] <;> rfl), by repeat (first | (with_reducible first | exact HB.out | apply below_alloc | apply pw_below_drewN | apply below_drew1 | refine below_set ?_ (IsS71.ge HI157.out)) | exact HB.out)⟩
                          · rw [if_neg c31] at H
                            exact absurd H (by simp)
                        · rw [if_neg c29] at H
                          exact absurd H (by simp)
                · rw [if_neg c13] at H
                  exact absurd H (by simp)
              · rw [if_neg c11] at H
                have c11b0 : decide (x7_2 < (l1.length : Int)) = false := decide_eq_false c11
                clear c11
                have H' := Aside0.mk H
                clear H
                go_wp2
                go_loopg [11, 12] k2 (fun kq v11 v12 w' => ∃ (x11_3 : Bool) (x12_3 : Int), v11 = .bool x11_3 ∧ v12 = .int .i64 x12_3 ∧ Aside0 (careenagelaw01_OctetRests.l1 kq a0 x11_3 x12_3 = some r) ∧ Aside0 (kq ≤ k2) ∧ Aside0 (Below w.heap.size w w'))
                case atStart => exact ⟨(true), (0), (by first | rfl | (simp; done) | (simp [*]; done)), (by first | rfl | (simp; done) | (simp [*]; done)), H', ⟨Nat.le_refl _⟩, ⟨by repeat (first | (with_reducible first | exact HB.out | apply below_alloc | apply pw_below_drewN | apply below_drew1 | refine below_set ?_ (IsS71.ge HI157.out)) | exact HB.out)⟩⟩
                case round =>
                  clear H'
                  try clear c1
                  try clear p1
                  try clear q1
                  try clear hx1
                  try clear c2
                  try clear p2
                  try clear c3
                  try clear c4
                  try clear p6
                  try clear c7
                  try clear c7b0
                  try clear c7b1
                  try clear c8
                  try clear c10
                  try clear c11
                  try clear c11b0
                  try clear c13
                  try clear c13b0
                  try clear c16
                  try clear p16
                  try clear q16
                  try clear hx16
                  try clear c18
                  try clear c18b0
                  try clear c19
                  try clear c19b0
                  try clear c19b1
                  try clear c19b2
                  try clear c20
                  try clear c20b0
                  try clear c20b1
                  try clear c21
                  try clear c21b0
                  try clear c21b1
                  try clear c24
                  try clear c24b0
                  try clear c24b1
                  try clear c25
                  try clear c25b0
                  try clear c25b1
                  try clear c27
                  try clear c28
                  try clear c29
                  try clear c29b0
                  try clear c29b1
                  try clear c29b2
                  try clear c31
                  try clear c31b0
                  try clear c31b1
                  try clear c31b2
                  try clear c32
                  try clear c32b0
                  try clear c32b1
                  try clear c35
                  try clear c35b0
                  try clear c35b1
                  try clear hx160_0
                  try clear hx164_0
                  try clear hx165_0
                  try clear p1
                  try clear p16
                  try clear p160
                  try clear p164
                  try clear p165
                  try clear p2
                  try clear q1
                  try clear q16
                  try clear q160
                  try clear q164
                  try clear q165
                  obtain ⟨x11_3, x12_3, rfl, rfl, HA, HK3, HB⟩ := hrel
                  cases gk with
                  | zero => exact absurd HA.out (by simp [careenagelaw01_OctetRests.l1])
                  | succ k3 =>
                    have H := HA.out
                    clear HA
                    simp only [careenagelaw01_OctetRests.l1] at H
                    by_cases c43 : x12_3 < (a0.size : Int)
                    · rw [if_pos c43] at H
                      have c43b0 : decide (x12_3 < (a0.size : Int)) = true := decide_eq_true c43
                      clear c43
                      by_cases c44 : x11_3 = true
                      · subst c44
                        have H1 : (if 0 ≤ x12_3 then (careenagelaw01_OctetRests.l1 k3 a0 ((bt a0 x12_3) == 0) (wrap64 (x12_3 + 1))) else (none)) = some r := by rw [if_pos rfl] at H; exact H
                        clear H
                        have H := H1
                        clear H1
                        by_cases c45 : 0 ≤ x12_3
                        · rw [if_pos c45] at H
                          have c45b0 : decide (0 ≤ x12_3) = true := decide_eq_true c45
                          clear c45
                          have H' := Aside0.mk H
                          clear H
                          have p46 : 0 ≤ (x12_3 : Int) := of_decide_eq_true (by first | (with_reducible assumption) | assumption)
                          have q46 : x12_3 < (a0.size : Int) := of_decide_eq_true (by first | (with_reducible assumption) | assumption)
                          have hx46 := bt_at a0 x12_3
                          replace p46 := eq_true p46
                          replace q46 := eq_true q46
                          go_wp2
                          go_roundg k3
                          case measure => have := HJ4.out; have := HK2.out; have := HK3.out; omega
                          case rel => exact ⟨(((bt a0 x12_3) == 0)), (wrap64 (x12_3 + 1)), (by first | rfl | (simp; done) | (simp [*]; done)), (by first | rfl | (simp; done) | (simp [*]; done)), H', ⟨by have := HJ4.out; have := HK2.out; have := HK3.out; omega⟩, ⟨by repeat (first | (with_reducible first | exact HB.out | apply below_alloc | apply pw_below_drewN | apply below_drew1) | exact HB.out)⟩⟩
                        · rw [if_neg c45] at H
                          exact absurd H (by simp)
                      · replace c44 := Bool.eq_false_iff.mpr c44
                        subst c44
                        have H1 : (careenagelaw01_OctetRests.l1 k3 a0 false (wrap64 (x12_3 + 1))) = some r := by rw [if_neg (show ¬ (false = true) by decide)] at H; exact H
                        clear H
                        have H := H1
                        clear H1
                        have H' := Aside0.mk H
                        clear H
                        go_wp2
                        go_roundg k3
                        case measure => have := HJ4.out; have := HK2.out; have := HK3.out; omega
                        case rel => exact ⟨(false), (wrap64 (x12_3 + 1)), (by first | rfl | (simp; done) | (simp [*]; done)), (by first | rfl | (simp; done) | (simp [*]; done)), H', ⟨by have := HJ4.out; have := HK2.out; have := HK3.out; omega⟩, ⟨by repeat (first | (with_reducible first | exact HB.out | apply below_alloc | apply pw_below_drewN | apply below_drew1) | exact HB.out)⟩⟩
                    · rw [if_neg c43] at H
                      have c43b0 : decide (x12_3 < (a0.size : Int)) = false := decide_eq_false c43
                      clear c43
                      replace H := Option.bind_eq_some_iff.mp H
                      obtain ⟨t176, A470, H⟩ := H
                      replace H : (some (t176 == x11_3)) = some r := H
                      have A47 := Aside0.mk A470
                      clear A470
                      obtain rfl := Option.some.inj H
                      go_wp2_with (first | ((with_reducible refine gate_callee (f := 31) rfl ?_); refine goesL_ (some 104) rfl rfl Try.func31 (by kernel_rfl) rfl #[.string a0] rfl (by (try simp only [List.map_toArray, List.map_cons, List.map_nil]); first | done | rfl | (simp only [List.length_drop, List.length_take]; rfl)) ?_; (with_reducible refine (octet_Zero.calls k3 a0 t176 _ A47.out).mono ?_); rintro e w' ⟨rfl, ⟨nd, rfl⟩⟩; refine ⟨_, rfl, ?_⟩))
                      go_ret
                      exact ⟨by first | rfl | (simp [errW_none, errW_some] <;> rfl) | (simp [*, errW_none, errW_some] <;> rfl), by repeat (first | (with_reducible first | exact HB.out | apply below_alloc | apply pw_below_drewN | apply below_drew1) | exact HB.out)⟩
  · replace c4 := Bool.eq_false_iff.mpr c4
    subst c4
    have H1 : (some false) = some r := by rw [if_neg (show ¬ (false = true) by decide)] at H; exact H
    clear H
    have H := H1
    clear H1
    obtain rfl := Option.some.inj H
    go_enter Try.func10, Try.ntmps10
    go_wp2_with (first | ((with_reducible refine gate_callee (f := 16) rfl ?_); refine goesL_ (some 13) rfl rfl Try.func16 (by kernel_rfl) rfl #[] rfl (by (try simp only [List.map_toArray, List.map_cons, List.map_nil]); first | done | rfl | (simp only [List.length_drop, List.length_take]; rfl)) ?_; (with_reducible refine (careenagelaw01_lives.calls k  false _ A3.out).mono ?_); rintro e w48 ⟨rfl, hb⟩; refine ⟨_, rfl, ?_⟩; have n0_ := Aside0.mk (below_step (by repeat (first | (with_reducible first | exact HB.out | apply below_alloc | apply pw_below_drewN | apply below_drew1) | exact HB.out)) hb); clear HB; have HB := n0_; clear n0_; (try clear hb); (try clear hb2); (try clear hk); (try clear hi)))
    go_ret
    exact ⟨by first | rfl | (simp [errW_none, errW_some] <;> rfl) | (simp [*, errW_none, errW_some] <;> rfl), by repeat (first | (with_reducible first | exact HB.out | apply below_alloc | apply pw_below_drewN | apply below_drew1) | exact HB.out)⟩

/-- THE ONE PURE STATEMENT of careenagelaw01_OctetRests: yours. -/
def careenagelaw01_OctetRests.Pure : Prop := ∀ (a0 : ByteArray) (l1 : List Int), a0.size ≤ 140737488351232 → l1.length ≤ maxLen → l1.length * 8 ≤ 140737488351232 → (∀ x ∈ l1, (Lit.int .i64 x).wf = true) → ∃ k, careenagelaw01_OctetRests.f k a0 l1 = some true
theorem careenagelaw01_OctetRests.walk (P : careenagelaw01_OctetRests.Pure) (a0 : ByteArray) (a1 : Option Addr) (len1 cap1 : Nat) (z1 : List Int) (w : World) (w0 : a0.size ≤ 140737488351232) (w1 : (a1 = none ∧ len1 = 0 ∧ cap1 = 0 ∧ z1 = []) ∨ ∃ x, a1 = some x ∧ len1 ≤ cap1 ∧ cap1 ≤ maxLen ∧ z1.length = cap1 ∧ (∀ i, i < z1.length → w.cell? (x.add i) = some (.int .i64 (z1.getD i 0))) ∧ ∀ n ∈ z1, (Lit.int .i64 n).wf = true) (y1 : len1 * 8 ≤ 140737488351232) :
    Calls Try.prog 10 #[.string a0, .slice a1 len1 cap1] w fun e w' => e = .returned (.bool true) ∧ Below w.heap.size w w' := by
  obtain ⟨l1, rfl, hr1, hm1, hw1, hc1⟩ := ReadsInt.ofRowC w1
  obtain ⟨k, h⟩ := P a0 l1 w0 hm1 y1 hw1
  refine (careenagelaw01_OctetRests.calls k a0 _ _ l1 true w (Kd.C_of_reads (d := (0 : Int)) (h1 := fun _ => rfl) hr1) hc1 h).mono ?_
  rintro e w' ⟨rfl, hd⟩
  exact ⟨rfl, hd⟩

end Go.Proofs.Yteackhccflojpaa.P
