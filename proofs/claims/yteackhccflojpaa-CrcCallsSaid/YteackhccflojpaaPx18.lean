-- Made by a changed print program (wip/pp) for this claim; Lean checks it.
import Derived.Test.YteackhccflojpaaPx0
import Derived.Test.YteackhccflojpaaPx11
import Derived.Test.YteackhccflojpaaPx12
import Derived.Test.YteackhccflojpaaPx13
import Derived.Test.YteackhccflojpaaPx16
import Derived.Test.YteackhccflojpaaPx17
namespace Go.Proofs.Yteackhccflojpaa.P
open Go.RowKit Go.Proofs.YteackhccflojpaaW.PrintWords Go.Proofs.YteackhccflojpaaW.PrintLast Go.Proofs.YteackhccflojpaaW.PrintMore
attribute [local go_sem] max2_int min2_int max_two min_two max_three min_three max_four min_four   -- for this text's walks alone
open Go.Proofs.YteackhccflojpaaO
attribute [local go_sem] min2_str max2_str
set_option linter.unusedVariables false
set_option linter.unusedSimpArgs false

/-! ### careenagelaw02_CrcCalls: function 6 (by hand) -/
def careenagelaw02_CrcCalls.Pure : Prop := ∀ (a0 a1 : ByteArray) (a2 : Int), a0.size ≤ 140737488351232 → a1.size ≤ 140737488351232 → (Lit.int .u32 a2).wf = true →
  careenagelaw02_lives.f = some true ∧ (∃ x, crc_Of.f a0 = some x ∧ careenageref02_Of.f a0 = some x) ∧ ∃ y, crc_More.f a2 a1 = some y ∧ careenageref02_More.f a2 a1 = some y
set_option maxHeartbeats 8000000 in
set_option maxRecDepth 100000 in
theorem careenagelaw02_CrcCalls.walk (P : careenagelaw02_CrcCalls.Pure) (a0 : ByteArray) (a1 : ByteArray) (a2 : Int) (w : World) (w0 : a0.size ≤ 140737488351232) (w1 : a1.size ≤ 140737488351232) (w2 : (Lit.int .u32 a2).wf = true) :
    Calls Try.prog 6 #[.string a0, .string a1, .int .u32 a2] w fun e w' => e = .returned (.bool true) ∧ Below w.heap.size w w' := by
  obtain ⟨p0, ⟨x, p1, p2⟩, y, p3, p4⟩ := P a0 a1 a2 w0 w1 w2
  have P0 := Aside0.mk p0
  have P1 := Aside0.mk p1
  have P2 := Aside0.mk p2
  have P3 := Aside0.mk p3
  have P4 := Aside0.mk p4
  clear p0 p1 p2 p3 p4 w0 w1 w2
  have HB := Aside0.mk (Below.refl w.heap.size w)
  obtain ⟨tv, htv⟩ : ∃ tv, tv = tabV 256 := ⟨_, rfl⟩
  have R1 := Aside0.mk crc_Table.runs
  have R2 := Aside0.mk careenageref02_Table.runs
  rw [← htv] at R1 R2
  have heq := eq_arr (P := Try.prog) 32 Try.underlying32 Try.underlying24 (by kernel_rfl) tv (fun j h => by rw [htv]; exact ⟨_, tab_at j h⟩)
  have hgt : Try.prog.eqGuardType Try.prog.depth 32 = false := by kernel_rfl
  clear htv
  go_enter Try.func6, Try.ntmps6
  go_wp2_with (first | (go_at_call 19; (with_reducible refine (careenagelaw02_lives.calls true _ P0.out).mono ?_); rintro e w1 ⟨rfl, hb⟩; have n0_ := Aside0.mk (below_step HB.out hb); clear HB; have HB := n0_; clear n0_ hb) | (go_at_call 20; (with_reducible refine (R1.out _).mono ?_); rintro e w1 ⟨rfl, hb⟩; have n0_ := Aside0.mk (below_step HB.out hb); clear HB; have HB := n0_; clear n0_ hb) | (go_at_call 25; (with_reducible refine (R2.out _).mono ?_); rintro e w1 ⟨rfl, hb⟩; have n0_ := Aside0.mk (below_step HB.out hb); clear HB; have HB := n0_; clear n0_ hb) | (go_at_call 21; (with_reducible refine (crc_Of.calls a0 x _ P1.out).mono ?_); rintro e w1 ⟨rfl, hb⟩; have n0_ := Aside0.mk (below_step HB.out hb); clear HB; have HB := n0_; clear n0_ hb) | (go_at_call 23; (with_reducible refine (careenageref02_Of.calls a0 x _ P2.out).mono ?_); rintro e w1 ⟨rfl, hb⟩; have n0_ := Aside0.mk (below_step HB.out hb); clear HB; have HB := n0_; clear n0_ hb) | (go_at_call 22; (with_reducible refine (crc_More.calls a2 a1 y _ P3.out).mono ?_); rintro e w1 ⟨rfl, hb⟩; have n0_ := Aside0.mk (below_step HB.out hb); clear HB; have HB := n0_; clear n0_ hb) | (go_at_call 24; (with_reducible refine (careenageref02_More.calls a2 a1 y _ P4.out).mono ?_); rintro e w1 ⟨rfl, hb⟩; have n0_ := Aside0.mk (below_step HB.out hb); clear HB; have HB := n0_; clear n0_ hb))
  all_goals (go_ret; exact ⟨rfl, HB.out⟩)

end Go.Proofs.Yteackhccflojpaa.P
