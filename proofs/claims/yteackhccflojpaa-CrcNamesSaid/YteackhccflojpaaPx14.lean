-- Made by a changed print program (wip/pp) for this claim; Lean checks it.
import Derived.Test.YteackhccflojpaaOArr
import Derived.Test.YteackhccflojpaaPx0
import Derived.Test.YteackhccflojpaaPx11
import Derived.Test.YteackhccflojpaaPx12
import Derived.Test.YteackhccflojpaaPx13
namespace Go.Proofs.Yteackhccflojpaa.P
open Go.RowKit Go.Proofs.YteackhccflojpaaW.PrintWords Go.Proofs.YteackhccflojpaaW.PrintLast Go.Proofs.YteackhccflojpaaW.PrintMore
attribute [local go_sem] max2_int min2_int max_two min_two max_three min_three max_four min_four   -- for this text's walks alone
open Go.Proofs.YteackhccflojpaaO
attribute [local go_sem] min2_str max2_str
set_option linter.unusedVariables false
set_option linter.unusedSimpArgs false

/-! ### careenagelaw02_CrcNames: function 5 (by hand) -/
def careenagelaw02_CrcNames.Pure : Prop := careenagelaw02_lives.f = some true ∧ crc_Of.f (⟨#[]⟩ : ByteArray) = some 0 ∧ ∃ x, crc_Of.f (⟨#[49, 50, 51, 52]⟩ : ByteArray) = some x ∧ crc_More.f x (⟨#[53, 54, 55, 56, 57]⟩ : ByteArray) = some 3808858755
set_option maxHeartbeats 8000000 in
set_option maxRecDepth 100000 in
theorem careenagelaw02_CrcNames.walk (P : careenagelaw02_CrcNames.Pure) (w : World) :
    Calls Try.prog 5 #[] w fun e w' => e = .returned (.bool true) ∧ Below w.heap.size w w' := by
  obtain ⟨p0, p1, x, p2, p3⟩ := P
  have P0 := Aside0.mk p0
  have P1 := Aside0.mk p1
  have P2 := Aside0.mk p2
  have P3 := Aside0.mk p3
  clear p0 p1 p2 p3
  have HB := Aside0.mk (Below.refl w.heap.size w)
  have HC0 := Aside0.mk (show (tabV 256)[0]? = some (.int .u32 0) from tab_at 0 (by decide))
  have HC1 := Aside0.mk (show (tabV 256)[128]? = some (.int .u32 2197175160) from tab_at 128 (by decide))
  go_enter Try.func5, Try.ntmps5
  go_wp2_with (first | (go_at_call 19; (with_reducible refine (careenagelaw02_lives.calls true _ P0.out).mono ?_); rintro e w1 ⟨rfl, hb⟩; have n0_ := Aside0.mk (below_step HB.out hb); clear HB; have HB := n0_; clear n0_ hb) | (go_at_call 20; (with_reducible refine (crc_Table.runs _).mono ?_); rintro e w1 ⟨rfl, hb⟩; have n0_ := Aside0.mk (below_step HB.out hb); clear HB; have HB := n0_; clear n0_ hb) | ((with_reducible refine gate_dst (N := 1) rfl ?_); refine arr_alloc ?hg (N := 1) ?hd 32 ?ho (tabV 0) ?hz ?_; (case hd => rfl); (case hg => rfl); (case ho => rfl); (case hz => (rw [tabV_zero]; kernel_rfl)); intro g hg w2 hbl hb; have n0_ := Aside0.mk (below_step HB.out hb); have n1_ := Aside0.mk hbl; have n2_ := Aside0.mk ((by rw [hg]; exact HB.out.size : w.heap.size ≤ g)); clear HB; have HB := n0_; have HR := n1_; have HG := n2_; clear n0_ n1_ n2_ hb hbl hg) | (refine arr_store (w0 := w) ?hg ?hd 32 (.tmp 1) (.tmp 4) ?ho (cs := tabV 0) (cs' := tabV 256) (by rw [tabV_size]; kernel_rfl) ?hx ?hy HR.out (by rw [tabV_size, tabV_size]) (tabV_one 256) HB.out HG.out ?_; (case hd => rfl); (case hg => rfl); (case ho => rfl); (case hx => rfl); (case hy => rfl); intro w9 hr9 hb9; have HR9 := Aside0.mk hr9; have HB9 := Aside0.mk hb9; clear HB HR; have HR := HR9; have HB := HB9; clear HR9 HB9 hr9 hb9) | (go_at_call 21; (with_reducible refine (crc_Of.calls (⟨#[]⟩ : ByteArray) 0 _ P1.out).mono ?_); rintro e w1 ⟨rfl, hb⟩; have n0_ := Aside0.mk (below_step HB.out hb); have n1_ := Aside0.mk (blk_below HR.out hb); clear HB HR; have HB := n0_; have HR := n1_; clear n0_ n1_ hb; have hc0 := (blk_cell HR.out 0).trans HC0.out; have hc1 := (blk_cell HR.out 128).trans HC1.out) | (go_at_call 21; (with_reducible refine (crc_Of.calls (⟨#[49, 50, 51, 52]⟩ : ByteArray) x _ P2.out).mono ?_); rintro e w1 ⟨rfl, hb⟩; have n0_ := Aside0.mk (below_step HB.out hb); clear HB; have HB := n0_; clear n0_ hb) | (go_at_call 22; (with_reducible refine (crc_More.calls x (⟨#[53, 54, 55, 56, 57]⟩ : ByteArray) 3808858755 _ P3.out).mono ?_); rintro e w1 ⟨rfl, hb⟩; have n0_ := Aside0.mk (below_step HB.out hb); clear HB; have HB := n0_; clear n0_ hb))
  go_ret
  exact ⟨rfl, HB.out⟩

end Go.Proofs.Yteackhccflojpaa.P
