-- Made by a changed print program (wip/pp) for this claim; Lean checks it.
import Derived.Test.YteackhccflojpaaOMark
import Derived.Test.YteackhccflojpaaPx0
import Derived.Test.YteackhccflojpaaPx6
import Derived.Test.YteackhccflojpaaPx7
import Derived.Test.YteackhccflojpaaPx8
import Derived.Test.YteackhccflojpaaPx13
import Derived.Test.YteackhccflojpaaPx14
import Derived.Test.YteackhccflojpaaPx15
import Derived.Test.YteackhccflojpaaPx17
import Derived.Test.YteackhccflojpaaPx18
import Derived.Test.YteackhccflojpaaPx19
import Derived.Test.YteackhccflojpaaPx20
import Derived.Test.YteackhccflojpaaPx22
import Derived.Test.YteackhccflojpaaPx23
namespace Go.Proofs.Yteackhccflojpaa.P
open Go.RowKit Go.Proofs.YteackhccflojpaaW.PrintWords Go.Proofs.YteackhccflojpaaW.PrintLast Go.Proofs.YteackhccflojpaaW.PrintMore
attribute [local go_sem] max2_int min2_int max_two min_two max_three min_three max_four min_four   -- for this text's walks alone
open Go.Proofs.YteackhccflojpaaO
attribute [local go_sem] min2_str max2_str
set_option linter.unusedVariables false
set_option linter.unusedSimpArgs false

/-! ### careenagelaw01_OctetNames: function 12 -/
def careenagelaw01_OctetNames.f (k : Nat)  : Option (Bool) := (careenagelaw01_lives.f k).bind fun t198 => (if t198 = true then ((octet_New.f (⟨#[2, 1, 97, 98, 99]⟩ : ByteArray)).bind fun t199 => ((octet_Reader_Number.f k t199 2).bind fun bt201 => ((octet_Reader_Number.f k bt201.2.2 0).bind fun bt204 => ((octet_Reader_Number.f k bt204.2.2 9).bind fun bt207 => ((octet_Reader_Number.f k bt207.2.2 4).bind fun bt210 => ((octet_Reader_Bytes.f bt210.2.2 (-1)).bind fun bt213 => ((octet_Reader_Bytes.f bt213.2.2 4).bind fun bt216 => ((octet_Reader_Bytes.f bt216.2.2 1).bind fun bt219 => ((octet_Reader_Number_nil.f 1).bind fun bt222 => ((octet_Reader_Bytes_nil.f 1).bind fun bt224 => (if bt201.2.1 = 0 then (if bt201.1 = 258 then (if bt204.2.1 = 2 then (if bt207.2.1 = 2 then (if bt210.2.1 = 7 then (if bt213.2.1 = 2 then (if bt216.2.1 = 7 then (if bt219.2.1 = 0 then (if bt219.1.toList = ([97] : List UInt8) then ((octet_Reader_Left.f bt219.2.2).bind fun t226 => (if t226 = 2 then ((octet_Reader_Rest.f bt219.2.2).bind fun t227 => (if t227.toList = ([98, 99] : List UInt8) then (if bt222.2 = 1 then (if bt224.2 = 1 then ((octet_Reader_Left_nil.f).bind fun t228 => (if t228 = 0 then ((octet_Reader_Rest_nil.f).bind fun t229 => (if t229.toList = ([] : List UInt8) then ((octet_Zero.f k (⟨#[]⟩ : ByteArray)).bind fun t230 => (if t230 = true then ((octet_Zero.f k (⟨#[0, 1]⟩ : ByteArray)).bind fun t231 => (if t231 = true then (some false) else ((octet_Put.f k (([120] : List Int)) 1 0).bind fun t235 => (if (strOfNums t235).toList = ([120] : List UInt8) then ((octet_Put.f k (([120] : List Int)) 1 9).bind fun t241 => (some ((strOfNums t241).toList == ([120] : List UInt8)))) else (some false))))) else (some false))) else (some false))) else (some false))) else (some false)) else (some false)) else (some false))) else (some false))) else (some false)) else (some false)) else (some false)) else (some false)) else (some false)) else (some false)) else (some false)) else (some false)) else (some false)))))))))))) else (some false))
theorem careenagelaw01_OctetNames.mono : ∀ k, LeO (careenagelaw01_OctetNames.f k ) (careenagelaw01_OctetNames.f (k + 1) ) := by
  intro  k
  unfold careenagelaw01_OctetNames.f
  repeat' first
      | (with_reducible exact careenagelaw01_lives.mono _)
      | (with_reducible exact octet_Put.mono _ _ _ _)
      | (with_reducible exact octet_Reader_Number.mono _ _ _)
      | (with_reducible exact octet_Zero.mono _ _)
      | (with_reducible exact LeO.refl _)
      | (with_reducible exact LeO.none _)
      | (with_reducible refine LeO.ite ?_ ?_)
      | (with_reducible refine LeO.bind ?_ (fun _ => ?_))
      | exact careenagelaw01_lives.mono _
      | exact octet_Put.mono _ _ _ _
      | exact octet_Reader_Number.mono _ _ _
      | exact octet_Zero.mono _ _
      | exact LeO.none _
      | refine LeO.ite ?_ ?_
      | refine LeO.bind ?_ (fun _ => ?_)
set_option maxHeartbeats 8000000 in
set_option maxRecDepth 100000 in
theorem careenagelaw01_OctetNames.calls (k : Nat)  (r : Bool) (w : World) (hr_ : r = true) (h : careenagelaw01_OctetNames.f k  = some r) :
    Calls Try.prog 12 #[] w fun e w' => e = .returned (.bool r) ∧ Below w.heap.size w w' := by
  have HB := Aside0.mk (Below.refl w.heap.size w)
  have H : ((careenagelaw01_lives.f k).bind fun t198 => (if t198 = true then ((octet_New.f (⟨#[2, 1, 97, 98, 99]⟩ : ByteArray)).bind fun t199 => ((octet_Reader_Number.f k t199 2).bind fun bt201 => ((octet_Reader_Number.f k bt201.2.2 0).bind fun bt204 => ((octet_Reader_Number.f k bt204.2.2 9).bind fun bt207 => ((octet_Reader_Number.f k bt207.2.2 4).bind fun bt210 => ((octet_Reader_Bytes.f bt210.2.2 (-1)).bind fun bt213 => ((octet_Reader_Bytes.f bt213.2.2 4).bind fun bt216 => ((octet_Reader_Bytes.f bt216.2.2 1).bind fun bt219 => ((octet_Reader_Number_nil.f 1).bind fun bt222 => ((octet_Reader_Bytes_nil.f 1).bind fun bt224 => (if bt201.2.1 = 0 then (if bt201.1 = 258 then (if bt204.2.1 = 2 then (if bt207.2.1 = 2 then (if bt210.2.1 = 7 then (if bt213.2.1 = 2 then (if bt216.2.1 = 7 then (if bt219.2.1 = 0 then (if bt219.1.toList = ([97] : List UInt8) then ((octet_Reader_Left.f bt219.2.2).bind fun t226 => (if t226 = 2 then ((octet_Reader_Rest.f bt219.2.2).bind fun t227 => (if t227.toList = ([98, 99] : List UInt8) then (if bt222.2 = 1 then (if bt224.2 = 1 then ((octet_Reader_Left_nil.f).bind fun t228 => (if t228 = 0 then ((octet_Reader_Rest_nil.f).bind fun t229 => (if t229.toList = ([] : List UInt8) then ((octet_Zero.f k (⟨#[]⟩ : ByteArray)).bind fun t230 => (if t230 = true then ((octet_Zero.f k (⟨#[0, 1]⟩ : ByteArray)).bind fun t231 => (if t231 = true then (some false) else ((octet_Put.f k (([120] : List Int)) 1 0).bind fun t235 => (if (strOfNums t235).toList = ([120] : List UInt8) then ((octet_Put.f k (([120] : List Int)) 1 9).bind fun t241 => (some ((strOfNums t241).toList == ([120] : List UInt8)))) else (some false))))) else (some false))) else (some false))) else (some false))) else (some false)) else (some false)) else (some false))) else (some false))) else (some false)) else (some false)) else (some false)) else (some false)) else (some false)) else (some false)) else (some false)) else (some false)) else (some false)))))))))))) else (some false))) = some r := h
  clear h
  have HLaw := Aside0.mk hr_
  clear hr_
  replace H := Option.bind_eq_some_iff.mp H
  obtain ⟨t198, A10, H⟩ := H
  replace H : (if t198 = true then ((octet_New.f (⟨#[2, 1, 97, 98, 99]⟩ : ByteArray)).bind fun t199 => ((octet_Reader_Number.f k t199 2).bind fun bt201 => ((octet_Reader_Number.f k bt201.2.2 0).bind fun bt204 => ((octet_Reader_Number.f k bt204.2.2 9).bind fun bt207 => ((octet_Reader_Number.f k bt207.2.2 4).bind fun bt210 => ((octet_Reader_Bytes.f bt210.2.2 (-1)).bind fun bt213 => ((octet_Reader_Bytes.f bt213.2.2 4).bind fun bt216 => ((octet_Reader_Bytes.f bt216.2.2 1).bind fun bt219 => ((octet_Reader_Number_nil.f 1).bind fun bt222 => ((octet_Reader_Bytes_nil.f 1).bind fun bt224 => (if bt201.2.1 = 0 then (if bt201.1 = 258 then (if bt204.2.1 = 2 then (if bt207.2.1 = 2 then (if bt210.2.1 = 7 then (if bt213.2.1 = 2 then (if bt216.2.1 = 7 then (if bt219.2.1 = 0 then (if bt219.1.toList = ([97] : List UInt8) then ((octet_Reader_Left.f bt219.2.2).bind fun t226 => (if t226 = 2 then ((octet_Reader_Rest.f bt219.2.2).bind fun t227 => (if t227.toList = ([98, 99] : List UInt8) then (if bt222.2 = 1 then (if bt224.2 = 1 then ((octet_Reader_Left_nil.f).bind fun t228 => (if t228 = 0 then ((octet_Reader_Rest_nil.f).bind fun t229 => (if t229.toList = ([] : List UInt8) then ((octet_Zero.f k (⟨#[]⟩ : ByteArray)).bind fun t230 => (if t230 = true then ((octet_Zero.f k (⟨#[0, 1]⟩ : ByteArray)).bind fun t231 => (if t231 = true then (some false) else ((octet_Put.f k (([120] : List Int)) 1 0).bind fun t235 => (if (strOfNums t235).toList = ([120] : List UInt8) then ((octet_Put.f k (([120] : List Int)) 1 9).bind fun t241 => (some ((strOfNums t241).toList == ([120] : List UInt8)))) else (some false))))) else (some false))) else (some false))) else (some false))) else (some false)) else (some false)) else (some false))) else (some false))) else (some false)) else (some false)) else (some false)) else (some false)) else (some false)) else (some false)) else (some false)) else (some false)) else (some false)))))))))))) else (some false)) = some r := H
  have A1 := Aside0.mk A10
  clear A10
  by_cases c2 : t198 = true
  · subst c2
    have H1 : ((octet_New.f (⟨#[2, 1, 97, 98, 99]⟩ : ByteArray)).bind fun t199 => ((octet_Reader_Number.f k t199 2).bind fun bt201 => ((octet_Reader_Number.f k bt201.2.2 0).bind fun bt204 => ((octet_Reader_Number.f k bt204.2.2 9).bind fun bt207 => ((octet_Reader_Number.f k bt207.2.2 4).bind fun bt210 => ((octet_Reader_Bytes.f bt210.2.2 (-1)).bind fun bt213 => ((octet_Reader_Bytes.f bt213.2.2 4).bind fun bt216 => ((octet_Reader_Bytes.f bt216.2.2 1).bind fun bt219 => ((octet_Reader_Number_nil.f 1).bind fun bt222 => ((octet_Reader_Bytes_nil.f 1).bind fun bt224 => (if bt201.2.1 = 0 then (if bt201.1 = 258 then (if bt204.2.1 = 2 then (if bt207.2.1 = 2 then (if bt210.2.1 = 7 then (if bt213.2.1 = 2 then (if bt216.2.1 = 7 then (if bt219.2.1 = 0 then (if bt219.1.toList = ([97] : List UInt8) then ((octet_Reader_Left.f bt219.2.2).bind fun t226 => (if t226 = 2 then ((octet_Reader_Rest.f bt219.2.2).bind fun t227 => (if t227.toList = ([98, 99] : List UInt8) then (if bt222.2 = 1 then (if bt224.2 = 1 then ((octet_Reader_Left_nil.f).bind fun t228 => (if t228 = 0 then ((octet_Reader_Rest_nil.f).bind fun t229 => (if t229.toList = ([] : List UInt8) then ((octet_Zero.f k (⟨#[]⟩ : ByteArray)).bind fun t230 => (if t230 = true then ((octet_Zero.f k (⟨#[0, 1]⟩ : ByteArray)).bind fun t231 => (if t231 = true then (some false) else ((octet_Put.f k (([120] : List Int)) 1 0).bind fun t235 => (if (strOfNums t235).toList = ([120] : List UInt8) then ((octet_Put.f k (([120] : List Int)) 1 9).bind fun t241 => (some ((strOfNums t241).toList == ([120] : List UInt8)))) else (some false))))) else (some false))) else (some false))) else (some false))) else (some false)) else (some false)) else (some false))) else (some false))) else (some false)) else (some false)) else (some false)) else (some false)) else (some false)) else (some false)) else (some false)) else (some false)) else (some false)))))))))))) = some r := by rw [if_pos rfl] at H; exact H
    clear H
    have H := H1
    clear H1
    replace H := Option.bind_eq_some_iff.mp H
    obtain ⟨t199, A30, H⟩ := H
    replace H : ((octet_Reader_Number.f k t199 2).bind fun bt201 => ((octet_Reader_Number.f k bt201.2.2 0).bind fun bt204 => ((octet_Reader_Number.f k bt204.2.2 9).bind fun bt207 => ((octet_Reader_Number.f k bt207.2.2 4).bind fun bt210 => ((octet_Reader_Bytes.f bt210.2.2 (-1)).bind fun bt213 => ((octet_Reader_Bytes.f bt213.2.2 4).bind fun bt216 => ((octet_Reader_Bytes.f bt216.2.2 1).bind fun bt219 => ((octet_Reader_Number_nil.f 1).bind fun bt222 => ((octet_Reader_Bytes_nil.f 1).bind fun bt224 => (if bt201.2.1 = 0 then (if bt201.1 = 258 then (if bt204.2.1 = 2 then (if bt207.2.1 = 2 then (if bt210.2.1 = 7 then (if bt213.2.1 = 2 then (if bt216.2.1 = 7 then (if bt219.2.1 = 0 then (if bt219.1.toList = ([97] : List UInt8) then ((octet_Reader_Left.f bt219.2.2).bind fun t226 => (if t226 = 2 then ((octet_Reader_Rest.f bt219.2.2).bind fun t227 => (if t227.toList = ([98, 99] : List UInt8) then (if bt222.2 = 1 then (if bt224.2 = 1 then ((octet_Reader_Left_nil.f).bind fun t228 => (if t228 = 0 then ((octet_Reader_Rest_nil.f).bind fun t229 => (if t229.toList = ([] : List UInt8) then ((octet_Zero.f k (⟨#[]⟩ : ByteArray)).bind fun t230 => (if t230 = true then ((octet_Zero.f k (⟨#[0, 1]⟩ : ByteArray)).bind fun t231 => (if t231 = true then (some false) else ((octet_Put.f k (([120] : List Int)) 1 0).bind fun t235 => (if (strOfNums t235).toList = ([120] : List UInt8) then ((octet_Put.f k (([120] : List Int)) 1 9).bind fun t241 => (some ((strOfNums t241).toList == ([120] : List UInt8)))) else (some false))))) else (some false))) else (some false))) else (some false))) else (some false)) else (some false)) else (some false))) else (some false))) else (some false)) else (some false)) else (some false)) else (some false)) else (some false)) else (some false)) else (some false)) else (some false)) else (some false))))))))))) = some r := H
    have A3 := Aside0.mk A30
    clear A30
    replace H := Option.bind_eq_some_iff.mp H
    obtain ⟨⟨t201, t202, t203⟩, A40, H⟩ := H
    replace H : ((octet_Reader_Number.f k t203 0).bind fun bt204 => ((octet_Reader_Number.f k bt204.2.2 9).bind fun bt207 => ((octet_Reader_Number.f k bt207.2.2 4).bind fun bt210 => ((octet_Reader_Bytes.f bt210.2.2 (-1)).bind fun bt213 => ((octet_Reader_Bytes.f bt213.2.2 4).bind fun bt216 => ((octet_Reader_Bytes.f bt216.2.2 1).bind fun bt219 => ((octet_Reader_Number_nil.f 1).bind fun bt222 => ((octet_Reader_Bytes_nil.f 1).bind fun bt224 => (if t202 = 0 then (if t201 = 258 then (if bt204.2.1 = 2 then (if bt207.2.1 = 2 then (if bt210.2.1 = 7 then (if bt213.2.1 = 2 then (if bt216.2.1 = 7 then (if bt219.2.1 = 0 then (if bt219.1.toList = ([97] : List UInt8) then ((octet_Reader_Left.f bt219.2.2).bind fun t226 => (if t226 = 2 then ((octet_Reader_Rest.f bt219.2.2).bind fun t227 => (if t227.toList = ([98, 99] : List UInt8) then (if bt222.2 = 1 then (if bt224.2 = 1 then ((octet_Reader_Left_nil.f).bind fun t228 => (if t228 = 0 then ((octet_Reader_Rest_nil.f).bind fun t229 => (if t229.toList = ([] : List UInt8) then ((octet_Zero.f k (⟨#[]⟩ : ByteArray)).bind fun t230 => (if t230 = true then ((octet_Zero.f k (⟨#[0, 1]⟩ : ByteArray)).bind fun t231 => (if t231 = true then (some false) else ((octet_Put.f k (([120] : List Int)) 1 0).bind fun t235 => (if (strOfNums t235).toList = ([120] : List UInt8) then ((octet_Put.f k (([120] : List Int)) 1 9).bind fun t241 => (some ((strOfNums t241).toList == ([120] : List UInt8)))) else (some false))))) else (some false))) else (some false))) else (some false))) else (some false)) else (some false)) else (some false))) else (some false))) else (some false)) else (some false)) else (some false)) else (some false)) else (some false)) else (some false)) else (some false)) else (some false)) else (some false)))))))))) = some r := H
    have A4 := Aside0.mk A40
    clear A40
    replace H := Option.bind_eq_some_iff.mp H
    obtain ⟨⟨t204, t205, t206⟩, A50, H⟩ := H
    replace H : ((octet_Reader_Number.f k t206 9).bind fun bt207 => ((octet_Reader_Number.f k bt207.2.2 4).bind fun bt210 => ((octet_Reader_Bytes.f bt210.2.2 (-1)).bind fun bt213 => ((octet_Reader_Bytes.f bt213.2.2 4).bind fun bt216 => ((octet_Reader_Bytes.f bt216.2.2 1).bind fun bt219 => ((octet_Reader_Number_nil.f 1).bind fun bt222 => ((octet_Reader_Bytes_nil.f 1).bind fun bt224 => (if t202 = 0 then (if t201 = 258 then (if t205 = 2 then (if bt207.2.1 = 2 then (if bt210.2.1 = 7 then (if bt213.2.1 = 2 then (if bt216.2.1 = 7 then (if bt219.2.1 = 0 then (if bt219.1.toList = ([97] : List UInt8) then ((octet_Reader_Left.f bt219.2.2).bind fun t226 => (if t226 = 2 then ((octet_Reader_Rest.f bt219.2.2).bind fun t227 => (if t227.toList = ([98, 99] : List UInt8) then (if bt222.2 = 1 then (if bt224.2 = 1 then ((octet_Reader_Left_nil.f).bind fun t228 => (if t228 = 0 then ((octet_Reader_Rest_nil.f).bind fun t229 => (if t229.toList = ([] : List UInt8) then ((octet_Zero.f k (⟨#[]⟩ : ByteArray)).bind fun t230 => (if t230 = true then ((octet_Zero.f k (⟨#[0, 1]⟩ : ByteArray)).bind fun t231 => (if t231 = true then (some false) else ((octet_Put.f k (([120] : List Int)) 1 0).bind fun t235 => (if (strOfNums t235).toList = ([120] : List UInt8) then ((octet_Put.f k (([120] : List Int)) 1 9).bind fun t241 => (some ((strOfNums t241).toList == ([120] : List UInt8)))) else (some false))))) else (some false))) else (some false))) else (some false))) else (some false)) else (some false)) else (some false))) else (some false))) else (some false)) else (some false)) else (some false)) else (some false)) else (some false)) else (some false)) else (some false)) else (some false)) else (some false))))))))) = some r := H
    have A5 := Aside0.mk A50
    clear A50
    replace H := Option.bind_eq_some_iff.mp H
    obtain ⟨⟨t207, t208, t209⟩, A60, H⟩ := H
    replace H : ((octet_Reader_Number.f k t209 4).bind fun bt210 => ((octet_Reader_Bytes.f bt210.2.2 (-1)).bind fun bt213 => ((octet_Reader_Bytes.f bt213.2.2 4).bind fun bt216 => ((octet_Reader_Bytes.f bt216.2.2 1).bind fun bt219 => ((octet_Reader_Number_nil.f 1).bind fun bt222 => ((octet_Reader_Bytes_nil.f 1).bind fun bt224 => (if t202 = 0 then (if t201 = 258 then (if t205 = 2 then (if t208 = 2 then (if bt210.2.1 = 7 then (if bt213.2.1 = 2 then (if bt216.2.1 = 7 then (if bt219.2.1 = 0 then (if bt219.1.toList = ([97] : List UInt8) then ((octet_Reader_Left.f bt219.2.2).bind fun t226 => (if t226 = 2 then ((octet_Reader_Rest.f bt219.2.2).bind fun t227 => (if t227.toList = ([98, 99] : List UInt8) then (if bt222.2 = 1 then (if bt224.2 = 1 then ((octet_Reader_Left_nil.f).bind fun t228 => (if t228 = 0 then ((octet_Reader_Rest_nil.f).bind fun t229 => (if t229.toList = ([] : List UInt8) then ((octet_Zero.f k (⟨#[]⟩ : ByteArray)).bind fun t230 => (if t230 = true then ((octet_Zero.f k (⟨#[0, 1]⟩ : ByteArray)).bind fun t231 => (if t231 = true then (some false) else ((octet_Put.f k (([120] : List Int)) 1 0).bind fun t235 => (if (strOfNums t235).toList = ([120] : List UInt8) then ((octet_Put.f k (([120] : List Int)) 1 9).bind fun t241 => (some ((strOfNums t241).toList == ([120] : List UInt8)))) else (some false))))) else (some false))) else (some false))) else (some false))) else (some false)) else (some false)) else (some false))) else (some false))) else (some false)) else (some false)) else (some false)) else (some false)) else (some false)) else (some false)) else (some false)) else (some false)) else (some false)))))))) = some r := H
    have A6 := Aside0.mk A60
    clear A60
    replace H := Option.bind_eq_some_iff.mp H
    obtain ⟨⟨t210, t211, t212⟩, A70, H⟩ := H
    replace H : ((octet_Reader_Bytes.f t212 (-1)).bind fun bt213 => ((octet_Reader_Bytes.f bt213.2.2 4).bind fun bt216 => ((octet_Reader_Bytes.f bt216.2.2 1).bind fun bt219 => ((octet_Reader_Number_nil.f 1).bind fun bt222 => ((octet_Reader_Bytes_nil.f 1).bind fun bt224 => (if t202 = 0 then (if t201 = 258 then (if t205 = 2 then (if t208 = 2 then (if t211 = 7 then (if bt213.2.1 = 2 then (if bt216.2.1 = 7 then (if bt219.2.1 = 0 then (if bt219.1.toList = ([97] : List UInt8) then ((octet_Reader_Left.f bt219.2.2).bind fun t226 => (if t226 = 2 then ((octet_Reader_Rest.f bt219.2.2).bind fun t227 => (if t227.toList = ([98, 99] : List UInt8) then (if bt222.2 = 1 then (if bt224.2 = 1 then ((octet_Reader_Left_nil.f).bind fun t228 => (if t228 = 0 then ((octet_Reader_Rest_nil.f).bind fun t229 => (if t229.toList = ([] : List UInt8) then ((octet_Zero.f k (⟨#[]⟩ : ByteArray)).bind fun t230 => (if t230 = true then ((octet_Zero.f k (⟨#[0, 1]⟩ : ByteArray)).bind fun t231 => (if t231 = true then (some false) else ((octet_Put.f k (([120] : List Int)) 1 0).bind fun t235 => (if (strOfNums t235).toList = ([120] : List UInt8) then ((octet_Put.f k (([120] : List Int)) 1 9).bind fun t241 => (some ((strOfNums t241).toList == ([120] : List UInt8)))) else (some false))))) else (some false))) else (some false))) else (some false))) else (some false)) else (some false)) else (some false))) else (some false))) else (some false)) else (some false)) else (some false)) else (some false)) else (some false)) else (some false)) else (some false)) else (some false)) else (some false))))))) = some r := H
    have A7 := Aside0.mk A70
    clear A70
    replace H := Option.bind_eq_some_iff.mp H
    obtain ⟨⟨t213, t214, t215⟩, A80, H⟩ := H
    replace H : ((octet_Reader_Bytes.f t215 4).bind fun bt216 => ((octet_Reader_Bytes.f bt216.2.2 1).bind fun bt219 => ((octet_Reader_Number_nil.f 1).bind fun bt222 => ((octet_Reader_Bytes_nil.f 1).bind fun bt224 => (if t202 = 0 then (if t201 = 258 then (if t205 = 2 then (if t208 = 2 then (if t211 = 7 then (if t214 = 2 then (if bt216.2.1 = 7 then (if bt219.2.1 = 0 then (if bt219.1.toList = ([97] : List UInt8) then ((octet_Reader_Left.f bt219.2.2).bind fun t226 => (if t226 = 2 then ((octet_Reader_Rest.f bt219.2.2).bind fun t227 => (if t227.toList = ([98, 99] : List UInt8) then (if bt222.2 = 1 then (if bt224.2 = 1 then ((octet_Reader_Left_nil.f).bind fun t228 => (if t228 = 0 then ((octet_Reader_Rest_nil.f).bind fun t229 => (if t229.toList = ([] : List UInt8) then ((octet_Zero.f k (⟨#[]⟩ : ByteArray)).bind fun t230 => (if t230 = true then ((octet_Zero.f k (⟨#[0, 1]⟩ : ByteArray)).bind fun t231 => (if t231 = true then (some false) else ((octet_Put.f k (([120] : List Int)) 1 0).bind fun t235 => (if (strOfNums t235).toList = ([120] : List UInt8) then ((octet_Put.f k (([120] : List Int)) 1 9).bind fun t241 => (some ((strOfNums t241).toList == ([120] : List UInt8)))) else (some false))))) else (some false))) else (some false))) else (some false))) else (some false)) else (some false)) else (some false))) else (some false))) else (some false)) else (some false)) else (some false)) else (some false)) else (some false)) else (some false)) else (some false)) else (some false)) else (some false)))))) = some r := H
    have A8 := Aside0.mk A80
    clear A80
    replace H := Option.bind_eq_some_iff.mp H
    obtain ⟨⟨t216, t217, t218⟩, A90, H⟩ := H
    replace H : ((octet_Reader_Bytes.f t218 1).bind fun bt219 => ((octet_Reader_Number_nil.f 1).bind fun bt222 => ((octet_Reader_Bytes_nil.f 1).bind fun bt224 => (if t202 = 0 then (if t201 = 258 then (if t205 = 2 then (if t208 = 2 then (if t211 = 7 then (if t214 = 2 then (if t217 = 7 then (if bt219.2.1 = 0 then (if bt219.1.toList = ([97] : List UInt8) then ((octet_Reader_Left.f bt219.2.2).bind fun t226 => (if t226 = 2 then ((octet_Reader_Rest.f bt219.2.2).bind fun t227 => (if t227.toList = ([98, 99] : List UInt8) then (if bt222.2 = 1 then (if bt224.2 = 1 then ((octet_Reader_Left_nil.f).bind fun t228 => (if t228 = 0 then ((octet_Reader_Rest_nil.f).bind fun t229 => (if t229.toList = ([] : List UInt8) then ((octet_Zero.f k (⟨#[]⟩ : ByteArray)).bind fun t230 => (if t230 = true then ((octet_Zero.f k (⟨#[0, 1]⟩ : ByteArray)).bind fun t231 => (if t231 = true then (some false) else ((octet_Put.f k (([120] : List Int)) 1 0).bind fun t235 => (if (strOfNums t235).toList = ([120] : List UInt8) then ((octet_Put.f k (([120] : List Int)) 1 9).bind fun t241 => (some ((strOfNums t241).toList == ([120] : List UInt8)))) else (some false))))) else (some false))) else (some false))) else (some false))) else (some false)) else (some false)) else (some false))) else (some false))) else (some false)) else (some false)) else (some false)) else (some false)) else (some false)) else (some false)) else (some false)) else (some false)) else (some false))))) = some r := H
    have A9 := Aside0.mk A90
    clear A90
    replace H := Option.bind_eq_some_iff.mp H
    obtain ⟨⟨t219, t220, t221⟩, A100, H⟩ := H
    replace H : ((octet_Reader_Number_nil.f 1).bind fun bt222 => ((octet_Reader_Bytes_nil.f 1).bind fun bt224 => (if t202 = 0 then (if t201 = 258 then (if t205 = 2 then (if t208 = 2 then (if t211 = 7 then (if t214 = 2 then (if t217 = 7 then (if t220 = 0 then (if t219.toList = ([97] : List UInt8) then ((octet_Reader_Left.f t221).bind fun t226 => (if t226 = 2 then ((octet_Reader_Rest.f t221).bind fun t227 => (if t227.toList = ([98, 99] : List UInt8) then (if bt222.2 = 1 then (if bt224.2 = 1 then ((octet_Reader_Left_nil.f).bind fun t228 => (if t228 = 0 then ((octet_Reader_Rest_nil.f).bind fun t229 => (if t229.toList = ([] : List UInt8) then ((octet_Zero.f k (⟨#[]⟩ : ByteArray)).bind fun t230 => (if t230 = true then ((octet_Zero.f k (⟨#[0, 1]⟩ : ByteArray)).bind fun t231 => (if t231 = true then (some false) else ((octet_Put.f k (([120] : List Int)) 1 0).bind fun t235 => (if (strOfNums t235).toList = ([120] : List UInt8) then ((octet_Put.f k (([120] : List Int)) 1 9).bind fun t241 => (some ((strOfNums t241).toList == ([120] : List UInt8)))) else (some false))))) else (some false))) else (some false))) else (some false))) else (some false)) else (some false)) else (some false))) else (some false))) else (some false)) else (some false)) else (some false)) else (some false)) else (some false)) else (some false)) else (some false)) else (some false)) else (some false)))) = some r := H
    have A10 := Aside0.mk A100
    clear A100
    replace H := Option.bind_eq_some_iff.mp H
    obtain ⟨⟨t222, t223⟩, A110, H⟩ := H
    replace H : ((octet_Reader_Bytes_nil.f 1).bind fun bt224 => (if t202 = 0 then (if t201 = 258 then (if t205 = 2 then (if t208 = 2 then (if t211 = 7 then (if t214 = 2 then (if t217 = 7 then (if t220 = 0 then (if t219.toList = ([97] : List UInt8) then ((octet_Reader_Left.f t221).bind fun t226 => (if t226 = 2 then ((octet_Reader_Rest.f t221).bind fun t227 => (if t227.toList = ([98, 99] : List UInt8) then (if t223 = 1 then (if bt224.2 = 1 then ((octet_Reader_Left_nil.f).bind fun t228 => (if t228 = 0 then ((octet_Reader_Rest_nil.f).bind fun t229 => (if t229.toList = ([] : List UInt8) then ((octet_Zero.f k (⟨#[]⟩ : ByteArray)).bind fun t230 => (if t230 = true then ((octet_Zero.f k (⟨#[0, 1]⟩ : ByteArray)).bind fun t231 => (if t231 = true then (some false) else ((octet_Put.f k (([120] : List Int)) 1 0).bind fun t235 => (if (strOfNums t235).toList = ([120] : List UInt8) then ((octet_Put.f k (([120] : List Int)) 1 9).bind fun t241 => (some ((strOfNums t241).toList == ([120] : List UInt8)))) else (some false))))) else (some false))) else (some false))) else (some false))) else (some false)) else (some false)) else (some false))) else (some false))) else (some false)) else (some false)) else (some false)) else (some false)) else (some false)) else (some false)) else (some false)) else (some false)) else (some false))) = some r := H
    have A11 := Aside0.mk A110
    clear A110
    replace H := Option.bind_eq_some_iff.mp H
    obtain ⟨⟨t224, t225⟩, A120, H⟩ := H
    replace H : (if t202 = 0 then (if t201 = 258 then (if t205 = 2 then (if t208 = 2 then (if t211 = 7 then (if t214 = 2 then (if t217 = 7 then (if t220 = 0 then (if t219.toList = ([97] : List UInt8) then ((octet_Reader_Left.f t221).bind fun t226 => (if t226 = 2 then ((octet_Reader_Rest.f t221).bind fun t227 => (if t227.toList = ([98, 99] : List UInt8) then (if t223 = 1 then (if t225 = 1 then ((octet_Reader_Left_nil.f).bind fun t228 => (if t228 = 0 then ((octet_Reader_Rest_nil.f).bind fun t229 => (if t229.toList = ([] : List UInt8) then ((octet_Zero.f k (⟨#[]⟩ : ByteArray)).bind fun t230 => (if t230 = true then ((octet_Zero.f k (⟨#[0, 1]⟩ : ByteArray)).bind fun t231 => (if t231 = true then (some false) else ((octet_Put.f k (([120] : List Int)) 1 0).bind fun t235 => (if (strOfNums t235).toList = ([120] : List UInt8) then ((octet_Put.f k (([120] : List Int)) 1 9).bind fun t241 => (some ((strOfNums t241).toList == ([120] : List UInt8)))) else (some false))))) else (some false))) else (some false))) else (some false))) else (some false)) else (some false)) else (some false))) else (some false))) else (some false)) else (some false)) else (some false)) else (some false)) else (some false)) else (some false)) else (some false)) else (some false)) else (some false)) = some r := H
    have A12 := Aside0.mk A120
    clear A120
    by_cases c13 : t202 = 0
    · rw [if_pos c13] at H
      have c13b0 : (t202 == 0) = true := beq_iff_eq.mpr c13
      have c13b1 : (t202 != 0) = false := bne_eq_false_iff_eq.mpr c13
      clear c13
      by_cases c14 : t201 = 258
      · rw [if_pos c14] at H
        have c14b0 : (t201 == 258) = true := beq_iff_eq.mpr c14
        have c14b1 : (t201 != 258) = false := bne_eq_false_iff_eq.mpr c14
        clear c14
        by_cases c15 : t205 = 2
        · rw [if_pos c15] at H
          have c15b0 : (t205 == 2) = true := beq_iff_eq.mpr c15
          have c15b1 : (t205 != 2) = false := bne_eq_false_iff_eq.mpr c15
          clear c15
          by_cases c16 : t208 = 2
          · rw [if_pos c16] at H
            have c16b0 : (t208 == 2) = true := beq_iff_eq.mpr c16
            have c16b1 : (t208 != 2) = false := bne_eq_false_iff_eq.mpr c16
            clear c16
            by_cases c17 : t211 = 7
            · rw [if_pos c17] at H
              have c17b0 : (t211 == 7) = true := beq_iff_eq.mpr c17
              have c17b1 : (t211 != 7) = false := bne_eq_false_iff_eq.mpr c17
              clear c17
              by_cases c18 : t214 = 2
              · rw [if_pos c18] at H
                have c18b0 : (t214 == 2) = true := beq_iff_eq.mpr c18
                have c18b1 : (t214 != 2) = false := bne_eq_false_iff_eq.mpr c18
                clear c18
                by_cases c19 : t217 = 7
                · rw [if_pos c19] at H
                  have c19b0 : (t217 == 7) = true := beq_iff_eq.mpr c19
                  have c19b1 : (t217 != 7) = false := bne_eq_false_iff_eq.mpr c19
                  clear c19
                  by_cases c20 : t220 = 0
                  · rw [if_pos c20] at H
                    have c20b0 : (t220 == 0) = true := beq_iff_eq.mpr c20
                    have c20b1 : (t220 != 0) = false := bne_eq_false_iff_eq.mpr c20
                    clear c20
                    by_cases c21 : t219.toList = ([97] : List UInt8)
                    · rw [if_pos c21] at H
                      have c21b0 : (t219.toList == ([97] : List UInt8)) = true := beq_iff_eq.mpr c21
                      have c21b1 : (t219.toList != ([97] : List UInt8)) = false := bne_eq_false_iff_eq.mpr c21
                      clear c21
                      replace H := Option.bind_eq_some_iff.mp H
                      obtain ⟨t226, A220, H⟩ := H
                      replace H : (if t226 = 2 then ((octet_Reader_Rest.f t221).bind fun t227 => (if t227.toList = ([98, 99] : List UInt8) then (if t223 = 1 then (if t225 = 1 then ((octet_Reader_Left_nil.f).bind fun t228 => (if t228 = 0 then ((octet_Reader_Rest_nil.f).bind fun t229 => (if t229.toList = ([] : List UInt8) then ((octet_Zero.f k (⟨#[]⟩ : ByteArray)).bind fun t230 => (if t230 = true then ((octet_Zero.f k (⟨#[0, 1]⟩ : ByteArray)).bind fun t231 => (if t231 = true then (some false) else ((octet_Put.f k (([120] : List Int)) 1 0).bind fun t235 => (if (strOfNums t235).toList = ([120] : List UInt8) then ((octet_Put.f k (([120] : List Int)) 1 9).bind fun t241 => (some ((strOfNums t241).toList == ([120] : List UInt8)))) else (some false))))) else (some false))) else (some false))) else (some false))) else (some false)) else (some false)) else (some false))) else (some false)) = some r := H
                      have A22 := Aside0.mk A220
                      clear A220
                      by_cases c23 : t226 = 2
                      · rw [if_pos c23] at H
                        have c23b0 : (t226 == 2) = true := beq_iff_eq.mpr c23
                        have c23b1 : (t226 != 2) = false := bne_eq_false_iff_eq.mpr c23
                        clear c23
                        replace H := Option.bind_eq_some_iff.mp H
                        obtain ⟨t227, A240, H⟩ := H
                        replace H : (if t227.toList = ([98, 99] : List UInt8) then (if t223 = 1 then (if t225 = 1 then ((octet_Reader_Left_nil.f).bind fun t228 => (if t228 = 0 then ((octet_Reader_Rest_nil.f).bind fun t229 => (if t229.toList = ([] : List UInt8) then ((octet_Zero.f k (⟨#[]⟩ : ByteArray)).bind fun t230 => (if t230 = true then ((octet_Zero.f k (⟨#[0, 1]⟩ : ByteArray)).bind fun t231 => (if t231 = true then (some false) else ((octet_Put.f k (([120] : List Int)) 1 0).bind fun t235 => (if (strOfNums t235).toList = ([120] : List UInt8) then ((octet_Put.f k (([120] : List Int)) 1 9).bind fun t241 => (some ((strOfNums t241).toList == ([120] : List UInt8)))) else (some false))))) else (some false))) else (some false))) else (some false))) else (some false)) else (some false)) else (some false)) = some r := H
                        have A24 := Aside0.mk A240
                        clear A240
                        by_cases c25 : t227.toList = ([98, 99] : List UInt8)
                        · rw [if_pos c25] at H
                          have c25b0 : (t227.toList == ([98, 99] : List UInt8)) = true := beq_iff_eq.mpr c25
                          have c25b1 : (t227.toList != ([98, 99] : List UInt8)) = false := bne_eq_false_iff_eq.mpr c25
                          clear c25
                          by_cases c26 : t223 = 1
                          · rw [if_pos c26] at H
                            have c26b0 : (t223 == 1) = true := beq_iff_eq.mpr c26
                            have c26b1 : (t223 != 1) = false := bne_eq_false_iff_eq.mpr c26
                            clear c26
                            by_cases c27 : t225 = 1
                            · rw [if_pos c27] at H
                              have c27b0 : (t225 == 1) = true := beq_iff_eq.mpr c27
                              have c27b1 : (t225 != 1) = false := bne_eq_false_iff_eq.mpr c27
                              clear c27
                              replace H := Option.bind_eq_some_iff.mp H
                              obtain ⟨t228, A280, H⟩ := H
                              replace H : (if t228 = 0 then ((octet_Reader_Rest_nil.f).bind fun t229 => (if t229.toList = ([] : List UInt8) then ((octet_Zero.f k (⟨#[]⟩ : ByteArray)).bind fun t230 => (if t230 = true then ((octet_Zero.f k (⟨#[0, 1]⟩ : ByteArray)).bind fun t231 => (if t231 = true then (some false) else ((octet_Put.f k (([120] : List Int)) 1 0).bind fun t235 => (if (strOfNums t235).toList = ([120] : List UInt8) then ((octet_Put.f k (([120] : List Int)) 1 9).bind fun t241 => (some ((strOfNums t241).toList == ([120] : List UInt8)))) else (some false))))) else (some false))) else (some false))) else (some false)) = some r := H
                              have A28 := Aside0.mk A280
                              clear A280
                              by_cases c29 : t228 = 0
                              · rw [if_pos c29] at H
                                have c29b0 : (t228 == 0) = true := beq_iff_eq.mpr c29
                                have c29b1 : (t228 != 0) = false := bne_eq_false_iff_eq.mpr c29
                                clear c29
                                replace H := Option.bind_eq_some_iff.mp H
                                obtain ⟨t229, A300, H⟩ := H
                                replace H : (if t229.toList = ([] : List UInt8) then ((octet_Zero.f k (⟨#[]⟩ : ByteArray)).bind fun t230 => (if t230 = true then ((octet_Zero.f k (⟨#[0, 1]⟩ : ByteArray)).bind fun t231 => (if t231 = true then (some false) else ((octet_Put.f k (([120] : List Int)) 1 0).bind fun t235 => (if (strOfNums t235).toList = ([120] : List UInt8) then ((octet_Put.f k (([120] : List Int)) 1 9).bind fun t241 => (some ((strOfNums t241).toList == ([120] : List UInt8)))) else (some false))))) else (some false))) else (some false)) = some r := H
                                have A30 := Aside0.mk A300
                                clear A300
                                by_cases c31 : t229.toList = ([] : List UInt8)
                                · rw [if_pos c31] at H
                                  have c31b0 : (t229.toList == ([] : List UInt8)) = true := beq_iff_eq.mpr c31
                                  have c31b1 : (t229.toList != ([] : List UInt8)) = false := bne_eq_false_iff_eq.mpr c31
                                  clear c31
                                  replace H := Option.bind_eq_some_iff.mp H
                                  obtain ⟨t230, A320, H⟩ := H
                                  replace H : (if t230 = true then ((octet_Zero.f k (⟨#[0, 1]⟩ : ByteArray)).bind fun t231 => (if t231 = true then (some false) else ((octet_Put.f k (([120] : List Int)) 1 0).bind fun t235 => (if (strOfNums t235).toList = ([120] : List UInt8) then ((octet_Put.f k (([120] : List Int)) 1 9).bind fun t241 => (some ((strOfNums t241).toList == ([120] : List UInt8)))) else (some false))))) else (some false)) = some r := H
                                  have A32 := Aside0.mk A320
                                  clear A320
                                  by_cases c33 : t230 = true
                                  · subst c33
                                    have H1 : ((octet_Zero.f k (⟨#[0, 1]⟩ : ByteArray)).bind fun t231 => (if t231 = true then (some false) else ((octet_Put.f k (([120] : List Int)) 1 0).bind fun t235 => (if (strOfNums t235).toList = ([120] : List UInt8) then ((octet_Put.f k (([120] : List Int)) 1 9).bind fun t241 => (some ((strOfNums t241).toList == ([120] : List UInt8)))) else (some false))))) = some r := by rw [if_pos rfl] at H; exact H
                                    clear H
                                    have H := H1
                                    clear H1
                                    replace H := Option.bind_eq_some_iff.mp H
                                    obtain ⟨t231, A340, H⟩ := H
                                    replace H : (if t231 = true then (some false) else ((octet_Put.f k (([120] : List Int)) 1 0).bind fun t235 => (if (strOfNums t235).toList = ([120] : List UInt8) then ((octet_Put.f k (([120] : List Int)) 1 9).bind fun t241 => (some ((strOfNums t241).toList == ([120] : List UInt8)))) else (some false)))) = some r := H
                                    have A34 := Aside0.mk A340
                                    clear A340
                                    by_cases c35 : t231 = true
                                    · subst c35
                                      have H1 : (some false) = some r := by rw [if_pos rfl] at H; exact H
                                      clear H
                                      have H := H1
                                      clear H1
                                      exact absurd ((Option.some.inj H).trans HLaw.out) (by simp)
                                    · replace c35 := Bool.eq_false_iff.mpr c35
                                      subst c35
                                      have H1 : ((octet_Put.f k (([120] : List Int)) 1 0).bind fun t235 => (if (strOfNums t235).toList = ([120] : List UInt8) then ((octet_Put.f k (([120] : List Int)) 1 9).bind fun t241 => (some ((strOfNums t241).toList == ([120] : List UInt8)))) else (some false))) = some r := by rw [if_neg (show ¬ (false = true) by decide)] at H; exact H
                                      clear H
                                      have H := H1
                                      clear H1
                                      obtain ⟨y232, hy232⟩ : ∃ y_ : List Int, y_ = (([120] : List Int)) := ⟨_, rfl⟩
                                      replace H : ((octet_Put.f k y232 1 0).bind fun t235 => (if (strOfNums t235).toList = ([120] : List UInt8) then ((octet_Put.f k (([120] : List Int)) 1 9).bind fun t241 => (some ((strOfNums t241).toList == ([120] : List UInt8)))) else (some false))) = some r := by first | (rw [hy232]; with_reducible exact H) | (have H2_ := (Option.bind_some _ _).symm.trans H; rw [hy232]; with_reducible exact H2_) | (have H2_ := (Option.bind_some _ _).symm.trans H; with_reducible exact H2_) | with_reducible exact H | (rw [hy232]; exact H) | exact H
                                      have Ny232 := Aside0.mk hy232
                                      clear hy232
                                      replace H := Option.bind_eq_some_iff.mp H
                                      obtain ⟨t235, A360, H⟩ := H
                                      replace H : (if (strOfNums t235).toList = ([120] : List UInt8) then ((octet_Put.f k (([120] : List Int)) 1 9).bind fun t241 => (some ((strOfNums t241).toList == ([120] : List UInt8)))) else (some false)) = some r := H
                                      have A36 := Aside0.mk A360
                                      clear A360
                                      by_cases c37 : (strOfNums t235).toList = ([120] : List UInt8)
                                      · rw [if_pos c37] at H
                                        have c37b0 : ((strOfNums t235).toList == ([120] : List UInt8)) = true := beq_iff_eq.mpr c37
                                        have c37b1 : ((strOfNums t235).toList != ([120] : List UInt8)) = false := bne_eq_false_iff_eq.mpr c37
                                        clear c37
                                        obtain ⟨y238, hy238⟩ : ∃ y_ : List Int, y_ = (([120] : List Int)) := ⟨_, rfl⟩
                                        replace H : ((octet_Put.f k y238 1 9).bind fun t241 => (some ((strOfNums t241).toList == ([120] : List UInt8)))) = some r := by first | (rw [hy238]; with_reducible exact H) | (have H2_ := (Option.bind_some _ _).symm.trans H; rw [hy238]; with_reducible exact H2_) | (have H2_ := (Option.bind_some _ _).symm.trans H; with_reducible exact H2_) | with_reducible exact H | (rw [hy238]; exact H) | exact H
                                        have Ny238 := Aside0.mk hy238
                                        clear hy238
                                        replace H := Option.bind_eq_some_iff.mp H
                                        obtain ⟨t241, A380, H⟩ := H
                                        replace H : (some ((strOfNums t241).toList == ([120] : List UInt8))) = some r := H
                                        have A38 := Aside0.mk A380
                                        clear A380
                                        obtain rfl := Option.some.inj H
                                        go_enter Try.func12, Try.ntmps12
                                        go_wp2_with (first | ((with_reducible refine gate_callee (f := 16) rfl ?_); refine goesL_ (some 21) rfl rfl Try.func16 (by kernel_rfl) rfl #[] rfl (by (try simp only [List.map_toArray, List.map_cons, List.map_nil]); first | done | rfl | (simp only [List.length_drop, List.length_take]; rfl)) ?_; (with_reducible refine (careenagelaw01_lives.calls k  true _ A1.out).mono ?_); rintro e w39 ⟨rfl, hb⟩; refine ⟨_, rfl, ?_⟩; have n0_ := Aside0.mk (below_step (by repeat (first | (with_reducible first | exact HB.out | apply below_alloc | apply pw_below_drewN | apply below_drew1) | exact HB.out)) hb); clear HB; have HB := n0_; clear n0_; (try clear hb); (try clear hb2); (try clear hk); (try clear hi)) | ((with_reducible refine gate_callee (f := 27) rfl ?_); refine goesL_ (some 23) rfl rfl Try.func27 (by kernel_rfl) rfl #[.string (⟨#[2, 1, 97, 98, 99]⟩ : ByteArray)] rfl (by (try simp only [List.map_toArray, List.map_cons, List.map_nil]); first | done | rfl | (simp only [List.length_drop, List.length_take]; rfl)) ?_; (with_reducible refine (octet_New.calls (⟨#[2, 1, 97, 98, 99]⟩ : ByteArray) t199 w _ ?side1 A3.out).mono ?_); (case side1 => repeat (first | (with_reducible first | exact HB.out | apply below_alloc | apply pw_below_drewN | apply below_drew1) | exact HB.out)); rintro e w40 ⟨g200, rfl, hi, hb, hb2⟩; refine ⟨_, rfl, ?_⟩; have n0_ := Aside0.mk (hb); have n1_ := Aside0.mk (hi); clear HB; have HB := n0_; have HI200 := n1_; clear n0_ n1_; (try clear hb); (try clear hb2); (try clear hk); (try clear hi)) | ((with_reducible refine gate_callee (f := 32) rfl ?_); refine goesL_ (some 26) rfl rfl Try.func32 (by kernel_rfl) rfl #[.pointer (some ⟨g200, 0, none⟩), .int .i64 2] rfl (by (try simp only [List.map_toArray, List.map_cons, List.map_nil]); first | done | rfl | (simp only [List.length_drop, List.length_take]; rfl)) ?_; (with_reducible refine (octet_Reader_Number.calls k g200 t199 2 t201 t202 t203 w _ ?side1 ?side2 A4.out).mono ?_); (case side1 => repeat (first | (with_reducible first | exact HI200.out | apply IsS71.alloc | apply IsS71.drewN | apply IsS71.drew | apply IsS71.set_0) | exact HI200.out)); (case side2 => repeat (first | (with_reducible first | exact HB.out | apply below_alloc | apply pw_below_drewN | apply below_drew1 | refine below_set ?_ (IsS71.ge HI200.out)) | exact HB.out)); rintro e w41 ⟨rfl, hi, hb, hk⟩; refine ⟨_, rfl, ?_⟩; have n0_ := Aside0.mk (hb); have n1_ := Aside0.mk (hi); clear HB; clear HI200; have HB := n0_; have HI200 := n1_; clear n0_ n1_; (try clear hb); (try clear hb2); (try clear hk); (try clear hi)) | ((with_reducible refine gate_callee (f := 32) rfl ?_); refine goesL_ (some 31) rfl rfl Try.func32 (by kernel_rfl) rfl #[.pointer (some ⟨g200, 0, none⟩), .int .i64 0] rfl (by (try simp only [List.map_toArray, List.map_cons, List.map_nil]); first | done | rfl | (simp only [List.length_drop, List.length_take]; rfl)) ?_; (with_reducible refine (octet_Reader_Number.calls k g200 t203 0 t204 t205 t206 w _ ?side1 ?side2 A5.out).mono ?_); (case side1 => repeat (first | (with_reducible first | exact HI200.out | apply IsS71.alloc | apply IsS71.drewN | apply IsS71.drew | apply IsS71.set_0) | exact HI200.out)); (case side2 => repeat (first | (with_reducible first | exact HB.out | apply below_alloc | apply pw_below_drewN | apply below_drew1 | refine below_set ?_ (IsS71.ge HI200.out)) | exact HB.out)); rintro e w42 ⟨rfl, hi, hb, hk⟩; refine ⟨_, rfl, ?_⟩; have n0_ := Aside0.mk (hb); have n1_ := Aside0.mk (hi); clear HB; clear HI200; have HB := n0_; have HI200 := n1_; clear n0_ n1_; (try clear hb); (try clear hb2); (try clear hk); (try clear hi)) | ((with_reducible refine gate_callee (f := 32) rfl ?_); refine goesL_ (some 36) rfl rfl Try.func32 (by kernel_rfl) rfl #[.pointer (some ⟨g200, 0, none⟩), .int .i64 9] rfl (by (try simp only [List.map_toArray, List.map_cons, List.map_nil]); first | done | rfl | (simp only [List.length_drop, List.length_take]; rfl)) ?_; (with_reducible refine (octet_Reader_Number.calls k g200 t206 9 t207 t208 t209 w _ ?side1 ?side2 A6.out).mono ?_); (case side1 => repeat (first | (with_reducible first | exact HI200.out | apply IsS71.alloc | apply IsS71.drewN | apply IsS71.drew | apply IsS71.set_0) | exact HI200.out)); (case side2 => repeat (first | (with_reducible first | exact HB.out | apply below_alloc | apply pw_below_drewN | apply below_drew1 | refine below_set ?_ (IsS71.ge HI200.out)) | exact HB.out)); rintro e w43 ⟨rfl, hi, hb, hk⟩; refine ⟨_, rfl, ?_⟩; have n0_ := Aside0.mk (hb); have n1_ := Aside0.mk (hi); clear HB; clear HI200; have HB := n0_; have HI200 := n1_; clear n0_ n1_; (try clear hb); (try clear hb2); (try clear hk); (try clear hi)) | ((with_reducible refine gate_callee (f := 32) rfl ?_); refine goesL_ (some 41) rfl rfl Try.func32 (by kernel_rfl) rfl #[.pointer (some ⟨g200, 0, none⟩), .int .i64 4] rfl (by (try simp only [List.map_toArray, List.map_cons, List.map_nil]); first | done | rfl | (simp only [List.length_drop, List.length_take]; rfl)) ?_; (with_reducible refine (octet_Reader_Number.calls k g200 t209 4 t210 t211 t212 w _ ?side1 ?side2 A7.out).mono ?_); (case side1 => repeat (first | (with_reducible first | exact HI200.out | apply IsS71.alloc | apply IsS71.drewN | apply IsS71.drew | apply IsS71.set_0) | exact HI200.out)); (case side2 => repeat (first | (with_reducible first | exact HB.out | apply below_alloc | apply pw_below_drewN | apply below_drew1 | refine below_set ?_ (IsS71.ge HI200.out)) | exact HB.out)); rintro e w44 ⟨rfl, hi, hb, hk⟩; refine ⟨_, rfl, ?_⟩; have n0_ := Aside0.mk (hb); have n1_ := Aside0.mk (hi); clear HB; clear HI200; have HB := n0_; have HI200 := n1_; clear n0_ n1_; (try clear hb); (try clear hb2); (try clear hk); (try clear hi)) | ((with_reducible refine gate_callee (f := 29) rfl ?_); refine goesL_ (some 46) rfl rfl Try.func29 (by kernel_rfl) rfl #[.pointer (some ⟨g200, 0, none⟩), .int .i64 (-1)] rfl (by (try simp only [List.map_toArray, List.map_cons, List.map_nil]); first | done | rfl | (simp only [List.length_drop, List.length_take]; rfl)) ?_; (with_reducible refine (octet_Reader_Bytes.calls g200 t212 (-1) t213 t214 t215 w _ ?side1 ?side2 A8.out).mono ?_); (case side1 => repeat (first | (with_reducible first | exact HI200.out | apply IsS71.alloc | apply IsS71.drewN | apply IsS71.drew | apply IsS71.set_0) | exact HI200.out)); (case side2 => repeat (first | (with_reducible first | exact HB.out | apply below_alloc | apply pw_below_drewN | apply below_drew1 | refine below_set ?_ (IsS71.ge HI200.out)) | exact HB.out)); rintro e w45 ⟨rfl, hi, hb, hk⟩; refine ⟨_, rfl, ?_⟩; have n0_ := Aside0.mk (hb); have n1_ := Aside0.mk (hi); clear HB; clear HI200; have HB := n0_; have HI200 := n1_; clear n0_ n1_; (try clear hb); (try clear hb2); (try clear hk); (try clear hi)) | ((with_reducible refine gate_callee (f := 29) rfl ?_); refine goesL_ (some 51) rfl rfl Try.func29 (by kernel_rfl) rfl #[.pointer (some ⟨g200, 0, none⟩), .int .i64 4] rfl (by (try simp only [List.map_toArray, List.map_cons, List.map_nil]); first | done | rfl | (simp only [List.length_drop, List.length_take]; rfl)) ?_; (with_reducible refine (octet_Reader_Bytes.calls g200 t215 4 t216 t217 t218 w _ ?side1 ?side2 A9.out).mono ?_); (case side1 => repeat (first | (with_reducible first | exact HI200.out | apply IsS71.alloc | apply IsS71.drewN | apply IsS71.drew | apply IsS71.set_0) | exact HI200.out)); (case side2 => repeat (first | (with_reducible first | exact HB.out | apply below_alloc | apply pw_below_drewN | apply below_drew1 | refine below_set ?_ (IsS71.ge HI200.out)) | exact HB.out)); rintro e w46 ⟨rfl, hi, hb, hk⟩; refine ⟨_, rfl, ?_⟩; have n0_ := Aside0.mk (hb); have n1_ := Aside0.mk (hi); clear HB; clear HI200; have HB := n0_; have HI200 := n1_; clear n0_ n1_; (try clear hb); (try clear hb2); (try clear hk); (try clear hi)) | ((with_reducible refine gate_callee (f := 29) rfl ?_); refine goesL_ (some 56) rfl rfl Try.func29 (by kernel_rfl) rfl #[.pointer (some ⟨g200, 0, none⟩), .int .i64 1] rfl (by (try simp only [List.map_toArray, List.map_cons, List.map_nil]); first | done | rfl | (simp only [List.length_drop, List.length_take]; rfl)) ?_; (with_reducible refine (octet_Reader_Bytes.calls g200 t218 1 t219 t220 t221 w _ ?side1 ?side2 A10.out).mono ?_); (case side1 => repeat (first | (with_reducible first | exact HI200.out | apply IsS71.alloc | apply IsS71.drewN | apply IsS71.drew | apply IsS71.set_0) | exact HI200.out)); (case side2 => repeat (first | (with_reducible first | exact HB.out | apply below_alloc | apply pw_below_drewN | apply below_drew1 | refine below_set ?_ (IsS71.ge HI200.out)) | exact HB.out)); rintro e w47 ⟨rfl, hi, hb, hk⟩; refine ⟨_, rfl, ?_⟩; have n0_ := Aside0.mk (hb); have n1_ := Aside0.mk (hi); clear HB; clear HI200; have HB := n0_; have HI200 := n1_; clear n0_ n1_; (try clear hb); (try clear hb2); (try clear hk); (try clear hi)) | ((with_reducible refine gate_callee (f := 32) rfl ?_); refine goesL_ (some 61) rfl rfl Try.func32 (by kernel_rfl) rfl #[.pointer none, .int .i64 1] rfl (by (try simp only [List.map_toArray, List.map_cons, List.map_nil]); first | done | rfl | (simp only [List.length_drop, List.length_take]; rfl)) ?_; (with_reducible refine (octet_Reader_Number_nil.calls 1 t222 t223 _ A11.out).mono ?_); rintro e w48 ⟨rfl, hb⟩; refine ⟨_, rfl, ?_⟩; have n0_ := Aside0.mk (IsS71.below (by repeat (first | (with_reducible first | exact HI200.out | apply IsS71.alloc | apply IsS71.drewN | apply IsS71.drew | apply IsS71.set_0) | exact HI200.out)) hb); have n1_ := Aside0.mk (below_step (by repeat (first | (with_reducible first | exact HB.out | apply below_alloc | apply pw_below_drewN | apply below_drew1 | refine below_set ?_ (IsS71.ge HI200.out)) | exact HB.out)) hb); clear HI200; clear HB; have HI200 := n0_; have HB := n1_; clear n0_ n1_; (try clear hb); (try clear hb2); (try clear hk); (try clear hi)) | ((with_reducible refine gate_callee (f := 29) rfl ?_); refine goesL_ (some 66) rfl rfl Try.func29 (by kernel_rfl) rfl #[.pointer none, .int .i64 1] rfl (by (try simp only [List.map_toArray, List.map_cons, List.map_nil]); first | done | rfl | (simp only [List.length_drop, List.length_take]; rfl)) ?_; (with_reducible refine (octet_Reader_Bytes_nil.calls 1 t224 t225 _ A12.out).mono ?_); rintro e w49 ⟨rfl, hb⟩; refine ⟨_, rfl, ?_⟩; have n0_ := Aside0.mk (IsS71.below (by repeat (first | (with_reducible first | exact HI200.out | apply IsS71.alloc | apply IsS71.drewN | apply IsS71.drew | apply IsS71.set_0) | exact HI200.out)) hb); have n1_ := Aside0.mk (below_step (by repeat (first | (with_reducible first | exact HB.out | apply below_alloc | apply pw_below_drewN | apply below_drew1 | refine below_set ?_ (IsS71.ge HI200.out)) | exact HB.out)) hb); clear HI200; clear HB; have HI200 := n0_; have HB := n1_; clear n0_ n1_; (try clear hb); (try clear hb2); (try clear hk); (try clear hi)) | (go_at_call 30; (with_reducible refine (octet_Reader_Left.calls g200 t221 t226 w _ ?side1 ?side2 A22.out).mono ?_); (case side1 => repeat (first | (with_reducible first | exact HI200.out | apply IsS71.alloc | apply IsS71.drewN | apply IsS71.drew | apply IsS71.set_0) | exact HI200.out)); (case side2 => repeat (first | (with_reducible first | exact HB.out | apply below_alloc | apply pw_below_drewN | apply below_drew1 | refine below_set ?_ (IsS71.ge HI200.out)) | exact HB.out)); rintro e w50 ⟨rfl, hi, hb, hk⟩; have n0_ := Aside0.mk (hb); have n1_ := Aside0.mk (hi); clear HB; clear HI200; have HB := n0_; have HI200 := n1_; clear n0_ n1_; (try clear hb); (try clear hb2); (try clear hk); (try clear hi)) | (go_at_call 28; (with_reducible refine (octet_Reader_Rest.calls g200 t221 t227 w _ ?side1 ?side2 A24.out).mono ?_); (case side1 => repeat (first | (with_reducible first | exact HI200.out | apply IsS71.alloc | apply IsS71.drewN | apply IsS71.drew | apply IsS71.set_0) | exact HI200.out)); (case side2 => repeat (first | (with_reducible first | exact HB.out | apply below_alloc | apply pw_below_drewN | apply below_drew1 | refine below_set ?_ (IsS71.ge HI200.out)) | exact HB.out)); rintro e w51 ⟨rfl, hi, hb, hk⟩; have n0_ := Aside0.mk (hb); have n1_ := Aside0.mk (hi); clear HB; clear HI200; have HB := n0_; have HI200 := n1_; clear n0_ n1_; (try clear hb); (try clear hb2); (try clear hk); (try clear hi)) | (go_at_call 30; (with_reducible refine (octet_Reader_Left_nil.calls  t228 _ A28.out).mono ?_); rintro e w52 ⟨rfl, hb⟩; have n0_ := Aside0.mk (IsS71.below (by repeat (first | (with_reducible first | exact HI200.out | apply IsS71.alloc | apply IsS71.drewN | apply IsS71.drew | apply IsS71.set_0) | exact HI200.out)) hb); have n1_ := Aside0.mk (below_step (by repeat (first | (with_reducible first | exact HB.out | apply below_alloc | apply pw_below_drewN | apply below_drew1 | refine below_set ?_ (IsS71.ge HI200.out)) | exact HB.out)) hb); clear HI200; clear HB; have HI200 := n0_; have HB := n1_; clear n0_ n1_; (try clear hb); (try clear hb2); (try clear hk); (try clear hi)) | (go_at_call 28; (with_reducible refine (octet_Reader_Rest_nil.calls  t229 _ A30.out).mono ?_); rintro e w' ⟨rfl, ⟨nd, rfl⟩⟩) | (go_at_call 31; (with_reducible refine (octet_Zero.calls k (⟨#[]⟩ : ByteArray) true _ A32.out).mono ?_); rintro e w' ⟨rfl, ⟨nd, rfl⟩⟩) | (go_at_call 31; (with_reducible refine (octet_Zero.calls k (⟨#[0, 1]⟩ : ByteArray) false _ A34.out).mono ?_); rintro e w' ⟨rfl, ⟨nd, rfl⟩⟩) | ((with_reducible refine gate_dst (N := 139) rfl ?_); (try (refine gate_guard (by rfl) ?_; dsimp only)); refine Kd.R_lit (Kd.int .u8) _ 5 ?hg (N := 139) ?hd (xs := ([120] : List Int)) (inner := [.int .u8 120]) (ok := fun _ => True) (okp := fun _ => True) ?hr ?hp (fun _ hk => hk) trivial (Below.refl _ _) (Nat.le_refl _) (by simp) ?_; (case hd => rfl); (case hg => rfl); (case hr => first | (go_simp; done) | (go_simp; rfl)); (case hp => exact (Reps.one (show Kd.M (Kd.int .u8) _ _ _ 120 [.int .u8 120] from rfl) (Reps.none _ _))); intro v233 w53 ho54 hb hg_ hnew_; clear hg_ hnew_; (first | rw [← Ny232.out] at ho54 | (simp only [Int.reduceToNat] at ho54; rw [← Ny232.out] at ho54)); have n0_ := Aside0.mk (Kd.R_lower ho54 (below_size (by repeat (first | (with_reducible first | exact HB.out | apply below_alloc | apply pw_below_drewN | apply below_drew1 | refine below_set ?_ (IsS71.ge HI200.out)) | exact HB.out)))); have n1_ := Aside0.mk (IsS71.below (by repeat (first | (with_reducible first | exact HI200.out | apply IsS71.alloc | apply IsS71.drewN | apply IsS71.drew | apply IsS71.set_0) | exact HI200.out)) hb); have n2_ := Aside0.mk (below_step (by repeat (first | (with_reducible first | exact HB.out | apply below_alloc | apply pw_below_drewN | apply below_drew1 | refine below_set ?_ (IsS71.ge HI200.out)) | exact HB.out)) hb); clear HI200; clear HB; have HO234 := n0_; have HI200 := n1_; have HB := n2_; clear n0_ n1_ n2_; clear hb ho54; obtain ⟨Ao55, co55, eo55⟩ := Kd.R_slice HO234.out; subst eo55) | ((with_reducible refine gate_dst (N := 140) rfl ?_); (try (refine gate_guard (by rfl) ?_; dsimp only)); refine R_mark (w0 := w) w.heap.size 5 28 ?hg (N := 140) ?hd (.tmp 139) ?ho Try.underlying28 Try.underlying5 ?hx HO234.out (by rw [Ny232.out]; decide) HB.out HB.out.size ?_; (case hd => rfl); (case hg => rfl); (case ho => rfl); (case hx => first | rfl | (go_simp; done) | (go_simp; rfl)); intro wm140 hC_ hMc140 hb_ hg_; have HM140 := Aside0.mk hC_; have n1_ := Aside0.mk (IsS71.grown HI200.out hg_ (IsS71.own_ne HI200.out HO234.out (by decide))); have n2_ := Aside0.mk hb_; clear HO234; have HO234 := Aside0.mk (Kd.R_nil (Kd.int .u8) 5 wm140 w.heap.size (fun _ => True)); clear HI200; clear HB; have HI200 := n1_; have HB := n2_; clear n1_ n2_ hC_ hb_ hg_) | (go_at_call 17; (with_reducible refine (octet_Put.calls k _ _ y232 1 0 t235 _ ?side1 ?side2 A36.out).mono ?_); (case side1 => repeat (first | exact HM140.out | (with_reducible refine Kd.C_alloc ?_ _) | (with_reducible refine Kd.C_drewN ?_ _) | (with_reducible refine Kd.C_drew ?_))); (case side2 => exact hMc140); rintro e w56 ⟨v236, rfl, ho0, hb⟩; have n0_ := Aside0.mk (Kd.R_elder' (by (with_reducible repeat (first | apply Kd.R_alloc | apply Kd.R_drewN | apply Kd.R_drew)); exact HO234.out) (Kd.R_base ho0) hb); have n1_ := Aside0.mk (Kd.R_lower (Kd.R_new' ho0 (Kd.R_lt (by (with_reducible repeat (first | apply Kd.R_alloc | apply Kd.R_drewN | apply Kd.R_drew)); exact HO234.out))) (below_size (by repeat (first | (with_reducible first | exact HB.out | apply below_alloc | apply pw_below_drewN | apply below_drew1 | refine below_set ?_ (IsS71.ge HI200.out)) | exact HB.out)))); have n2_ := Aside0.mk (IsS71.below (by repeat (first | (with_reducible first | exact HI200.out | apply IsS71.alloc | apply IsS71.drewN | apply IsS71.drew | apply IsS71.set_0) | exact HI200.out)) hb); have n3_ := Aside0.mk (below_step (by repeat (first | (with_reducible first | exact HB.out | apply below_alloc | apply pw_below_drewN | apply below_drew1 | refine below_set ?_ (IsS71.ge HI200.out)) | exact HB.out)) hb); clear HO234; clear HI200; clear HB; have HO234 := n0_; have HO237 := n1_; have HI200 := n2_; have HB := n3_; clear n0_ n1_ n2_ n3_; (try clear hb); (try clear hb2); (try clear hk); (try clear hi); (try clear ho0); have hcv57 := own_string (P := Try.prog) Try.underlying28 Try.underlying5 Try.underlying9 (Kd.own_of_R HO237.out)) | ((with_reducible refine gate_dst (N := 146) rfl ?_); (try (refine gate_guard (by rfl) ?_; dsimp only)); refine Kd.R_lit (Kd.int .u8) _ 5 ?hg (N := 146) ?hd (xs := ([120] : List Int)) (inner := [.int .u8 120]) (ok := fun _ => True) (okp := fun _ => True) ?hr ?hp (fun _ hk => hk) trivial (Below.refl _ _) (Nat.le_refl _) (by simp) ?_; (case hd => rfl); (case hg => rfl); (case hr => first | (go_simp; done) | (go_simp; rfl)); (case hp => exact (Reps.one (show Kd.M (Kd.int .u8) _ _ _ 120 [.int .u8 120] from rfl) (Reps.none _ _))); intro v239 w58 ho59 hb hg_ hnew_; clear hg_ hnew_; (first | rw [← Ny238.out] at ho59 | (simp only [Int.reduceToNat] at ho59; rw [← Ny238.out] at ho59)); have n0_ := Aside0.mk (Kd.R_elder' (by (with_reducible repeat (first | apply Kd.R_alloc | apply Kd.R_drewN | apply Kd.R_drew)); exact HO234.out) (Kd.R_base ho59) hb); have n1_ := Aside0.mk (Kd.R_elder' (by (with_reducible repeat (first | apply Kd.R_alloc | apply Kd.R_drewN | apply Kd.R_drew)); exact HO237.out) (Kd.R_base ho59) hb); have n2_ := Aside0.mk (Kd.R_lower (Kd.R_new' (Kd.R_new' ho59 (Kd.R_lt (by (with_reducible repeat (first | apply Kd.R_alloc | apply Kd.R_drewN | apply Kd.R_drew)); exact HO234.out))) (Kd.R_lt (by (with_reducible repeat (first | apply Kd.R_alloc | apply Kd.R_drewN | apply Kd.R_drew)); exact HO237.out))) (below_size (by repeat (first | (with_reducible first | exact HB.out | apply below_alloc | apply pw_below_drewN | apply below_drew1 | refine below_set ?_ (IsS71.ge HI200.out)) | exact HB.out)))); have n3_ := Aside0.mk (IsS71.below (by repeat (first | (with_reducible first | exact HI200.out | apply IsS71.alloc | apply IsS71.drewN | apply IsS71.drew | apply IsS71.set_0) | exact HI200.out)) hb); have n4_ := Aside0.mk (below_step (by repeat (first | (with_reducible first | exact HB.out | apply below_alloc | apply pw_below_drewN | apply below_drew1 | refine below_set ?_ (IsS71.ge HI200.out)) | exact HB.out)) hb); clear HO234; clear HO237; clear HI200; clear HB; have HO234 := n0_; have HO237 := n1_; have HO240 := n2_; have HI200 := n3_; have HB := n4_; clear n0_ n1_ n2_ n3_ n4_; clear hb ho59; obtain ⟨Ao60, co60, eo60⟩ := Kd.R_slice HO240.out; subst eo60) | ((with_reducible refine gate_dst (N := 147) rfl ?_); (try (refine gate_guard (by rfl) ?_; dsimp only)); refine R_mark (w0 := w) w.heap.size 5 28 ?hg (N := 147) ?hd (.tmp 146) ?ho Try.underlying28 Try.underlying5 ?hx HO240.out (by rw [Ny238.out]; decide) HB.out HB.out.size ?_; (case hd => rfl); (case hg => rfl); (case ho => rfl); (case hx => first | rfl | (go_simp; done) | (go_simp; rfl)); intro wm147 hC_ hMc147 hb_ hg_; have HM147 := Aside0.mk hC_; have n1_ := Aside0.mk (IsS71.grown HI200.out hg_ (IsS71.own_ne HI200.out HO240.out (by decide))); have n2_ := Aside0.mk hb_; clear HO234; have HO234 := Aside0.mk (Kd.R_nil (Kd.int .u8) 5 wm147 w.heap.size (fun _ => True)); clear HO237; have HO237 := Aside0.mk (Kd.R_nil (Kd.int .u8) 5 wm147 w.heap.size (fun _ => True)); clear HO240; have HO240 := Aside0.mk (Kd.R_nil (Kd.int .u8) 5 wm147 w.heap.size (fun _ => True)); clear HI200; clear HB; have HI200 := n1_; have HB := n2_; clear n1_ n2_ hC_ hb_ hg_) | (go_at_call 17; (with_reducible refine (octet_Put.calls k _ _ y238 1 9 t241 _ ?side1 ?side2 A38.out).mono ?_); (case side1 => repeat (first | exact HM147.out | (with_reducible refine Kd.C_alloc ?_ _) | (with_reducible refine Kd.C_drewN ?_ _) | (with_reducible refine Kd.C_drew ?_))); (case side2 => exact hMc147); rintro e w61 ⟨v242, rfl, ho0, hb⟩; have n0_ := Aside0.mk (Kd.R_elder' (by (with_reducible repeat (first | apply Kd.R_alloc | apply Kd.R_drewN | apply Kd.R_drew)); exact HO234.out) (Kd.R_base ho0) hb); have n1_ := Aside0.mk (Kd.R_elder' (by (with_reducible repeat (first | apply Kd.R_alloc | apply Kd.R_drewN | apply Kd.R_drew)); exact HO237.out) (Kd.R_base ho0) hb); have n2_ := Aside0.mk (Kd.R_elder' (by (with_reducible repeat (first | apply Kd.R_alloc | apply Kd.R_drewN | apply Kd.R_drew)); exact HO240.out) (Kd.R_base ho0) hb); have n3_ := Aside0.mk (Kd.R_lower (Kd.R_new' (Kd.R_new' (Kd.R_new' ho0 (Kd.R_lt (by (with_reducible repeat (first | apply Kd.R_alloc | apply Kd.R_drewN | apply Kd.R_drew)); exact HO234.out))) (Kd.R_lt (by (with_reducible repeat (first | apply Kd.R_alloc | apply Kd.R_drewN | apply Kd.R_drew)); exact HO237.out))) (Kd.R_lt (by (with_reducible repeat (first | apply Kd.R_alloc | apply Kd.R_drewN | apply Kd.R_drew)); exact HO240.out))) (below_size (by repeat (first | (with_reducible first | exact HB.out | apply below_alloc | apply pw_below_drewN | apply below_drew1 | refine below_set ?_ (IsS71.ge HI200.out)) | exact HB.out)))); have n4_ := Aside0.mk (IsS71.below (by repeat (first | (with_reducible first | exact HI200.out | apply IsS71.alloc | apply IsS71.drewN | apply IsS71.drew | apply IsS71.set_0) | exact HI200.out)) hb); have n5_ := Aside0.mk (below_step (by repeat (first | (with_reducible first | exact HB.out | apply below_alloc | apply pw_below_drewN | apply below_drew1 | refine below_set ?_ (IsS71.ge HI200.out)) | exact HB.out)) hb); clear HO234; clear HO237; clear HO240; clear HI200; clear HB; have HO234 := n0_; have HO237 := n1_; have HO240 := n2_; have HO243 := n3_; have HI200 := n4_; have HB := n5_; clear n0_ n1_ n2_ n3_ n4_ n5_; (try clear hb); (try clear hb2); (try clear hk); (try clear hi); (try clear ho0); have hcv62 := own_string (P := Try.prog) Try.underlying28 Try.underlying5 Try.underlying9 (Kd.own_of_R HO243.out)))
                                        go_ret
                                        exact ⟨by first | rfl | (simp [errW_none, errW_some] <;> rfl) | (simp [*, errW_none, errW_some] <;> rfl), by repeat (first | (with_reducible first | exact HB.out | apply below_alloc | apply pw_below_drewN | apply below_drew1 | refine below_set ?_ (IsS71.ge HI200.out)) | exact HB.out)⟩
                                      · rw [if_neg c37] at H
                                        have c37b0 : ((strOfNums t235).toList == ([120] : List UInt8)) = false := beq_eq_false_iff_ne.mpr c37
                                        have c37b1 : ((strOfNums t235).toList != ([120] : List UInt8)) = true := bne_iff_ne.mpr c37
                                        exact absurd ((Option.some.inj H).trans HLaw.out) (by simp)
                                  · replace c33 := Bool.eq_false_iff.mpr c33
                                    subst c33
                                    have H1 : (some false) = some r := by rw [if_neg (show ¬ (false = true) by decide)] at H; exact H
                                    clear H
                                    have H := H1
                                    clear H1
                                    exact absurd ((Option.some.inj H).trans HLaw.out) (by simp)
                                · rw [if_neg c31] at H
                                  have c31b0 : (t229.toList == ([] : List UInt8)) = false := beq_eq_false_iff_ne.mpr c31
                                  have c31b1 : (t229.toList != ([] : List UInt8)) = true := bne_iff_ne.mpr c31
                                  exact absurd ((Option.some.inj H).trans HLaw.out) (by simp)
                              · rw [if_neg c29] at H
                                have c29b0 : (t228 == 0) = false := beq_eq_false_iff_ne.mpr c29
                                have c29b1 : (t228 != 0) = true := bne_iff_ne.mpr c29
                                exact absurd ((Option.some.inj H).trans HLaw.out) (by simp)
                            · rw [if_neg c27] at H
                              have c27b0 : (t225 == 1) = false := beq_eq_false_iff_ne.mpr c27
                              have c27b1 : (t225 != 1) = true := bne_iff_ne.mpr c27
                              exact absurd ((Option.some.inj H).trans HLaw.out) (by simp)
                          · rw [if_neg c26] at H
                            have c26b0 : (t223 == 1) = false := beq_eq_false_iff_ne.mpr c26
                            have c26b1 : (t223 != 1) = true := bne_iff_ne.mpr c26
                            exact absurd ((Option.some.inj H).trans HLaw.out) (by simp)
                        · rw [if_neg c25] at H
                          have c25b0 : (t227.toList == ([98, 99] : List UInt8)) = false := beq_eq_false_iff_ne.mpr c25
                          have c25b1 : (t227.toList != ([98, 99] : List UInt8)) = true := bne_iff_ne.mpr c25
                          exact absurd ((Option.some.inj H).trans HLaw.out) (by simp)
                      · rw [if_neg c23] at H
                        have c23b0 : (t226 == 2) = false := beq_eq_false_iff_ne.mpr c23
                        have c23b1 : (t226 != 2) = true := bne_iff_ne.mpr c23
                        exact absurd ((Option.some.inj H).trans HLaw.out) (by simp)
                    · rw [if_neg c21] at H
                      have c21b0 : (t219.toList == ([97] : List UInt8)) = false := beq_eq_false_iff_ne.mpr c21
                      have c21b1 : (t219.toList != ([97] : List UInt8)) = true := bne_iff_ne.mpr c21
                      exact absurd ((Option.some.inj H).trans HLaw.out) (by simp)
                  · rw [if_neg c20] at H
                    have c20b0 : (t220 == 0) = false := beq_eq_false_iff_ne.mpr c20
                    have c20b1 : (t220 != 0) = true := bne_iff_ne.mpr c20
                    exact absurd ((Option.some.inj H).trans HLaw.out) (by simp)
                · rw [if_neg c19] at H
                  have c19b0 : (t217 == 7) = false := beq_eq_false_iff_ne.mpr c19
                  have c19b1 : (t217 != 7) = true := bne_iff_ne.mpr c19
                  exact absurd ((Option.some.inj H).trans HLaw.out) (by simp)
              · rw [if_neg c18] at H
                have c18b0 : (t214 == 2) = false := beq_eq_false_iff_ne.mpr c18
                have c18b1 : (t214 != 2) = true := bne_iff_ne.mpr c18
                exact absurd ((Option.some.inj H).trans HLaw.out) (by simp)
            · rw [if_neg c17] at H
              have c17b0 : (t211 == 7) = false := beq_eq_false_iff_ne.mpr c17
              have c17b1 : (t211 != 7) = true := bne_iff_ne.mpr c17
              exact absurd ((Option.some.inj H).trans HLaw.out) (by simp)
          · rw [if_neg c16] at H
            have c16b0 : (t208 == 2) = false := beq_eq_false_iff_ne.mpr c16
            have c16b1 : (t208 != 2) = true := bne_iff_ne.mpr c16
            exact absurd ((Option.some.inj H).trans HLaw.out) (by simp)
        · rw [if_neg c15] at H
          have c15b0 : (t205 == 2) = false := beq_eq_false_iff_ne.mpr c15
          have c15b1 : (t205 != 2) = true := bne_iff_ne.mpr c15
          exact absurd ((Option.some.inj H).trans HLaw.out) (by simp)
      · rw [if_neg c14] at H
        have c14b0 : (t201 == 258) = false := beq_eq_false_iff_ne.mpr c14
        have c14b1 : (t201 != 258) = true := bne_iff_ne.mpr c14
        exact absurd ((Option.some.inj H).trans HLaw.out) (by simp)
    · rw [if_neg c13] at H
      have c13b0 : (t202 == 0) = false := beq_eq_false_iff_ne.mpr c13
      have c13b1 : (t202 != 0) = true := bne_iff_ne.mpr c13
      exact absurd ((Option.some.inj H).trans HLaw.out) (by simp)
  · replace c2 := Bool.eq_false_iff.mpr c2
    subst c2
    have H1 : (some false) = some r := by rw [if_neg (show ¬ (false = true) by decide)] at H; exact H
    clear H
    have H := H1
    clear H1
    exact absurd ((Option.some.inj H).trans HLaw.out) (by simp)

/-- THE ONE PURE STATEMENT of careenagelaw01_OctetNames: yours. -/
def careenagelaw01_OctetNames.Pure : Prop := ∃ k, careenagelaw01_OctetNames.f k  = some true
theorem careenagelaw01_OctetNames.walk (P : careenagelaw01_OctetNames.Pure)  (w : World)  :
    Calls Try.prog 12 #[] w fun e w' => e = .returned (.bool true) ∧ Below w.heap.size w w' := by
  obtain ⟨k, h⟩ := P  
  refine (careenagelaw01_OctetNames.calls k  true w rfl h).mono ?_
  rintro e w' ⟨rfl, hd⟩
  exact ⟨rfl, hd⟩

end Go.Proofs.Yteackhccflojpaa.P
