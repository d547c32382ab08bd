/- Words of my own beside the print's: in a region whose order is drawn: a row of bytes reads as its string in every world that is met. -/
import Derived.Test.YteackhccflojpaaOBase
set_option linter.unusedVariables false
set_option linter.unusedSimpArgs false
namespace Go.Proofs.YteackhccflojpaaO
open Go.RowKit Go.Proofs.YteackhccflojpaaW.PrintWords Go.Proofs.YteackhccflojpaaW.PrintWords.Kd
variable {P : Program}
def StrHeld (P : Program) (b s : TypeId) (v : Value) (xs : List Int) (w : World) : Prop := (convert b s v).run P w = .ok (.string (strOfNums xs)) w
def sand (S T : World → Prop) (w : World) : Prop := S w ∧ T w
def sall (_ : World) : Prop := True
theorem sand_ {S T : World → Prop} {w : World} (h : S w) (k : T w) : sand S T w := ⟨h, k⟩
theorem sall_ (w : World) : sall w := trivial
theorem strH {b s e : TypeId} {base : Nat} {ok : Nat → Prop} {v : Value} {xs : List Int} {w : World} (hs : P.underlying b = some (.slice e)) (he : P.underlying e = some (.int .u8)) (hd : P.underlying s = some .string) (h : (Kd.int .u8).R e w base ok v xs) : StrHeld P b s v xs w :=
  own_string (P := P) hs he hd (Kd.own_of_R h)
theorem strC {b s e : TypeId} {A : Option Addr} {c : Nat} {xs : List Int} {w : World} (hs : P.underlying b = some (.slice e)) (he : P.underlying e = some (.int .u8)) (hd : P.underlying s = some .string) (h : (Kd.int .u8).C w A xs.length xs) : StrHeld P b s (.slice A xs.length c) xs w :=
  Kd.C_string (P := P) (A := A) (c := c) hs he hd h
end Go.Proofs.YteackhccflojpaaO
