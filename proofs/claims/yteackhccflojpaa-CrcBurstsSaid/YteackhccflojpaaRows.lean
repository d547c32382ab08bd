/-
  No cell of these rows narrows 'for every input' (looked for: loops, veiled, ifaces, maps, wideKeys, modest, calm, conditions, laid).
  DERIVED. THE GIVEN ROWS OF THIS SEAT. 11 by the template 'for every input the law returns true; each argument reads behind the call as it read before'; 0 by the template 'total and deterministic' (their statements: YteackhccflojpaaTotals.lean).
  GIVEN WITH THE SEED: the statements are not yours to turn. If you find one false, say at which input.
  Laid BY PROGRAM, IN A SANDBOX (cutbox-rows.mjs): the forced cells as the released guide's own fill.sh prints them over the translation 81db9d11d123ec79… (all of the seat's roots in one cut). By AI agents, Wed Nov 11 2026. No macro, syntax, notation, axiom, sorry.
-/
import Derived.Test.YteackhccflojpaaChecked
import GoSem.Claim
import GoSem.ClaimJoined
import GoSem.ClaimMapViews
import Derived.JoinedTies
import Derived.KernelRfl
namespace Go.Proofs.Yteackhccflojpaa
/- THE CELL 'sum', in the pinned program and in every row, IS THE sha256 OF THE DUMP (.gsa) THAT YteackhccflojpaaProg.lean LOADS. Nothing in Lean hashes anything: it is a label: what it is worth is what the hold of that sum in a sandbox is worth. -/
noncomputable def Try.pinned : Pinned := { name := "yteackhccflojpaa", sum := "81db9d11d123ec798db24f41b17eef141aeee91b92cee5480d2025affa61a662", checked := Try.checked }
namespace Rows
def none {H : Type} : Left H := { results := [], args := [] }

/-- 'careenagelaw18.ShapeBounds': WHATEVER THE INPUT: true; the input reads as it did. -/
def shapeBoundsSpec : ChangeSpec := { name := "shapeBounds", fn := fun _ => fun
  | [d1, d2, d3, d4, d5] => { results := [.lit (.bool true)], args := [d1, d2, d3, d4, d5] }
  | _ => none }
def shapeBoundsRow : OpenClaim := { program := "yteackhccflojpaa", sum := "81db9d11d123ec798db24f41b17eef141aeee91b92cee5480d2025affa61a662", func := "careenage/careenagelaw18.ShapeBounds", spec := "shapeBounds", apart := false }
def ShapeBoundsSaid : Prop := shapeBoundsRow.holds Try.pinned (OpenSpec.ofChange shapeBoundsSpec)

/-- ITS FALSE NEIGHBOUR: 'it returns false'. Refute it at one input. -/
def shapeBoundsWrong : ChangeSpec := { name := "shapeBounds", fn := fun _ => fun
  | [d1, d2, d3, d4, d5] => { results := [.lit (.bool false)], args := [d1, d2, d3, d4, d5] }
  | _ => none }
def ShapeBoundsWrongFalsely : Prop := shapeBoundsRow.holds Try.pinned (OpenSpec.ofChange shapeBoundsWrong)

/-- 'careenagelaw01.OctetCalls': WHATEVER THE INPUT: true; the input reads as it did. -/
def octetCallsSpec : ChangeSpec := { name := "octetCalls", fn := fun _ => fun
  | [d1, d2, d3] => { results := [.lit (.bool true)], args := [d1, d2, d3] }
  | _ => none }
def octetCallsRow : OpenClaim := { program := "yteackhccflojpaa", sum := "81db9d11d123ec798db24f41b17eef141aeee91b92cee5480d2025affa61a662", func := "careenage/careenagelaw01.OctetCalls", spec := "octetCalls", apart := false }
def OctetCallsSaid : Prop := octetCallsRow.holds Try.pinned (OpenSpec.ofChange octetCallsSpec)

/-- ITS FALSE NEIGHBOUR: 'it returns false'. Refute it at one input. -/
def octetCallsWrong : ChangeSpec := { name := "octetCalls", fn := fun _ => fun
  | [d1, d2, d3] => { results := [.lit (.bool false)], args := [d1, d2, d3] }
  | _ => none }
def OctetCallsWrongFalsely : Prop := octetCallsRow.holds Try.pinned (OpenSpec.ofChange octetCallsWrong)

/-- 'careenagelaw02.CrcNames': WHATEVER THE INPUT: true; the input reads as it did. -/
def crcNamesSpec : ChangeSpec := { name := "crcNames", fn := fun _ => fun
  | [] => { results := [.lit (.bool true)], args := [] }
  | _ => none }
def crcNamesRow : OpenClaim := { program := "yteackhccflojpaa", sum := "81db9d11d123ec798db24f41b17eef141aeee91b92cee5480d2025affa61a662", func := "careenage/careenagelaw02.CrcNames", spec := "crcNames", apart := false }
def CrcNamesSaid : Prop := crcNamesRow.holds Try.pinned (OpenSpec.ofChange crcNamesSpec)

/-- ITS FALSE NEIGHBOUR: 'it returns false'. Refute it at one input. -/
def crcNamesWrong : ChangeSpec := { name := "crcNames", fn := fun _ => fun
  | [] => { results := [.lit (.bool false)], args := [] }
  | _ => none }
def CrcNamesWrongFalsely : Prop := crcNamesRow.holds Try.pinned (OpenSpec.ofChange crcNamesWrong)

/-- 'careenagelaw02.CrcCalls': WHATEVER THE INPUT: true; the input reads as it did. -/
def crcCallsSpec : ChangeSpec := { name := "crcCalls", fn := fun _ => fun
  | [d1, d2, d3] => { results := [.lit (.bool true)], args := [d1, d2, d3] }
  | _ => none }
def crcCallsRow : OpenClaim := { program := "yteackhccflojpaa", sum := "81db9d11d123ec798db24f41b17eef141aeee91b92cee5480d2025affa61a662", func := "careenage/careenagelaw02.CrcCalls", spec := "crcCalls", apart := false }
def CrcCallsSaid : Prop := crcCallsRow.holds Try.pinned (OpenSpec.ofChange crcCallsSpec)

/-- ITS FALSE NEIGHBOUR: 'it returns false'. Refute it at one input. -/
def crcCallsWrong : ChangeSpec := { name := "crcCalls", fn := fun _ => fun
  | [d1, d2, d3] => { results := [.lit (.bool false)], args := [d1, d2, d3] }
  | _ => none }
def CrcCallsWrongFalsely : Prop := crcCallsRow.holds Try.pinned (OpenSpec.ofChange crcCallsWrong)

/-- 'careenagelaw02.CrcBursts': WHATEVER THE INPUT: true; the input reads as it did. -/
def crcBurstsSpec : ChangeSpec := { name := "crcBursts", fn := fun _ => fun
  | [d1, d2, d3] => { results := [.lit (.bool true)], args := [d1, d2, d3] }
  | _ => none }
def crcBurstsRow : OpenClaim := { program := "yteackhccflojpaa", sum := "81db9d11d123ec798db24f41b17eef141aeee91b92cee5480d2025affa61a662", func := "careenage/careenagelaw02.CrcBursts", spec := "crcBursts", apart := false }
def CrcBurstsSaid : Prop := crcBurstsRow.holds Try.pinned (OpenSpec.ofChange crcBurstsSpec)

/-- ITS FALSE NEIGHBOUR: 'it returns false'. Refute it at one input. -/
def crcBurstsWrong : ChangeSpec := { name := "crcBursts", fn := fun _ => fun
  | [d1, d2, d3] => { results := [.lit (.bool false)], args := [d1, d2, d3] }
  | _ => none }
def CrcBurstsWrongFalsely : Prop := crcBurstsRow.holds Try.pinned (OpenSpec.ofChange crcBurstsWrong)

/-- 'careenagelaw02.CrcParts': WHATEVER THE INPUT: true; the input reads as it did. -/
def crcPartsSpec : ChangeSpec := { name := "crcParts", fn := fun _ => fun
  | [d1, d2] => { results := [.lit (.bool true)], args := [d1, d2] }
  | _ => none }
def crcPartsRow : OpenClaim := { program := "yteackhccflojpaa", sum := "81db9d11d123ec798db24f41b17eef141aeee91b92cee5480d2025affa61a662", func := "careenage/careenagelaw02.CrcParts", spec := "crcParts", apart := false }
def CrcPartsSaid : Prop := crcPartsRow.holds Try.pinned (OpenSpec.ofChange crcPartsSpec)

/-- ITS FALSE NEIGHBOUR: 'it returns false'. Refute it at one input. -/
def crcPartsWrong : ChangeSpec := { name := "crcParts", fn := fun _ => fun
  | [d1, d2] => { results := [.lit (.bool false)], args := [d1, d2] }
  | _ => none }
def CrcPartsWrongFalsely : Prop := crcPartsRow.holds Try.pinned (OpenSpec.ofChange crcPartsWrong)

/-- 'careenagelaw02.CrcLinear': WHATEVER THE INPUT: true; the input reads as it did. -/
def crcLinearSpec : ChangeSpec := { name := "crcLinear", fn := fun _ => fun
  | [d1, d2, d3] => { results := [.lit (.bool true)], args := [d1, d2, d3] }
  | _ => none }
def crcLinearRow : OpenClaim := { program := "yteackhccflojpaa", sum := "81db9d11d123ec798db24f41b17eef141aeee91b92cee5480d2025affa61a662", func := "careenage/careenagelaw02.CrcLinear", spec := "crcLinear", apart := false }
def CrcLinearSaid : Prop := crcLinearRow.holds Try.pinned (OpenSpec.ofChange crcLinearSpec)

/-- ITS FALSE NEIGHBOUR: 'it returns false'. Refute it at one input. -/
def crcLinearWrong : ChangeSpec := { name := "crcLinear", fn := fun _ => fun
  | [d1, d2, d3] => { results := [.lit (.bool false)], args := [d1, d2, d3] }
  | _ => none }
def CrcLinearWrongFalsely : Prop := crcLinearRow.holds Try.pinned (OpenSpec.ofChange crcLinearWrong)

/-- 'careenagelaw01.OctetRests': WHATEVER THE INPUT: true; the input reads as it did. -/
def octetRestsSpec : ChangeSpec := { name := "octetRests", fn := fun _ => fun
  | [d1, d2] => { results := [.lit (.bool true)], args := [d1, d2] }
  | _ => none }
def octetRestsRow : OpenClaim := { program := "yteackhccflojpaa", sum := "81db9d11d123ec798db24f41b17eef141aeee91b92cee5480d2025affa61a662", func := "careenage/careenagelaw01.OctetRests", spec := "octetRests", apart := false }
def OctetRestsSaid : Prop := octetRestsRow.holds Try.pinned (OpenSpec.ofChange octetRestsSpec)

/-- ITS FALSE NEIGHBOUR: 'it returns false'. Refute it at one input. -/
def octetRestsWrong : ChangeSpec := { name := "octetRests", fn := fun _ => fun
  | [d1, d2] => { results := [.lit (.bool false)], args := [d1, d2] }
  | _ => none }
def OctetRestsWrongFalsely : Prop := octetRestsRow.holds Try.pinned (OpenSpec.ofChange octetRestsWrong)

/-- 'careenagelaw01.OctetBack': WHATEVER THE INPUT: true; the input reads as it did. -/
def octetBackSpec : ChangeSpec := { name := "octetBack", fn := fun _ => fun
  | [d1, d2] => { results := [.lit (.bool true)], args := [d1, d2] }
  | _ => none }
def octetBackRow : OpenClaim := { program := "yteackhccflojpaa", sum := "81db9d11d123ec798db24f41b17eef141aeee91b92cee5480d2025affa61a662", func := "careenage/careenagelaw01.OctetBack", spec := "octetBack", apart := false }
def OctetBackSaid : Prop := octetBackRow.holds Try.pinned (OpenSpec.ofChange octetBackSpec)

/-- ITS FALSE NEIGHBOUR: 'it returns false'. Refute it at one input. -/
def octetBackWrong : ChangeSpec := { name := "octetBack", fn := fun _ => fun
  | [d1, d2] => { results := [.lit (.bool false)], args := [d1, d2] }
  | _ => none }
def OctetBackWrongFalsely : Prop := octetBackRow.holds Try.pinned (OpenSpec.ofChange octetBackWrong)

/-- 'careenagelaw01.OctetNames': WHATEVER THE INPUT: true; the input reads as it did. -/
def octetNamesSpec : ChangeSpec := { name := "octetNames", fn := fun _ => fun
  | [] => { results := [.lit (.bool true)], args := [] }
  | _ => none }
def octetNamesRow : OpenClaim := { program := "yteackhccflojpaa", sum := "81db9d11d123ec798db24f41b17eef141aeee91b92cee5480d2025affa61a662", func := "careenage/careenagelaw01.OctetNames", spec := "octetNames", apart := false }
def OctetNamesSaid : Prop := octetNamesRow.holds Try.pinned (OpenSpec.ofChange octetNamesSpec)

/-- ITS FALSE NEIGHBOUR: 'it returns false'. Refute it at one input. -/
def octetNamesWrong : ChangeSpec := { name := "octetNames", fn := fun _ => fun
  | [] => { results := [.lit (.bool false)], args := [] }
  | _ => none }
def OctetNamesWrongFalsely : Prop := octetNamesRow.holds Try.pinned (OpenSpec.ofChange octetNamesWrong)

/-- 'careenagelaw01.OctetScript': WHATEVER THE INPUT: true; the input reads as it did. -/
def octetScriptSpec : ChangeSpec := { name := "octetScript", fn := fun _ => fun
  | [d1, d2] => { results := [.lit (.bool true)], args := [d1, d2] }
  | _ => none }
def octetScriptRow : OpenClaim := { program := "yteackhccflojpaa", sum := "81db9d11d123ec798db24f41b17eef141aeee91b92cee5480d2025affa61a662", func := "careenage/careenagelaw01.OctetScript", spec := "octetScript", apart := false }
def OctetScriptSaid : Prop := octetScriptRow.holds Try.pinned (OpenSpec.ofChange octetScriptSpec)

/-- ITS FALSE NEIGHBOUR: 'it returns false'. Refute it at one input. -/
def octetScriptWrong : ChangeSpec := { name := "octetScript", fn := fun _ => fun
  | [d1, d2] => { results := [.lit (.bool false)], args := [d1, d2] }
  | _ => none }
def OctetScriptWrongFalsely : Prop := octetScriptRow.holds Try.pinned (OpenSpec.ofChange octetScriptWrong)

/- THE SECOND FORM. 'bulk': how many values and letters a reading holds, each counted each time it is reached (what is shared counts as often as it is met; a slice's spare places count too). A statement '..UptoSaid' is the law's where the arguments, and the package variables that the reading takes, are together of bulk at most 1048576: NARROWER than '..Said'. Prove '..Said' where nothing that the law and all that it calls make is longer than what came in: it says more and counts as full. Else prove '..UptoSaid'. A law counts once. -/
mutual
def uptoBulk {H : Type} : DataW H → Nat
  | .lit (.string bytes) => bytes.length + 1
  | .lit _ => 1
  | .nil => 1
  | .ptr d => uptoBulk d + 1
  | .slice elems spare => uptoBulkAll elems + uptoBulkAll spare + 1
  | .agg parts => uptoBulkAll parts + 1
  | .iface _ d => uptoBulk d + 1
  | .map entries => uptoBulkEntries entries + 1
  | .held _ => 1
def uptoBulkAll {H : Type} : List (DataW H) → Nat
  | [] => 0
  | d :: r => uptoBulk d + uptoBulkAll r
def uptoBulkEntries {H : Type} : List (Lit × DataW H) → Nat
  | [] => 0
  | x :: r => uptoBulkEntry x + uptoBulkEntries r
def uptoBulkEntry {H : Type} : Lit × DataW H → Nat
  | (.string bytes, d) => bytes.length + uptoBulk d + 1
  | (_, d) => uptoBulk d + 1
 end
def uptoSmall : (H : Type) → List (DataW H) → Bool := fun _ ds => decide (uptoBulkAll ds ≤ 1048576)
def OpenSpec.upto (s : _root_.Go.ChangeSpec) : _root_.Go.OpenSpec := { _root_.Go.OpenSpec.ofChange s with cond := some uptoSmall }

/-- 'careenagelaw18.ShapeBounds', WHERE WHAT IT READS IS OF BULK AT MOST 1048576: true; the input reads as it did. -/
def shapeBoundsUptoRow : OpenClaim := { program := "yteackhccflojpaa", sum := "81db9d11d123ec798db24f41b17eef141aeee91b92cee5480d2025affa61a662", func := "careenage/careenagelaw18.ShapeBounds", spec := "shapeBounds", apart := false, narrowed := true }
def ShapeBoundsUptoSaid : Prop := shapeBoundsUptoRow.holds Try.pinned (OpenSpec.upto shapeBoundsSpec)

/-- 'careenagelaw01.OctetCalls', WHERE WHAT IT READS IS OF BULK AT MOST 1048576: true; the input reads as it did. -/
def octetCallsUptoRow : OpenClaim := { program := "yteackhccflojpaa", sum := "81db9d11d123ec798db24f41b17eef141aeee91b92cee5480d2025affa61a662", func := "careenage/careenagelaw01.OctetCalls", spec := "octetCalls", apart := false, narrowed := true }
def OctetCallsUptoSaid : Prop := octetCallsUptoRow.holds Try.pinned (OpenSpec.upto octetCallsSpec)

/-- 'careenagelaw02.CrcNames', WHERE WHAT IT READS IS OF BULK AT MOST 1048576: true; the input reads as it did. -/
def crcNamesUptoRow : OpenClaim := { program := "yteackhccflojpaa", sum := "81db9d11d123ec798db24f41b17eef141aeee91b92cee5480d2025affa61a662", func := "careenage/careenagelaw02.CrcNames", spec := "crcNames", apart := false, narrowed := true }
def CrcNamesUptoSaid : Prop := crcNamesUptoRow.holds Try.pinned (OpenSpec.upto crcNamesSpec)

/-- 'careenagelaw02.CrcCalls', WHERE WHAT IT READS IS OF BULK AT MOST 1048576: true; the input reads as it did. -/
def crcCallsUptoRow : OpenClaim := { program := "yteackhccflojpaa", sum := "81db9d11d123ec798db24f41b17eef141aeee91b92cee5480d2025affa61a662", func := "careenage/careenagelaw02.CrcCalls", spec := "crcCalls", apart := false, narrowed := true }
def CrcCallsUptoSaid : Prop := crcCallsUptoRow.holds Try.pinned (OpenSpec.upto crcCallsSpec)

/-- 'careenagelaw02.CrcBursts', WHERE WHAT IT READS IS OF BULK AT MOST 1048576: true; the input reads as it did. -/
def crcBurstsUptoRow : OpenClaim := { program := "yteackhccflojpaa", sum := "81db9d11d123ec798db24f41b17eef141aeee91b92cee5480d2025affa61a662", func := "careenage/careenagelaw02.CrcBursts", spec := "crcBursts", apart := false, narrowed := true }
def CrcBurstsUptoSaid : Prop := crcBurstsUptoRow.holds Try.pinned (OpenSpec.upto crcBurstsSpec)

/-- 'careenagelaw02.CrcParts', WHERE WHAT IT READS IS OF BULK AT MOST 1048576: true; the input reads as it did. -/
def crcPartsUptoRow : OpenClaim := { program := "yteackhccflojpaa", sum := "81db9d11d123ec798db24f41b17eef141aeee91b92cee5480d2025affa61a662", func := "careenage/careenagelaw02.CrcParts", spec := "crcParts", apart := false, narrowed := true }
def CrcPartsUptoSaid : Prop := crcPartsUptoRow.holds Try.pinned (OpenSpec.upto crcPartsSpec)

/-- 'careenagelaw02.CrcLinear', WHERE WHAT IT READS IS OF BULK AT MOST 1048576: true; the input reads as it did. -/
def crcLinearUptoRow : OpenClaim := { program := "yteackhccflojpaa", sum := "81db9d11d123ec798db24f41b17eef141aeee91b92cee5480d2025affa61a662", func := "careenage/careenagelaw02.CrcLinear", spec := "crcLinear", apart := false, narrowed := true }
def CrcLinearUptoSaid : Prop := crcLinearUptoRow.holds Try.pinned (OpenSpec.upto crcLinearSpec)

/-- 'careenagelaw01.OctetRests', WHERE WHAT IT READS IS OF BULK AT MOST 1048576: true; the input reads as it did. -/
def octetRestsUptoRow : OpenClaim := { program := "yteackhccflojpaa", sum := "81db9d11d123ec798db24f41b17eef141aeee91b92cee5480d2025affa61a662", func := "careenage/careenagelaw01.OctetRests", spec := "octetRests", apart := false, narrowed := true }
def OctetRestsUptoSaid : Prop := octetRestsUptoRow.holds Try.pinned (OpenSpec.upto octetRestsSpec)

/-- 'careenagelaw01.OctetBack', WHERE WHAT IT READS IS OF BULK AT MOST 1048576: true; the input reads as it did. -/
def octetBackUptoRow : OpenClaim := { program := "yteackhccflojpaa", sum := "81db9d11d123ec798db24f41b17eef141aeee91b92cee5480d2025affa61a662", func := "careenage/careenagelaw01.OctetBack", spec := "octetBack", apart := false, narrowed := true }
def OctetBackUptoSaid : Prop := octetBackUptoRow.holds Try.pinned (OpenSpec.upto octetBackSpec)

/-- 'careenagelaw01.OctetNames', WHERE WHAT IT READS IS OF BULK AT MOST 1048576: true; the input reads as it did. -/
def octetNamesUptoRow : OpenClaim := { program := "yteackhccflojpaa", sum := "81db9d11d123ec798db24f41b17eef141aeee91b92cee5480d2025affa61a662", func := "careenage/careenagelaw01.OctetNames", spec := "octetNames", apart := false, narrowed := true }
def OctetNamesUptoSaid : Prop := octetNamesUptoRow.holds Try.pinned (OpenSpec.upto octetNamesSpec)

/-- 'careenagelaw01.OctetScript', WHERE WHAT IT READS IS OF BULK AT MOST 1048576: true; the input reads as it did. -/
def octetScriptUptoRow : OpenClaim := { program := "yteackhccflojpaa", sum := "81db9d11d123ec798db24f41b17eef141aeee91b92cee5480d2025affa61a662", func := "careenage/careenagelaw01.OctetScript", spec := "octetScript", apart := false, narrowed := true }
def OctetScriptUptoSaid : Prop := octetScriptUptoRow.holds Try.pinned (OpenSpec.upto octetScriptSpec)

end Rows
end Go.Proofs.Yteackhccflojpaa
