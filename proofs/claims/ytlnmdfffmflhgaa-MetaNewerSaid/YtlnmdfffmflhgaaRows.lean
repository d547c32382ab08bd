/-
  No cell of these rows narrows 'for every input' (looked for: loops, veiled, ifaces, maps, wideKeys, modest, calm, conditions, laid).
  DERIVED. THE GIVEN ROWS OF THIS SEAT. 9 by the template 'for every input the law returns true; each argument reads behind the call as it read before'; 0 by the template 'total and deterministic' (their statements: YtlnmdfffmflhgaaTotals.lean).
  GIVEN WITH THE SEED: the statements are not yours to turn. If you find one false, say at which input.
  Laid BY PROGRAM, IN A SANDBOX (cutbox-rows.mjs): the forced cells as the released guide's own fill.sh prints them over the translation 4387255705f67cde… (all of the seat's roots in one cut). By AI agents, Wed Nov 11 2026. No macro, syntax, notation, axiom, sorry.
-/
import Derived.Test.YtlnmdfffmflhgaaChecked
import GoSem.Claim
import GoSem.ClaimJoined
import GoSem.ClaimMapViews
import Derived.JoinedTies
import Derived.KernelRfl
namespace Go.Proofs.Ytlnmdfffmflhgaa
/- THE CELL 'sum', in the pinned program and in every row, IS THE sha256 OF THE DUMP (.gsa) THAT YtlnmdfffmflhgaaProg.lean LOADS. Nothing in Lean hashes anything: it is a label: what it is worth is what the hold of that sum in a sandbox is worth. -/
noncomputable def Try.pinned : Pinned := { name := "ytlnmdfffmflhgaa", sum := "4387255705f67cde5f5930b154f4106c77e99e15f0fdbd0aad850c6b037d6447", checked := Try.checked }
namespace Rows
def none {H : Type} : Left H := { results := [], args := [] }

/-- 'careenagelaw05.MetaBack': WHATEVER THE INPUT: true; the input reads as it did. -/
def metaBackSpec : ChangeSpec := { name := "metaBack", fn := fun _ => fun
  | [d1, d2, d3] => { results := [.lit (.bool true)], args := [d1, d2, d3] }
  | _ => none }
def metaBackRow : OpenClaim := { program := "ytlnmdfffmflhgaa", sum := "4387255705f67cde5f5930b154f4106c77e99e15f0fdbd0aad850c6b037d6447", func := "careenage/careenagelaw05.MetaBack", spec := "metaBack", unfollowed := true, recurses := true, apart := false }
def MetaBackSaid : Prop := metaBackRow.holds Try.pinned (OpenSpec.ofChange metaBackSpec)

/-- ITS FALSE NEIGHBOUR: 'it returns false'. Refute it at one input. -/
def metaBackWrong : ChangeSpec := { name := "metaBack", fn := fun _ => fun
  | [d1, d2, d3] => { results := [.lit (.bool false)], args := [d1, d2, d3] }
  | _ => none }
def MetaBackWrongFalsely : Prop := metaBackRow.holds Try.pinned (OpenSpec.ofChange metaBackWrong)

/-- 'careenagelaw04.FrameRot': WHATEVER THE INPUT: true; the input reads as it did. -/
def frameRotSpec : ChangeSpec := { name := "frameRot", fn := fun _ => fun
  | [d1, d2, d3, d4] => { results := [.lit (.bool true)], args := [d1, d2, d3, d4] }
  | _ => none }
def frameRotRow : OpenClaim := { program := "ytlnmdfffmflhgaa", sum := "4387255705f67cde5f5930b154f4106c77e99e15f0fdbd0aad850c6b037d6447", func := "careenage/careenagelaw04.FrameRot", spec := "frameRot", unfollowed := true, recurses := true, apart := false }
def FrameRotSaid : Prop := frameRotRow.holds Try.pinned (OpenSpec.ofChange frameRotSpec)

/-- ITS FALSE NEIGHBOUR: 'it returns false'. Refute it at one input. -/
def frameRotWrong : ChangeSpec := { name := "frameRot", fn := fun _ => fun
  | [d1, d2, d3, d4] => { results := [.lit (.bool false)], args := [d1, d2, d3, d4] }
  | _ => none }
def FrameRotWrongFalsely : Prop := frameRotRow.holds Try.pinned (OpenSpec.ofChange frameRotWrong)

/-- 'careenagelaw04.FrameNames': WHATEVER THE INPUT: true; the input reads as it did. -/
def frameNamesSpec : ChangeSpec := { name := "frameNames", fn := fun _ => fun
  | [] => { results := [.lit (.bool true)], args := [] }
  | _ => none }
def frameNamesRow : OpenClaim := { program := "ytlnmdfffmflhgaa", sum := "4387255705f67cde5f5930b154f4106c77e99e15f0fdbd0aad850c6b037d6447", func := "careenage/careenagelaw04.FrameNames", spec := "frameNames", unfollowed := true, recurses := true, apart := false }
def FrameNamesSaid : Prop := frameNamesRow.holds Try.pinned (OpenSpec.ofChange frameNamesSpec)

/-- ITS FALSE NEIGHBOUR: 'it returns false'. Refute it at one input. -/
def frameNamesWrong : ChangeSpec := { name := "frameNames", fn := fun _ => fun
  | [] => { results := [.lit (.bool false)], args := [] }
  | _ => none }
def FrameNamesWrongFalsely : Prop := frameNamesRow.holds Try.pinned (OpenSpec.ofChange frameNamesWrong)

/-- 'careenagelaw04.FrameReads': WHATEVER THE INPUT: true; the input reads as it did. -/
def frameReadsSpec : ChangeSpec := { name := "frameReads", fn := fun _ => fun
  | [d1, d2, d3, d4] => { results := [.lit (.bool true)], args := [d1, d2, d3, d4] }
  | _ => none }
def frameReadsRow : OpenClaim := { program := "ytlnmdfffmflhgaa", sum := "4387255705f67cde5f5930b154f4106c77e99e15f0fdbd0aad850c6b037d6447", func := "careenage/careenagelaw04.FrameReads", spec := "frameReads", unfollowed := true, recurses := true, apart := false }
def FrameReadsSaid : Prop := frameReadsRow.holds Try.pinned (OpenSpec.ofChange frameReadsSpec)

/-- ITS FALSE NEIGHBOUR: 'it returns false'. Refute it at one input. -/
def frameReadsWrong : ChangeSpec := { name := "frameReads", fn := fun _ => fun
  | [d1, d2, d3, d4] => { results := [.lit (.bool false)], args := [d1, d2, d3, d4] }
  | _ => none }
def FrameReadsWrongFalsely : Prop := frameReadsRow.holds Try.pinned (OpenSpec.ofChange frameReadsWrong)

/-- 'careenagelaw05.MetaNames': WHATEVER THE INPUT: true; the input reads as it did. -/
def metaNamesSpec : ChangeSpec := { name := "metaNames", fn := fun _ => fun
  | [] => { results := [.lit (.bool true)], args := [] }
  | _ => none }
def metaNamesRow : OpenClaim := { program := "ytlnmdfffmflhgaa", sum := "4387255705f67cde5f5930b154f4106c77e99e15f0fdbd0aad850c6b037d6447", func := "careenage/careenagelaw05.MetaNames", spec := "metaNames", unfollowed := true, recurses := true, apart := false }
def MetaNamesSaid : Prop := metaNamesRow.holds Try.pinned (OpenSpec.ofChange metaNamesSpec)

/-- ITS FALSE NEIGHBOUR: 'it returns false'. Refute it at one input. -/
def metaNamesWrong : ChangeSpec := { name := "metaNames", fn := fun _ => fun
  | [] => { results := [.lit (.bool false)], args := [] }
  | _ => none }
def MetaNamesWrongFalsely : Prop := metaNamesRow.holds Try.pinned (OpenSpec.ofChange metaNamesWrong)

/-- 'careenagelaw05.MetaCalls': WHATEVER THE INPUT: true; the input reads as it did. -/
def metaCallsSpec : ChangeSpec := { name := "metaCalls", fn := fun _ => fun
  | [d1, d2, d3, d4] => { results := [.lit (.bool true)], args := [d1, d2, d3, d4] }
  | _ => none }
def metaCallsRow : OpenClaim := { program := "ytlnmdfffmflhgaa", sum := "4387255705f67cde5f5930b154f4106c77e99e15f0fdbd0aad850c6b037d6447", func := "careenage/careenagelaw05.MetaCalls", spec := "metaCalls", unfollowed := true, recurses := true, apart := false }
def MetaCallsSaid : Prop := metaCallsRow.holds Try.pinned (OpenSpec.ofChange metaCallsSpec)

/-- ITS FALSE NEIGHBOUR: 'it returns false'. Refute it at one input. -/
def metaCallsWrong : ChangeSpec := { name := "metaCalls", fn := fun _ => fun
  | [d1, d2, d3, d4] => { results := [.lit (.bool false)], args := [d1, d2, d3, d4] }
  | _ => none }
def MetaCallsWrongFalsely : Prop := metaCallsRow.holds Try.pinned (OpenSpec.ofChange metaCallsWrong)

/-- 'careenagelaw05.MetaNewer': WHATEVER THE INPUT: true; the input reads as it did. -/
def metaNewerSpec : ChangeSpec := { name := "metaNewer", fn := fun _ => fun
  | [d1, d2, d3, d4, d5, d6] => { results := [.lit (.bool true)], args := [d1, d2, d3, d4, d5, d6] }
  | _ => none }
def metaNewerRow : OpenClaim := { program := "ytlnmdfffmflhgaa", sum := "4387255705f67cde5f5930b154f4106c77e99e15f0fdbd0aad850c6b037d6447", func := "careenage/careenagelaw05.MetaNewer", spec := "metaNewer", unfollowed := true, recurses := true, apart := false }
def MetaNewerSaid : Prop := metaNewerRow.holds Try.pinned (OpenSpec.ofChange metaNewerSpec)

/-- ITS FALSE NEIGHBOUR: 'it returns false'. Refute it at one input. -/
def metaNewerWrong : ChangeSpec := { name := "metaNewer", fn := fun _ => fun
  | [d1, d2, d3, d4, d5, d6] => { results := [.lit (.bool false)], args := [d1, d2, d3, d4, d5, d6] }
  | _ => none }
def MetaNewerWrongFalsely : Prop := metaNewerRow.holds Try.pinned (OpenSpec.ofChange metaNewerWrong)

/-- 'careenagelaw05.MetaTurns': WHATEVER THE INPUT: true; the input reads as it did. -/
def metaTurnsSpec : ChangeSpec := { name := "metaTurns", fn := fun _ => fun
  | [d1, d2] => { results := [.lit (.bool true)], args := [d1, d2] }
  | _ => none }
def metaTurnsRow : OpenClaim := { program := "ytlnmdfffmflhgaa", sum := "4387255705f67cde5f5930b154f4106c77e99e15f0fdbd0aad850c6b037d6447", func := "careenage/careenagelaw05.MetaTurns", spec := "metaTurns", unfollowed := true, recurses := true, apart := false }
def MetaTurnsSaid : Prop := metaTurnsRow.holds Try.pinned (OpenSpec.ofChange metaTurnsSpec)

/-- ITS FALSE NEIGHBOUR: 'it returns false'. Refute it at one input. -/
def metaTurnsWrong : ChangeSpec := { name := "metaTurns", fn := fun _ => fun
  | [d1, d2] => { results := [.lit (.bool false)], args := [d1, d2] }
  | _ => none }
def MetaTurnsWrongFalsely : Prop := metaTurnsRow.holds Try.pinned (OpenSpec.ofChange metaTurnsWrong)

/-- 'careenagelaw05.MetaSizes': WHATEVER THE INPUT: true; the input reads as it did. -/
def metaSizesSpec : ChangeSpec := { name := "metaSizes", fn := fun _ => fun
  | [d1, d2, d3] => { results := [.lit (.bool true)], args := [d1, d2, d3] }
  | _ => none }
def metaSizesRow : OpenClaim := { program := "ytlnmdfffmflhgaa", sum := "4387255705f67cde5f5930b154f4106c77e99e15f0fdbd0aad850c6b037d6447", func := "careenage/careenagelaw05.MetaSizes", spec := "metaSizes", unfollowed := true, recurses := true, apart := false }
def MetaSizesSaid : Prop := metaSizesRow.holds Try.pinned (OpenSpec.ofChange metaSizesSpec)

/-- ITS FALSE NEIGHBOUR: 'it returns false'. Refute it at one input. -/
def metaSizesWrong : ChangeSpec := { name := "metaSizes", fn := fun _ => fun
  | [d1, d2, d3] => { results := [.lit (.bool false)], args := [d1, d2, d3] }
  | _ => none }
def MetaSizesWrongFalsely : Prop := metaSizesRow.holds Try.pinned (OpenSpec.ofChange metaSizesWrong)

/- THE SECOND FORM. 'bulk': how many values and letters a reading holds, each counted each time it is reached (what is shared counts as often as it is met; a slice's spare places count too). A statement '..UptoSaid' is the law's where the arguments, and the package variables that the reading takes, are together of bulk at most 1048576: NARROWER than '..Said'. Prove '..Said' where nothing that the law and all that it calls make is longer than what came in: it says more and counts as full. Else prove '..UptoSaid'. A law counts once. -/
mutual
def uptoBulk {H : Type} : DataW H → Nat
  | .lit (.string bytes) => bytes.length + 1
  | .lit _ => 1
  | .nil => 1
  | .ptr d => uptoBulk d + 1
  | .slice elems spare => uptoBulkAll elems + uptoBulkAll spare + 1
  | .agg parts => uptoBulkAll parts + 1
  | .iface _ d => uptoBulk d + 1
  | .map entries => uptoBulkEntries entries + 1
  | .held _ => 1
def uptoBulkAll {H : Type} : List (DataW H) → Nat
  | [] => 0
  | d :: r => uptoBulk d + uptoBulkAll r
def uptoBulkEntries {H : Type} : List (Lit × DataW H) → Nat
  | [] => 0
  | x :: r => uptoBulkEntry x + uptoBulkEntries r
def uptoBulkEntry {H : Type} : Lit × DataW H → Nat
  | (.string bytes, d) => bytes.length + uptoBulk d + 1
  | (_, d) => uptoBulk d + 1
 end
def uptoSmall : (H : Type) → List (DataW H) → Bool := fun _ ds => decide (uptoBulkAll ds ≤ 1048576)
def OpenSpec.upto (s : _root_.Go.ChangeSpec) : _root_.Go.OpenSpec := { _root_.Go.OpenSpec.ofChange s with cond := some uptoSmall }

/-- 'careenagelaw05.MetaBack', WHERE WHAT IT READS IS OF BULK AT MOST 1048576: true; the input reads as it did. -/
def metaBackUptoRow : OpenClaim := { program := "ytlnmdfffmflhgaa", sum := "4387255705f67cde5f5930b154f4106c77e99e15f0fdbd0aad850c6b037d6447", func := "careenage/careenagelaw05.MetaBack", spec := "metaBack", unfollowed := true, recurses := true, apart := false, narrowed := true }
def MetaBackUptoSaid : Prop := metaBackUptoRow.holds Try.pinned (OpenSpec.upto metaBackSpec)

/-- 'careenagelaw04.FrameRot', WHERE WHAT IT READS IS OF BULK AT MOST 1048576: true; the input reads as it did. -/
def frameRotUptoRow : OpenClaim := { program := "ytlnmdfffmflhgaa", sum := "4387255705f67cde5f5930b154f4106c77e99e15f0fdbd0aad850c6b037d6447", func := "careenage/careenagelaw04.FrameRot", spec := "frameRot", unfollowed := true, recurses := true, apart := false, narrowed := true }
def FrameRotUptoSaid : Prop := frameRotUptoRow.holds Try.pinned (OpenSpec.upto frameRotSpec)

/-- 'careenagelaw04.FrameNames', WHERE WHAT IT READS IS OF BULK AT MOST 1048576: true; the input reads as it did. -/
def frameNamesUptoRow : OpenClaim := { program := "ytlnmdfffmflhgaa", sum := "4387255705f67cde5f5930b154f4106c77e99e15f0fdbd0aad850c6b037d6447", func := "careenage/careenagelaw04.FrameNames", spec := "frameNames", unfollowed := true, recurses := true, apart := false, narrowed := true }
def FrameNamesUptoSaid : Prop := frameNamesUptoRow.holds Try.pinned (OpenSpec.upto frameNamesSpec)

/-- 'careenagelaw04.FrameReads', WHERE WHAT IT READS IS OF BULK AT MOST 1048576: true; the input reads as it did. -/
def frameReadsUptoRow : OpenClaim := { program := "ytlnmdfffmflhgaa", sum := "4387255705f67cde5f5930b154f4106c77e99e15f0fdbd0aad850c6b037d6447", func := "careenage/careenagelaw04.FrameReads", spec := "frameReads", unfollowed := true, recurses := true, apart := false, narrowed := true }
def FrameReadsUptoSaid : Prop := frameReadsUptoRow.holds Try.pinned (OpenSpec.upto frameReadsSpec)

/-- 'careenagelaw05.MetaNames', WHERE WHAT IT READS IS OF BULK AT MOST 1048576: true; the input reads as it did. -/
def metaNamesUptoRow : OpenClaim := { program := "ytlnmdfffmflhgaa", sum := "4387255705f67cde5f5930b154f4106c77e99e15f0fdbd0aad850c6b037d6447", func := "careenage/careenagelaw05.MetaNames", spec := "metaNames", unfollowed := true, recurses := true, apart := false, narrowed := true }
def MetaNamesUptoSaid : Prop := metaNamesUptoRow.holds Try.pinned (OpenSpec.upto metaNamesSpec)

/-- 'careenagelaw05.MetaCalls', WHERE WHAT IT READS IS OF BULK AT MOST 1048576: true; the input reads as it did. -/
def metaCallsUptoRow : OpenClaim := { program := "ytlnmdfffmflhgaa", sum := "4387255705f67cde5f5930b154f4106c77e99e15f0fdbd0aad850c6b037d6447", func := "careenage/careenagelaw05.MetaCalls", spec := "metaCalls", unfollowed := true, recurses := true, apart := false, narrowed := true }
def MetaCallsUptoSaid : Prop := metaCallsUptoRow.holds Try.pinned (OpenSpec.upto metaCallsSpec)

/-- 'careenagelaw05.MetaNewer', WHERE WHAT IT READS IS OF BULK AT MOST 1048576: true; the input reads as it did. -/
def metaNewerUptoRow : OpenClaim := { program := "ytlnmdfffmflhgaa", sum := "4387255705f67cde5f5930b154f4106c77e99e15f0fdbd0aad850c6b037d6447", func := "careenage/careenagelaw05.MetaNewer", spec := "metaNewer", unfollowed := true, recurses := true, apart := false, narrowed := true }
def MetaNewerUptoSaid : Prop := metaNewerUptoRow.holds Try.pinned (OpenSpec.upto metaNewerSpec)

/-- 'careenagelaw05.MetaTurns', WHERE WHAT IT READS IS OF BULK AT MOST 1048576: true; the input reads as it did. -/
def metaTurnsUptoRow : OpenClaim := { program := "ytlnmdfffmflhgaa", sum := "4387255705f67cde5f5930b154f4106c77e99e15f0fdbd0aad850c6b037d6447", func := "careenage/careenagelaw05.MetaTurns", spec := "metaTurns", unfollowed := true, recurses := true, apart := false, narrowed := true }
def MetaTurnsUptoSaid : Prop := metaTurnsUptoRow.holds Try.pinned (OpenSpec.upto metaTurnsSpec)

/-- 'careenagelaw05.MetaSizes', WHERE WHAT IT READS IS OF BULK AT MOST 1048576: true; the input reads as it did. -/
def metaSizesUptoRow : OpenClaim := { program := "ytlnmdfffmflhgaa", sum := "4387255705f67cde5f5930b154f4106c77e99e15f0fdbd0aad850c6b037d6447", func := "careenage/careenagelaw05.MetaSizes", spec := "metaSizes", unfollowed := true, recurses := true, apart := false, narrowed := true }
def MetaSizesUptoSaid : Prop := metaSizesUptoRow.holds Try.pinned (OpenSpec.upto metaSizesSpec)

end Rows
end Go.Proofs.Ytlnmdfffmflhgaa
