/-
  No cell of these rows narrows 'for every input' (looked for: loops, veiled, ifaces, maps, wideKeys, modest, calm, conditions, laid).
  DERIVED. THE GIVEN ROWS OF THIS SEAT. 11 by the template 'for every input the law returns true; each argument reads behind the call as it read before'; 0 by the template 'total and deterministic' (their statements: YtlkfcabklaaacaaTotals.lean).
  GIVEN WITH THE SEED: the statements are not yours to turn. If you find one false, say at which input.
  Laid BY PROGRAM, IN A SANDBOX (cutbox-rows.mjs): the forced cells as the released guide's own fill.sh prints them over the translation fa0dee7c5b2bb693… (all of the seat's roots in one cut). By AI agents, Wed Nov 11 2026. No macro, syntax, notation, axiom, sorry.
-/
import Derived.Test.YtlkfcabklaaacaaChecked
import GoSem.Claim
import GoSem.ClaimJoined
import GoSem.ClaimMapViews
import Derived.JoinedTies
import Derived.KernelRfl
namespace Go.Proofs.Ytlkfcabklaaacaa
/- THE CELL 'sum', in the pinned program and in every row, IS THE sha256 OF THE DUMP (.gsa) THAT YtlkfcabklaaacaaProg.lean LOADS. Nothing in Lean hashes anything: it is a label: what it is worth is what the hold of that sum in a sandbox is worth. -/
noncomputable def Try.pinned : Pinned := { name := "ytlkfcabklaaacaa", sum := "fa0dee7c5b2bb6939560cb38bc50f4133e1fca580b14ddd72937c30a8c0c7f6b", checked := Try.checked }
namespace Rows
def none {H : Type} : Left H := { results := [], args := [] }

/-- 'careenagelaw20.SpaceRest': WHATEVER THE INPUT: true; the input reads as it did. -/
def spaceRestSpec : ChangeSpec := { name := "spaceRest", fn := fun _ => fun
  | [d1, d2, d3] => { results := [.lit (.bool true)], args := [d1, d2, d3] }
  | _ => none }
def spaceRestRow : OpenClaim := { program := "ytlkfcabklaaacaa", sum := "fa0dee7c5b2bb6939560cb38bc50f4133e1fca580b14ddd72937c30a8c0c7f6b", func := "careenage/careenagelaw20.SpaceRest", spec := "spaceRest", unfollowed := true, recurses := true, apart := false }
def SpaceRestSaid : Prop := spaceRestRow.holds Try.pinned (OpenSpec.ofChange spaceRestSpec)

/-- ITS FALSE NEIGHBOUR: 'it returns false'. Refute it at one input. -/
def spaceRestWrong : ChangeSpec := { name := "spaceRest", fn := fun _ => fun
  | [d1, d2, d3] => { results := [.lit (.bool false)], args := [d1, d2, d3] }
  | _ => none }
def SpaceRestWrongFalsely : Prop := spaceRestRow.holds Try.pinned (OpenSpec.ofChange spaceRestWrong)

/-- 'careenagelaw20.SpaceOrder': WHATEVER THE INPUT: true; the input reads as it did. -/
def spaceOrderSpec : ChangeSpec := { name := "spaceOrder", fn := fun _ => fun
  | [d1, d2, d3, d4, d5] => { results := [.lit (.bool true)], args := [d1, d2, d3, d4, d5] }
  | _ => none }
def spaceOrderRow : OpenClaim := { program := "ytlkfcabklaaacaa", sum := "fa0dee7c5b2bb6939560cb38bc50f4133e1fca580b14ddd72937c30a8c0c7f6b", func := "careenage/careenagelaw20.SpaceOrder", spec := "spaceOrder", unfollowed := true, recurses := true, apart := false }
def SpaceOrderSaid : Prop := spaceOrderRow.holds Try.pinned (OpenSpec.ofChange spaceOrderSpec)

/-- ITS FALSE NEIGHBOUR: 'it returns false'. Refute it at one input. -/
def spaceOrderWrong : ChangeSpec := { name := "spaceOrder", fn := fun _ => fun
  | [d1, d2, d3, d4, d5] => { results := [.lit (.bool false)], args := [d1, d2, d3, d4, d5] }
  | _ => none }
def SpaceOrderWrongFalsely : Prop := spaceOrderRow.holds Try.pinned (OpenSpec.ofChange spaceOrderWrong)

/-- 'careenagelaw07.BranchPicks': WHATEVER THE INPUT: true; the input reads as it did. -/
def branchPicksSpec : ChangeSpec := { name := "branchPicks", fn := fun _ => fun
  | [d1, d2, d3, d4] => { results := [.lit (.bool true)], args := [d1, d2, d3, d4] }
  | _ => none }
def branchPicksRow : OpenClaim := { program := "ytlkfcabklaaacaa", sum := "fa0dee7c5b2bb6939560cb38bc50f4133e1fca580b14ddd72937c30a8c0c7f6b", func := "careenage/careenagelaw07.BranchPicks", spec := "branchPicks", apart := false }
def BranchPicksSaid : Prop := branchPicksRow.holds Try.pinned (OpenSpec.ofChange branchPicksSpec)

/-- ITS FALSE NEIGHBOUR: 'it returns false'. Refute it at one input. -/
def branchPicksWrong : ChangeSpec := { name := "branchPicks", fn := fun _ => fun
  | [d1, d2, d3, d4] => { results := [.lit (.bool false)], args := [d1, d2, d3, d4] }
  | _ => none }
def BranchPicksWrongFalsely : Prop := branchPicksRow.holds Try.pinned (OpenSpec.ofChange branchPicksWrong)

/-- 'careenagelaw10.FreeNames': WHATEVER THE INPUT: true; the input reads as it did. -/
def freeNamesSpec : ChangeSpec := { name := "freeNames", fn := fun _ => fun
  | [] => { results := [.lit (.bool true)], args := [] }
  | _ => none }
def freeNamesRow : OpenClaim := { program := "ytlkfcabklaaacaa", sum := "fa0dee7c5b2bb6939560cb38bc50f4133e1fca580b14ddd72937c30a8c0c7f6b", func := "careenage/careenagelaw10.FreeNames", spec := "freeNames", unfollowed := true, recurses := true, apart := false }
def FreeNamesSaid : Prop := freeNamesRow.holds Try.pinned (OpenSpec.ofChange freeNamesSpec)

/-- ITS FALSE NEIGHBOUR: 'it returns false'. Refute it at one input. -/
def freeNamesWrong : ChangeSpec := { name := "freeNames", fn := fun _ => fun
  | [] => { results := [.lit (.bool false)], args := [] }
  | _ => none }
def FreeNamesWrongFalsely : Prop := freeNamesRow.holds Try.pinned (OpenSpec.ofChange freeNamesWrong)

/-- 'careenagelaw10.FreeCalls': WHATEVER THE INPUT: true; the input reads as it did. -/
def freeCallsSpec : ChangeSpec := { name := "freeCalls", fn := fun _ => fun
  | [d1, d2, d3, d4, d5, d6, d7] => { results := [.lit (.bool true)], args := [d1, d2, d3, d4, d5, d6, d7] }
  | _ => none }
def freeCallsRow : OpenClaim := { program := "ytlkfcabklaaacaa", sum := "fa0dee7c5b2bb6939560cb38bc50f4133e1fca580b14ddd72937c30a8c0c7f6b", func := "careenage/careenagelaw10.FreeCalls", spec := "freeCalls", unfollowed := true, recurses := true, apart := false }
def FreeCallsSaid : Prop := freeCallsRow.holds Try.pinned (OpenSpec.ofChange freeCallsSpec)

/-- ITS FALSE NEIGHBOUR: 'it returns false'. Refute it at one input. -/
def freeCallsWrong : ChangeSpec := { name := "freeCalls", fn := fun _ => fun
  | [d1, d2, d3, d4, d5, d6, d7] => { results := [.lit (.bool false)], args := [d1, d2, d3, d4, d5, d6, d7] }
  | _ => none }
def FreeCallsWrongFalsely : Prop := freeCallsRow.holds Try.pinned (OpenSpec.ofChange freeCallsWrong)

/-- 'careenagelaw10.FreeBack': WHATEVER THE INPUT: true; the input reads as it did. -/
def freeBackSpec : ChangeSpec := { name := "freeBack", fn := fun _ => fun
  | [d1, d2, d3, d4, d5, d6, d7] => { results := [.lit (.bool true)], args := [d1, d2, d3, d4, d5, d6, d7] }
  | _ => none }
def freeBackRow : OpenClaim := { program := "ytlkfcabklaaacaa", sum := "fa0dee7c5b2bb6939560cb38bc50f4133e1fca580b14ddd72937c30a8c0c7f6b", func := "careenage/careenagelaw10.FreeBack", spec := "freeBack", unfollowed := true, recurses := true, apart := false }
def FreeBackSaid : Prop := freeBackRow.holds Try.pinned (OpenSpec.ofChange freeBackSpec)

/-- ITS FALSE NEIGHBOUR: 'it returns false'. Refute it at one input. -/
def freeBackWrong : ChangeSpec := { name := "freeBack", fn := fun _ => fun
  | [d1, d2, d3, d4, d5, d6, d7] => { results := [.lit (.bool false)], args := [d1, d2, d3, d4, d5, d6, d7] }
  | _ => none }
def FreeBackWrongFalsely : Prop := freeBackRow.holds Try.pinned (OpenSpec.ofChange freeBackWrong)

/-- 'careenagelaw10.FreeSplits': WHATEVER THE INPUT: true; the input reads as it did. -/
def freeSplitsSpec : ChangeSpec := { name := "freeSplits", fn := fun _ => fun
  | [d1, d2, d3] => { results := [.lit (.bool true)], args := [d1, d2, d3] }
  | _ => none }
def freeSplitsRow : OpenClaim := { program := "ytlkfcabklaaacaa", sum := "fa0dee7c5b2bb6939560cb38bc50f4133e1fca580b14ddd72937c30a8c0c7f6b", func := "careenage/careenagelaw10.FreeSplits", spec := "freeSplits", unfollowed := true, recurses := true, apart := false }
def FreeSplitsSaid : Prop := freeSplitsRow.holds Try.pinned (OpenSpec.ofChange freeSplitsSpec)

/-- ITS FALSE NEIGHBOUR: 'it returns false'. Refute it at one input. -/
def freeSplitsWrong : ChangeSpec := { name := "freeSplits", fn := fun _ => fun
  | [d1, d2, d3] => { results := [.lit (.bool false)], args := [d1, d2, d3] }
  | _ => none }
def FreeSplitsWrongFalsely : Prop := freeSplitsRow.holds Try.pinned (OpenSpec.ofChange freeSplitsWrong)

/-- 'careenagelaw07.BranchNames': WHATEVER THE INPUT: true; the input reads as it did. -/
def branchNamesSpec : ChangeSpec := { name := "branchNames", fn := fun _ => fun
  | [] => { results := [.lit (.bool true)], args := [] }
  | _ => none }
def branchNamesRow : OpenClaim := { program := "ytlkfcabklaaacaa", sum := "fa0dee7c5b2bb6939560cb38bc50f4133e1fca580b14ddd72937c30a8c0c7f6b", func := "careenage/careenagelaw07.BranchNames", spec := "branchNames", unfollowed := true, recurses := true, apart := false }
def BranchNamesSaid : Prop := branchNamesRow.holds Try.pinned (OpenSpec.ofChange branchNamesSpec)

/-- ITS FALSE NEIGHBOUR: 'it returns false'. Refute it at one input. -/
def branchNamesWrong : ChangeSpec := { name := "branchNames", fn := fun _ => fun
  | [] => { results := [.lit (.bool false)], args := [] }
  | _ => none }
def BranchNamesWrongFalsely : Prop := branchNamesRow.holds Try.pinned (OpenSpec.ofChange branchNamesWrong)

/-- 'careenagelaw07.BranchCalls': WHATEVER THE INPUT: true; the input reads as it did. -/
def branchCallsSpec : ChangeSpec := { name := "branchCalls", fn := fun _ => fun
  | [d1, d2, d3, d4, d5, d6] => { results := [.lit (.bool true)], args := [d1, d2, d3, d4, d5, d6] }
  | _ => none }
def branchCallsRow : OpenClaim := { program := "ytlkfcabklaaacaa", sum := "fa0dee7c5b2bb6939560cb38bc50f4133e1fca580b14ddd72937c30a8c0c7f6b", func := "careenage/careenagelaw07.BranchCalls", spec := "branchCalls", unfollowed := true, recurses := true, apart := false }
def BranchCallsSaid : Prop := branchCallsRow.holds Try.pinned (OpenSpec.ofChange branchCallsSpec)

/-- ITS FALSE NEIGHBOUR: 'it returns false'. Refute it at one input. -/
def branchCallsWrong : ChangeSpec := { name := "branchCalls", fn := fun _ => fun
  | [d1, d2, d3, d4, d5, d6] => { results := [.lit (.bool false)], args := [d1, d2, d3, d4, d5, d6] }
  | _ => none }
def BranchCallsWrongFalsely : Prop := branchCallsRow.holds Try.pinned (OpenSpec.ofChange branchCallsWrong)

/-- 'careenagelaw07.BranchBack': WHATEVER THE INPUT: true; the input reads as it did. -/
def branchBackSpec : ChangeSpec := { name := "branchBack", fn := fun _ => fun
  | [d1, d2, d3, d4, d5] => { results := [.lit (.bool true)], args := [d1, d2, d3, d4, d5] }
  | _ => none }
def branchBackRow : OpenClaim := { program := "ytlkfcabklaaacaa", sum := "fa0dee7c5b2bb6939560cb38bc50f4133e1fca580b14ddd72937c30a8c0c7f6b", func := "careenage/careenagelaw07.BranchBack", spec := "branchBack", unfollowed := true, recurses := true, apart := false }
def BranchBackSaid : Prop := branchBackRow.holds Try.pinned (OpenSpec.ofChange branchBackSpec)

/-- ITS FALSE NEIGHBOUR: 'it returns false'. Refute it at one input. -/
def branchBackWrong : ChangeSpec := { name := "branchBack", fn := fun _ => fun
  | [d1, d2, d3, d4, d5] => { results := [.lit (.bool false)], args := [d1, d2, d3, d4, d5] }
  | _ => none }
def BranchBackWrongFalsely : Prop := branchBackRow.holds Try.pinned (OpenSpec.ofChange branchBackWrong)

/-- 'careenagelaw07.BranchFits': WHATEVER THE INPUT: true; the input reads as it did. -/
def branchFitsSpec : ChangeSpec := { name := "branchFits", fn := fun _ => fun
  | [d1, d2, d3, d4] => { results := [.lit (.bool true)], args := [d1, d2, d3, d4] }
  | _ => none }
def branchFitsRow : OpenClaim := { program := "ytlkfcabklaaacaa", sum := "fa0dee7c5b2bb6939560cb38bc50f4133e1fca580b14ddd72937c30a8c0c7f6b", func := "careenage/careenagelaw07.BranchFits", spec := "branchFits", unfollowed := true, recurses := true, apart := false }
def BranchFitsSaid : Prop := branchFitsRow.holds Try.pinned (OpenSpec.ofChange branchFitsSpec)

/-- ITS FALSE NEIGHBOUR: 'it returns false'. Refute it at one input. -/
def branchFitsWrong : ChangeSpec := { name := "branchFits", fn := fun _ => fun
  | [d1, d2, d3, d4] => { results := [.lit (.bool false)], args := [d1, d2, d3, d4] }
  | _ => none }
def BranchFitsWrongFalsely : Prop := branchFitsRow.holds Try.pinned (OpenSpec.ofChange branchFitsWrong)

/- THE SECOND FORM. 'bulk': how many values and letters a reading holds, each counted each time it is reached (what is shared counts as often as it is met; a slice's spare places count too). A statement '..UptoSaid' is the law's where the arguments, and the package variables that the reading takes, are together of bulk at most 1048576: NARROWER than '..Said'. Prove '..Said' where nothing that the law and all that it calls make is longer than what came in: it says more and counts as full. Else prove '..UptoSaid'. A law counts once. -/
mutual
def uptoBulk {H : Type} : DataW H → Nat
  | .lit (.string bytes) => bytes.length + 1
  | .lit _ => 1
  | .nil => 1
  | .ptr d => uptoBulk d + 1
  | .slice elems spare => uptoBulkAll elems + uptoBulkAll spare + 1
  | .agg parts => uptoBulkAll parts + 1
  | .iface _ d => uptoBulk d + 1
  | .map entries => uptoBulkEntries entries + 1
  | .held _ => 1
def uptoBulkAll {H : Type} : List (DataW H) → Nat
  | [] => 0
  | d :: r => uptoBulk d + uptoBulkAll r
def uptoBulkEntries {H : Type} : List (Lit × DataW H) → Nat
  | [] => 0
  | x :: r => uptoBulkEntry x + uptoBulkEntries r
def uptoBulkEntry {H : Type} : Lit × DataW H → Nat
  | (.string bytes, d) => bytes.length + uptoBulk d + 1
  | (_, d) => uptoBulk d + 1
 end
def uptoSmall : (H : Type) → List (DataW H) → Bool := fun _ ds => decide (uptoBulkAll ds ≤ 1048576)
def OpenSpec.upto (s : _root_.Go.ChangeSpec) : _root_.Go.OpenSpec := { _root_.Go.OpenSpec.ofChange s with cond := some uptoSmall }

/-- 'careenagelaw20.SpaceRest', WHERE WHAT IT READS IS OF BULK AT MOST 1048576: true; the input reads as it did. -/
def spaceRestUptoRow : OpenClaim := { program := "ytlkfcabklaaacaa", sum := "fa0dee7c5b2bb6939560cb38bc50f4133e1fca580b14ddd72937c30a8c0c7f6b", func := "careenage/careenagelaw20.SpaceRest", spec := "spaceRest", unfollowed := true, recurses := true, apart := false, narrowed := true }
def SpaceRestUptoSaid : Prop := spaceRestUptoRow.holds Try.pinned (OpenSpec.upto spaceRestSpec)

/-- 'careenagelaw20.SpaceOrder', WHERE WHAT IT READS IS OF BULK AT MOST 1048576: true; the input reads as it did. -/
def spaceOrderUptoRow : OpenClaim := { program := "ytlkfcabklaaacaa", sum := "fa0dee7c5b2bb6939560cb38bc50f4133e1fca580b14ddd72937c30a8c0c7f6b", func := "careenage/careenagelaw20.SpaceOrder", spec := "spaceOrder", unfollowed := true, recurses := true, apart := false, narrowed := true }
def SpaceOrderUptoSaid : Prop := spaceOrderUptoRow.holds Try.pinned (OpenSpec.upto spaceOrderSpec)

/-- 'careenagelaw07.BranchPicks', WHERE WHAT IT READS IS OF BULK AT MOST 1048576: true; the input reads as it did. -/
def branchPicksUptoRow : OpenClaim := { program := "ytlkfcabklaaacaa", sum := "fa0dee7c5b2bb6939560cb38bc50f4133e1fca580b14ddd72937c30a8c0c7f6b", func := "careenage/careenagelaw07.BranchPicks", spec := "branchPicks", apart := false, narrowed := true }
def BranchPicksUptoSaid : Prop := branchPicksUptoRow.holds Try.pinned (OpenSpec.upto branchPicksSpec)

/-- 'careenagelaw10.FreeNames', WHERE WHAT IT READS IS OF BULK AT MOST 1048576: true; the input reads as it did. -/
def freeNamesUptoRow : OpenClaim := { program := "ytlkfcabklaaacaa", sum := "fa0dee7c5b2bb6939560cb38bc50f4133e1fca580b14ddd72937c30a8c0c7f6b", func := "careenage/careenagelaw10.FreeNames", spec := "freeNames", unfollowed := true, recurses := true, apart := false, narrowed := true }
def FreeNamesUptoSaid : Prop := freeNamesUptoRow.holds Try.pinned (OpenSpec.upto freeNamesSpec)

/-- 'careenagelaw10.FreeCalls', WHERE WHAT IT READS IS OF BULK AT MOST 1048576: true; the input reads as it did. -/
def freeCallsUptoRow : OpenClaim := { program := "ytlkfcabklaaacaa", sum := "fa0dee7c5b2bb6939560cb38bc50f4133e1fca580b14ddd72937c30a8c0c7f6b", func := "careenage/careenagelaw10.FreeCalls", spec := "freeCalls", unfollowed := true, recurses := true, apart := false, narrowed := true }
def FreeCallsUptoSaid : Prop := freeCallsUptoRow.holds Try.pinned (OpenSpec.upto freeCallsSpec)

/-- 'careenagelaw10.FreeBack', WHERE WHAT IT READS IS OF BULK AT MOST 1048576: true; the input reads as it did. -/
def freeBackUptoRow : OpenClaim := { program := "ytlkfcabklaaacaa", sum := "fa0dee7c5b2bb6939560cb38bc50f4133e1fca580b14ddd72937c30a8c0c7f6b", func := "careenage/careenagelaw10.FreeBack", spec := "freeBack", unfollowed := true, recurses := true, apart := false, narrowed := true }
def FreeBackUptoSaid : Prop := freeBackUptoRow.holds Try.pinned (OpenSpec.upto freeBackSpec)

/-- 'careenagelaw10.FreeSplits', WHERE WHAT IT READS IS OF BULK AT MOST 1048576: true; the input reads as it did. -/
def freeSplitsUptoRow : OpenClaim := { program := "ytlkfcabklaaacaa", sum := "fa0dee7c5b2bb6939560cb38bc50f4133e1fca580b14ddd72937c30a8c0c7f6b", func := "careenage/careenagelaw10.FreeSplits", spec := "freeSplits", unfollowed := true, recurses := true, apart := false, narrowed := true }
def FreeSplitsUptoSaid : Prop := freeSplitsUptoRow.holds Try.pinned (OpenSpec.upto freeSplitsSpec)

/-- 'careenagelaw07.BranchNames', WHERE WHAT IT READS IS OF BULK AT MOST 1048576: true; the input reads as it did. -/
def branchNamesUptoRow : OpenClaim := { program := "ytlkfcabklaaacaa", sum := "fa0dee7c5b2bb6939560cb38bc50f4133e1fca580b14ddd72937c30a8c0c7f6b", func := "careenage/careenagelaw07.BranchNames", spec := "branchNames", unfollowed := true, recurses := true, apart := false, narrowed := true }
def BranchNamesUptoSaid : Prop := branchNamesUptoRow.holds Try.pinned (OpenSpec.upto branchNamesSpec)

/-- 'careenagelaw07.BranchCalls', WHERE WHAT IT READS IS OF BULK AT MOST 1048576: true; the input reads as it did. -/
def branchCallsUptoRow : OpenClaim := { program := "ytlkfcabklaaacaa", sum := "fa0dee7c5b2bb6939560cb38bc50f4133e1fca580b14ddd72937c30a8c0c7f6b", func := "careenage/careenagelaw07.BranchCalls", spec := "branchCalls", unfollowed := true, recurses := true, apart := false, narrowed := true }
def BranchCallsUptoSaid : Prop := branchCallsUptoRow.holds Try.pinned (OpenSpec.upto branchCallsSpec)

/-- 'careenagelaw07.BranchBack', WHERE WHAT IT READS IS OF BULK AT MOST 1048576: true; the input reads as it did. -/
def branchBackUptoRow : OpenClaim := { program := "ytlkfcabklaaacaa", sum := "fa0dee7c5b2bb6939560cb38bc50f4133e1fca580b14ddd72937c30a8c0c7f6b", func := "careenage/careenagelaw07.BranchBack", spec := "branchBack", unfollowed := true, recurses := true, apart := false, narrowed := true }
def BranchBackUptoSaid : Prop := branchBackUptoRow.holds Try.pinned (OpenSpec.upto branchBackSpec)

/-- 'careenagelaw07.BranchFits', WHERE WHAT IT READS IS OF BULK AT MOST 1048576: true; the input reads as it did. -/
def branchFitsUptoRow : OpenClaim := { program := "ytlkfcabklaaacaa", sum := "fa0dee7c5b2bb6939560cb38bc50f4133e1fca580b14ddd72937c30a8c0c7f6b", func := "careenage/careenagelaw07.BranchFits", spec := "branchFits", unfollowed := true, recurses := true, apart := false, narrowed := true }
def BranchFitsUptoSaid : Prop := branchFitsUptoRow.holds Try.pinned (OpenSpec.upto branchFitsSpec)

end Rows
end Go.Proofs.Ytlkfcabklaaacaa
