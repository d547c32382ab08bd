/-
  No cell of these rows narrows 'for every input' (looked for: loops, veiled, ifaces, maps, wideKeys, modest, calm, conditions, laid).
  DERIVED. THE GIVEN ROWS OF THIS SEAT. 11 by the template 'for every input the law returns true; each argument reads behind the call as it read before'; 0 by the template 'total and deterministic' (their statements: YtmnpchmdgobcnaaTotals.lean).
  GIVEN WITH THE SEED: the statements are not yours to turn. If you find one false, say at which input.
  Laid BY PROGRAM, IN A SANDBOX (cutbox-rows.mjs): the forced cells as the released guide's own fill.sh prints them over the translation 6ab7530b4cc83bf5… (all of the seat's roots in one cut). By AI agents, Wed Nov 11 2026. No macro, syntax, notation, axiom, sorry.
-/
import Derived.Test.YtmnpchmdgobcnaaChecked
import GoSem.Claim
import GoSem.ClaimJoined
import GoSem.ClaimMapViews
import Derived.JoinedTies
import Derived.KernelRfl
namespace Go.Proofs.Ytmnpchmdgobcnaa
/- THE CELL 'sum', in the pinned program and in every row, IS THE sha256 OF THE DUMP (.gsa) THAT YtmnpchmdgobcnaaProg.lean LOADS. Nothing in Lean hashes anything: it is a label: what it is worth is what the hold of that sum in a sandbox is worth. -/
noncomputable def Try.pinned : Pinned := { name := "ytmnpchmdgobcnaa", sum := "6ab7530b4cc83bf528b772f370bf11994c9eb8c038354f214dba9214f356b665", checked := Try.checked }
namespace Rows
def none {H : Type} : Left H := { results := [], args := [] }

/-- 'careenagelaw08.LeafFinds': WHATEVER THE INPUT: true; the input reads as it did. -/
def leafFindsSpec : ChangeSpec := { name := "leafFinds", fn := fun _ => fun
  | [d1, d2, d3] => { results := [.lit (.bool true)], args := [d1, d2, d3] }
  | _ => none }
def leafFindsRow : OpenClaim := { program := "ytmnpchmdgobcnaa", sum := "6ab7530b4cc83bf528b772f370bf11994c9eb8c038354f214dba9214f356b665", func := "careenage/careenagelaw08.LeafFinds", spec := "leafFinds", inPlace := ["internal/reflectlite.ValueOf", "(internal/reflectlite.Value).Len"], unfollowed := true, recurses := true, apart := false }
def LeafFindsSaid : Prop := leafFindsRow.holds Try.pinned (OpenSpec.ofChange leafFindsSpec)

/-- ITS FALSE NEIGHBOUR: 'it returns false'. Refute it at one input. -/
def leafFindsWrong : ChangeSpec := { name := "leafFinds", fn := fun _ => fun
  | [d1, d2, d3] => { results := [.lit (.bool false)], args := [d1, d2, d3] }
  | _ => none }
def LeafFindsWrongFalsely : Prop := leafFindsRow.holds Try.pinned (OpenSpec.ofChange leafFindsWrong)

/-- 'careenagelaw08.LeafBack': WHATEVER THE INPUT: true; the input reads as it did. -/
def leafBackSpec : ChangeSpec := { name := "leafBack", fn := fun _ => fun
  | [d1, d2, d3, d4, d5] => { results := [.lit (.bool true)], args := [d1, d2, d3, d4, d5] }
  | _ => none }
def leafBackRow : OpenClaim := { program := "ytmnpchmdgobcnaa", sum := "6ab7530b4cc83bf528b772f370bf11994c9eb8c038354f214dba9214f356b665", func := "careenage/careenagelaw08.LeafBack", spec := "leafBack", unfollowed := true, recurses := true, apart := false }
def LeafBackSaid : Prop := leafBackRow.holds Try.pinned (OpenSpec.ofChange leafBackSpec)

/-- ITS FALSE NEIGHBOUR: 'it returns false'. Refute it at one input. -/
def leafBackWrong : ChangeSpec := { name := "leafBack", fn := fun _ => fun
  | [d1, d2, d3, d4, d5] => { results := [.lit (.bool false)], args := [d1, d2, d3, d4, d5] }
  | _ => none }
def LeafBackWrongFalsely : Prop := leafBackRow.holds Try.pinned (OpenSpec.ofChange leafBackWrong)

/-- 'careenagelaw08.LeafFits': WHATEVER THE INPUT: true; the input reads as it did. -/
def leafFitsSpec : ChangeSpec := { name := "leafFits", fn := fun _ => fun
  | [d1, d2, d3, d4, d5] => { results := [.lit (.bool true)], args := [d1, d2, d3, d4, d5] }
  | _ => none }
def leafFitsRow : OpenClaim := { program := "ytmnpchmdgobcnaa", sum := "6ab7530b4cc83bf528b772f370bf11994c9eb8c038354f214dba9214f356b665", func := "careenage/careenagelaw08.LeafFits", spec := "leafFits", unfollowed := true, recurses := true, apart := false }
def LeafFitsSaid : Prop := leafFitsRow.holds Try.pinned (OpenSpec.ofChange leafFitsSpec)

/-- ITS FALSE NEIGHBOUR: 'it returns false'. Refute it at one input. -/
def leafFitsWrong : ChangeSpec := { name := "leafFits", fn := fun _ => fun
  | [d1, d2, d3, d4, d5] => { results := [.lit (.bool false)], args := [d1, d2, d3, d4, d5] }
  | _ => none }
def LeafFitsWrongFalsely : Prop := leafFitsRow.holds Try.pinned (OpenSpec.ofChange leafFitsWrong)

/-- 'careenagelaw11.ChainLays': WHATEVER THE INPUT: true; the input reads as it did. -/
def chainLaysSpec : ChangeSpec := { name := "chainLays", fn := fun _ => fun
  | [d1, d2, d3, d4, d5, d6, d7, d8] => { results := [.lit (.bool true)], args := [d1, d2, d3, d4, d5, d6, d7, d8] }
  | _ => none }
def chainLaysRow : OpenClaim := { program := "ytmnpchmdgobcnaa", sum := "6ab7530b4cc83bf528b772f370bf11994c9eb8c038354f214dba9214f356b665", func := "careenage/careenagelaw11.ChainLays", spec := "chainLays", unfollowed := true, recurses := true, apart := false }
def ChainLaysSaid : Prop := chainLaysRow.holds Try.pinned (OpenSpec.ofChange chainLaysSpec)

/-- ITS FALSE NEIGHBOUR: 'it returns false'. Refute it at one input. -/
def chainLaysWrong : ChangeSpec := { name := "chainLays", fn := fun _ => fun
  | [d1, d2, d3, d4, d5, d6, d7, d8] => { results := [.lit (.bool false)], args := [d1, d2, d3, d4, d5, d6, d7, d8] }
  | _ => none }
def ChainLaysWrongFalsely : Prop := chainLaysRow.holds Try.pinned (OpenSpec.ofChange chainLaysWrong)

/-- 'careenagelaw08.LeafNames': WHATEVER THE INPUT: true; the input reads as it did. -/
def leafNamesSpec : ChangeSpec := { name := "leafNames", fn := fun _ => fun
  | [] => { results := [.lit (.bool true)], args := [] }
  | _ => none }
def leafNamesRow : OpenClaim := { program := "ytmnpchmdgobcnaa", sum := "6ab7530b4cc83bf528b772f370bf11994c9eb8c038354f214dba9214f356b665", func := "careenage/careenagelaw08.LeafNames", spec := "leafNames", inPlace := ["internal/reflectlite.ValueOf", "(internal/reflectlite.Value).Len"], unfollowed := true, recurses := true, apart := false }
def LeafNamesSaid : Prop := leafNamesRow.holds Try.pinned (OpenSpec.ofChange leafNamesSpec)

/-- ITS FALSE NEIGHBOUR: 'it returns false'. Refute it at one input. -/
def leafNamesWrong : ChangeSpec := { name := "leafNames", fn := fun _ => fun
  | [] => { results := [.lit (.bool false)], args := [] }
  | _ => none }
def LeafNamesWrongFalsely : Prop := leafNamesRow.holds Try.pinned (OpenSpec.ofChange leafNamesWrong)

/-- 'careenagelaw08.LeafCalls': WHATEVER THE INPUT: true; the input reads as it did. -/
def leafCallsSpec : ChangeSpec := { name := "leafCalls", fn := fun _ => fun
  | [d1, d2, d3, d4, d5, d6, d7] => { results := [.lit (.bool true)], args := [d1, d2, d3, d4, d5, d6, d7] }
  | _ => none }
def leafCallsRow : OpenClaim := { program := "ytmnpchmdgobcnaa", sum := "6ab7530b4cc83bf528b772f370bf11994c9eb8c038354f214dba9214f356b665", func := "careenage/careenagelaw08.LeafCalls", spec := "leafCalls", inPlace := ["internal/reflectlite.ValueOf", "(internal/reflectlite.Value).Len"], unfollowed := true, recurses := true, apart := false }
def LeafCallsSaid : Prop := leafCallsRow.holds Try.pinned (OpenSpec.ofChange leafCallsSpec)

/-- ITS FALSE NEIGHBOUR: 'it returns false'. Refute it at one input. -/
def leafCallsWrong : ChangeSpec := { name := "leafCalls", fn := fun _ => fun
  | [d1, d2, d3, d4, d5, d6, d7] => { results := [.lit (.bool false)], args := [d1, d2, d3, d4, d5, d6, d7] }
  | _ => none }
def LeafCallsWrongFalsely : Prop := leafCallsRow.holds Try.pinned (OpenSpec.ofChange leafCallsWrong)

/-- 'careenagelaw11.ChainOnce': WHATEVER THE INPUT: true; the input reads as it did. -/
def chainOnceSpec : ChangeSpec := { name := "chainOnce", fn := fun _ => fun
  | [d] => { results := [.lit (.bool true)], args := [d] }
  | _ => none }
def chainOnceRow : OpenClaim := { program := "ytmnpchmdgobcnaa", sum := "6ab7530b4cc83bf528b772f370bf11994c9eb8c038354f214dba9214f356b665", func := "careenage/careenagelaw11.ChainOnce", spec := "chainOnce", unfollowed := true, recurses := true, apart := false }
def ChainOnceSaid : Prop := chainOnceRow.holds Try.pinned (OpenSpec.ofChange chainOnceSpec)

/-- ITS FALSE NEIGHBOUR: 'it returns false'. Refute it at one input. -/
def chainOnceWrong : ChangeSpec := { name := "chainOnce", fn := fun _ => fun
  | [d] => { results := [.lit (.bool false)], args := [d] }
  | _ => none }
def ChainOnceWrongFalsely : Prop := chainOnceRow.holds Try.pinned (OpenSpec.ofChange chainOnceWrong)

/-- 'careenagelaw11.ChainPlaces': WHATEVER THE INPUT: true; the input reads as it did. -/
def chainPlacesSpec : ChangeSpec := { name := "chainPlaces", fn := fun _ => fun
  | [d1, d2, d3, d4, d5] => { results := [.lit (.bool true)], args := [d1, d2, d3, d4, d5] }
  | _ => none }
def chainPlacesRow : OpenClaim := { program := "ytmnpchmdgobcnaa", sum := "6ab7530b4cc83bf528b772f370bf11994c9eb8c038354f214dba9214f356b665", func := "careenage/careenagelaw11.ChainPlaces", spec := "chainPlaces", unfollowed := true, recurses := true, apart := false }
def ChainPlacesSaid : Prop := chainPlacesRow.holds Try.pinned (OpenSpec.ofChange chainPlacesSpec)

/-- ITS FALSE NEIGHBOUR: 'it returns false'. Refute it at one input. -/
def chainPlacesWrong : ChangeSpec := { name := "chainPlaces", fn := fun _ => fun
  | [d1, d2, d3, d4, d5] => { results := [.lit (.bool false)], args := [d1, d2, d3, d4, d5] }
  | _ => none }
def ChainPlacesWrongFalsely : Prop := chainPlacesRow.holds Try.pinned (OpenSpec.ofChange chainPlacesWrong)

/-- 'careenagelaw11.ChainReads': WHATEVER THE INPUT: true; the input reads as it did. -/
def chainReadsSpec : ChangeSpec := { name := "chainReads", fn := fun _ => fun
  | [d1, d2, d3, d4, d5] => { results := [.lit (.bool true)], args := [d1, d2, d3, d4, d5] }
  | _ => none }
def chainReadsRow : OpenClaim := { program := "ytmnpchmdgobcnaa", sum := "6ab7530b4cc83bf528b772f370bf11994c9eb8c038354f214dba9214f356b665", func := "careenage/careenagelaw11.ChainReads", spec := "chainReads", unfollowed := true, recurses := true, apart := false }
def ChainReadsSaid : Prop := chainReadsRow.holds Try.pinned (OpenSpec.ofChange chainReadsSpec)

/-- ITS FALSE NEIGHBOUR: 'it returns false'. Refute it at one input. -/
def chainReadsWrong : ChangeSpec := { name := "chainReads", fn := fun _ => fun
  | [d1, d2, d3, d4, d5] => { results := [.lit (.bool false)], args := [d1, d2, d3, d4, d5] }
  | _ => none }
def ChainReadsWrongFalsely : Prop := chainReadsRow.holds Try.pinned (OpenSpec.ofChange chainReadsWrong)

/-- 'careenagelaw11.ChainNames': WHATEVER THE INPUT: true; the input reads as it did. -/
def chainNamesSpec : ChangeSpec := { name := "chainNames", fn := fun _ => fun
  | [] => { results := [.lit (.bool true)], args := [] }
  | _ => none }
def chainNamesRow : OpenClaim := { program := "ytmnpchmdgobcnaa", sum := "6ab7530b4cc83bf528b772f370bf11994c9eb8c038354f214dba9214f356b665", func := "careenage/careenagelaw11.ChainNames", spec := "chainNames", unfollowed := true, recurses := true, apart := false }
def ChainNamesSaid : Prop := chainNamesRow.holds Try.pinned (OpenSpec.ofChange chainNamesSpec)

/-- ITS FALSE NEIGHBOUR: 'it returns false'. Refute it at one input. -/
def chainNamesWrong : ChangeSpec := { name := "chainNames", fn := fun _ => fun
  | [] => { results := [.lit (.bool false)], args := [] }
  | _ => none }
def ChainNamesWrongFalsely : Prop := chainNamesRow.holds Try.pinned (OpenSpec.ofChange chainNamesWrong)

/-- 'careenagelaw11.ChainBack': WHATEVER THE INPUT: true; the input reads as it did. -/
def chainBackSpec : ChangeSpec := { name := "chainBack", fn := fun _ => fun
  | [d1, d2, d3, d4, d5, d6] => { results := [.lit (.bool true)], args := [d1, d2, d3, d4, d5, d6] }
  | _ => none }
def chainBackRow : OpenClaim := { program := "ytmnpchmdgobcnaa", sum := "6ab7530b4cc83bf528b772f370bf11994c9eb8c038354f214dba9214f356b665", func := "careenage/careenagelaw11.ChainBack", spec := "chainBack", unfollowed := true, recurses := true, apart := false }
def ChainBackSaid : Prop := chainBackRow.holds Try.pinned (OpenSpec.ofChange chainBackSpec)

/-- ITS FALSE NEIGHBOUR: 'it returns false'. Refute it at one input. -/
def chainBackWrong : ChangeSpec := { name := "chainBack", fn := fun _ => fun
  | [d1, d2, d3, d4, d5, d6] => { results := [.lit (.bool false)], args := [d1, d2, d3, d4, d5, d6] }
  | _ => none }
def ChainBackWrongFalsely : Prop := chainBackRow.holds Try.pinned (OpenSpec.ofChange chainBackWrong)

/- THE SECOND FORM. 'bulk': how many values and letters a reading holds, each counted each time it is reached (what is shared counts as often as it is met; a slice's spare places count too). A statement '..UptoSaid' is the law's where the arguments, and the package variables that the reading takes, are together of bulk at most 1048576: NARROWER than '..Said'. Prove '..Said' where nothing that the law and all that it calls make is longer than what came in: it says more and counts as full. Else prove '..UptoSaid'. A law counts once. -/
mutual
def uptoBulk {H : Type} : DataW H → Nat
  | .lit (.string bytes) => bytes.length + 1
  | .lit _ => 1
  | .nil => 1
  | .ptr d => uptoBulk d + 1
  | .slice elems spare => uptoBulkAll elems + uptoBulkAll spare + 1
  | .agg parts => uptoBulkAll parts + 1
  | .iface _ d => uptoBulk d + 1
  | .map entries => uptoBulkEntries entries + 1
  | .held _ => 1
def uptoBulkAll {H : Type} : List (DataW H) → Nat
  | [] => 0
  | d :: r => uptoBulk d + uptoBulkAll r
def uptoBulkEntries {H : Type} : List (Lit × DataW H) → Nat
  | [] => 0
  | x :: r => uptoBulkEntry x + uptoBulkEntries r
def uptoBulkEntry {H : Type} : Lit × DataW H → Nat
  | (.string bytes, d) => bytes.length + uptoBulk d + 1
  | (_, d) => uptoBulk d + 1
 end
def uptoSmall : (H : Type) → List (DataW H) → Bool := fun _ ds => decide (uptoBulkAll ds ≤ 1048576)
def OpenSpec.upto (s : _root_.Go.ChangeSpec) : _root_.Go.OpenSpec := { _root_.Go.OpenSpec.ofChange s with cond := some uptoSmall }

/-- 'careenagelaw08.LeafFinds', WHERE WHAT IT READS IS OF BULK AT MOST 1048576: true; the input reads as it did. -/
def leafFindsUptoRow : OpenClaim := { program := "ytmnpchmdgobcnaa", sum := "6ab7530b4cc83bf528b772f370bf11994c9eb8c038354f214dba9214f356b665", func := "careenage/careenagelaw08.LeafFinds", spec := "leafFinds", inPlace := ["internal/reflectlite.ValueOf", "(internal/reflectlite.Value).Len"], unfollowed := true, recurses := true, apart := false, narrowed := true }
def LeafFindsUptoSaid : Prop := leafFindsUptoRow.holds Try.pinned (OpenSpec.upto leafFindsSpec)

/-- 'careenagelaw08.LeafBack', WHERE WHAT IT READS IS OF BULK AT MOST 1048576: true; the input reads as it did. -/
def leafBackUptoRow : OpenClaim := { program := "ytmnpchmdgobcnaa", sum := "6ab7530b4cc83bf528b772f370bf11994c9eb8c038354f214dba9214f356b665", func := "careenage/careenagelaw08.LeafBack", spec := "leafBack", unfollowed := true, recurses := true, apart := false, narrowed := true }
def LeafBackUptoSaid : Prop := leafBackUptoRow.holds Try.pinned (OpenSpec.upto leafBackSpec)

/-- 'careenagelaw08.LeafFits', WHERE WHAT IT READS IS OF BULK AT MOST 1048576: true; the input reads as it did. -/
def leafFitsUptoRow : OpenClaim := { program := "ytmnpchmdgobcnaa", sum := "6ab7530b4cc83bf528b772f370bf11994c9eb8c038354f214dba9214f356b665", func := "careenage/careenagelaw08.LeafFits", spec := "leafFits", unfollowed := true, recurses := true, apart := false, narrowed := true }
def LeafFitsUptoSaid : Prop := leafFitsUptoRow.holds Try.pinned (OpenSpec.upto leafFitsSpec)

/-- 'careenagelaw11.ChainLays', WHERE WHAT IT READS IS OF BULK AT MOST 1048576: true; the input reads as it did. -/
def chainLaysUptoRow : OpenClaim := { program := "ytmnpchmdgobcnaa", sum := "6ab7530b4cc83bf528b772f370bf11994c9eb8c038354f214dba9214f356b665", func := "careenage/careenagelaw11.ChainLays", spec := "chainLays", unfollowed := true, recurses := true, apart := false, narrowed := true }
def ChainLaysUptoSaid : Prop := chainLaysUptoRow.holds Try.pinned (OpenSpec.upto chainLaysSpec)

/-- 'careenagelaw08.LeafNames', WHERE WHAT IT READS IS OF BULK AT MOST 1048576: true; the input reads as it did. -/
def leafNamesUptoRow : OpenClaim := { program := "ytmnpchmdgobcnaa", sum := "6ab7530b4cc83bf528b772f370bf11994c9eb8c038354f214dba9214f356b665", func := "careenage/careenagelaw08.LeafNames", spec := "leafNames", inPlace := ["internal/reflectlite.ValueOf", "(internal/reflectlite.Value).Len"], unfollowed := true, recurses := true, apart := false, narrowed := true }
def LeafNamesUptoSaid : Prop := leafNamesUptoRow.holds Try.pinned (OpenSpec.upto leafNamesSpec)

/-- 'careenagelaw08.LeafCalls', WHERE WHAT IT READS IS OF BULK AT MOST 1048576: true; the input reads as it did. -/
def leafCallsUptoRow : OpenClaim := { program := "ytmnpchmdgobcnaa", sum := "6ab7530b4cc83bf528b772f370bf11994c9eb8c038354f214dba9214f356b665", func := "careenage/careenagelaw08.LeafCalls", spec := "leafCalls", inPlace := ["internal/reflectlite.ValueOf", "(internal/reflectlite.Value).Len"], unfollowed := true, recurses := true, apart := false, narrowed := true }
def LeafCallsUptoSaid : Prop := leafCallsUptoRow.holds Try.pinned (OpenSpec.upto leafCallsSpec)

/-- 'careenagelaw11.ChainOnce', WHERE WHAT IT READS IS OF BULK AT MOST 1048576: true; the input reads as it did. -/
def chainOnceUptoRow : OpenClaim := { program := "ytmnpchmdgobcnaa", sum := "6ab7530b4cc83bf528b772f370bf11994c9eb8c038354f214dba9214f356b665", func := "careenage/careenagelaw11.ChainOnce", spec := "chainOnce", unfollowed := true, recurses := true, apart := false, narrowed := true }
def ChainOnceUptoSaid : Prop := chainOnceUptoRow.holds Try.pinned (OpenSpec.upto chainOnceSpec)

/-- 'careenagelaw11.ChainPlaces', WHERE WHAT IT READS IS OF BULK AT MOST 1048576: true; the input reads as it did. -/
def chainPlacesUptoRow : OpenClaim := { program := "ytmnpchmdgobcnaa", sum := "6ab7530b4cc83bf528b772f370bf11994c9eb8c038354f214dba9214f356b665", func := "careenage/careenagelaw11.ChainPlaces", spec := "chainPlaces", unfollowed := true, recurses := true, apart := false, narrowed := true }
def ChainPlacesUptoSaid : Prop := chainPlacesUptoRow.holds Try.pinned (OpenSpec.upto chainPlacesSpec)

/-- 'careenagelaw11.ChainReads', WHERE WHAT IT READS IS OF BULK AT MOST 1048576: true; the input reads as it did. -/
def chainReadsUptoRow : OpenClaim := { program := "ytmnpchmdgobcnaa", sum := "6ab7530b4cc83bf528b772f370bf11994c9eb8c038354f214dba9214f356b665", func := "careenage/careenagelaw11.ChainReads", spec := "chainReads", unfollowed := true, recurses := true, apart := false, narrowed := true }
def ChainReadsUptoSaid : Prop := chainReadsUptoRow.holds Try.pinned (OpenSpec.upto chainReadsSpec)

/-- 'careenagelaw11.ChainNames', WHERE WHAT IT READS IS OF BULK AT MOST 1048576: true; the input reads as it did. -/
def chainNamesUptoRow : OpenClaim := { program := "ytmnpchmdgobcnaa", sum := "6ab7530b4cc83bf528b772f370bf11994c9eb8c038354f214dba9214f356b665", func := "careenage/careenagelaw11.ChainNames", spec := "chainNames", unfollowed := true, recurses := true, apart := false, narrowed := true }
def ChainNamesUptoSaid : Prop := chainNamesUptoRow.holds Try.pinned (OpenSpec.upto chainNamesSpec)

/-- 'careenagelaw11.ChainBack', WHERE WHAT IT READS IS OF BULK AT MOST 1048576: true; the input reads as it did. -/
def chainBackUptoRow : OpenClaim := { program := "ytmnpchmdgobcnaa", sum := "6ab7530b4cc83bf528b772f370bf11994c9eb8c038354f214dba9214f356b665", func := "careenage/careenagelaw11.ChainBack", spec := "chainBack", unfollowed := true, recurses := true, apart := false, narrowed := true }
def ChainBackUptoSaid : Prop := chainBackUptoRow.holds Try.pinned (OpenSpec.upto chainBackSpec)

end Rows
end Go.Proofs.Ytmnpchmdgobcnaa
