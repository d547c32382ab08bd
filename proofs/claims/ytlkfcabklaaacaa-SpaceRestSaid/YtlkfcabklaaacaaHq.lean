/- Words of my own: more of what comes in. -/
import Derived.Test.YtlkfcabklaaacaaHo
import Derived.Test.YtlkfcabklaaacaaSx0
set_option linter.unusedVariables false
namespace Go.Ev
open Go.RowKit Go.ChangeShapes Go.WideShapes Go.ChangeAt
theorem opens_byte {P : Program} {T : TypeId} (hu : P.underlying T = some (.int .u8)) : Opens P T kB (fun _ => True) := by
  intro H enc W base spare held n cs y h _
  obtain ⟨x, rfl, _, hw⟩ := DataW.trod_int hu h
  have h0 : 0 ≤ x ∧ x < 256 := by
    revert hw
    simp [Lit.wf, IntKind.signed, IntKind.bits, IntKind.min, IntKind.max]
    omega
  refine ⟨UInt8.ofNat x.toNat, ?_, trivial⟩
  show [Value.int .u8 x] = [.int .u8 (((UInt8.ofNat x.toNat).toNat : Nat) : Int)]
  rw [UInt8.toNat_ofNat', Nat.mod_eq_of_lt (by omega), Int.toNat_of_nonneg h0.1]
theorem opens_u32 {P : Program} {T : TypeId} (hu : P.underlying T = some (.int .u32)) : Opens P T kU (fun x => x < 4294967296) := by
  intro H enc W base spare held n cs y h hw
  obtain ⟨x, h1, h2⟩ := opens_nat (kd := .u32) rfl hu H enc W base spare held n cs y h hw
  refine ⟨x, h1, ?_⟩
  revert h2
  simp [Lit.wf, IntKind.signed, IntKind.bits, IntKind.min, IntKind.max]
  omega
def kM (m : Mta) : List Value := [.int .u64 (m.tx : Int), .int .i64 m.size, .int .u32 (m.root : Int), .int .u32 (m.free : Int), .int .u32 (m.pages : Int)]
end Go.Ev
