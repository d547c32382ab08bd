/- Words of my own, printed by a program of mine. -/
import Derived.Test.YtlkfcabklaaacaaBTab
section
set_option linter.unusedVariables false
set_option linter.unusedSimpArgs false
set_option maxRecDepth 100000
set_option maxHeartbeats 400000
namespace Go.Ev
open Go.RowKit Go.Proofs
theorem kit_Own_uint32_fn : cfg0.fn 17 = some Try.f17 := rfl
abbrev kit_Own_uint32_R : Type := (List (Nat))
@[reducible] def kit_Own_uint32_rt (b0 : List (Nat)) : Option kit_Own_uint32_R := some b0
def kit_Own_uint32_out : kit_Own_uint32_R → AV × AH
  | b0 => ((.sl 1 1), [(1, (.row .u32 0 b0 28 (0, 0)))])
def kit_Own_uint32_ret (v : AV) (h : AH) (nx : Nat) : Option kit_Own_uint32_R := match v, h, nx with
  | (.sl 1 1), [(1, (.row .u32 0 b0 28 (0, 0)))], 2 => some b0
  | _, _, _ => none
theorem kit_Own_uint32_ret_ok (v : AV) (h : AH) (nx : Nat) (r : kit_Own_uint32_R) (e : kit_Own_uint32_ret v h nx = some r) : kit_Own_uint32_out r = (v, h) ∧ nx = 2 := by
  unfold kit_Own_uint32_ret at e
  split at e
  · cases e; exact ⟨rfl, rfl⟩
  · cases e
def kit_Own_uint32_kr : KN := [((0, 0), (.u32, 28))]
noncomputable def kit_Own_uint32_pre (n : Nat) : CT := ctZ
theorem kit_Own_uint32_pre_ok (n : Nat) : COk cfg0 (kit_Own_uint32_pre n) := ctZ_ok
noncomputable def kit_Own_uint32_E0 (n : Nat) (R : Type) (o1 : Nat) (f1 : Nat × Nat) (a1 : List Nat) (jf lf : List Nat → Nat → AT → AS → Option R) : SE R := ⟨[(0, (.row .u32 o1 a1 28 f1))], Try.f17.ntmps, 1, callA cfg0 kd [(0, (.row .u32 o1 a1 28 f1))] (kit_Own_uint32_pre n), n, [], [], [], jf, lf⟩
def kit_Own_uint32_F (n : Nat) (a1 : List Nat)   : Option kit_Own_uint32_R := bif Nat.ble ((0 : Nat) + List.length a1) 100000000 then kit_Own_uint32_rt ([] ++ a1) else none
def kit_Own_uint32 (n : Nat) (a1 : List Nat)  : Option kit_Own_uint32_R := kit_Own_uint32_F n a1  
def kit_Own_uint32_jf (n : Nat) (a1 : List Nat) : List Nat → Nat → AT → AS → Option kit_Own_uint32_R := fun ms key T s => none
def kit_Own_uint32_lf (n : Nat) (a1 : List Nat) : List Nat → Nat → AT → AS → Option kit_Own_uint32_R := fun ms key T s => none
noncomputable def kit_Own_uint32_E (n : Nat) (o1 : Nat) (f1 : Nat × Nat) (a1 : List Nat) : SE kit_Own_uint32_R := kit_Own_uint32_E0 n kit_Own_uint32_R o1 f1 a1 (kit_Own_uint32_jf n a1) (kit_Own_uint32_lf n a1)
theorem kit_Own_uint32_eq (n : Nat) (o1 : Nat) (f1 : Nat × Nat) (a1 : List Nat) : sxF cfg0 kd kit_Own_uint32_kr (kit_Own_uint32_E n o1 f1 a1) Try.f17 (bodyOf Try.f17) [] [.sl 0 1] kit_Own_uint32_ret = kit_Own_uint32 n a1  := by kernel_rfl
theorem kit_Own_uint32_pv (n : Nat) (o1 : Nat) (f1 : Nat × Nat) (a1 : List Nat) (r : kit_Own_uint32_R) : PV cfg0 kd (kit_Own_uint32_E n o1 f1 a1) r [] (bodyOf Try.f17) (retK cfg0 kd kit_Own_uint32_kr (kit_Own_uint32_E n o1 f1 a1) Try.f17.results.toList kit_Own_uint32_ret) := by
  exact PV.triv (by kernel_rfl)
noncomputable def kit_Own_uint32_ct (n : Nat) (vs : List AV) (h : AH) : Option Ctr := match vs, h with
  | [.sl 0 1], [(0, (.row .u32 o1 a1 28 f1))] => some ⟨kit_Own_uint32_R, kit_Own_uint32 n  a1 , [], 1, kit_Own_uint32_out⟩
  | _, _ => none
theorem kit_Own_uint32_ok (n : Nat) : COk1 cfg0 17 (kit_Own_uint32_ct n) := by
  intro vs h c r e hm
  unfold kit_Own_uint32_ct at e
  split at e
  · rename_i o1 a1 f1
    cases e
    exact sxF_ok (E := kit_Own_uint32_E n o1 f1 a1) (nx1 := 2) (kit_Own_uint32_fn) rfl rfl (callA_ok (kit_Own_uint32_pre_ok n)) kit_Own_uint32_ret_ok rfl (kit_Own_uint32_pv n o1 f1 a1 r) ((kit_Own_uint32_eq n o1 f1 a1 ).trans hm)
  · cases e
end Go.Ev
end
section
set_option linter.unusedVariables false
set_option linter.unusedSimpArgs false
set_option maxRecDepth 100000
set_option maxHeartbeats 400000
namespace Go.Ev
open Go.RowKit Go.Proofs
theorem kit_Pick_fn : cfg0.fn 18 = some Try.f18 := rfl
abbrev kit_Pick_R : Type := Int
@[reducible] def kit_Pick_rt (b0 : Int) : Option kit_Pick_R := some b0
def kit_Pick_out : kit_Pick_R → AV × AH
  | b0 => ((.i .i64 b0), [])
def kit_Pick_ret (v : AV) (h : AH) (nx : Nat) : Option kit_Pick_R := match v, h, nx with
  | (.i .i64 b0), [], 0 => some b0
  | _, _, _ => none
theorem kit_Pick_ret_ok (v : AV) (h : AH) (nx : Nat) (r : kit_Pick_R) (e : kit_Pick_ret v h nx = some r) : kit_Pick_out r = (v, h) ∧ nx = 0 := by
  unfold kit_Pick_ret at e
  split at e
  · cases e; exact ⟨rfl, rfl⟩
  · cases e
def kit_Pick_kr : KN := []
noncomputable def kit_Pick_pre (n : Nat) : CT := ctZ
theorem kit_Pick_pre_ok (n : Nat) : COk cfg0 (kit_Pick_pre n) := ctZ_ok
noncomputable def kit_Pick_E0 (n : Nat) (R : Type)   (jf lf : List Nat → Nat → AT → AS → Option R) : SE R := ⟨[], Try.f18.ntmps, 0, callA cfg0 kd [] (kit_Pick_pre n), n, [], [], [], jf, lf⟩
def kit_Pick_F (n : Nat) (a1 : Int) (a2 : Int)  : Option kit_Pick_R := bif decide (a2 < 1) then kit_Pick_rt 0 else bif decide (a2 ≠ 0) then bif decide (Int.tmod a1 a2 < 0) then kit_Pick_rt (w64 (Int.tmod a1 a2 + a2)) else kit_Pick_rt (Int.tmod a1 a2) else none
def kit_Pick (n : Nat) (a1 : Int) (a2 : Int) : Option kit_Pick_R := kit_Pick_F n a1 a2 
def kit_Pick_jf (n : Nat) : List Nat → Nat → AT → AS → Option kit_Pick_R := fun ms key T s => none
def kit_Pick_lf (n : Nat) : List Nat → Nat → AT → AS → Option kit_Pick_R := fun ms key T s => none
noncomputable def kit_Pick_E (n : Nat)   : SE kit_Pick_R := kit_Pick_E0 n kit_Pick_R   (kit_Pick_jf n) (kit_Pick_lf n)
theorem kit_Pick_eq (n : Nat) (a1 : Int) (a2 : Int) : sxF cfg0 kd kit_Pick_kr (kit_Pick_E n  ) Try.f18 (bodyOf Try.f18) [] [.i .i64 a1, .i .i64 a2] kit_Pick_ret = kit_Pick n a1 a2 := by kernel_rfl
theorem kit_Pick_pv (n : Nat) (r : kit_Pick_R) : PV cfg0 kd (kit_Pick_E n  ) r [] (bodyOf Try.f18) (retK cfg0 kd kit_Pick_kr (kit_Pick_E n  ) Try.f18.results.toList kit_Pick_ret) := by
  exact PV.triv (by kernel_rfl)
noncomputable def kit_Pick_ct (n : Nat) (vs : List AV) (h : AH) : Option Ctr := match vs, h with
  | [.i .i64 a1, .i .i64 a2], [] => some ⟨kit_Pick_R, kit_Pick n   a1 a2, [], 0, kit_Pick_out⟩
  | _, _ => none
theorem kit_Pick_ok (n : Nat) : COk1 cfg0 18 (kit_Pick_ct n) := by
  intro vs h c r e hm
  unfold kit_Pick_ct at e
  split at e
  · rename_i a1 a2
    cases e
    exact sxF_ok (E := kit_Pick_E n  ) (nx1 := 0) (kit_Pick_fn) rfl rfl (callA_ok (kit_Pick_pre_ok n)) kit_Pick_ret_ok rfl (kit_Pick_pv n   r) ((kit_Pick_eq n   a1 a2).trans hm)
  · cases e
end Go.Ev
end
section
set_option linter.unusedVariables false
set_option linter.unusedSimpArgs false
set_option maxRecDepth 100000
set_option maxHeartbeats 400000
namespace Go.Ev
open Go.RowKit Go.Proofs
theorem kit_Same_uint32_fn : cfg0.fn 21 = some Try.f21 := rfl
abbrev kit_Same_uint32_R : Type := Bool
@[reducible] def kit_Same_uint32_rt (b0 : Bool) : Option kit_Same_uint32_R := some b0
def kit_Same_uint32_out : kit_Same_uint32_R → AV × AH
  | b0 => ((.b b0), [])
def kit_Same_uint32_ret (v : AV) (h : AH) (nx : Nat) : Option kit_Same_uint32_R := match v, h, nx with
  | (.b b0), [], 2 => some b0
  | _, _, _ => none
theorem kit_Same_uint32_ret_ok (v : AV) (h : AH) (nx : Nat) (r : kit_Same_uint32_R) (e : kit_Same_uint32_ret v h nx = some r) : kit_Same_uint32_out r = (v, h) ∧ nx = 2 := by
  unfold kit_Same_uint32_ret at e
  split at e
  · cases e; exact ⟨rfl, rfl⟩
  · cases e
def kit_Same_uint32_kr : KN := []
noncomputable def kit_Same_uint32_pre (n : Nat) : CT := ctZ
theorem kit_Same_uint32_pre_ok (n : Nat) : COk cfg0 (kit_Same_uint32_pre n) := ctZ_ok
noncomputable def kit_Same_uint32_E0 (n : Nat) (R : Type) (o1 : Nat) (f1 : Nat × Nat) (o2 : Nat) (f2 : Nat × Nat) (a1 : List Nat) (a2 : List Nat) (jf lf : List Nat → Nat → AT → AS → Option R) : SE R := ⟨[(0, (.row .u32 o1 a1 28 f1)), (1, (.row .u32 o2 a2 28 f2))], Try.f21.ntmps, 2, callA cfg0 kd [(0, (.row .u32 o1 a1 28 f1)), (1, (.row .u32 o2 a2 28 f2))] (kit_Same_uint32_pre n), n, [(5, ([0, 1, 5], 0))], [], [], jf, lf⟩
def kit_Same_uint32_L5F (n : Nat) (a1 : List Nat) (a2 : List Nat) (r5 : (Int → Option kit_Same_uint32_R))  (x0 : Int) : Option kit_Same_uint32_R := bif decide (x0 < (↑(List.length a1) : Int)) then bif decide (0 ≤ x0) && decide (Int.toNat x0 < List.length a1) then Option.bind a1[Int.toNat x0]? fun z => bif decide (0 ≤ x0) && decide (Int.toNat x0 < List.length a2) then Option.bind a2[Int.toNat x0]? fun z_1 => bif decide (z ≠ z_1) then kit_Same_uint32_rt false else r5 (w64 (x0 + 1)) else none else none else kit_Same_uint32_rt true
def kit_Same_uint32_L5 (n : Nat) (a1 : List Nat) (a2 : List Nat)  : Nat → Int → Option kit_Same_uint32_R
  | 0, _ => none
  | m + 1, x0 => kit_Same_uint32_L5F n a1 a2  (kit_Same_uint32_L5 n a1 a2  m)  x0
def kit_Same_uint32_F (n : Nat) (a1 : List Nat) (a2 : List Nat)  (l5 : (Int → Option kit_Same_uint32_R)) : Option kit_Same_uint32_R := bif decide ((↑(List.length a1) : Int) ≠ (↑(List.length a2) : Int)) then kit_Same_uint32_rt false else l5 0
def kit_Same_uint32 (n : Nat) (a1 : List Nat) (a2 : List Nat)  : Option kit_Same_uint32_R := kit_Same_uint32_F n a1 a2  (kit_Same_uint32_L5 n a1 a2 n)
def kit_Same_uint32_L5q (n : Nat) (a1 : List Nat) (a2 : List Nat) (m5 : Nat) (T : AT) (s : AS) : Option kit_Same_uint32_R := match T, s with
  | [(0, (.sl 0 1)), (1, (.sl 1 1)), (5, (.i .i64 x0))], ⟨[], 2, []⟩ => kit_Same_uint32_L5 n a1 a2  m5 x0
  | _, _ => none
def kit_Same_uint32_jf (n : Nat) (a1 : List Nat) (a2 : List Nat) : List Nat → Nat → AT → AS → Option kit_Same_uint32_R := fun ms key T s => none
def kit_Same_uint32_lf (n : Nat) (a1 : List Nat) (a2 : List Nat) : List Nat → Nat → AT → AS → Option kit_Same_uint32_R := fun ms key T s => cond (Nat.beq key 5) (match ms with | [m5] => kit_Same_uint32_L5q n a1 a2 m5 T s | _ => none) (none)
noncomputable def kit_Same_uint32_E (n : Nat) (o1 : Nat) (f1 : Nat × Nat) (o2 : Nat) (f2 : Nat × Nat) (a1 : List Nat) (a2 : List Nat) : SE kit_Same_uint32_R := kit_Same_uint32_E0 n kit_Same_uint32_R o1 f1 o2 f2 a1 a2 (kit_Same_uint32_jf n a1 a2) (kit_Same_uint32_lf n a1 a2)
theorem kit_Same_uint32_eq (n : Nat) (o1 : Nat) (f1 : Nat × Nat) (o2 : Nat) (f2 : Nat × Nat) (a1 : List Nat) (a2 : List Nat) : sxF cfg0 kd kit_Same_uint32_kr (kit_Same_uint32_E n o1 f1 o2 f2 a1 a2) Try.f21 (bodyOf Try.f21) [] [.sl 0 1, .sl 1 1] kit_Same_uint32_ret = kit_Same_uint32 n a1 a2  := by kernel_rfl
theorem kit_Same_uint32_pv (n : Nat) (o1 : Nat) (f1 : Nat × Nat) (o2 : Nat) (f2 : Nat × Nat) (a1 : List Nat) (a2 : List Nat) (r : kit_Same_uint32_R) : PV cfg0 kd (kit_Same_uint32_E n o1 f1 o2 f2 a1 a2) r [] (bodyOf Try.f21) (retK cfg0 kd kit_Same_uint32_kr (kit_Same_uint32_E n o1 f1 o2 f2 a1 a2) Try.f21.results.toList kit_Same_uint32_ret) := by
  refine PV.sn (by kernel_rfl) ?_ ?_
  ·
    refine PV.sn (by kernel_rfl) ?_ ?_
    ·
      refine PV.sn (by kernel_rfl) ?_ ?_
      ·
        exact PV.triv (by kernel_rfl)
      ·
        refine PV.sn (by kernel_rfl) ?_ ?_
        ·
          refine PV.bl ?_
          refine PV.lp (live := [0, 1, 5]) (by kernel_rfl) ?_ ?_ ?_
          · intro T s h; change kit_Same_uint32_L5q n a1 a2 0 _ _ = some r at h; unfold kit_Same_uint32_L5q at h; split at h
            · exact nomatch (show (none : Option kit_Same_uint32_R) = some r from h)
            · cases h
          · intro m5 T s h; change kit_Same_uint32_L5q n a1 a2 (m5 + 1) _ _ = some r at h; unfold kit_Same_uint32_L5q at h; split at h
            · exact Eq.trans (by kernel_rfl) h
            · cases h
          · intro m5
            exact PV.triv (by kernel_rfl)
        ·
          exact PV.triv (by kernel_rfl)
    ·
      exact PV.triv (by kernel_rfl)
  ·
    exact PV.triv (by kernel_rfl)
noncomputable def kit_Same_uint32_ct (n : Nat) (vs : List AV) (h : AH) : Option Ctr := match vs, h with
  | [.sl 0 1, .sl 1 1], [(0, (.row .u32 o1 a1 28 f1)), (1, (.row .u32 o2 a2 28 f2))] => some ⟨kit_Same_uint32_R, kit_Same_uint32 n  a1 a2 , [], 0, kit_Same_uint32_out⟩
  | _, _ => none
theorem kit_Same_uint32_ok (n : Nat) : COk1 cfg0 21 (kit_Same_uint32_ct n) := by
  intro vs h c r e hm
  unfold kit_Same_uint32_ct at e
  split at e
  · rename_i o1 a1 f1 o2 a2 f2
    cases e
    exact sxF_ok (E := kit_Same_uint32_E n o1 f1 o2 f2 a1 a2) (nx1 := 2) (kit_Same_uint32_fn) rfl rfl (callA_ok (kit_Same_uint32_pre_ok n)) kit_Same_uint32_ret_ok rfl (kit_Same_uint32_pv n o1 f1 o2 f2 a1 a2 r) ((kit_Same_uint32_eq n o1 f1 o2 f2 a1 a2 ).trans hm)
  · cases e
end Go.Ev
end
section
set_option linter.unusedVariables false
set_option linter.unusedSimpArgs false
set_option maxRecDepth 100000
set_option maxHeartbeats 400000
namespace Go.Ev
open Go.RowKit Go.Proofs
theorem free_Rises_1_fn : cfg0.fn 62 = some Try.f62 := rfl
abbrev free_Rises_1_R : Type := Int
@[reducible] def free_Rises_1_rt (b0 : Int) : Option free_Rises_1_R := some b0
def free_Rises_1_out : free_Rises_1_R → AV × AH
  | b0 => ((.i .i64 b0), [])
def free_Rises_1_ret (v : AV) (h : AH) (nx : Nat) : Option free_Rises_1_R := match v, h, nx with
  | (.i .i64 b0), [], 0 => some b0
  | _, _, _ => none
theorem free_Rises_1_ret_ok (v : AV) (h : AH) (nx : Nat) (r : free_Rises_1_R) (e : free_Rises_1_ret v h nx = some r) : free_Rises_1_out r = (v, h) ∧ nx = 0 := by
  unfold free_Rises_1_ret at e
  split at e
  · cases e; exact ⟨rfl, rfl⟩
  · cases e
def free_Rises_1_kr : KN := []
noncomputable def free_Rises_1_pre (n : Nat) : CT := ctZ
theorem free_Rises_1_pre_ok (n : Nat) : COk cfg0 (free_Rises_1_pre n) := ctZ_ok
noncomputable def free_Rises_1_E0 (n : Nat) (R : Type)   (jf lf : List Nat → Nat → AT → AS → Option R) : SE R := ⟨[], Try.f62.ntmps, 0, callA cfg0 kd [] (free_Rises_1_pre n), n, [], [], [], jf, lf⟩
def free_Rises_1_F (n : Nat) (a1 : Nat) (a2 : Nat)  : Option free_Rises_1_R := bif decide (a2 < a1) then free_Rises_1_rt 1 else free_Rises_1_rt (-1)
def free_Rises_1 (n : Nat) (a1 : Nat) (a2 : Nat) : Option free_Rises_1_R := free_Rises_1_F n a1 a2 
def free_Rises_1_jf (n : Nat) : List Nat → Nat → AT → AS → Option free_Rises_1_R := fun ms key T s => none
def free_Rises_1_lf (n : Nat) : List Nat → Nat → AT → AS → Option free_Rises_1_R := fun ms key T s => none
noncomputable def free_Rises_1_E (n : Nat)   : SE free_Rises_1_R := free_Rises_1_E0 n free_Rises_1_R   (free_Rises_1_jf n) (free_Rises_1_lf n)
theorem free_Rises_1_eq (n : Nat) (a1 : Nat) (a2 : Nat) : sxF cfg0 kd free_Rises_1_kr (free_Rises_1_E n  ) Try.f62 (bodyOf Try.f62) [] [.n .u32 a1, .n .u32 a2] free_Rises_1_ret = free_Rises_1 n a1 a2 := by kernel_rfl
theorem free_Rises_1_pv (n : Nat) (r : free_Rises_1_R) : PV cfg0 kd (free_Rises_1_E n  ) r [] (bodyOf Try.f62) (retK cfg0 kd free_Rises_1_kr (free_Rises_1_E n  ) Try.f62.results.toList free_Rises_1_ret) := by
  exact PV.triv (by kernel_rfl)
noncomputable def free_Rises_1_ct (n : Nat) (vs : List AV) (h : AH) : Option Ctr := match vs, h with
  | [.n .u32 a1, .n .u32 a2], [] => some ⟨free_Rises_1_R, free_Rises_1 n   a1 a2, [], 0, free_Rises_1_out⟩
  | _, _ => none
theorem free_Rises_1_ok (n : Nat) : COk1 cfg0 62 (free_Rises_1_ct n) := by
  intro vs h c r e hm
  unfold free_Rises_1_ct at e
  split at e
  · rename_i a1 a2
    cases e
    exact sxF_ok (E := free_Rises_1_E n  ) (nx1 := 0) (free_Rises_1_fn) rfl rfl (callA_ok (free_Rises_1_pre_ok n)) free_Rises_1_ret_ok rfl (free_Rises_1_pv n   r) ((free_Rises_1_eq n   a1 a2).trans hm)
  · cases e
end Go.Ev
end
section
set_option linter.unusedVariables false
set_option linter.unusedSimpArgs false
set_option maxRecDepth 100000
set_option maxHeartbeats 400000
namespace Go.Ev
open Go.RowKit Go.Proofs
theorem slices_IsSortedFunc_uint32_uint32_fn : cfg0.fn 61 = some Try.f61 := rfl
abbrev slices_IsSortedFunc_uint32_uint32_R : Type := Bool
@[reducible] def slices_IsSortedFunc_uint32_uint32_rt (b0 : Bool) : Option slices_IsSortedFunc_uint32_uint32_R := some b0
def slices_IsSortedFunc_uint32_uint32_out : slices_IsSortedFunc_uint32_uint32_R → AV × AH
  | b0 => ((.b b0), [])
def slices_IsSortedFunc_uint32_uint32_ret (v : AV) (h : AH) (nx : Nat) : Option slices_IsSortedFunc_uint32_uint32_R := match v, h, nx with
  | (.b b0), [], 1 => some b0
  | _, _, _ => none
theorem slices_IsSortedFunc_uint32_uint32_ret_ok (v : AV) (h : AH) (nx : Nat) (r : slices_IsSortedFunc_uint32_uint32_R) (e : slices_IsSortedFunc_uint32_uint32_ret v h nx = some r) : slices_IsSortedFunc_uint32_uint32_out r = (v, h) ∧ nx = 1 := by
  unfold slices_IsSortedFunc_uint32_uint32_ret at e
  split at e
  · cases e; exact ⟨rfl, rfl⟩
  · cases e
def slices_IsSortedFunc_uint32_uint32_kr : KN := []
noncomputable def slices_IsSortedFunc_uint32_uint32_pre (n : Nat) : CT := (ctA 62 (free_Rises_1_ct n) ctZ)
theorem slices_IsSortedFunc_uint32_uint32_pre_ok (n : Nat) : COk cfg0 (slices_IsSortedFunc_uint32_uint32_pre n) := (ctA_ok (free_Rises_1_ok n) ctZ_ok)
noncomputable def slices_IsSortedFunc_uint32_uint32_E0 (n : Nat) (R : Type) (o1 : Nat) (f1 : Nat × Nat) (a1 : List Nat) (jf lf : List Nat → Nat → AT → AS → Option R) : SE R := ⟨[(0, (.row .u32 o1 a1 28 f1))], Try.f61.ntmps, 1, callA cfg0 kd [(0, (.row .u32 o1 a1 28 f1))] (slices_IsSortedFunc_uint32_uint32_pre n), n, [(3, ([0, 1, 5], 0))], [], [], jf, lf⟩
def slices_IsSortedFunc_uint32_uint32_L3F (n : Nat) (a1 : List Nat) (r3 : (Int → Option slices_IsSortedFunc_uint32_uint32_R))  (x0 : Int) : Option slices_IsSortedFunc_uint32_uint32_R := bif decide (0 < x0) then bif decide (0 ≤ x0) && decide (Int.toNat x0 < List.length a1) then Option.bind a1[Int.toNat x0]? fun z => bif decide (0 ≤ w64 (x0 - 1)) && decide (Int.toNat (w64 (x0 - 1)) < List.length a1) then Option.bind a1[Int.toNat (w64 (x0 - 1))]? fun z_1 => Option.bind (free_Rises_1 n z z_1) fun z_2 => bif decide (z_2 < 0) then slices_IsSortedFunc_uint32_uint32_rt false else r3 (w64 (x0 - 1)) else none else none else slices_IsSortedFunc_uint32_uint32_rt true
def slices_IsSortedFunc_uint32_uint32_L3 (n : Nat) (a1 : List Nat)  : Nat → Int → Option slices_IsSortedFunc_uint32_uint32_R
  | 0, _ => none
  | m + 1, x0 => slices_IsSortedFunc_uint32_uint32_L3F n a1  (slices_IsSortedFunc_uint32_uint32_L3 n a1  m)  x0
def slices_IsSortedFunc_uint32_uint32_F (n : Nat) (a1 : List Nat)  (l3 : (Int → Option slices_IsSortedFunc_uint32_uint32_R)) : Option slices_IsSortedFunc_uint32_uint32_R := l3 (w64 ((↑(List.length a1) : Int) - 1))
def slices_IsSortedFunc_uint32_uint32 (n : Nat) (a1 : List Nat)  : Option slices_IsSortedFunc_uint32_uint32_R := slices_IsSortedFunc_uint32_uint32_F n a1  (slices_IsSortedFunc_uint32_uint32_L3 n a1 n)
def slices_IsSortedFunc_uint32_uint32_L3q (n : Nat) (a1 : List Nat) (m3 : Nat) (T : AT) (s : AS) : Option slices_IsSortedFunc_uint32_uint32_R := match T, s with
  | [(0, (.sl 0 1)), (1, (.fn 62 [])), (5, (.i .i64 x0))], ⟨[], 1, []⟩ => slices_IsSortedFunc_uint32_uint32_L3 n a1  m3 x0
  | _, _ => none
def slices_IsSortedFunc_uint32_uint32_jf (n : Nat) (a1 : List Nat) : List Nat → Nat → AT → AS → Option slices_IsSortedFunc_uint32_uint32_R := fun ms key T s => none
def slices_IsSortedFunc_uint32_uint32_lf (n : Nat) (a1 : List Nat) : List Nat → Nat → AT → AS → Option slices_IsSortedFunc_uint32_uint32_R := fun ms key T s => cond (Nat.beq key 3) (match ms with | [m3] => slices_IsSortedFunc_uint32_uint32_L3q n a1 m3 T s | _ => none) (none)
noncomputable def slices_IsSortedFunc_uint32_uint32_E (n : Nat) (o1 : Nat) (f1 : Nat × Nat) (a1 : List Nat) : SE slices_IsSortedFunc_uint32_uint32_R := slices_IsSortedFunc_uint32_uint32_E0 n slices_IsSortedFunc_uint32_uint32_R o1 f1 a1 (slices_IsSortedFunc_uint32_uint32_jf n a1) (slices_IsSortedFunc_uint32_uint32_lf n a1)
theorem slices_IsSortedFunc_uint32_uint32_eq (n : Nat) (o1 : Nat) (f1 : Nat × Nat) (a1 : List Nat) : sxF cfg0 kd slices_IsSortedFunc_uint32_uint32_kr (slices_IsSortedFunc_uint32_uint32_E n o1 f1 a1) Try.f61 (bodyOf Try.f61) [] [.sl 0 1, .fn 62 []] slices_IsSortedFunc_uint32_uint32_ret = slices_IsSortedFunc_uint32_uint32 n a1  := by kernel_rfl
theorem slices_IsSortedFunc_uint32_uint32_pv (n : Nat) (o1 : Nat) (f1 : Nat × Nat) (a1 : List Nat) (r : slices_IsSortedFunc_uint32_uint32_R) : PV cfg0 kd (slices_IsSortedFunc_uint32_uint32_E n o1 f1 a1) r [] (bodyOf Try.f61) (retK cfg0 kd slices_IsSortedFunc_uint32_uint32_kr (slices_IsSortedFunc_uint32_uint32_E n o1 f1 a1) Try.f61.results.toList slices_IsSortedFunc_uint32_uint32_ret) := by
  refine PV.sn (by kernel_rfl) ?_ ?_
  ·
    refine PV.sn (by kernel_rfl) ?_ ?_
    ·
      exact PV.triv (by kernel_rfl)
    ·
      refine PV.sn (by kernel_rfl) ?_ ?_
      ·
        refine PV.bl ?_
        refine PV.lp (live := [0, 1, 5]) (by kernel_rfl) ?_ ?_ ?_
        · intro T s h; change slices_IsSortedFunc_uint32_uint32_L3q n a1 0 _ _ = some r at h; unfold slices_IsSortedFunc_uint32_uint32_L3q at h; split at h
          · exact nomatch (show (none : Option slices_IsSortedFunc_uint32_uint32_R) = some r from h)
          · cases h
        · intro m3 T s h; change slices_IsSortedFunc_uint32_uint32_L3q n a1 (m3 + 1) _ _ = some r at h; unfold slices_IsSortedFunc_uint32_uint32_L3q at h; split at h
          · exact Eq.trans (by kernel_rfl) h
          · cases h
        · intro m3
          exact PV.triv (by kernel_rfl)
      ·
        exact PV.triv (by kernel_rfl)
  ·
    exact PV.triv (by kernel_rfl)
noncomputable def slices_IsSortedFunc_uint32_uint32_ct (n : Nat) (vs : List AV) (h : AH) : Option Ctr := match vs, h with
  | [.sl 0 1, .fn 62 []], [(0, (.row .u32 o1 a1 28 f1))] => some ⟨slices_IsSortedFunc_uint32_uint32_R, slices_IsSortedFunc_uint32_uint32 n  a1 , [], 0, slices_IsSortedFunc_uint32_uint32_out⟩
  | _, _ => none
theorem slices_IsSortedFunc_uint32_uint32_ok (n : Nat) : COk1 cfg0 61 (slices_IsSortedFunc_uint32_uint32_ct n) := by
  intro vs h c r e hm
  unfold slices_IsSortedFunc_uint32_uint32_ct at e
  split at e
  · rename_i o1 a1 f1
    cases e
    exact sxF_ok (E := slices_IsSortedFunc_uint32_uint32_E n o1 f1 a1) (nx1 := 1) (slices_IsSortedFunc_uint32_uint32_fn) rfl rfl (callA_ok (slices_IsSortedFunc_uint32_uint32_pre_ok n)) slices_IsSortedFunc_uint32_uint32_ret_ok rfl (slices_IsSortedFunc_uint32_uint32_pv n o1 f1 a1 r) ((slices_IsSortedFunc_uint32_uint32_eq n o1 f1 a1 ).trans hm)
  · cases e
end Go.Ev
end
section
set_option linter.unusedVariables false
set_option linter.unusedSimpArgs false
set_option maxRecDepth 100000
set_option maxHeartbeats 400000
namespace Go.Ev
open Go.RowKit Go.Proofs
theorem free_Rises_fn : cfg0.fn 29 = some Try.f29 := rfl
abbrev free_Rises_R : Type := Bool
@[reducible] def free_Rises_rt (b0 : Bool) : Option free_Rises_R := some b0
def free_Rises_out : free_Rises_R → AV × AH
  | b0 => ((.b b0), [])
def free_Rises_ret (v : AV) (h : AH) (nx : Nat) : Option free_Rises_R := match v, h, nx with
  | (.b b0), [], 1 => some b0
  | _, _, _ => none
theorem free_Rises_ret_ok (v : AV) (h : AH) (nx : Nat) (r : free_Rises_R) (e : free_Rises_ret v h nx = some r) : free_Rises_out r = (v, h) ∧ nx = 1 := by
  unfold free_Rises_ret at e
  split at e
  · cases e; exact ⟨rfl, rfl⟩
  · cases e
def free_Rises_kr : KN := []
noncomputable def free_Rises_pre (n : Nat) : CT := (ctA 61 (slices_IsSortedFunc_uint32_uint32_ct n) (ctA 62 (free_Rises_1_ct n) ctZ))
theorem free_Rises_pre_ok (n : Nat) : COk cfg0 (free_Rises_pre n) := (ctA_ok (slices_IsSortedFunc_uint32_uint32_ok n) (ctA_ok (free_Rises_1_ok n) ctZ_ok))
noncomputable def free_Rises_E0 (n : Nat) (R : Type) (o1 : Nat) (f1 : Nat × Nat) (a1 : List Nat) (jf lf : List Nat → Nat → AT → AS → Option R) : SE R := ⟨[(0, (.row .u32 o1 a1 28 f1))], Try.f29.ntmps, 1, callA cfg0 kd [(0, (.row .u32 o1 a1 28 f1))] (free_Rises_pre n), n, [], [], [], jf, lf⟩
def free_Rises_F (n : Nat) (a1 : List Nat)   : Option free_Rises_R := Option.bind (slices_IsSortedFunc_uint32_uint32 n a1) fun z => free_Rises_rt z
def free_Rises (n : Nat) (a1 : List Nat)  : Option free_Rises_R := free_Rises_F n a1  
def free_Rises_jf (n : Nat) (a1 : List Nat) : List Nat → Nat → AT → AS → Option free_Rises_R := fun ms key T s => none
def free_Rises_lf (n : Nat) (a1 : List Nat) : List Nat → Nat → AT → AS → Option free_Rises_R := fun ms key T s => none
noncomputable def free_Rises_E (n : Nat) (o1 : Nat) (f1 : Nat × Nat) (a1 : List Nat) : SE free_Rises_R := free_Rises_E0 n free_Rises_R o1 f1 a1 (free_Rises_jf n a1) (free_Rises_lf n a1)
theorem free_Rises_eq (n : Nat) (o1 : Nat) (f1 : Nat × Nat) (a1 : List Nat) : sxF cfg0 kd free_Rises_kr (free_Rises_E n o1 f1 a1) Try.f29 (bodyOf Try.f29) [] [.sl 0 1] free_Rises_ret = free_Rises n a1  := by kernel_rfl
theorem free_Rises_pv (n : Nat) (o1 : Nat) (f1 : Nat × Nat) (a1 : List Nat) (r : free_Rises_R) : PV cfg0 kd (free_Rises_E n o1 f1 a1) r [] (bodyOf Try.f29) (retK cfg0 kd free_Rises_kr (free_Rises_E n o1 f1 a1) Try.f29.results.toList free_Rises_ret) := by
  exact PV.triv (by kernel_rfl)
noncomputable def free_Rises_ct (n : Nat) (vs : List AV) (h : AH) : Option Ctr := match vs, h with
  | [.sl 0 1], [(0, (.row .u32 o1 a1 28 f1))] => some ⟨free_Rises_R, free_Rises n  a1 , [], 0, free_Rises_out⟩
  | _, _ => none
theorem free_Rises_ok (n : Nat) : COk1 cfg0 29 (free_Rises_ct n) := by
  intro vs h c r e hm
  unfold free_Rises_ct at e
  split at e
  · rename_i o1 a1 f1
    cases e
    exact sxF_ok (E := free_Rises_E n o1 f1 a1) (nx1 := 1) (free_Rises_fn) rfl rfl (callA_ok (free_Rises_pre_ok n)) free_Rises_ret_ok rfl (free_Rises_pv n o1 f1 a1 r) ((free_Rises_eq n o1 f1 a1 ).trans hm)
  · cases e
end Go.Ev
end
section
set_option linter.unusedVariables false
set_option linter.unusedSimpArgs false
set_option maxRecDepth 100000
set_option maxHeartbeats 400000
namespace Go.Ev
open Go.RowKit Go.Proofs
theorem device_Good_fn : cfg0.fn 76 = some Try.f76 := rfl
abbrev device_Good_R : Type := Bool
@[reducible] def device_Good_rt (b0 : Bool) : Option device_Good_R := some b0
def device_Good_out : device_Good_R → AV × AH
  | b0 => ((.b b0), [])
def device_Good_ret (v : AV) (h : AH) (nx : Nat) : Option device_Good_R := match v, h, nx with
  | (.b b0), [], 0 => some b0
  | _, _, _ => none
theorem device_Good_ret_ok (v : AV) (h : AH) (nx : Nat) (r : device_Good_R) (e : device_Good_ret v h nx = some r) : device_Good_out r = (v, h) ∧ nx = 0 := by
  unfold device_Good_ret at e
  split at e
  · cases e; exact ⟨rfl, rfl⟩
  · cases e
def device_Good_kr : KN := []
noncomputable def device_Good_pre (n : Nat) : CT := ctZ
theorem device_Good_pre_ok (n : Nat) : COk cfg0 (device_Good_pre n) := ctZ_ok
noncomputable def device_Good_E0 (n : Nat) (R : Type)   (jf lf : List Nat → Nat → AT → AS → Option R) : SE R := ⟨[], Try.f76.ntmps, 0, callA cfg0 kd [] (device_Good_pre n), n, [], [], [], jf, lf⟩
def device_Good_F (n : Nat) (a1 : Int)  : Option device_Good_R := bif decide (128 ≤ a1) then bif decide (a1 ≤ 4096) then device_Good_rt (decide (Int.tmod a1 64 = 0)) else device_Good_rt false else device_Good_rt false
def device_Good (n : Nat) (a1 : Int) : Option device_Good_R := device_Good_F n a1 
def device_Good_jf (n : Nat) : List Nat → Nat → AT → AS → Option device_Good_R := fun ms key T s => none
def device_Good_lf (n : Nat) : List Nat → Nat → AT → AS → Option device_Good_R := fun ms key T s => none
noncomputable def device_Good_E (n : Nat)   : SE device_Good_R := device_Good_E0 n device_Good_R   (device_Good_jf n) (device_Good_lf n)
theorem device_Good_eq (n : Nat) (a1 : Int) : sxF cfg0 kd device_Good_kr (device_Good_E n  ) Try.f76 (bodyOf Try.f76) [] [.i .i64 a1] device_Good_ret = device_Good n a1 := by kernel_rfl
theorem device_Good_pv (n : Nat) (r : device_Good_R) : PV cfg0 kd (device_Good_E n  ) r [] (bodyOf Try.f76) (retK cfg0 kd device_Good_kr (device_Good_E n  ) Try.f76.results.toList device_Good_ret) := by
  exact PV.triv (by kernel_rfl)
noncomputable def device_Good_ct (n : Nat) (vs : List AV) (h : AH) : Option Ctr := match vs, h with
  | [.i .i64 a1], [] => some ⟨device_Good_R, device_Good n   a1, [], 0, device_Good_out⟩
  | _, _ => none
theorem device_Good_ok (n : Nat) : COk1 cfg0 76 (device_Good_ct n) := by
  intro vs h c r e hm
  unfold device_Good_ct at e
  split at e
  · rename_i a1
    cases e
    exact sxF_ok (E := device_Good_E n  ) (nx1 := 0) (device_Good_fn) rfl rfl (callA_ok (device_Good_pre_ok n)) device_Good_ret_ok rfl (device_Good_pv n   r) ((device_Good_eq n   a1).trans hm)
  · cases e
end Go.Ev
end
section
set_option linter.unusedVariables false
set_option linter.unusedSimpArgs false
set_option maxRecDepth 100000
set_option maxHeartbeats 400000
namespace Go.Ev
open Go.RowKit Go.Proofs
theorem frame_Room_fn : cfg0.fn 52 = some Try.f52 := rfl
abbrev frame_Room_R : Type := Int
@[reducible] def frame_Room_rt (b0 : Int) : Option frame_Room_R := some b0
def frame_Room_out : frame_Room_R → AV × AH
  | b0 => ((.i .i64 b0), [])
def frame_Room_ret (v : AV) (h : AH) (nx : Nat) : Option frame_Room_R := match v, h, nx with
  | (.i .i64 b0), [], 0 => some b0
  | _, _, _ => none
theorem frame_Room_ret_ok (v : AV) (h : AH) (nx : Nat) (r : frame_Room_R) (e : frame_Room_ret v h nx = some r) : frame_Room_out r = (v, h) ∧ nx = 0 := by
  unfold frame_Room_ret at e
  split at e
  · cases e; exact ⟨rfl, rfl⟩
  · cases e
def frame_Room_kr : KN := []
noncomputable def frame_Room_pre (n : Nat) : CT := (ctA 76 (device_Good_ct n) ctZ)
theorem frame_Room_pre_ok (n : Nat) : COk cfg0 (frame_Room_pre n) := (ctA_ok (device_Good_ok n) ctZ_ok)
noncomputable def frame_Room_E0 (n : Nat) (R : Type)   (jf lf : List Nat → Nat → AT → AS → Option R) : SE R := ⟨[], Try.f52.ntmps, 0, callA cfg0 kd [] (frame_Room_pre n), n, [], [], [], jf, lf⟩
def frame_Room_F (n : Nat) (a1 : Int)  : Option frame_Room_R := Option.bind (device_Good n a1) fun z => bif !z then frame_Room_rt 0 else frame_Room_rt (w64 (a1 - 24))
def frame_Room (n : Nat) (a1 : Int) : Option frame_Room_R := frame_Room_F n a1 
def frame_Room_jf (n : Nat) : List Nat → Nat → AT → AS → Option frame_Room_R := fun ms key T s => none
def frame_Room_lf (n : Nat) : List Nat → Nat → AT → AS → Option frame_Room_R := fun ms key T s => none
noncomputable def frame_Room_E (n : Nat)   : SE frame_Room_R := frame_Room_E0 n frame_Room_R   (frame_Room_jf n) (frame_Room_lf n)
theorem frame_Room_eq (n : Nat) (a1 : Int) : sxF cfg0 kd frame_Room_kr (frame_Room_E n  ) Try.f52 (bodyOf Try.f52) [] [.i .i64 a1] frame_Room_ret = frame_Room n a1 := by kernel_rfl
theorem frame_Room_pv (n : Nat) (r : frame_Room_R) : PV cfg0 kd (frame_Room_E n  ) r [] (bodyOf Try.f52) (retK cfg0 kd frame_Room_kr (frame_Room_E n  ) Try.f52.results.toList frame_Room_ret) := by
  exact PV.triv (by kernel_rfl)
noncomputable def frame_Room_ct (n : Nat) (vs : List AV) (h : AH) : Option Ctr := match vs, h with
  | [.i .i64 a1], [] => some ⟨frame_Room_R, frame_Room n   a1, [], 0, frame_Room_out⟩
  | _, _ => none
theorem frame_Room_ok (n : Nat) : COk1 cfg0 52 (frame_Room_ct n) := by
  intro vs h c r e hm
  unfold frame_Room_ct at e
  split at e
  · rename_i a1
    cases e
    exact sxF_ok (E := frame_Room_E n  ) (nx1 := 0) (frame_Room_fn) rfl rfl (callA_ok (frame_Room_pre_ok n)) frame_Room_ret_ok rfl (frame_Room_pv n   r) ((frame_Room_eq n   a1).trans hm)
  · cases e
end Go.Ev
end
section
set_option linter.unusedVariables false
set_option linter.unusedSimpArgs false
set_option maxRecDepth 100000
set_option maxHeartbeats 400000
namespace Go.Ev
open Go.RowKit Go.Proofs
theorem free_Most_fn : cfg0.fn 31 = some Try.f31 := rfl
abbrev free_Most_R : Type := Int
@[reducible] def free_Most_rt (b0 : Int) : Option free_Most_R := some b0
def free_Most_out : free_Most_R → AV × AH
  | b0 => ((.i .i64 b0), [])
def free_Most_ret (v : AV) (h : AH) (nx : Nat) : Option free_Most_R := match v, h, nx with
  | (.i .i64 b0), [], 0 => some b0
  | _, _, _ => none
theorem free_Most_ret_ok (v : AV) (h : AH) (nx : Nat) (r : free_Most_R) (e : free_Most_ret v h nx = some r) : free_Most_out r = (v, h) ∧ nx = 0 := by
  unfold free_Most_ret at e
  split at e
  · cases e; exact ⟨rfl, rfl⟩
  · cases e
def free_Most_kr : KN := []
noncomputable def free_Most_pre (n : Nat) : CT := (ctA 52 (frame_Room_ct n) ctZ)
theorem free_Most_pre_ok (n : Nat) : COk cfg0 (free_Most_pre n) := (ctA_ok (frame_Room_ok n) ctZ_ok)
noncomputable def free_Most_E0 (n : Nat) (R : Type)   (jf lf : List Nat → Nat → AT → AS → Option R) : SE R := ⟨[], Try.f31.ntmps, 0, callA cfg0 kd [] (free_Most_pre n), n, [], [], [], jf, lf⟩
def free_Most_F (n : Nat) (a1 : Int)  : Option free_Most_R := Option.bind (frame_Room n a1) fun z => free_Most_rt (w64 (Int.tdiv z 4))
def free_Most (n : Nat) (a1 : Int) : Option free_Most_R := free_Most_F n a1 
def free_Most_jf (n : Nat) : List Nat → Nat → AT → AS → Option free_Most_R := fun ms key T s => none
def free_Most_lf (n : Nat) : List Nat → Nat → AT → AS → Option free_Most_R := fun ms key T s => none
noncomputable def free_Most_E (n : Nat)   : SE free_Most_R := free_Most_E0 n free_Most_R   (free_Most_jf n) (free_Most_lf n)
theorem free_Most_eq (n : Nat) (a1 : Int) : sxF cfg0 kd free_Most_kr (free_Most_E n  ) Try.f31 (bodyOf Try.f31) [] [.i .i64 a1] free_Most_ret = free_Most n a1 := by kernel_rfl
theorem free_Most_pv (n : Nat) (r : free_Most_R) : PV cfg0 kd (free_Most_E n  ) r [] (bodyOf Try.f31) (retK cfg0 kd free_Most_kr (free_Most_E n  ) Try.f31.results.toList free_Most_ret) := by
  exact PV.triv (by kernel_rfl)
noncomputable def free_Most_ct (n : Nat) (vs : List AV) (h : AH) : Option Ctr := match vs, h with
  | [.i .i64 a1], [] => some ⟨free_Most_R, free_Most n   a1, [], 0, free_Most_out⟩
  | _, _ => none
theorem free_Most_ok (n : Nat) : COk1 cfg0 31 (free_Most_ct n) := by
  intro vs h c r e hm
  unfold free_Most_ct at e
  split at e
  · rename_i a1
    cases e
    exact sxF_ok (E := free_Most_E n  ) (nx1 := 0) (free_Most_fn) rfl rfl (callA_ok (free_Most_pre_ok n)) free_Most_ret_ok rfl (free_Most_pv n   r) ((free_Most_eq n   a1).trans hm)
  · cases e
end Go.Ev
end
section
set_option linter.unusedVariables false
set_option linter.unusedSimpArgs false
set_option maxRecDepth 100000
set_option maxHeartbeats 400000
namespace Go.Ev
open Go.RowKit Go.Proofs
theorem free_Need_fn : cfg0.fn 30 = some Try.f30 := rfl
abbrev free_Need_R : Type := Int
@[reducible] def free_Need_rt (b0 : Int) : Option free_Need_R := some b0
def free_Need_out : free_Need_R → AV × AH
  | b0 => ((.i .i64 b0), [])
def free_Need_ret (v : AV) (h : AH) (nx : Nat) : Option free_Need_R := match v, h, nx with
  | (.i .i64 b0), [], 0 => some b0
  | _, _, _ => none
theorem free_Need_ret_ok (v : AV) (h : AH) (nx : Nat) (r : free_Need_R) (e : free_Need_ret v h nx = some r) : free_Need_out r = (v, h) ∧ nx = 0 := by
  unfold free_Need_ret at e
  split at e
  · cases e; exact ⟨rfl, rfl⟩
  · cases e
def free_Need_kr : KN := []
noncomputable def free_Need_pre (n : Nat) : CT := (ctA 31 (free_Most_ct n) ctZ)
theorem free_Need_pre_ok (n : Nat) : COk cfg0 (free_Need_pre n) := (ctA_ok (free_Most_ok n) ctZ_ok)
noncomputable def free_Need_E0 (n : Nat) (R : Type)   (jf lf : List Nat → Nat → AT → AS → Option R) : SE R := ⟨[], Try.f30.ntmps, 0, callA cfg0 kd [] (free_Need_pre n), n, [], [(5, [1, 5])], [], jf, lf⟩
def free_Need_J5F (n : Nat)   (x0 : Int) (x1 : Int) : Option free_Need_R := bif decide (x1 ≠ 0) then free_Need_rt (w64 (1 + w64 (Int.tdiv (w64 (x0 - 1)) x1))) else none
def free_Need_J5 (n : Nat)  (x0 : Int) (x1 : Int) : Option free_Need_R := free_Need_J5F n   x0 x1
def free_Need_F (n : Nat) (a1 : Int) (a2 : Int) (j5 : (Int → Int → Option free_Need_R)) : Option free_Need_R := Option.bind (free_Most n a1) fun z => bif decide (z = 0) then free_Need_rt 0 else bif decide (a2 < 1) then free_Need_rt 0 else j5 a2 z
def free_Need (n : Nat) (a1 : Int) (a2 : Int) : Option free_Need_R := free_Need_F n a1 a2 (free_Need_J5 n)
def free_Need_J5q (n : Nat)  (T : AT) (s : AS) : Option free_Need_R := match T, s with
  | [(1, (.i .i64 x0)), (5, (.i .i64 x1))], ⟨[], 0, []⟩ => free_Need_J5 n  x0 x1
  | _, _ => none
def free_Need_jf (n : Nat) : List Nat → Nat → AT → AS → Option free_Need_R := fun ms key T s => cond (Nat.beq key 5) (match ms with | [] => free_Need_J5q n  T s | _ => none) (none)
def free_Need_lf (n : Nat) : List Nat → Nat → AT → AS → Option free_Need_R := fun ms key T s => none
noncomputable def free_Need_E (n : Nat)   : SE free_Need_R := free_Need_E0 n free_Need_R   (free_Need_jf n) (free_Need_lf n)
theorem free_Need_eq (n : Nat) (a1 : Int) (a2 : Int) : sxF cfg0 kd free_Need_kr (free_Need_E n  ) Try.f30 (bodyOf Try.f30) [] [.i .i64 a1, .i .i64 a2] free_Need_ret = free_Need n a1 a2 := by kernel_rfl
theorem free_Need_pv (n : Nat) (r : free_Need_R) : PV cfg0 kd (free_Need_E n  ) r [] (bodyOf Try.f30) (retK cfg0 kd free_Need_kr (free_Need_E n  ) Try.f30.results.toList free_Need_ret) := by
  refine PV.sn (by kernel_rfl) ?_ ?_
  ·
    refine PV.sn (by kernel_rfl) ?_ ?_
    ·
      refine PV.sj (live := [1, 5]) (by kernel_rfl) ?_ ?_ ?_
      · intro T s h; change free_Need_J5q n  _ _ = some r at h; unfold free_Need_J5q at h; split at h
        · exact Eq.trans (by kernel_rfl) h
        · cases h
      ·
        exact PV.triv (by kernel_rfl)
      ·
        exact PV.triv (by kernel_rfl)
    ·
      exact PV.triv (by kernel_rfl)
  ·
    exact PV.triv (by kernel_rfl)
noncomputable def free_Need_ct (n : Nat) (vs : List AV) (h : AH) : Option Ctr := match vs, h with
  | [.i .i64 a1, .i .i64 a2], [] => some ⟨free_Need_R, free_Need n   a1 a2, [], 0, free_Need_out⟩
  | _, _ => none
theorem free_Need_ok (n : Nat) : COk1 cfg0 30 (free_Need_ct n) := by
  intro vs h c r e hm
  unfold free_Need_ct at e
  split at e
  · rename_i a1 a2
    cases e
    exact sxF_ok (E := free_Need_E n  ) (nx1 := 0) (free_Need_fn) rfl rfl (callA_ok (free_Need_pre_ok n)) free_Need_ret_ok rfl (free_Need_pv n   r) ((free_Need_eq n   a1 a2).trans hm)
  · cases e
end Go.Ev
end
section
set_option linter.unusedVariables false
set_option linter.unusedSimpArgs false
set_option maxRecDepth 100000
set_option maxHeartbeats 400000
namespace Go.Ev
open Go.RowKit Go.Proofs
theorem law10_lives_fn : cfg0.fn 26 = some Try.f26 := rfl
abbrev law10_lives_R : Type := Bool
@[reducible] def law10_lives_rt (b0 : Bool) : Option law10_lives_R := some b0
def law10_lives_out : law10_lives_R → AV × AH
  | b0 => ((.b b0), [])
def law10_lives_ret (v : AV) (h : AH) (nx : Nat) : Option law10_lives_R := match v, h, nx with
  | (.b b0), [], 0 => some b0
  | _, _, _ => none
theorem law10_lives_ret_ok (v : AV) (h : AH) (nx : Nat) (r : law10_lives_R) (e : law10_lives_ret v h nx = some r) : law10_lives_out r = (v, h) ∧ nx = 0 := by
  unfold law10_lives_ret at e
  split at e
  · cases e; exact ⟨rfl, rfl⟩
  · cases e
def law10_lives_kr : KN := []
noncomputable def law10_lives_pre (n : Nat) : CT := (ctA 29 (free_Rises_ct n) (ctA 30 (free_Need_ct n) (ctA 31 (free_Most_ct n) ctZ)))
theorem law10_lives_pre_ok (n : Nat) : COk cfg0 (law10_lives_pre n) := (ctA_ok (free_Rises_ok n) (ctA_ok (free_Need_ok n) (ctA_ok (free_Most_ok n) ctZ_ok)))
noncomputable def law10_lives_E0 (n : Nat) (R : Type)   (jf lf : List Nat → Nat → AT → AS → Option R) : SE R := ⟨[], Try.f26.ntmps, 0, callA cfg0 kd [] (law10_lives_pre n), n, [], [], [], jf, lf⟩
def law10_lives_F (n : Nat)   : Option law10_lives_R := Option.bind (free_Rises n [(1 : Nat), (2 : Nat)]) fun z => law10_lives_rt z
def law10_lives (n : Nat)  : Option law10_lives_R := law10_lives_F n  
def law10_lives_jf (n : Nat) : List Nat → Nat → AT → AS → Option law10_lives_R := fun ms key T s => none
def law10_lives_lf (n : Nat) : List Nat → Nat → AT → AS → Option law10_lives_R := fun ms key T s => none
noncomputable def law10_lives_E (n : Nat)   : SE law10_lives_R := law10_lives_E0 n law10_lives_R   (law10_lives_jf n) (law10_lives_lf n)
theorem law10_lives_eq (n : Nat) : sxF cfg0 kd law10_lives_kr (law10_lives_E n  ) Try.f26 (bodyOf Try.f26) [] [] law10_lives_ret = law10_lives n  := by kernel_rfl
theorem law10_lives_pv (n : Nat) (r : law10_lives_R) : PV cfg0 kd (law10_lives_E n  ) r [] (bodyOf Try.f26) (retK cfg0 kd law10_lives_kr (law10_lives_E n  ) Try.f26.results.toList law10_lives_ret) := by
  exact PV.triv (by kernel_rfl)
noncomputable def law10_lives_ct (n : Nat) (vs : List AV) (h : AH) : Option Ctr := match vs, h with
  | [], [] => some ⟨law10_lives_R, law10_lives n   , [], 0, law10_lives_out⟩
  | _, _ => none
theorem law10_lives_ok (n : Nat) : COk1 cfg0 26 (law10_lives_ct n) := by
  intro vs h c r e hm
  unfold law10_lives_ct at e
  split at e
  · cases e
    exact sxF_ok (E := law10_lives_E n  ) (nx1 := 0) (law10_lives_fn) rfl rfl (callA_ok (law10_lives_pre_ok n)) law10_lives_ret_ok rfl (law10_lives_pv n   r) ((law10_lives_eq n   ).trans hm)
  · cases e
end Go.Ev
end
section
set_option linter.unusedVariables false
set_option linter.unusedSimpArgs false
set_option maxRecDepth 100000
set_option maxHeartbeats 400000
namespace Go.Ev
open Go.RowKit Go.Proofs
theorem octet_Put_fn : cfg0.fn 54 = some Try.f54 := rfl
abbrev octet_Put_R : Type := (List (UInt8))
@[reducible] def octet_Put_rt (b0 : List (UInt8)) : Option octet_Put_R := some b0
def octet_Put_out : octet_Put_R → AV × AH
  | b0 => ((.sl 1 1), [(1, (.row .u8 0 b0 5 (0, 0)))])
def octet_Put_ret (v : AV) (h : AH) (nx : Nat) : Option octet_Put_R := match v, h, nx with
  | (.sl 1 1), [(1, (.row .u8 0 b0 5 (0, 0)))], 2 => some b0
  | _, _, _ => none
theorem octet_Put_ret_ok (v : AV) (h : AH) (nx : Nat) (r : octet_Put_R) (e : octet_Put_ret v h nx = some r) : octet_Put_out r = (v, h) ∧ nx = 2 := by
  unfold octet_Put_ret at e
  split at e
  · cases e; exact ⟨rfl, rfl⟩
  · cases e
def octet_Put_kr : KN := [((0, 0), (.u8, 5))]
noncomputable def octet_Put_pre (n : Nat) : CT := ctZ
theorem octet_Put_pre_ok (n : Nat) : COk cfg0 (octet_Put_pre n) := ctZ_ok
noncomputable def octet_Put_E0 (n : Nat) (R : Type) (o1 : Nat) (f1 : Nat × Nat) (a1 : List UInt8) (jf lf : List Nat → Nat → AT → AS → Option R) : SE R := ⟨[(0, (.row .u8 o1 a1 5 f1))], Try.f54.ntmps, 1, callA cfg0 kd [(0, (.row .u8 o1 a1 5 f1))] (octet_Put_pre n), n, [(6, ([1, 7, 22, 23], 0))], [(5, [1, 2, 7])], [], jf, lf⟩
def octet_Put_L6F (n : Nat) (a1 : List UInt8) (r6 : (Nat → Int → Int → List (UInt8) → Option octet_Put_R))  (x0 : Nat) (x1 : Int) (x2 : Int) (x3 : List (UInt8)) : Option octet_Put_R := bif decide (x2 < x1) then bif decide (0 ≤ w64 (8 * x2)) && Nat.ble (Int.toNat (w64 (8 * x2))) 64 then bif Nat.ble (List.length x3 + List.length [UInt8.ofNat (x0 / 2 ^ Int.toNat (w64 (8 * x2)))]) 100000000 then r6 x0 x1 (w64 (x2 + 1)) (x3 ++ [UInt8.ofNat (x0 / 2 ^ Int.toNat (w64 (8 * x2)))]) else none else none else octet_Put_rt x3
def octet_Put_L6 (n : Nat) (a1 : List UInt8)  : Nat → Nat → Int → Int → List (UInt8) → Option octet_Put_R
  | 0, _, _, _, _ => none
  | m + 1, x0, x1, x2, x3 => octet_Put_L6F n a1  (octet_Put_L6 n a1  m)  x0 x1 x2 x3
def octet_Put_J5F (n : Nat) (a1 : List UInt8)  (l6 : (Nat → Int → Int → List (UInt8) → Option octet_Put_R)) (x0 : Nat) (x1 : Int) (x2 : List (UInt8)) : Option octet_Put_R := l6 x0 x1 0 x2
def octet_Put_J5 (n : Nat) (a1 : List UInt8)  (x0 : Nat) (x1 : Int) (x2 : List (UInt8)) : Option octet_Put_R := octet_Put_J5F n a1  (octet_Put_L6 n a1  n) x0 x1 x2
def octet_Put_F (n : Nat) (a1 : List UInt8) (a2 : Nat) (a3 : Int) (j5 : (Nat → Int → List (UInt8) → Option octet_Put_R)) : Option octet_Put_R := bif decide (0 ≤ 0) && decide (0 ≤ w64 ((↑(List.length a1) : Int) + 8)) && (Nat.ble ((0 : Nat)) (Int.toNat (w64 ((↑(List.length a1) : Int) + 8))) && Nat.ble (Int.toNat (w64 ((↑(List.length a1) : Int) + 8))) 100000000) then bif Nat.ble (List.length (List.replicate ((0 : Nat)) (UInt8.ofNat ((0 : Nat)))) + List.length a1) 100000000 then bif decide (a3 < 1) then octet_Put_rt (List.replicate ((0 : Nat)) (UInt8.ofNat ((0 : Nat))) ++ a1) else bif decide (8 < a3) then octet_Put_rt (List.replicate ((0 : Nat)) (UInt8.ofNat ((0 : Nat))) ++ a1) else j5 a2 a3 (List.replicate ((0 : Nat)) (UInt8.ofNat ((0 : Nat))) ++ a1) else none else none
def octet_Put (n : Nat) (a1 : List UInt8) (a2 : Nat) (a3 : Int) : Option octet_Put_R := octet_Put_F n a1 a2 a3 (octet_Put_J5 n a1)
def octet_Put_L6q (n : Nat) (a1 : List UInt8) (m6 : Nat) (T : AT) (s : AS) : Option octet_Put_R := match T, s with
  | [(1, (.n .u64 x0)), (7, (.sl 1 1)), (22, (.i .i64 x1)), (23, (.i .i64 x2))], ⟨[(1, (.row .u8 0 x3 5 (0, 0)))], 2, []⟩ => octet_Put_L6 n a1  m6 x0 x1 x2 x3
  | _, _ => none
def octet_Put_J5q (n : Nat) (a1 : List UInt8)  (T : AT) (s : AS) : Option octet_Put_R := match T, s with
  | [(1, (.n .u64 x0)), (2, (.i .i64 x1)), (7, (.sl 1 1))], ⟨[(1, (.row .u8 0 x2 5 (0, 0)))], 2, []⟩ => octet_Put_J5 n a1  x0 x1 x2
  | _, _ => none
def octet_Put_jf (n : Nat) (a1 : List UInt8) : List Nat → Nat → AT → AS → Option octet_Put_R := fun ms key T s => cond (Nat.beq key 5) (match ms with | [] => octet_Put_J5q n a1  T s | _ => none) (none)
def octet_Put_lf (n : Nat) (a1 : List UInt8) : List Nat → Nat → AT → AS → Option octet_Put_R := fun ms key T s => cond (Nat.beq key 6) (match ms with | [m6] => octet_Put_L6q n a1 m6 T s | _ => none) (none)
noncomputable def octet_Put_E (n : Nat) (o1 : Nat) (f1 : Nat × Nat) (a1 : List UInt8) : SE octet_Put_R := octet_Put_E0 n octet_Put_R o1 f1 a1 (octet_Put_jf n a1) (octet_Put_lf n a1)
theorem octet_Put_eq (n : Nat) (o1 : Nat) (f1 : Nat × Nat) (a1 : List UInt8) (a2 : Nat) (a3 : Int) : sxF cfg0 kd octet_Put_kr (octet_Put_E n o1 f1 a1) Try.f54 (bodyOf Try.f54) [] [.sl 0 1, .n .u64 a2, .i .i64 a3] octet_Put_ret = octet_Put n a1 a2 a3 := by kernel_rfl
theorem octet_Put_pv (n : Nat) (o1 : Nat) (f1 : Nat × Nat) (a1 : List UInt8) (r : octet_Put_R) : PV cfg0 kd (octet_Put_E n o1 f1 a1) r [] (bodyOf Try.f54) (retK cfg0 kd octet_Put_kr (octet_Put_E n o1 f1 a1) Try.f54.results.toList octet_Put_ret) := by
  refine PV.sn (by kernel_rfl) ?_ ?_
  ·
    refine PV.sn (by kernel_rfl) ?_ ?_
    ·
      refine PV.sj (live := [1, 2, 7]) (by kernel_rfl) ?_ ?_ ?_
      · intro T s h; change octet_Put_J5q n a1  _ _ = some r at h; unfold octet_Put_J5q at h; split at h
        · exact Eq.trans (by kernel_rfl) h
        · cases h
      ·
        refine PV.sn (by kernel_rfl) ?_ ?_
        ·
          exact PV.triv (by kernel_rfl)
        ·
          refine PV.sn (by kernel_rfl) ?_ ?_
          ·
            refine PV.bl ?_
            refine PV.lp (live := [1, 7, 22, 23]) (by kernel_rfl) ?_ ?_ ?_
            · intro T s h; change octet_Put_L6q n a1 0 _ _ = some r at h; unfold octet_Put_L6q at h; split at h
              · exact nomatch (show (none : Option octet_Put_R) = some r from h)
              · cases h
            · intro m6 T s h; change octet_Put_L6q n a1 (m6 + 1) _ _ = some r at h; unfold octet_Put_L6q at h; split at h
              · exact Eq.trans (by kernel_rfl) h
              · cases h
            · intro m6
              exact PV.triv (by kernel_rfl)
          ·
            exact PV.triv (by kernel_rfl)
      ·
        exact PV.triv (by kernel_rfl)
    ·
      exact PV.triv (by kernel_rfl)
  ·
    exact PV.triv (by kernel_rfl)
noncomputable def octet_Put_ct (n : Nat) (vs : List AV) (h : AH) : Option Ctr := match vs, h with
  | [.sl 0 1, .n .u64 a2, .i .i64 a3], [(0, (.row .u8 o1 a1 5 f1))] => some ⟨octet_Put_R, octet_Put n  a1 a2 a3, [], 1, octet_Put_out⟩
  | _, _ => none
theorem octet_Put_ok (n : Nat) : COk1 cfg0 54 (octet_Put_ct n) := by
  intro vs h c r e hm
  unfold octet_Put_ct at e
  split at e
  · rename_i a2 a3 o1 a1 f1
    cases e
    exact sxF_ok (E := octet_Put_E n o1 f1 a1) (nx1 := 2) (octet_Put_fn) rfl rfl (callA_ok (octet_Put_pre_ok n)) octet_Put_ret_ok rfl (octet_Put_pv n o1 f1 a1 r) ((octet_Put_eq n o1 f1 a1 a2 a3).trans hm)
  · cases e
end Go.Ev
end
section
set_option linter.unusedVariables false
set_option linter.unusedSimpArgs false
set_option maxRecDepth 100000
set_option maxHeartbeats 400000
namespace Go.Ev
open Go.RowKit Go.Proofs
theorem frame_Body_fn : cfg0.fn 55 = some Try.f55 := rfl
abbrev frame_Body_R : Type := (List UInt8) × Int
@[reducible] def frame_Body_rt (b0 : List UInt8) (b1 : Int) : Option frame_Body_R := some (b0, b1)
def frame_Body_out : frame_Body_R → AV × AH
  | (b0, b1) => ((.tu [(.s b0), (.i .i64 b1)]), [])
def frame_Body_ret (v : AV) (h : AH) (nx : Nat) : Option frame_Body_R := match v, h, nx with
  | (.tu [(.s b0), (.i .i64 b1)]), [], 1 => some (b0, b1)
  | _, _, _ => none
theorem frame_Body_ret_ok (v : AV) (h : AH) (nx : Nat) (r : frame_Body_R) (e : frame_Body_ret v h nx = some r) : frame_Body_out r = (v, h) ∧ nx = 1 := by
  unfold frame_Body_ret at e
  split at e
  · cases e; exact ⟨rfl, rfl⟩
  · cases e
def frame_Body_kr : KN := []
noncomputable def frame_Body_pre (n : Nat) : CT := (ctA 52 (frame_Room_ct n) (ctA 76 (device_Good_ct n) ctZ))
theorem frame_Body_pre_ok (n : Nat) : COk cfg0 (frame_Body_pre n) := (ctA_ok (frame_Room_ok n) (ctA_ok (device_Good_ok n) ctZ_ok))
noncomputable def frame_Body_E0 (n : Nat) (R : Type) (o1 : Nat) (f1 : Nat × Nat) (a2 : List UInt8) (jf lf : List Nat → Nat → AT → AS → Option R) : SE R := ⟨[(0, (.row .u8 o1 a2 5 f1))], Try.f55.ntmps, 1, callA cfg0 kd [(0, (.row .u8 o1 a2 5 f1))] (frame_Body_pre n), n, [], [], [], jf, lf⟩
def frame_Body_F (n : Nat) (a2 : List UInt8) (a1 : Int)  : Option frame_Body_R := Option.bind (device_Good n a1) fun z => bif !z then frame_Body_rt [] 2 else Option.bind (frame_Room n a1) fun z_1 => bif decide (z_1 < (↑(List.length a2) : Int)) then frame_Body_rt [] 3 else Option.bind (frame_Room n a1) fun z_2 => bif decide (0 ≤ z_2) && decide (0 ≤ z_2) && (Nat.ble (Int.toNat z_2) (Int.toNat z_2) && Nat.ble (Int.toNat z_2) 100000000) then bif Nat.ble 1 (List.length (List.replicate (Int.toNat z_2) (UInt8.ofNat ((0 : Nat))))) then frame_Body_rt (List.take (Nat.min (List.length a2) (List.length (List.replicate (Int.toNat z_2) (UInt8.ofNat ((0 : Nat)))))) a2 ++ List.drop (Nat.min (List.length a2) (List.length (List.replicate (Int.toNat z_2) (UInt8.ofNat ((0 : Nat)))))) (List.replicate (Int.toNat z_2) (UInt8.ofNat ((0 : Nat))))) 0 else none else none
def frame_Body (n : Nat) (a2 : List UInt8) (a1 : Int) : Option frame_Body_R := frame_Body_F n a2 a1 
def frame_Body_jf (n : Nat) (a2 : List UInt8) : List Nat → Nat → AT → AS → Option frame_Body_R := fun ms key T s => none
def frame_Body_lf (n : Nat) (a2 : List UInt8) : List Nat → Nat → AT → AS → Option frame_Body_R := fun ms key T s => none
noncomputable def frame_Body_E (n : Nat) (o1 : Nat) (f1 : Nat × Nat) (a2 : List UInt8) : SE frame_Body_R := frame_Body_E0 n frame_Body_R o1 f1 a2 (frame_Body_jf n a2) (frame_Body_lf n a2)
theorem frame_Body_eq (n : Nat) (o1 : Nat) (f1 : Nat × Nat) (a2 : List UInt8) (a1 : Int) : sxF cfg0 kd frame_Body_kr (frame_Body_E n o1 f1 a2) Try.f55 (bodyOf Try.f55) [] [.i .i64 a1, .sl 0 1] frame_Body_ret = frame_Body n a2 a1 := by kernel_rfl
theorem frame_Body_pv (n : Nat) (o1 : Nat) (f1 : Nat × Nat) (a2 : List UInt8) (r : frame_Body_R) : PV cfg0 kd (frame_Body_E n o1 f1 a2) r [] (bodyOf Try.f55) (retK cfg0 kd frame_Body_kr (frame_Body_E n o1 f1 a2) Try.f55.results.toList frame_Body_ret) := by
  exact PV.triv (by kernel_rfl)
noncomputable def frame_Body_ct (n : Nat) (vs : List AV) (h : AH) : Option Ctr := match vs, h with
  | [.i .i64 a1, .sl 0 1], [(0, (.row .u8 o1 a2 5 f1))] => some ⟨frame_Body_R, frame_Body n  a2 a1, [], 0, frame_Body_out⟩
  | _, _ => none
theorem frame_Body_ok (n : Nat) : COk1 cfg0 55 (frame_Body_ct n) := by
  intro vs h c r e hm
  unfold frame_Body_ct at e
  split at e
  · rename_i a1 o1 a2 f1
    cases e
    exact sxF_ok (E := frame_Body_E n o1 f1 a2) (nx1 := 1) (frame_Body_fn) rfl rfl (callA_ok (frame_Body_pre_ok n)) frame_Body_ret_ok rfl (frame_Body_pv n o1 f1 a2 r) ((frame_Body_eq n o1 f1 a2 a1).trans hm)
  · cases e
end Go.Ev
end
section
set_option linter.unusedVariables false
set_option linter.unusedSimpArgs false
set_option maxRecDepth 100000
set_option maxHeartbeats 400000
namespace Go.Ev
open Go.RowKit Go.Proofs
theorem free_number_fn : cfg0.fn 57 = some Try.f57 := rfl
abbrev free_number_R : Type := Bool
@[reducible] def free_number_rt (b0 : Bool) : Option free_number_R := some b0
def free_number_out : free_number_R → AV × AH
  | b0 => ((.b b0), [])
def free_number_ret (v : AV) (h : AH) (nx : Nat) : Option free_number_R := match v, h, nx with
  | (.b b0), [], 0 => some b0
  | _, _, _ => none
theorem free_number_ret_ok (v : AV) (h : AH) (nx : Nat) (r : free_number_R) (e : free_number_ret v h nx = some r) : free_number_out r = (v, h) ∧ nx = 0 := by
  unfold free_number_ret at e
  split at e
  · cases e; exact ⟨rfl, rfl⟩
  · cases e
def free_number_kr : KN := []
noncomputable def free_number_pre (n : Nat) : CT := ctZ
theorem free_number_pre_ok (n : Nat) : COk cfg0 (free_number_pre n) := ctZ_ok
noncomputable def free_number_E0 (n : Nat) (R : Type)   (jf lf : List Nat → Nat → AT → AS → Option R) : SE R := ⟨[], Try.f57.ntmps, 0, callA cfg0 kd [] (free_number_pre n), n, [], [], [], jf, lf⟩
def free_number_F (n : Nat) (a1 : Nat)  : Option free_number_R := bif decide ((2 : Nat) ≤ a1) then free_number_rt (decide (a1 ≤ (2147483647 : Nat))) else free_number_rt false
def free_number (n : Nat) (a1 : Nat) : Option free_number_R := free_number_F n a1 
def free_number_jf (n : Nat) : List Nat → Nat → AT → AS → Option free_number_R := fun ms key T s => none
def free_number_lf (n : Nat) : List Nat → Nat → AT → AS → Option free_number_R := fun ms key T s => none
noncomputable def free_number_E (n : Nat)   : SE free_number_R := free_number_E0 n free_number_R   (free_number_jf n) (free_number_lf n)
theorem free_number_eq (n : Nat) (a1 : Nat) : sxF cfg0 kd free_number_kr (free_number_E n  ) Try.f57 (bodyOf Try.f57) [] [.n .u32 a1] free_number_ret = free_number n a1 := by kernel_rfl
theorem free_number_pv (n : Nat) (r : free_number_R) : PV cfg0 kd (free_number_E n  ) r [] (bodyOf Try.f57) (retK cfg0 kd free_number_kr (free_number_E n  ) Try.f57.results.toList free_number_ret) := by
  exact PV.triv (by kernel_rfl)
noncomputable def free_number_ct (n : Nat) (vs : List AV) (h : AH) : Option Ctr := match vs, h with
  | [.n .u32 a1], [] => some ⟨free_number_R, free_number n   a1, [], 0, free_number_out⟩
  | _, _ => none
theorem free_number_ok (n : Nat) : COk1 cfg0 57 (free_number_ct n) := by
  intro vs h c r e hm
  unfold free_number_ct at e
  split at e
  · rename_i a1
    cases e
    exact sxF_ok (E := free_number_E n  ) (nx1 := 0) (free_number_fn) rfl rfl (callA_ok (free_number_pre_ok n)) free_number_ret_ok rfl (free_number_pv n   r) ((free_number_eq n   a1).trans hm)
  · cases e
end Go.Ev
end
section
set_option linter.unusedVariables false
set_option linter.unusedSimpArgs false
set_option maxRecDepth 100000
set_option maxHeartbeats 400000
namespace Go.Ev
open Go.RowKit Go.Proofs
theorem free_Page_1_fn : cfg0.fn 56 = some Try.f56 := rfl
abbrev free_Page_1_R : Type := Bool
@[reducible] def free_Page_1_rt (b0 : Bool) : Option free_Page_1_R := some b0
def free_Page_1_out : free_Page_1_R → AV × AH
  | b0 => ((.b b0), [])
def free_Page_1_ret (v : AV) (h : AH) (nx : Nat) : Option free_Page_1_R := match v, h, nx with
  | (.b b0), [], 0 => some b0
  | _, _, _ => none
theorem free_Page_1_ret_ok (v : AV) (h : AH) (nx : Nat) (r : free_Page_1_R) (e : free_Page_1_ret v h nx = some r) : free_Page_1_out r = (v, h) ∧ nx = 0 := by
  unfold free_Page_1_ret at e
  split at e
  · cases e; exact ⟨rfl, rfl⟩
  · cases e
def free_Page_1_kr : KN := []
noncomputable def free_Page_1_pre (n : Nat) : CT := (ctA 57 (free_number_ct n) ctZ)
theorem free_Page_1_pre_ok (n : Nat) : COk cfg0 (free_Page_1_pre n) := (ctA_ok (free_number_ok n) ctZ_ok)
noncomputable def free_Page_1_E0 (n : Nat) (R : Type)   (jf lf : List Nat → Nat → AT → AS → Option R) : SE R := ⟨[], Try.f56.ntmps, 0, callA cfg0 kd [] (free_Page_1_pre n), n, [], [], [], jf, lf⟩
def free_Page_1_F (n : Nat) (a1 : Nat)  : Option free_Page_1_R := Option.bind (free_number n a1) fun z => free_Page_1_rt !z
def free_Page_1 (n : Nat) (a1 : Nat) : Option free_Page_1_R := free_Page_1_F n a1 
def free_Page_1_jf (n : Nat) : List Nat → Nat → AT → AS → Option free_Page_1_R := fun ms key T s => none
def free_Page_1_lf (n : Nat) : List Nat → Nat → AT → AS → Option free_Page_1_R := fun ms key T s => none
noncomputable def free_Page_1_E (n : Nat)   : SE free_Page_1_R := free_Page_1_E0 n free_Page_1_R   (free_Page_1_jf n) (free_Page_1_lf n)
theorem free_Page_1_eq (n : Nat) (a1 : Nat) : sxF cfg0 kd free_Page_1_kr (free_Page_1_E n  ) Try.f56 (bodyOf Try.f56) [] [.n .u32 a1] free_Page_1_ret = free_Page_1 n a1 := by kernel_rfl
theorem free_Page_1_pv (n : Nat) (r : free_Page_1_R) : PV cfg0 kd (free_Page_1_E n  ) r [] (bodyOf Try.f56) (retK cfg0 kd free_Page_1_kr (free_Page_1_E n  ) Try.f56.results.toList free_Page_1_ret) := by
  exact PV.triv (by kernel_rfl)
noncomputable def free_Page_1_ct (n : Nat) (vs : List AV) (h : AH) : Option Ctr := match vs, h with
  | [.n .u32 a1], [] => some ⟨free_Page_1_R, free_Page_1 n   a1, [], 0, free_Page_1_out⟩
  | _, _ => none
theorem free_Page_1_ok (n : Nat) : COk1 cfg0 56 (free_Page_1_ct n) := by
  intro vs h c r e hm
  unfold free_Page_1_ct at e
  split at e
  · rename_i a1
    cases e
    exact sxF_ok (E := free_Page_1_E n  ) (nx1 := 0) (free_Page_1_fn) rfl rfl (callA_ok (free_Page_1_pre_ok n)) free_Page_1_ret_ok rfl (free_Page_1_pv n   r) ((free_Page_1_eq n   a1).trans hm)
  · cases e
end Go.Ev
end
section
set_option linter.unusedVariables false
set_option linter.unusedSimpArgs false
set_option maxRecDepth 100000
set_option maxHeartbeats 400000
namespace Go.Ev
open Go.RowKit Go.Proofs
theorem slices_IndexFunc_uint32_uint32_fn : cfg0.fn 77 = some Try.f77 := rfl
abbrev slices_IndexFunc_uint32_uint32_R : Type := Int
@[reducible] def slices_IndexFunc_uint32_uint32_rt (b0 : Int) : Option slices_IndexFunc_uint32_uint32_R := some b0
def slices_IndexFunc_uint32_uint32_out : slices_IndexFunc_uint32_uint32_R → AV × AH
  | b0 => ((.i .i64 b0), [])
def slices_IndexFunc_uint32_uint32_ret (v : AV) (h : AH) (nx : Nat) : Option slices_IndexFunc_uint32_uint32_R := match v, h, nx with
  | (.i .i64 b0), [], 1 => some b0
  | _, _, _ => none
theorem slices_IndexFunc_uint32_uint32_ret_ok (v : AV) (h : AH) (nx : Nat) (r : slices_IndexFunc_uint32_uint32_R) (e : slices_IndexFunc_uint32_uint32_ret v h nx = some r) : slices_IndexFunc_uint32_uint32_out r = (v, h) ∧ nx = 1 := by
  unfold slices_IndexFunc_uint32_uint32_ret at e
  split at e
  · cases e; exact ⟨rfl, rfl⟩
  · cases e
def slices_IndexFunc_uint32_uint32_kr : KN := []
noncomputable def slices_IndexFunc_uint32_uint32_pre (n : Nat) : CT := (ctA 56 (free_Page_1_ct n) ctZ)
theorem slices_IndexFunc_uint32_uint32_pre_ok (n : Nat) : COk cfg0 (slices_IndexFunc_uint32_uint32_pre n) := (ctA_ok (free_Page_1_ok n) ctZ_ok)
noncomputable def slices_IndexFunc_uint32_uint32_E0 (n : Nat) (R : Type) (o1 : Nat) (f1 : Nat × Nat) (a1 : List Nat) (jf lf : List Nat → Nat → AT → AS → Option R) : SE R := ⟨[(0, (.row .u32 o1 a1 28 f1))], Try.f77.ntmps, 1, callA cfg0 kd [(0, (.row .u32 o1 a1 28 f1))] (slices_IndexFunc_uint32_uint32_pre n), n, [(3, ([0, 1, 7, 8], 0))], [], [], jf, lf⟩
def slices_IndexFunc_uint32_uint32_L3F (n : Nat) (a1 : List Nat) (r3 : (Int → Int → Option slices_IndexFunc_uint32_uint32_R))  (x0 : Int) (x1 : Int) : Option slices_IndexFunc_uint32_uint32_R := bif decide (x1 < x0) then bif decide (0 ≤ x1) && decide (Int.toNat x1 < List.length a1) then Option.bind a1[Int.toNat x1]? fun z => Option.bind (free_Page_1 n z) fun z_1 => bif z_1 then slices_IndexFunc_uint32_uint32_rt x1 else r3 x0 (w64 (x1 + 1)) else none else slices_IndexFunc_uint32_uint32_rt (-1)
def slices_IndexFunc_uint32_uint32_L3 (n : Nat) (a1 : List Nat)  : Nat → Int → Int → Option slices_IndexFunc_uint32_uint32_R
  | 0, _, _ => none
  | m + 1, x0, x1 => slices_IndexFunc_uint32_uint32_L3F n a1  (slices_IndexFunc_uint32_uint32_L3 n a1  m)  x0 x1
def slices_IndexFunc_uint32_uint32_F (n : Nat) (a1 : List Nat)  (l3 : (Int → Int → Option slices_IndexFunc_uint32_uint32_R)) : Option slices_IndexFunc_uint32_uint32_R := l3 (↑(List.length a1) : Int) 0
def slices_IndexFunc_uint32_uint32 (n : Nat) (a1 : List Nat)  : Option slices_IndexFunc_uint32_uint32_R := slices_IndexFunc_uint32_uint32_F n a1  (slices_IndexFunc_uint32_uint32_L3 n a1 n)
def slices_IndexFunc_uint32_uint32_L3q (n : Nat) (a1 : List Nat) (m3 : Nat) (T : AT) (s : AS) : Option slices_IndexFunc_uint32_uint32_R := match T, s with
  | [(0, (.sl 0 1)), (1, (.fn 56 [])), (7, (.i .i64 x0)), (8, (.i .i64 x1))], ⟨[], 1, []⟩ => slices_IndexFunc_uint32_uint32_L3 n a1  m3 x0 x1
  | _, _ => none
def slices_IndexFunc_uint32_uint32_jf (n : Nat) (a1 : List Nat) : List Nat → Nat → AT → AS → Option slices_IndexFunc_uint32_uint32_R := fun ms key T s => none
def slices_IndexFunc_uint32_uint32_lf (n : Nat) (a1 : List Nat) : List Nat → Nat → AT → AS → Option slices_IndexFunc_uint32_uint32_R := fun ms key T s => cond (Nat.beq key 3) (match ms with | [m3] => slices_IndexFunc_uint32_uint32_L3q n a1 m3 T s | _ => none) (none)
noncomputable def slices_IndexFunc_uint32_uint32_E (n : Nat) (o1 : Nat) (f1 : Nat × Nat) (a1 : List Nat) : SE slices_IndexFunc_uint32_uint32_R := slices_IndexFunc_uint32_uint32_E0 n slices_IndexFunc_uint32_uint32_R o1 f1 a1 (slices_IndexFunc_uint32_uint32_jf n a1) (slices_IndexFunc_uint32_uint32_lf n a1)
theorem slices_IndexFunc_uint32_uint32_eq (n : Nat) (o1 : Nat) (f1 : Nat × Nat) (a1 : List Nat) : sxF cfg0 kd slices_IndexFunc_uint32_uint32_kr (slices_IndexFunc_uint32_uint32_E n o1 f1 a1) Try.f77 (bodyOf Try.f77) [] [.sl 0 1, .fn 56 []] slices_IndexFunc_uint32_uint32_ret = slices_IndexFunc_uint32_uint32 n a1  := by kernel_rfl
theorem slices_IndexFunc_uint32_uint32_pv (n : Nat) (o1 : Nat) (f1 : Nat × Nat) (a1 : List Nat) (r : slices_IndexFunc_uint32_uint32_R) : PV cfg0 kd (slices_IndexFunc_uint32_uint32_E n o1 f1 a1) r [] (bodyOf Try.f77) (retK cfg0 kd slices_IndexFunc_uint32_uint32_kr (slices_IndexFunc_uint32_uint32_E n o1 f1 a1) Try.f77.results.toList slices_IndexFunc_uint32_uint32_ret) := by
  refine PV.sn (by kernel_rfl) ?_ ?_
  ·
    refine PV.sn (by kernel_rfl) ?_ ?_
    ·
      exact PV.triv (by kernel_rfl)
    ·
      refine PV.sn (by kernel_rfl) ?_ ?_
      ·
        refine PV.bl ?_
        refine PV.lp (live := [0, 1, 7, 8]) (by kernel_rfl) ?_ ?_ ?_
        · intro T s h; change slices_IndexFunc_uint32_uint32_L3q n a1 0 _ _ = some r at h; unfold slices_IndexFunc_uint32_uint32_L3q at h; split at h
          · exact nomatch (show (none : Option slices_IndexFunc_uint32_uint32_R) = some r from h)
          · cases h
        · intro m3 T s h; change slices_IndexFunc_uint32_uint32_L3q n a1 (m3 + 1) _ _ = some r at h; unfold slices_IndexFunc_uint32_uint32_L3q at h; split at h
          · exact Eq.trans (by kernel_rfl) h
          · cases h
        · intro m3
          exact PV.triv (by kernel_rfl)
      ·
        exact PV.triv (by kernel_rfl)
  ·
    exact PV.triv (by kernel_rfl)
noncomputable def slices_IndexFunc_uint32_uint32_ct (n : Nat) (vs : List AV) (h : AH) : Option Ctr := match vs, h with
  | [.sl 0 1, .fn 56 []], [(0, (.row .u32 o1 a1 28 f1))] => some ⟨slices_IndexFunc_uint32_uint32_R, slices_IndexFunc_uint32_uint32 n  a1 , [], 0, slices_IndexFunc_uint32_uint32_out⟩
  | _, _ => none
theorem slices_IndexFunc_uint32_uint32_ok (n : Nat) : COk1 cfg0 77 (slices_IndexFunc_uint32_uint32_ct n) := by
  intro vs h c r e hm
  unfold slices_IndexFunc_uint32_uint32_ct at e
  split at e
  · rename_i o1 a1 f1
    cases e
    exact sxF_ok (E := slices_IndexFunc_uint32_uint32_E n o1 f1 a1) (nx1 := 1) (slices_IndexFunc_uint32_uint32_fn) rfl rfl (callA_ok (slices_IndexFunc_uint32_uint32_pre_ok n)) slices_IndexFunc_uint32_uint32_ret_ok rfl (slices_IndexFunc_uint32_uint32_pv n o1 f1 a1 r) ((slices_IndexFunc_uint32_uint32_eq n o1 f1 a1 ).trans hm)
  · cases e
end Go.Ev
end
section
set_option linter.unusedVariables false
set_option linter.unusedSimpArgs false
set_option maxRecDepth 100000
set_option maxHeartbeats 400000
namespace Go.Ev
open Go.RowKit Go.Proofs
theorem slices_ContainsFunc_uint32_uint32_fn : cfg0.fn 58 = some Try.f58 := rfl
abbrev slices_ContainsFunc_uint32_uint32_R : Type := Bool
@[reducible] def slices_ContainsFunc_uint32_uint32_rt (b0 : Bool) : Option slices_ContainsFunc_uint32_uint32_R := some b0
def slices_ContainsFunc_uint32_uint32_out : slices_ContainsFunc_uint32_uint32_R → AV × AH
  | b0 => ((.b b0), [])
def slices_ContainsFunc_uint32_uint32_ret (v : AV) (h : AH) (nx : Nat) : Option slices_ContainsFunc_uint32_uint32_R := match v, h, nx with
  | (.b b0), [], 1 => some b0
  | _, _, _ => none
theorem slices_ContainsFunc_uint32_uint32_ret_ok (v : AV) (h : AH) (nx : Nat) (r : slices_ContainsFunc_uint32_uint32_R) (e : slices_ContainsFunc_uint32_uint32_ret v h nx = some r) : slices_ContainsFunc_uint32_uint32_out r = (v, h) ∧ nx = 1 := by
  unfold slices_ContainsFunc_uint32_uint32_ret at e
  split at e
  · cases e; exact ⟨rfl, rfl⟩
  · cases e
def slices_ContainsFunc_uint32_uint32_kr : KN := []
noncomputable def slices_ContainsFunc_uint32_uint32_pre (n : Nat) : CT := (ctA 77 (slices_IndexFunc_uint32_uint32_ct n) (ctA 56 (free_Page_1_ct n) ctZ))
theorem slices_ContainsFunc_uint32_uint32_pre_ok (n : Nat) : COk cfg0 (slices_ContainsFunc_uint32_uint32_pre n) := (ctA_ok (slices_IndexFunc_uint32_uint32_ok n) (ctA_ok (free_Page_1_ok n) ctZ_ok))
noncomputable def slices_ContainsFunc_uint32_uint32_E0 (n : Nat) (R : Type) (o1 : Nat) (f1 : Nat × Nat) (a1 : List Nat) (jf lf : List Nat → Nat → AT → AS → Option R) : SE R := ⟨[(0, (.row .u32 o1 a1 28 f1))], Try.f58.ntmps, 1, callA cfg0 kd [(0, (.row .u32 o1 a1 28 f1))] (slices_ContainsFunc_uint32_uint32_pre n), n, [], [], [], jf, lf⟩
def slices_ContainsFunc_uint32_uint32_F (n : Nat) (a1 : List Nat)   : Option slices_ContainsFunc_uint32_uint32_R := Option.bind (slices_IndexFunc_uint32_uint32 n a1) fun z => slices_ContainsFunc_uint32_uint32_rt (decide (0 ≤ z))
def slices_ContainsFunc_uint32_uint32 (n : Nat) (a1 : List Nat)  : Option slices_ContainsFunc_uint32_uint32_R := slices_ContainsFunc_uint32_uint32_F n a1  
def slices_ContainsFunc_uint32_uint32_jf (n : Nat) (a1 : List Nat) : List Nat → Nat → AT → AS → Option slices_ContainsFunc_uint32_uint32_R := fun ms key T s => none
def slices_ContainsFunc_uint32_uint32_lf (n : Nat) (a1 : List Nat) : List Nat → Nat → AT → AS → Option slices_ContainsFunc_uint32_uint32_R := fun ms key T s => none
noncomputable def slices_ContainsFunc_uint32_uint32_E (n : Nat) (o1 : Nat) (f1 : Nat × Nat) (a1 : List Nat) : SE slices_ContainsFunc_uint32_uint32_R := slices_ContainsFunc_uint32_uint32_E0 n slices_ContainsFunc_uint32_uint32_R o1 f1 a1 (slices_ContainsFunc_uint32_uint32_jf n a1) (slices_ContainsFunc_uint32_uint32_lf n a1)
theorem slices_ContainsFunc_uint32_uint32_eq (n : Nat) (o1 : Nat) (f1 : Nat × Nat) (a1 : List Nat) : sxF cfg0 kd slices_ContainsFunc_uint32_uint32_kr (slices_ContainsFunc_uint32_uint32_E n o1 f1 a1) Try.f58 (bodyOf Try.f58) [] [.sl 0 1, .fn 56 []] slices_ContainsFunc_uint32_uint32_ret = slices_ContainsFunc_uint32_uint32 n a1  := by kernel_rfl
theorem slices_ContainsFunc_uint32_uint32_pv (n : Nat) (o1 : Nat) (f1 : Nat × Nat) (a1 : List Nat) (r : slices_ContainsFunc_uint32_uint32_R) : PV cfg0 kd (slices_ContainsFunc_uint32_uint32_E n o1 f1 a1) r [] (bodyOf Try.f58) (retK cfg0 kd slices_ContainsFunc_uint32_uint32_kr (slices_ContainsFunc_uint32_uint32_E n o1 f1 a1) Try.f58.results.toList slices_ContainsFunc_uint32_uint32_ret) := by
  exact PV.triv (by kernel_rfl)
noncomputable def slices_ContainsFunc_uint32_uint32_ct (n : Nat) (vs : List AV) (h : AH) : Option Ctr := match vs, h with
  | [.sl 0 1, .fn 56 []], [(0, (.row .u32 o1 a1 28 f1))] => some ⟨slices_ContainsFunc_uint32_uint32_R, slices_ContainsFunc_uint32_uint32 n  a1 , [], 0, slices_ContainsFunc_uint32_uint32_out⟩
  | _, _ => none
theorem slices_ContainsFunc_uint32_uint32_ok (n : Nat) : COk1 cfg0 58 (slices_ContainsFunc_uint32_uint32_ct n) := by
  intro vs h c r e hm
  unfold slices_ContainsFunc_uint32_uint32_ct at e
  split at e
  · rename_i o1 a1 f1
    cases e
    exact sxF_ok (E := slices_ContainsFunc_uint32_uint32_E n o1 f1 a1) (nx1 := 1) (slices_ContainsFunc_uint32_uint32_fn) rfl rfl (callA_ok (slices_ContainsFunc_uint32_uint32_pre_ok n)) slices_ContainsFunc_uint32_uint32_ret_ok rfl (slices_ContainsFunc_uint32_uint32_pv n o1 f1 a1 r) ((slices_ContainsFunc_uint32_uint32_eq n o1 f1 a1 ).trans hm)
  · cases e
end Go.Ev
end
section
set_option linter.unusedVariables false
set_option linter.unusedSimpArgs false
set_option maxRecDepth 100000
set_option maxHeartbeats 400000
namespace Go.Ev
open Go.RowKit Go.Proofs
theorem free_Page_fn : cfg0.fn 27 = some Try.f27 := rfl
abbrev free_Page_R : Type := Pg × Int
@[reducible] def free_Page_rt (b0 : Pg) (b1 : Int) : Option free_Page_R := some (b0, b1)
def free_Page_out : free_Page_R → AV × AH
  | (b0, b1) => ((.tu [(.ag (RK.k .page b0)), (.i .i64 b1)]), [])
def free_Page_ret (v : AV) (h : AH) (nx : Nat) : Option free_Page_R := match v, h, nx with
  | (.tu [(.ag [.i .i64 b0_0, .i .i64 b0_1, .n .u32 b0_2, .n .u32 b0_3, .n .u64 b0_4, .s b0_5]), (.i .i64 b1)]), [], 1 => some (⟨b0_0, b0_1, b0_2, b0_3, b0_4, b0_5⟩, b1)
  | _, _, _ => none
theorem free_Page_ret_ok (v : AV) (h : AH) (nx : Nat) (r : free_Page_R) (e : free_Page_ret v h nx = some r) : free_Page_out r = (v, h) ∧ nx = 1 := by
  unfold free_Page_ret at e
  split at e
  · cases e; exact ⟨rfl, rfl⟩
  · cases e
def free_Page_kr : KN := []
noncomputable def free_Page_pre (n : Nat) : CT := (ctA 29 (free_Rises_ct n) (ctA 31 (free_Most_ct n) (ctA 54 (octet_Put_ct n) (ctA 55 (frame_Body_ct n) (ctA 56 (free_Page_1_ct n) (ctA 58 (slices_ContainsFunc_uint32_uint32_ct n) ctZ))))))
theorem free_Page_pre_ok (n : Nat) : COk cfg0 (free_Page_pre n) := (ctA_ok (free_Rises_ok n) (ctA_ok (free_Most_ok n) (ctA_ok (octet_Put_ok n) (ctA_ok (frame_Body_ok n) (ctA_ok (free_Page_1_ok n) (ctA_ok (slices_ContainsFunc_uint32_uint32_ok n) ctZ_ok))))))
noncomputable def free_Page_E0 (n : Nat) (R : Type) (o1 : Nat) (f1 : Nat × Nat) (a5 : List Nat) (jf lf : List Nat → Nat → AT → AS → Option R) : SE R := ⟨[(0, (.row .u32 o1 a5 28 f1))], Try.f27.ntmps, 1, callA cfg0 kd [(0, (.row .u32 o1 a5 28 f1))] (free_Page_pre n), n, [(7, ([0, 1, 2, 3, 4, 10, 13, 57, 58, 59], 0))], [(5, [0, 1, 2, 3, 4, 10])], [], jf, lf⟩
def free_Page_L7F (n : Nat) (a5 : List Nat) (r7 : (Int → Nat → Nat → Nat → Int → Int → List (UInt8) → Pg → Option free_Page_R))  (x0 : Int) (x1 : Nat) (x2 : Nat) (x3 : Nat) (x4 : Int) (x5 : Int) (x6 : List (UInt8)) (x7 : Pg) : Option free_Page_R := bif decide (x5 < x4) then bif decide (0 ≤ x5) && decide (Int.toNat x5 < List.length a5) then Option.bind a5[Int.toNat x5]? fun z => Option.bind (octet_Put n x6 (z % 18446744073709551616) 4) fun z_1 => r7 x0 x1 x2 x3 x4 (w64 (x5 + 1)) z_1 x7 else none else Option.bind (frame_Body n x6 x0) fun z => free_Page_rt (Pg.mk 6 (↑(List.length a5) : Int) x1 x2 x3 z.fst) 0
def free_Page_L7 (n : Nat) (a5 : List Nat)  : Nat → Int → Nat → Nat → Nat → Int → Int → List (UInt8) → Pg → Option free_Page_R
  | 0, _, _, _, _, _, _, _, _ => none
  | m + 1, x0, x1, x2, x3, x4, x5, x6, x7 => free_Page_L7F n a5  (free_Page_L7 n a5  m)  x0 x1 x2 x3 x4 x5 x6 x7
def free_Page_J5F (n : Nat) (a5 : List Nat)  (l7 : (Int → Nat → Nat → Nat → Int → Int → List (UInt8) → Pg → Option free_Page_R)) (x0 : Int) (x1 : Nat) (x2 : Nat) (x3 : Nat) (x4 : Pg) : Option free_Page_R := l7 x0 x1 x2 x3 (↑(List.length a5) : Int) 0 [] x4
def free_Page_J5 (n : Nat) (a5 : List Nat)  (x0 : Int) (x1 : Nat) (x2 : Nat) (x3 : Nat) (x4 : Pg) : Option free_Page_R := free_Page_J5F n a5  (free_Page_L7 n a5  n) x0 x1 x2 x3 x4
def free_Page_F (n : Nat) (a5 : List Nat) (a1 : Int) (a2 : Nat) (a3 : Nat) (a4 : Nat) (j5 : (Int → Nat → Nat → Nat → Pg → Option free_Page_R)) : Option free_Page_R := Option.bind (free_Most n a1) fun z => bif decide (z = 0) then free_Page_rt (Pg.mk 0 0 ((0 : Nat)) ((0 : Nat)) ((0 : Nat)) []) 2 else Option.bind (free_Most n a1) fun z_1 => bif decide (z_1 < (↑(List.length a5) : Int)) then free_Page_rt (Pg.mk 0 0 ((0 : Nat)) ((0 : Nat)) ((0 : Nat)) []) 2 else Option.bind (free_Rises n a5) fun z_2 => bif !z_2 then free_Page_rt (Pg.mk 0 0 ((0 : Nat)) ((0 : Nat)) ((0 : Nat)) []) 2 else Option.bind (slices_ContainsFunc_uint32_uint32 n a5) fun z_3 => bif z_3 then free_Page_rt (Pg.mk 0 0 ((0 : Nat)) ((0 : Nat)) ((0 : Nat)) []) 2 else Option.bind (free_Page_1 n a2) fun z_4 => bif z_4 then free_Page_rt (Pg.mk 0 0 ((0 : Nat)) ((0 : Nat)) ((0 : Nat)) []) 2 else bif decide (a3 ≠ (0 : Nat)) then Option.bind (free_Page_1 n a3) fun z_5 => bif z_5 then free_Page_rt (Pg.mk 0 0 ((0 : Nat)) ((0 : Nat)) ((0 : Nat)) []) 2 else bif decide ((4611686018427387904 : Nat) < a4) then free_Page_rt (Pg.mk 0 0 ((0 : Nat)) ((0 : Nat)) ((0 : Nat)) []) 2 else j5 a1 a2 a3 a4 (Pg.mk 0 0 ((0 : Nat)) ((0 : Nat)) ((0 : Nat)) []) else bif decide ((4611686018427387904 : Nat) < a4) then free_Page_rt (Pg.mk 0 0 ((0 : Nat)) ((0 : Nat)) ((0 : Nat)) []) 2 else j5 a1 a2 a3 a4 (Pg.mk 0 0 ((0 : Nat)) ((0 : Nat)) ((0 : Nat)) [])
def free_Page (n : Nat) (a5 : List Nat) (a1 : Int) (a2 : Nat) (a3 : Nat) (a4 : Nat) : Option free_Page_R := free_Page_F n a5 a1 a2 a3 a4 (free_Page_J5 n a5)
def free_Page_L7q (n : Nat) (a5 : List Nat) (m7 : Nat) (T : AT) (s : AS) : Option free_Page_R := match T, s with
  | [(0, (.i .i64 x0)), (1, (.n .u32 x1)), (2, (.n .u32 x2)), (3, (.n .u64 x3)), (4, (.sl 0 1)), (10, (.ptr 1 0)), (13, (.sl 2 1)), (57, (.sl 0 1)), (58, (.i .i64 x4)), (59, (.i .i64 x5))], ⟨[(2, (.row .u8 0 x6 5 (0, 0))), (1, (.cells [.i .i64 x7_0, .i .i64 x7_1, .n .u32 x7_2, .n .u32 x7_3, .n .u64 x7_4, .s x7_5] 39 (0, 0)))], 3, []⟩ => free_Page_L7 n a5  m7 x0 x1 x2 x3 x4 x5 x6 ⟨x7_0, x7_1, x7_2, x7_3, x7_4, x7_5⟩
  | _, _ => none
def free_Page_J5q (n : Nat) (a5 : List Nat)  (T : AT) (s : AS) : Option free_Page_R := match T, s with
  | [(0, (.i .i64 x0)), (1, (.n .u32 x1)), (2, (.n .u32 x2)), (3, (.n .u64 x3)), (4, (.sl 0 1)), (10, (.ptr 1 0))], ⟨[(1, (.cells [.i .i64 x4_0, .i .i64 x4_1, .n .u32 x4_2, .n .u32 x4_3, .n .u64 x4_4, .s x4_5] 39 (0, 0)))], 2, []⟩ => free_Page_J5 n a5  x0 x1 x2 x3 ⟨x4_0, x4_1, x4_2, x4_3, x4_4, x4_5⟩
  | _, _ => none
def free_Page_jf (n : Nat) (a5 : List Nat) : List Nat → Nat → AT → AS → Option free_Page_R := fun ms key T s => cond (Nat.beq key 5) (match ms with | [] => free_Page_J5q n a5  T s | _ => none) (none)
def free_Page_lf (n : Nat) (a5 : List Nat) : List Nat → Nat → AT → AS → Option free_Page_R := fun ms key T s => cond (Nat.beq key 7) (match ms with | [m7] => free_Page_L7q n a5 m7 T s | _ => none) (none)
noncomputable def free_Page_E (n : Nat) (o1 : Nat) (f1 : Nat × Nat) (a5 : List Nat) : SE free_Page_R := free_Page_E0 n free_Page_R o1 f1 a5 (free_Page_jf n a5) (free_Page_lf n a5)
theorem free_Page_eq (n : Nat) (o1 : Nat) (f1 : Nat × Nat) (a5 : List Nat) (a1 : Int) (a2 : Nat) (a3 : Nat) (a4 : Nat) : sxF cfg0 kd free_Page_kr (free_Page_E n o1 f1 a5) Try.f27 (bodyOf Try.f27) [] [.i .i64 a1, .n .u32 a2, .n .u32 a3, .n .u64 a4, .sl 0 1] free_Page_ret = free_Page n a5 a1 a2 a3 a4 := by kernel_rfl
theorem free_Page_pv (n : Nat) (o1 : Nat) (f1 : Nat × Nat) (a5 : List Nat) (r : free_Page_R) : PV cfg0 kd (free_Page_E n o1 f1 a5) r [] (bodyOf Try.f27) (retK cfg0 kd free_Page_kr (free_Page_E n o1 f1 a5) Try.f27.results.toList free_Page_ret) := by
  refine PV.sn (by kernel_rfl) ?_ ?_
  ·
    refine PV.sn (by kernel_rfl) ?_ ?_
    ·
      refine PV.sj (live := [0, 1, 2, 3, 4, 10]) (by kernel_rfl) ?_ ?_ ?_
      · intro T s h; change free_Page_J5q n a5  _ _ = some r at h; unfold free_Page_J5q at h; split at h
        · exact Eq.trans (by kernel_rfl) h
        · cases h
      ·
        refine PV.sn (by kernel_rfl) ?_ ?_
        ·
          refine PV.sn (by kernel_rfl) ?_ ?_
          ·
            exact PV.triv (by kernel_rfl)
          ·
            refine PV.sn (by kernel_rfl) ?_ ?_
            ·
              refine PV.bl ?_
              refine PV.lp (live := [0, 1, 2, 3, 4, 10, 13, 57, 58, 59]) (by kernel_rfl) ?_ ?_ ?_
              · intro T s h; change free_Page_L7q n a5 0 _ _ = some r at h; unfold free_Page_L7q at h; split at h
                · exact nomatch (show (none : Option free_Page_R) = some r from h)
                · cases h
              · intro m7 T s h; change free_Page_L7q n a5 (m7 + 1) _ _ = some r at h; unfold free_Page_L7q at h; split at h
                · exact Eq.trans (by kernel_rfl) h
                · cases h
              · intro m7
                exact PV.triv (by kernel_rfl)
            ·
              exact PV.triv (by kernel_rfl)
        ·
          exact PV.triv (by kernel_rfl)
      ·
        exact PV.triv (by kernel_rfl)
    ·
      exact PV.triv (by kernel_rfl)
  ·
    exact PV.triv (by kernel_rfl)
noncomputable def free_Page_ct (n : Nat) (vs : List AV) (h : AH) : Option Ctr := match vs, h with
  | [.i .i64 a1, .n .u32 a2, .n .u32 a3, .n .u64 a4, .sl 0 1], [(0, (.row .u32 o1 a5 28 f1))] => some ⟨free_Page_R, free_Page n  a5 a1 a2 a3 a4, [], 0, free_Page_out⟩
  | _, _ => none
theorem free_Page_ok (n : Nat) : COk1 cfg0 27 (free_Page_ct n) := by
  intro vs h c r e hm
  unfold free_Page_ct at e
  split at e
  · rename_i a1 a2 a3 a4 o1 a5 f1
    cases e
    exact sxF_ok (E := free_Page_E n o1 f1 a5) (nx1 := 1) (free_Page_fn) rfl rfl (callA_ok (free_Page_pre_ok n)) free_Page_ret_ok rfl (free_Page_pv n o1 f1 a5 r) ((free_Page_eq n o1 f1 a5 a1 a2 a3 a4).trans hm)
  · cases e
end Go.Ev
end
section
set_option linter.unusedVariables false
set_option linter.unusedSimpArgs false
set_option maxRecDepth 100000
set_option maxHeartbeats 400000
namespace Go.Ev
open Go.RowKit Go.Proofs
theorem octet_New_fn : cfg0.fn 59 = some Try.f59 := rfl
abbrev octet_New_R : Type := (List UInt8)
@[reducible] def octet_New_rt (b0 : List UInt8) : Option octet_New_R := some b0
def octet_New_out : octet_New_R → AV × AH
  | b0 => ((.ptr 0 0), [(0, (.cells [(.s b0)] 93 (0, 0)))])
def octet_New_ret (v : AV) (h : AH) (nx : Nat) : Option octet_New_R := match v, h, nx with
  | (.ptr 0 0), [(0, (.cells [(.s b0)] 93 (0, 0)))], 1 => some b0
  | _, _, _ => none
theorem octet_New_ret_ok (v : AV) (h : AH) (nx : Nat) (r : octet_New_R) (e : octet_New_ret v h nx = some r) : octet_New_out r = (v, h) ∧ nx = 1 := by
  unfold octet_New_ret at e
  split at e
  · cases e; exact ⟨rfl, rfl⟩
  · cases e
def octet_New_kr : KN := []
noncomputable def octet_New_pre (n : Nat) : CT := ctZ
theorem octet_New_pre_ok (n : Nat) : COk cfg0 (octet_New_pre n) := ctZ_ok
noncomputable def octet_New_E0 (n : Nat) (R : Type)   (jf lf : List Nat → Nat → AT → AS → Option R) : SE R := ⟨[], Try.f59.ntmps, 0, callA cfg0 kd [] (octet_New_pre n), n, [], [], [], jf, lf⟩
def octet_New_F (n : Nat) (a1 : List UInt8)  : Option octet_New_R := octet_New_rt a1
def octet_New (n : Nat) (a1 : List UInt8) : Option octet_New_R := octet_New_F n a1 
def octet_New_jf (n : Nat) : List Nat → Nat → AT → AS → Option octet_New_R := fun ms key T s => none
def octet_New_lf (n : Nat) : List Nat → Nat → AT → AS → Option octet_New_R := fun ms key T s => none
noncomputable def octet_New_E (n : Nat)   : SE octet_New_R := octet_New_E0 n octet_New_R   (octet_New_jf n) (octet_New_lf n)
theorem octet_New_eq (n : Nat) (a1 : List UInt8) : sxF cfg0 kd octet_New_kr (octet_New_E n  ) Try.f59 (bodyOf Try.f59) [] [.s a1] octet_New_ret = octet_New n a1 := by kernel_rfl
theorem octet_New_pv (n : Nat) (r : octet_New_R) : PV cfg0 kd (octet_New_E n  ) r [] (bodyOf Try.f59) (retK cfg0 kd octet_New_kr (octet_New_E n  ) Try.f59.results.toList octet_New_ret) := by
  exact PV.triv (by kernel_rfl)
noncomputable def octet_New_ct (n : Nat) (vs : List AV) (h : AH) : Option Ctr := match vs, h with
  | [.s a1], [] => some ⟨octet_New_R, octet_New n   a1, [], 1, octet_New_out⟩
  | _, _ => none
theorem octet_New_ok (n : Nat) : COk1 cfg0 59 (octet_New_ct n) := by
  intro vs h c r e hm
  unfold octet_New_ct at e
  split at e
  · rename_i a1
    cases e
    exact sxF_ok (E := octet_New_E n  ) (nx1 := 1) (octet_New_fn) rfl rfl (callA_ok (octet_New_pre_ok n)) octet_New_ret_ok rfl (octet_New_pv n   r) ((octet_New_eq n   a1).trans hm)
  · cases e
end Go.Ev
end
section
set_option linter.unusedVariables false
set_option linter.unusedSimpArgs false
set_option maxRecDepth 100000
set_option maxHeartbeats 400000
namespace Go.Ev
open Go.RowKit Go.Proofs
theorem octet_Reader_take_fn : cfg0.fn 78 = some Try.f78 := rfl
abbrev octet_Reader_take_R : Type := (List UInt8) × Int × (List UInt8)
@[reducible] def octet_Reader_take_rt (b0 : List UInt8) (b1 : Int) (b2 : List UInt8) : Option octet_Reader_take_R := some (b0, b1, b2)
def octet_Reader_take_out : octet_Reader_take_R → AV × AH
  | (b0, b1, b2) => ((.tu [(.s b0), (.i .i64 b1)]), [(0, (.cells [(.s b2)] 93 (0, 0)))])
def octet_Reader_take_ret (v : AV) (h : AH) (nx : Nat) : Option octet_Reader_take_R := match v, h, nx with
  | (.tu [(.s b0), (.i .i64 b1)]), [(0, (.cells [(.s b2)] 93 (0, 0)))], 1 => some (b0, b1, b2)
  | _, _, _ => none
theorem octet_Reader_take_ret_ok (v : AV) (h : AH) (nx : Nat) (r : octet_Reader_take_R) (e : octet_Reader_take_ret v h nx = some r) : octet_Reader_take_out r = (v, h) ∧ nx = 1 := by
  unfold octet_Reader_take_ret at e
  split at e
  · cases e; exact ⟨rfl, rfl⟩
  · cases e
def octet_Reader_take_kr : KN := []
noncomputable def octet_Reader_take_pre (n : Nat) : CT := ctZ
theorem octet_Reader_take_pre_ok (n : Nat) : COk cfg0 (octet_Reader_take_pre n) := ctZ_ok
noncomputable def octet_Reader_take_E0 (n : Nat) (R : Type)   (jf lf : List Nat → Nat → AT → AS → Option R) : SE R := ⟨[], Try.f78.ntmps, 1, callA cfg0 kd [] (octet_Reader_take_pre n), n, [], [], [], jf, lf⟩
def octet_Reader_take_F (n : Nat) (a1 : List UInt8) (a2 : Int)  : Option octet_Reader_take_R := bif decide ((↑(List.length a1) : Int) < a2) then octet_Reader_take_rt [] 7 a1 else bif decide (0 ≤ a2) && decide (Int.toNat a2 ≤ List.length a1) then bif decide (0 ≤ a2) && decide (Int.toNat a2 ≤ List.length a1) then octet_Reader_take_rt (List.take (Int.toNat a2) a1) 0 (List.drop (Int.toNat a2) a1) else none else none
def octet_Reader_take (n : Nat) (a1 : List UInt8) (a2 : Int) : Option octet_Reader_take_R := octet_Reader_take_F n a1 a2 
def octet_Reader_take_jf (n : Nat) : List Nat → Nat → AT → AS → Option octet_Reader_take_R := fun ms key T s => none
def octet_Reader_take_lf (n : Nat) : List Nat → Nat → AT → AS → Option octet_Reader_take_R := fun ms key T s => none
noncomputable def octet_Reader_take_E (n : Nat)   : SE octet_Reader_take_R := octet_Reader_take_E0 n octet_Reader_take_R   (octet_Reader_take_jf n) (octet_Reader_take_lf n)
theorem octet_Reader_take_eq (n : Nat) (a1 : List UInt8) (a2 : Int) : sxF cfg0 kd octet_Reader_take_kr (octet_Reader_take_E n  ) Try.f78 (bodyOf Try.f78) [(0, (.cells ([.s a1]) 93 (0, 0)))] [.ptr 0 0, .i .i64 a2] octet_Reader_take_ret = octet_Reader_take n a1 a2 := by kernel_rfl
theorem octet_Reader_take_pv (n : Nat) (r : octet_Reader_take_R) : PV cfg0 kd (octet_Reader_take_E n  ) r [] (bodyOf Try.f78) (retK cfg0 kd octet_Reader_take_kr (octet_Reader_take_E n  ) Try.f78.results.toList octet_Reader_take_ret) := by
  exact PV.triv (by kernel_rfl)
noncomputable def octet_Reader_take_ct (n : Nat) (vs : List AV) (h : AH) : Option Ctr := match vs, h with
  | [.ptr 0 0, .i .i64 a2], [(0, (.cells ([.s a1]) 93 (0, 0)))] => some ⟨octet_Reader_take_R, octet_Reader_take n   a1 a2, [0], 0, octet_Reader_take_out⟩
  | _, _ => none
theorem octet_Reader_take_ok (n : Nat) : COk1 cfg0 78 (octet_Reader_take_ct n) := by
  intro vs h c r e hm
  unfold octet_Reader_take_ct at e
  split at e
  · rename_i a2 a1
    cases e
    exact sxF_ok (E := octet_Reader_take_E n  ) (nx1 := 1) (octet_Reader_take_fn) rfl rfl (callA_ok (octet_Reader_take_pre_ok n)) octet_Reader_take_ret_ok rfl (octet_Reader_take_pv n   r) ((octet_Reader_take_eq n   a1 a2).trans hm)
  · cases e
end Go.Ev
end
section
set_option linter.unusedVariables false
set_option linter.unusedSimpArgs false
set_option maxRecDepth 100000
set_option maxHeartbeats 400000
namespace Go.Ev
open Go.RowKit Go.Proofs
theorem octet_Reader_Number_fn : cfg0.fn 60 = some Try.f60 := rfl
abbrev octet_Reader_Number_R : Type := Nat × Int × (List UInt8)
@[reducible] def octet_Reader_Number_rt (b0 : Nat) (b1 : Int) (b2 : List UInt8) : Option octet_Reader_Number_R := some (b0, b1, b2)
def octet_Reader_Number_out : octet_Reader_Number_R → AV × AH
  | (b0, b1, b2) => ((.tu [(.n .u64 b0), (.i .i64 b1)]), [(0, (.cells [(.s b2)] 93 (0, 0)))])
def octet_Reader_Number_ret (v : AV) (h : AH) (nx : Nat) : Option octet_Reader_Number_R := match v, h, nx with
  | (.tu [(.n .u64 b0), (.i .i64 b1)]), [(0, (.cells [(.s b2)] 93 (0, 0)))], 1 => some (b0, b1, b2)
  | _, _, _ => none
theorem octet_Reader_Number_ret_ok (v : AV) (h : AH) (nx : Nat) (r : octet_Reader_Number_R) (e : octet_Reader_Number_ret v h nx = some r) : octet_Reader_Number_out r = (v, h) ∧ nx = 1 := by
  unfold octet_Reader_Number_ret at e
  split at e
  · cases e; exact ⟨rfl, rfl⟩
  · cases e
def octet_Reader_Number_kr : KN := []
noncomputable def octet_Reader_Number_pre (n : Nat) : CT := (ctA 78 (octet_Reader_take_ct n) ctZ)
theorem octet_Reader_Number_pre_ok (n : Nat) : COk cfg0 (octet_Reader_Number_pre n) := (ctA_ok (octet_Reader_take_ok n) ctZ_ok)
noncomputable def octet_Reader_Number_E0 (n : Nat) (R : Type)   (jf lf : List Nat → Nat → AT → AS → Option R) : SE R := ⟨[], Try.f60.ntmps, 1, callA cfg0 kd [] (octet_Reader_Number_pre n), n, [(8, ([4, 5, 6, 25, 26], 0))], [(6, [0, 1, 4])], [], jf, lf⟩
def octet_Reader_Number_L8F (n : Nat) (r8 : (Nat → Int → List UInt8 → Int → Int → List UInt8 → Option octet_Reader_Number_R))  (x0 : Nat) (x1 : Int) (x2 : List UInt8) (x3 : Int) (x4 : Int) (x5 : List UInt8) : Option octet_Reader_Number_R := bif decide (x4 < x3) then bif decide (0 ≤ x4) then Option.bind x2[Int.toNat x4]? fun z => bif decide (0 ≤ w64 (8 * x4)) && Nat.ble (Int.toNat (w64 (8 * x4))) 64 then r8 ((x0 % 18446744073709551616 ||| UInt8.toNat z * 2 ^ Int.toNat (w64 (8 * x4)) % 18446744073709551616 % 18446744073709551616) % 18446744073709551616) x1 x2 x3 (w64 (x4 + 1)) x5 else none else none else octet_Reader_Number_rt x0 x1 x5
def octet_Reader_Number_L8 (n : Nat)  : Nat → Nat → Int → List UInt8 → Int → Int → List UInt8 → Option octet_Reader_Number_R
  | 0, _, _, _, _, _, _ => none
  | m + 1, x0, x1, x2, x3, x4, x5 => octet_Reader_Number_L8F n  (octet_Reader_Number_L8 n  m)  x0 x1 x2 x3 x4 x5
def octet_Reader_Number_J6F (n : Nat)  (l8 : (Nat → Int → List UInt8 → Int → Int → List UInt8 → Option octet_Reader_Number_R)) (x0 : Int) (x1 : Nat) (x2 : List UInt8) : Option octet_Reader_Number_R := Option.bind (octet_Reader_take n x2 x0) fun z => l8 x1 z.2.fst z.fst (↑(List.length z.fst) : Int) 0 z.2.2
def octet_Reader_Number_J6 (n : Nat)  (x0 : Int) (x1 : Nat) (x2 : List UInt8) : Option octet_Reader_Number_R := octet_Reader_Number_J6F n  (octet_Reader_Number_L8 n  n) x0 x1 x2
def octet_Reader_Number_F (n : Nat) (a1 : List UInt8) (a2 : Int) (j6 : (Int → Nat → List UInt8 → Option octet_Reader_Number_R)) : Option octet_Reader_Number_R := bif decide (a2 < 1) then octet_Reader_Number_rt ((0 : Nat)) 2 a1 else bif decide (8 < a2) then octet_Reader_Number_rt ((0 : Nat)) 2 a1 else j6 a2 ((0 : Nat)) a1
def octet_Reader_Number (n : Nat) (a1 : List UInt8) (a2 : Int) : Option octet_Reader_Number_R := octet_Reader_Number_F n a1 a2 (octet_Reader_Number_J6 n)
def octet_Reader_Number_L8q (n : Nat) (m8 : Nat) (T : AT) (s : AS) : Option octet_Reader_Number_R := match T, s with
  | [(4, (.n .u64 x0)), (5, (.i .i64 x1)), (6, (.s x2)), (25, (.i .i64 x3)), (26, (.i .i64 x4))], ⟨[(0, (.cells [(.s x5)] 93 (0, 0)))], 1, []⟩ => octet_Reader_Number_L8 n  m8 x0 x1 x2 x3 x4 x5
  | _, _ => none
def octet_Reader_Number_J6q (n : Nat)  (T : AT) (s : AS) : Option octet_Reader_Number_R := match T, s with
  | [(0, (.ptr 0 0)), (1, (.i .i64 x0)), (4, (.n .u64 x1))], ⟨[(0, (.cells [(.s x2)] 93 (0, 0)))], 1, []⟩ => octet_Reader_Number_J6 n  x0 x1 x2
  | _, _ => none
def octet_Reader_Number_jf (n : Nat) : List Nat → Nat → AT → AS → Option octet_Reader_Number_R := fun ms key T s => cond (Nat.beq key 6) (match ms with | [] => octet_Reader_Number_J6q n  T s | _ => none) (none)
def octet_Reader_Number_lf (n : Nat) : List Nat → Nat → AT → AS → Option octet_Reader_Number_R := fun ms key T s => cond (Nat.beq key 8) (match ms with | [m8] => octet_Reader_Number_L8q n m8 T s | _ => none) (none)
noncomputable def octet_Reader_Number_E (n : Nat)   : SE octet_Reader_Number_R := octet_Reader_Number_E0 n octet_Reader_Number_R   (octet_Reader_Number_jf n) (octet_Reader_Number_lf n)
theorem octet_Reader_Number_eq (n : Nat) (a1 : List UInt8) (a2 : Int) : sxF cfg0 kd octet_Reader_Number_kr (octet_Reader_Number_E n  ) Try.f60 (bodyOf Try.f60) [(0, (.cells ([.s a1]) 93 (0, 0)))] [.ptr 0 0, .i .i64 a2] octet_Reader_Number_ret = octet_Reader_Number n a1 a2 := by kernel_rfl
theorem octet_Reader_Number_pv (n : Nat) (r : octet_Reader_Number_R) : PV cfg0 kd (octet_Reader_Number_E n  ) r [] (bodyOf Try.f60) (retK cfg0 kd octet_Reader_Number_kr (octet_Reader_Number_E n  ) Try.f60.results.toList octet_Reader_Number_ret) := by
  refine PV.sn (by kernel_rfl) ?_ ?_
  ·
    refine PV.sj (live := [0, 1, 4]) (by kernel_rfl) ?_ ?_ ?_
    · intro T s h; change octet_Reader_Number_J6q n  _ _ = some r at h; unfold octet_Reader_Number_J6q at h; split at h
      · exact Eq.trans (by kernel_rfl) h
      · cases h
    ·
      refine PV.sn (by kernel_rfl) ?_ ?_
      ·
        refine PV.sn (by kernel_rfl) ?_ ?_
        ·
          exact PV.triv (by kernel_rfl)
        ·
          refine PV.sn (by kernel_rfl) ?_ ?_
          ·
            refine PV.bl ?_
            refine PV.lp (live := [4, 5, 6, 25, 26]) (by kernel_rfl) ?_ ?_ ?_
            · intro T s h; change octet_Reader_Number_L8q n 0 _ _ = some r at h; unfold octet_Reader_Number_L8q at h; split at h
              · exact nomatch (show (none : Option octet_Reader_Number_R) = some r from h)
              · cases h
            · intro m8 T s h; change octet_Reader_Number_L8q n (m8 + 1) _ _ = some r at h; unfold octet_Reader_Number_L8q at h; split at h
              · exact Eq.trans (by kernel_rfl) h
              · cases h
            · intro m8
              exact PV.triv (by kernel_rfl)
          ·
            exact PV.triv (by kernel_rfl)
      ·
        exact PV.triv (by kernel_rfl)
    ·
      exact PV.triv (by kernel_rfl)
  ·
    exact PV.triv (by kernel_rfl)
noncomputable def octet_Reader_Number_ct (n : Nat) (vs : List AV) (h : AH) : Option Ctr := match vs, h with
  | [.ptr 0 0, .i .i64 a2], [(0, (.cells ([.s a1]) 93 (0, 0)))] => some ⟨octet_Reader_Number_R, octet_Reader_Number n   a1 a2, [0], 0, octet_Reader_Number_out⟩
  | _, _ => none
theorem octet_Reader_Number_ok (n : Nat) : COk1 cfg0 60 (octet_Reader_Number_ct n) := by
  intro vs h c r e hm
  unfold octet_Reader_Number_ct at e
  split at e
  · rename_i a2 a1
    cases e
    exact sxF_ok (E := octet_Reader_Number_E n  ) (nx1 := 1) (octet_Reader_Number_fn) rfl rfl (callA_ok (octet_Reader_Number_pre_ok n)) octet_Reader_Number_ret_ok rfl (octet_Reader_Number_pv n   r) ((octet_Reader_Number_eq n   a1 a2).trans hm)
  · cases e
end Go.Ev
end
section
set_option linter.unusedVariables false
set_option linter.unusedSimpArgs false
set_option maxRecDepth 100000
set_option maxHeartbeats 400000
namespace Go.Ev
open Go.RowKit Go.Proofs
theorem free_Of_fn : cfg0.fn 28 = some Try.f28 := rfl
abbrev free_Of_R : Type := Nat × Int × (List (Nat))
@[reducible] def free_Of_rt (b0 : Nat) (b1 : Int) (b2 : List (Nat)) : Option free_Of_R := some (b0, b1, b2)
def free_Of_out : free_Of_R → AV × AH
  | (b0, b1, b2) => ((.tu [(.sl 0 1), (.n .u32 b0), (.i .i64 b1)]), [(0, (.row .u32 0 b2 28 (0, 0)))])
def free_Of_ret (v : AV) (h : AH) (nx : Nat) : Option free_Of_R := match v, h, nx with
  | (.tu [(.sl 0 1), (.n .u32 b0), (.i .i64 b1)]), [(0, (.row .u32 0 b2 28 (0, 0)))], 1 => some (b0, b1, b2)
  | _, _, _ => none
theorem free_Of_ret_ok (v : AV) (h : AH) (nx : Nat) (r : free_Of_R) (e : free_Of_ret v h nx = some r) : free_Of_out r = (v, h) ∧ nx = 1 := by
  unfold free_Of_ret at e
  split at e
  · cases e; exact ⟨rfl, rfl⟩
  · cases e
def free_Of_kr : KN := [((0, 1), (.u32, 28))]
noncomputable def free_Of_pre (n : Nat) : CT := (ctA 27 (free_Page_ct n) (ctA 59 (octet_New_ct n) (ctA 60 (octet_Reader_Number_ct n) ctZ)))
theorem free_Of_pre_ok (n : Nat) : COk cfg0 (free_Of_pre n) := (ctA_ok (free_Page_ok n) (ctA_ok (octet_New_ok n) (ctA_ok (octet_Reader_Number_ok n) ctZ_ok)))
noncomputable def free_Of_E0 (n : Nat) (R : Type)   (jf lf : List Nat → Nat → AT → AS → Option R) : SE R := ⟨[], Try.f28.ntmps, 0, callA cfg0 kd [] (free_Of_pre n), n, [(4, ([1, 2, 5, 14, 15], 0))], [(13, [1, 2])], [], jf, lf⟩
def free_Of_J13F (n : Nat)   (x0 : List (Nat)) (x1 : Pg) : Option free_Of_R := free_Of_rt x1.link 0 x0
def free_Of_J13 (n : Nat)  (x0 : List (Nat)) (x1 : Pg) : Option free_Of_R := free_Of_J13F n   x0 x1
def free_Of_L4F (n : Nat) (r4 : (Int → Int → List UInt8 → List (Nat) → Pg → Option free_Of_R)) (j13 : (List (Nat) → Pg → Option free_Of_R)) (x0 : Int) (x1 : Int) (x2 : List UInt8) (x3 : List (Nat)) (x4 : Pg) : Option free_Of_R := bif decide (x1 < x0) then Option.bind (octet_Reader_Number n x2 4) fun z => bif decide (z.2.fst ≠ 0) then free_Of_rt ((0 : Nat)) 4 [] else bif Nat.ble (List.length x3 + List.length [z.fst % 4294967296]) 100000000 then r4 x0 (w64 (x1 + 1)) z.2.2 (x3 ++ [z.fst % 4294967296]) x4 else none else Option.bind (free_Page n x3 (w64 ((↑(List.length x4.body) : Int) + 24)) x4.page x4.link x4.tx) fun z => bif decide (z.snd ≠ 0) then free_Of_rt ((0 : Nat)) 4 [] else bif !(decide (z.fst.kind = x4.kind) && (decide (z.fst.count = x4.count) && (decide (z.fst.page = x4.page) && (decide (z.fst.link = x4.link) && (decide (z.fst.tx = x4.tx) && (decide (z.fst.body = x4.body) && true)))))) then free_Of_rt ((0 : Nat)) 4 [] else j13 x3 x4
def free_Of_L4 (n : Nat)  : Nat → Int → Int → List UInt8 → List (Nat) → Pg → Option free_Of_R
  | 0, _, _, _, _, _ => none
  | m + 1, x0, x1, x2, x3, x4 => free_Of_L4F n  (free_Of_L4 n  m) (free_Of_J13 n ) x0 x1 x2 x3 x4
def free_Of_F (n : Nat) (a1 : Pg) (l4 : (Int → Int → List UInt8 → List (Nat) → Pg → Option free_Of_R)) : Option free_Of_R := l4 a1.count 0 a1.body [] a1
def free_Of (n : Nat) (a1 : Pg) : Option free_Of_R := free_Of_F n a1 (free_Of_L4 n n)
def free_Of_J13q (n : Nat)  (T : AT) (s : AS) : Option free_Of_R := match T, s with
  | [(1, (.ptr 0 0)), (2, (.sl 1 1))], ⟨[(1, (.row .u32 0 x0 28 (0, 0))), (0, (.cells [.i .i64 x1_0, .i .i64 x1_1, .n .u32 x1_2, .n .u32 x1_3, .n .u64 x1_4, .s x1_5] 39 (0, 0)))], 2, []⟩ => free_Of_J13 n  x0 ⟨x1_0, x1_1, x1_2, x1_3, x1_4, x1_5⟩
  | _, _ => none
def free_Of_L4q (n : Nat) (m4 : Nat) (T : AT) (s : AS) : Option free_Of_R := match T, s with
  | [(1, (.ptr 0 0)), (2, (.sl 1 1)), (5, (.ptr 2 0)), (14, (.i .i64 x0)), (15, (.i .i64 x1))], ⟨[(2, (.cells [(.s x2)] 93 (0, 0))), (1, (.row .u32 0 x3 28 (0, 0))), (0, (.cells [.i .i64 x4_0, .i .i64 x4_1, .n .u32 x4_2, .n .u32 x4_3, .n .u64 x4_4, .s x4_5] 39 (0, 0)))], 3, []⟩ => free_Of_L4 n  m4 x0 x1 x2 x3 ⟨x4_0, x4_1, x4_2, x4_3, x4_4, x4_5⟩
  | _, _ => none
def free_Of_jf (n : Nat) : List Nat → Nat → AT → AS → Option free_Of_R := fun ms key T s => cond (Nat.beq key 13) (match ms with | [] => free_Of_J13q n  T s | _ => none) (none)
def free_Of_lf (n : Nat) : List Nat → Nat → AT → AS → Option free_Of_R := fun ms key T s => cond (Nat.beq key 4) (match ms with | [m4] => free_Of_L4q n m4 T s | _ => none) (none)
noncomputable def free_Of_E (n : Nat)   : SE free_Of_R := free_Of_E0 n free_Of_R   (free_Of_jf n) (free_Of_lf n)
theorem free_Of_eq (n : Nat) (a1 : Pg) : sxF cfg0 kd free_Of_kr (free_Of_E n  ) Try.f28 (bodyOf Try.f28) [] [.ag (RK.k .page a1)] free_Of_ret = free_Of n a1 := by kernel_rfl
theorem free_Of_pv (n : Nat) (r : free_Of_R) : PV cfg0 kd (free_Of_E n  ) r [] (bodyOf Try.f28) (retK cfg0 kd free_Of_kr (free_Of_E n  ) Try.f28.results.toList free_Of_ret) := by
  refine PV.sn (by kernel_rfl) ?_ ?_
  ·
    refine PV.sn (by kernel_rfl) ?_ ?_
    ·
      refine PV.sn (by kernel_rfl) ?_ ?_
      ·
        refine PV.sj (live := [1, 2]) (by kernel_rfl) ?_ ?_ ?_
        · intro T s h; change free_Of_J13q n  _ _ = some r at h; unfold free_Of_J13q at h; split at h
          · exact Eq.trans (by kernel_rfl) h
          · cases h
        ·
          exact PV.triv (by kernel_rfl)
        ·
          exact PV.triv (by kernel_rfl)
      ·
        refine PV.sn (by kernel_rfl) ?_ ?_
        ·
          refine PV.bl ?_
          refine PV.lp (live := [1, 2, 5, 14, 15]) (by kernel_rfl) ?_ ?_ ?_
          · intro T s h; change free_Of_L4q n 0 _ _ = some r at h; unfold free_Of_L4q at h; split at h
            · exact nomatch (show (none : Option free_Of_R) = some r from h)
            · cases h
          · intro m4 T s h; change free_Of_L4q n (m4 + 1) _ _ = some r at h; unfold free_Of_L4q at h; split at h
            · exact Eq.trans (by kernel_rfl) h
            · cases h
          · intro m4
            exact PV.triv (by kernel_rfl)
        ·
          exact PV.triv (by kernel_rfl)
    ·
      exact PV.triv (by kernel_rfl)
  ·
    exact PV.triv (by kernel_rfl)
noncomputable def free_Of_ct (n : Nat) (vs : List AV) (h : AH) : Option Ctr := match vs, h with
  | [.ag [.i .i64 a1_0, .i .i64 a1_1, .n .u32 a1_2, .n .u32 a1_3, .n .u64 a1_4, .s a1_5]], [] => some ⟨free_Of_R, free_Of n   ⟨a1_0, a1_1, a1_2, a1_3, a1_4, a1_5⟩, [], 1, free_Of_out⟩
  | _, _ => none
theorem free_Of_ok (n : Nat) : COk1 cfg0 28 (free_Of_ct n) := by
  intro vs h c r e hm
  unfold free_Of_ct at e
  split at e
  · rename_i a1_0 a1_1 a1_2 a1_3 a1_4 a1_5
    cases e
    exact sxF_ok (E := free_Of_E n  ) (nx1 := 1) (free_Of_fn) rfl rfl (callA_ok (free_Of_pre_ok n)) free_Of_ret_ok rfl (free_Of_pv n   r) ((free_Of_eq n   ⟨a1_0, a1_1, a1_2, a1_3, a1_4, a1_5⟩).trans hm)
  · cases e
end Go.Ev
end
section
set_option linter.unusedVariables false
set_option linter.unusedSimpArgs false
set_option maxRecDepth 100000
set_option maxHeartbeats 400000
namespace Go.Ev
open Go.RowKit Go.Proofs
theorem law10_FreeSplits_fn : cfg0.fn 9 = some Try.f9 := rfl
abbrev law10_FreeSplits_R : Type := Bool
@[reducible] def law10_FreeSplits_rt (b0 : Bool) : Option law10_FreeSplits_R := some b0
def law10_FreeSplits_out : law10_FreeSplits_R → AV × AH
  | b0 => ((.b b0), [])
def law10_FreeSplits_ret (v : AV) (h : AH) (nx : Nat) : Option law10_FreeSplits_R := match v, h, nx with
  | (.b b0), [], 1 => some b0
  | _, _, _ => none
theorem law10_FreeSplits_ret_ok (v : AV) (h : AH) (nx : Nat) (r : law10_FreeSplits_R) (e : law10_FreeSplits_ret v h nx = some r) : law10_FreeSplits_out r = (v, h) ∧ nx = 1 := by
  unfold law10_FreeSplits_ret at e
  split at e
  · cases e; exact ⟨rfl, rfl⟩
  · cases e
def law10_FreeSplits_kr : KN := []
noncomputable def law10_FreeSplits_pre (n : Nat) : CT := (ctA 17 (kit_Own_uint32_ct n) (ctA 18 (kit_Pick_ct n) (ctA 21 (kit_Same_uint32_ct n) (ctA 26 (law10_lives_ct n) (ctA 27 (free_Page_ct n) (ctA 28 (free_Of_ct n) (ctA 29 (free_Rises_ct n) ctZ)))))))
theorem law10_FreeSplits_pre_ok (n : Nat) : COk cfg0 (law10_FreeSplits_pre n) := (ctA_ok (kit_Own_uint32_ok n) (ctA_ok (kit_Pick_ok n) (ctA_ok (kit_Same_uint32_ok n) (ctA_ok (law10_lives_ok n) (ctA_ok (free_Page_ok n) (ctA_ok (free_Of_ok n) (ctA_ok (free_Rises_ok n) ctZ_ok)))))))
noncomputable def law10_FreeSplits_E0 (n : Nat) (R : Type) (o1 : Nat) (f1 : Nat × Nat) (a2 : List UInt8) (jf lf : List Nat → Nat → AT → AS → Option R) : SE R := ⟨[(0, (.row .u8 o1 a2 5 f1))], Try.f9.ntmps, 1, callA cfg0 kd [(0, (.row .u8 o1 a2 5 f1))] (law10_FreeSplits_pre n), n, [(9, ([1, 2, 7, 8, 9], 0))], [(20, [8])], [], jf, lf⟩
def law10_FreeSplits_J20F (n : Nat) (a2 : List UInt8)   (x0 : List (Nat)) : Option law10_FreeSplits_R := bif decide ((↑(List.length x0) : Int) < 2) then law10_FreeSplits_rt true else Option.bind (kit_Own_uint32 n x0) fun z => bif decide (0 ≤ 1) && decide ((1 : Nat) < List.length z) then Option.bind z[(1 : Nat)]? fun z_1 => bif decide (0 ≤ 0) && decide ((0 : Nat) < List.length z) then Option.bind z[(0 : Nat)]? fun z_2 => bif decide (0 ≤ 0) && decide ((0 : Nat) < List.length z) then Option.bind z[(0 : Nat)]? fun z_3 => bif decide (0 ≤ 1) && decide ((1 : Nat) < List.length (List.set z ((0 : Nat)) z_1)) then Option.bind (List.set z ((0 : Nat)) z_1)[(1 : Nat)]? fun z_4 => Option.bind (kit_Own_uint32 n x0) fun z_5 => bif decide (0 ≤ 1) && decide ((1 : Nat) < List.length z_5) then Option.bind z_5[(1 : Nat)]? fun z_6 => bif decide (0 ≤ 0) && decide ((0 : Nat) < List.length z_5) then Option.bind z_5[(0 : Nat)]? fun z_7 => Option.bind (free_Page n (List.set (List.set z ((0 : Nat)) z_1) ((1 : Nat)) z_2) 128 ((2 : Nat)) ((0 : Nat)) ((7 : Nat))) fun z_8 => Option.bind (free_Page n (List.set z_5 ((0 : Nat)) z_6) 128 ((2 : Nat)) ((0 : Nat)) ((7 : Nat))) fun z_9 => bif decide (z_8.snd = 2) then bif decide (z_9.snd = 2) then Option.bind (free_Rises n (List.set (List.set z ((0 : Nat)) z_1) ((1 : Nat)) z_2)) fun z_10 => bif !z_10 then Option.bind (free_Rises n (List.set z_5 ((0 : Nat)) z_6)) fun z_11 => law10_FreeSplits_rt !z_11 else law10_FreeSplits_rt false else law10_FreeSplits_rt false else law10_FreeSplits_rt false else none else none else none else none else none else none
def law10_FreeSplits_J20 (n : Nat) (a2 : List UInt8)  (x0 : List (Nat)) : Option law10_FreeSplits_R := law10_FreeSplits_J20F n a2   x0
def law10_FreeSplits_L9F (n : Nat) (a2 : List UInt8) (r9 : (Int → Nat → Int → List (Nat) → Option law10_FreeSplits_R)) (j20 : (List (Nat) → Option law10_FreeSplits_R)) (x0 : Int) (x1 : Nat) (x2 : Int) (x3 : List (Nat)) : Option law10_FreeSplits_R := bif decide (x2 < (↑(List.length a2) : Int)) then bif Nat.ble (List.length x3 + List.length [x1]) 100000000 then bif decide (0 ≤ x2) && decide (Int.toNat x2 < List.length a2) then Option.bind a2[Int.toNat x2]? fun z => r9 x0 (((x1 + (1 : Nat)) % 4294967296 + UInt8.toNat (UInt8.ofNat (UInt8.toNat z % UInt8.toNat (UInt8.ofNat ((9 : Nat)))))) % 4294967296) (w64 (x2 + 1)) (x3 ++ [x1]) else none else none else Option.bind (kit_Pick n x0 (w64 ((↑(List.length x3) : Int) + 1))) fun z => bif decide (0 ≤ z) && decide (Int.toNat z ≤ List.length x3) then Option.bind (free_Page n (List.take (Int.toNat z) x3) 128 ((2 : Nat)) ((3 : Nat)) ((7 : Nat))) fun z_1 => bif decide (0 ≤ z) && decide (Int.toNat z ≤ List.length x3) then Option.bind (free_Page n (List.drop (Int.toNat z) x3) 128 ((3 : Nat)) ((0 : Nat)) ((7 : Nat))) fun z_2 => Option.bind (free_Of n (Pg.mk z_1.fst.kind z_1.fst.count z_1.fst.page z_1.fst.link z_1.fst.tx z_1.fst.body)) fun z_3 => Option.bind (free_Of n (Pg.mk z_2.fst.kind z_2.fst.count z_2.fst.page z_2.fst.link z_2.fst.tx z_2.fst.body)) fun z_4 => bif decide (z_1.snd ≠ 0) then law10_FreeSplits_rt false else bif decide (z_2.snd ≠ 0) then law10_FreeSplits_rt false else bif decide (z_3.2.fst ≠ 0) then law10_FreeSplits_rt false else bif decide (z_4.2.fst ≠ 0) then law10_FreeSplits_rt false else bif decide (z_3.fst ≠ (3 : Nat)) then law10_FreeSplits_rt false else bif decide (z_4.fst ≠ (0 : Nat)) then law10_FreeSplits_rt false else bif Nat.ble (List.length z_3.2.2 + List.length z_4.2.2) 100000000 then Option.bind (kit_Same_uint32 n (z_3.2.2 ++ z_4.2.2) x3) fun z_5 => bif !z_5 then law10_FreeSplits_rt false else Option.bind (free_Rises n x3) fun z_6 => bif !z_6 then law10_FreeSplits_rt false else j20 x3 else none else none else none
def law10_FreeSplits_L9 (n : Nat) (a2 : List UInt8)  : Nat → Int → Nat → Int → List (Nat) → Option law10_FreeSplits_R
  | 0, _, _, _, _ => none
  | m + 1, x0, x1, x2, x3 => law10_FreeSplits_L9F n a2  (law10_FreeSplits_L9 n a2  m) (law10_FreeSplits_J20 n a2 ) x0 x1 x2 x3
def law10_FreeSplits_F (n : Nat) (a2 : List UInt8) (a1 : Nat) (a3 : Int) (l9 : (Int → Nat → Int → List (Nat) → Option law10_FreeSplits_R)) : Option law10_FreeSplits_R := Option.bind (law10_lives n) fun z => bif !z then law10_FreeSplits_rt false else bif decide (26 < (↑(List.length a2) : Int)) then law10_FreeSplits_rt true else l9 a3 (((2 : Nat) + a1 % (1000 : Nat)) % 4294967296) 0 []
def law10_FreeSplits (n : Nat) (a2 : List UInt8) (a1 : Nat) (a3 : Int) : Option law10_FreeSplits_R := law10_FreeSplits_F n a2 a1 a3 (law10_FreeSplits_L9 n a2 n)
def law10_FreeSplits_J20q (n : Nat) (a2 : List UInt8)  (T : AT) (s : AS) : Option law10_FreeSplits_R := match T, s with
  | [(8, (.sl 1 1))], ⟨[(1, (.row .u32 0 x0 28 (1, 0)))], 2, []⟩ => law10_FreeSplits_J20 n a2  x0
  | _, _ => none
def law10_FreeSplits_L9q (n : Nat) (a2 : List UInt8) (m9 : Nat) (T : AT) (s : AS) : Option law10_FreeSplits_R := match T, s with
  | [(1, (.sl 0 1)), (2, (.i .i64 x0)), (7, (.n .u32 x1)), (8, (.sl 1 1)), (9, (.i .i64 x2))], ⟨[(1, (.row .u32 0 x3 28 (0, 0)))], 2, []⟩ => law10_FreeSplits_L9 n a2  m9 x0 x1 x2 x3
  | _, _ => none
def law10_FreeSplits_jf (n : Nat) (a2 : List UInt8) : List Nat → Nat → AT → AS → Option law10_FreeSplits_R := fun ms key T s => cond (Nat.beq key 20) (match ms with | [] => law10_FreeSplits_J20q n a2  T s | _ => none) (none)
def law10_FreeSplits_lf (n : Nat) (a2 : List UInt8) : List Nat → Nat → AT → AS → Option law10_FreeSplits_R := fun ms key T s => cond (Nat.beq key 9) (match ms with | [m9] => law10_FreeSplits_L9q n a2 m9 T s | _ => none) (none)
noncomputable def law10_FreeSplits_E (n : Nat) (o1 : Nat) (f1 : Nat × Nat) (a2 : List UInt8) : SE law10_FreeSplits_R := law10_FreeSplits_E0 n law10_FreeSplits_R o1 f1 a2 (law10_FreeSplits_jf n a2) (law10_FreeSplits_lf n a2)
theorem law10_FreeSplits_eq (n : Nat) (o1 : Nat) (f1 : Nat × Nat) (a2 : List UInt8) (a1 : Nat) (a3 : Int) : sxF cfg0 kd law10_FreeSplits_kr (law10_FreeSplits_E n o1 f1 a2) Try.f9 (bodyOf Try.f9) [] [.n .u32 a1, .sl 0 1, .i .i64 a3] law10_FreeSplits_ret = law10_FreeSplits n a2 a1 a3 := by kernel_rfl
theorem law10_FreeSplits_pv (n : Nat) (o1 : Nat) (f1 : Nat × Nat) (a2 : List UInt8) (r : law10_FreeSplits_R) : PV cfg0 kd (law10_FreeSplits_E n o1 f1 a2) r [] (bodyOf Try.f9) (retK cfg0 kd law10_FreeSplits_kr (law10_FreeSplits_E n o1 f1 a2) Try.f9.results.toList law10_FreeSplits_ret) := by
  refine PV.sn (by kernel_rfl) ?_ ?_
  ·
    refine PV.sn (by kernel_rfl) ?_ ?_
    ·
      refine PV.sn (by kernel_rfl) ?_ ?_
      ·
        refine PV.sn (by kernel_rfl) ?_ ?_
        ·
          refine PV.sn (by kernel_rfl) ?_ ?_
          ·
            refine PV.sn (by kernel_rfl) ?_ ?_
            ·
              refine PV.sn (by kernel_rfl) ?_ ?_
              ·
                refine PV.sn (by kernel_rfl) ?_ ?_
                ·
                  refine PV.sn (by kernel_rfl) ?_ ?_
                  ·
                    refine PV.sn (by kernel_rfl) ?_ ?_
                    ·
                      refine PV.sn (by kernel_rfl) ?_ ?_
                      ·
                        refine PV.sj (live := [8]) (by kernel_rfl) ?_ ?_ ?_
                        · intro T s h; change law10_FreeSplits_J20q n a2  _ _ = some r at h; unfold law10_FreeSplits_J20q at h; split at h
                          · exact Eq.trans (by kernel_rfl) h
                          · cases h
                        ·
                          exact PV.triv (by kernel_rfl)
                        ·
                          exact PV.triv (by kernel_rfl)
                      ·
                        exact PV.triv (by kernel_rfl)
                    ·
                      exact PV.triv (by kernel_rfl)
                  ·
                    exact PV.triv (by kernel_rfl)
                ·
                  exact PV.triv (by kernel_rfl)
              ·
                exact PV.triv (by kernel_rfl)
            ·
              refine PV.sn (by kernel_rfl) ?_ ?_
              ·
                refine PV.bl ?_
                refine PV.lp (live := [1, 2, 7, 8, 9]) (by kernel_rfl) ?_ ?_ ?_
                · intro T s h; change law10_FreeSplits_L9q n a2 0 _ _ = some r at h; unfold law10_FreeSplits_L9q at h; split at h
                  · exact nomatch (show (none : Option law10_FreeSplits_R) = some r from h)
                  · cases h
                · intro m9 T s h; change law10_FreeSplits_L9q n a2 (m9 + 1) _ _ = some r at h; unfold law10_FreeSplits_L9q at h; split at h
                  · exact Eq.trans (by kernel_rfl) h
                  · cases h
                · intro m9
                  exact PV.triv (by kernel_rfl)
              ·
                exact PV.triv (by kernel_rfl)
          ·
            exact PV.triv (by kernel_rfl)
        ·
          exact PV.triv (by kernel_rfl)
      ·
        exact PV.triv (by kernel_rfl)
    ·
      exact PV.triv (by kernel_rfl)
  ·
    exact PV.triv (by kernel_rfl)
noncomputable def law10_FreeSplits_ct (n : Nat) (vs : List AV) (h : AH) : Option Ctr := match vs, h with
  | [.n .u32 a1, .sl 0 1, .i .i64 a3], [(0, (.row .u8 o1 a2 5 f1))] => some ⟨law10_FreeSplits_R, law10_FreeSplits n  a2 a1 a3, [], 0, law10_FreeSplits_out⟩
  | _, _ => none
theorem law10_FreeSplits_ok (n : Nat) : COk1 cfg0 9 (law10_FreeSplits_ct n) := by
  intro vs h c r e hm
  unfold law10_FreeSplits_ct at e
  split at e
  · rename_i a1 a3 o1 a2 f1
    cases e
    exact sxF_ok (E := law10_FreeSplits_E n o1 f1 a2) (nx1 := 1) (law10_FreeSplits_fn) rfl rfl (callA_ok (law10_FreeSplits_pre_ok n)) law10_FreeSplits_ret_ok rfl (law10_FreeSplits_pv n o1 f1 a2 r) ((law10_FreeSplits_eq n o1 f1 a2 a1 a3).trans hm)
  · cases e
end Go.Ev
end