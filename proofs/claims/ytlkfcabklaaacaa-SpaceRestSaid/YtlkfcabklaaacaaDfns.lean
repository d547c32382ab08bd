/- Words of my own, printed by a program of mine. -/
import Derived.Test.YtlkfcabklaaacaaBTab
section
set_option linter.unusedVariables false
set_option linter.unusedSimpArgs false
set_option maxRecDepth 100000
set_option maxHeartbeats 400000
namespace Go.Ev
open Go.RowKit Go.Proofs
section
theorem space_may_fn : cfg0.fn 49 = some Try.f49 := rfl
abbrev space_may_R : Type := Bool
@[reducible] def space_may_rt (b0 : Bool) : Option space_may_R := some b0
noncomputable def space_may_out : space_may_R → AV × AH
  | b0 => ((.b b0), [])
noncomputable def space_may_nx : space_may_R → Nat
  | _ => 0
noncomputable def space_may_ret (v : AV) (h : AH) (nx : Nat) : Option space_may_R := match v, h, nx with
  | (.b b0), [], 0 => some b0
  | _, _, _ => none
theorem space_may_ret_ok (v : AV) (h : AH) (nx : Nat) (r : space_may_R) (e : space_may_ret v h nx = some r) : space_may_out r = (v, h) ∧ nx = space_may_nx r := by
  unfold space_may_ret at e
  split at e
  · cases e; exact ⟨rfl, rfl⟩
  · cases e
noncomputable def space_may_kr : KN := []
noncomputable def space_may_pre (n : Nat) : CT := ctZ
theorem space_may_pre_ok (n : Nat) : COk cfg0 (space_may_pre n) := ctZ_ok
noncomputable def space_may_E0 (n : Nat) (R : Type)   (jf lf : List Nat → Nat → AT → AS → Option R) : SE R := ⟨[], Try.f49.ntmps, 0, callA cfg0 kd [] (space_may_pre n), n, [], [], [], [], jf, lf⟩
noncomputable def space_may_F (n : Nat) (a1 : Int)  : Option space_may_R := bif decide (0 ≤ a1) then space_may_rt (decide (a1 ≤ 1048576)) else space_may_rt false
noncomputable def space_may (n : Nat) (a1 : Int) : Option space_may_R := space_may_F n a1 
noncomputable def space_may_jf (n : Nat) : List Nat → Nat → AT → AS → Option space_may_R := fun ms key T s => none
noncomputable def space_may_lf (n : Nat) : List Nat → Nat → AT → AS → Option space_may_R := fun ms key T s => none
noncomputable def space_may_E (n : Nat)   : SE space_may_R := space_may_E0 n space_may_R   (space_may_jf n) (space_may_lf n)
theorem space_may_eq (n : Nat) (a1 : Int) : sxF cfg0 kd space_may_kr (space_may_E n  ) Try.f49 (bodyOf Try.f49) [] [.i .i64 a1] space_may_ret = space_may n a1 := by kernel_rfl
theorem space_may_pv (n : Nat) (r : space_may_R) : PV cfg0 kd (space_may_E n  ) r [] (bodyOf Try.f49) (retK cfg0 kd space_may_kr (space_may_E n  ) Try.f49.results.toList space_may_ret) := by
  exact PV.triv (by kernel_rfl)
noncomputable def space_may_ct (n : Nat) (vs : List AV) (h : AH) : Option Ctr := match vs, h with
  | [.i .i64 a1], [] => some (.one space_may_R (space_may n   a1) [] 0 space_may_out)
  | _, _ => none
theorem space_may_ok (n : Nat) : COk1 cfg0 49 (space_may_ct n) := by
  intro vs h c e
  unfold space_may_ct at e
  split at e
  · rename_i a1
    cases e
    exact fun r hm => sxF_ok (E := space_may_E n  ) (nx1 := space_may_nx) (space_may_fn) rfl rfl rfl (callA_ok (space_may_pre_ok n)) space_may_ret_ok rfl (space_may_pv n   _) ((space_may_eq n   a1).trans hm)
  · cases e
end
end Go.Ev
end
section
set_option linter.unusedVariables false
set_option linter.unusedSimpArgs false
set_option maxRecDepth 100000
set_option maxHeartbeats 400000
namespace Go.Ev
open Go.RowKit Go.Proofs
section
theorem space_set_1_fn : cfg0.fn 75 = some Try.f75 := rfl
abbrev space_set_1_R : Type := Bool
@[reducible] def space_set_1_rt (b0 : Bool) : Option space_set_1_R := some b0
noncomputable def space_set_1_out : space_set_1_R → AV × AH
  | b0 => ((.b b0), [(0, (.cells [(.sl 1 1)] 90 (0, 0)))])
noncomputable def space_set_1_nx : space_set_1_R → Nat
  | _ => 2
noncomputable def space_set_1_ret (v : AV) (h : AH) (nx : Nat) : Option space_set_1_R := match v, h, nx with
  | (.b b0), [(0, (.cells [(.sl 1 1)] 90 (0, 0)))], 2 => some b0
  | _, _, _ => none
theorem space_set_1_ret_ok (v : AV) (h : AH) (nx : Nat) (r : space_set_1_R) (e : space_set_1_ret v h nx = some r) : space_set_1_out r = (v, h) ∧ nx = space_set_1_nx r := by
  unfold space_set_1_ret at e
  split at e
  · cases e; exact ⟨rfl, rfl⟩
  · cases e
noncomputable def space_set_1_kr : KN := []
noncomputable def space_set_1_pre (n : Nat) : CT := ctZ
theorem space_set_1_pre_ok (n : Nat) : COk cfg0 (space_set_1_pre n) := ctZ_ok
noncomputable def space_set_1_E0 (n : Nat) (R : Type) (o1 : Nat) (f1 : Nat × Nat) (a2 : List Nat) (jf lf : List Nat → Nat → AT → AS → Option R) : SE R := ⟨[(1, (.row .u64 o1 a2 37 f1))], Try.f75.ntmps, 2, callA cfg0 kd [(1, (.row .u64 o1 a2 37 f1))] (space_set_1_pre n), n, [], [], [], [], jf, lf⟩
noncomputable def space_set_1_F (n : Nat) (a2 : List Nat) (a1 : Nat)  : Option space_set_1_R := bif true && decide (a1 / (64 : Nat) % 4294967296 < List.length a2) then Option.bind a2[a1 / (64 : Nat) % 4294967296]? fun z => bif true && Nat.ble (a1 % (64 : Nat)) 64 then space_set_1_rt (decide ((z / 2 ^ (a1 % (64 : Nat)) % 18446744073709551616 &&& (1 : Nat) % 18446744073709551616) % 18446744073709551616 = (1 : Nat))) else none else none
noncomputable def space_set_1 (n : Nat) (a2 : List Nat) (a1 : Nat) : Option space_set_1_R := space_set_1_F n a2 a1 
noncomputable def space_set_1_jf (n : Nat) (a2 : List Nat) : List Nat → Nat → AT → AS → Option space_set_1_R := fun ms key T s => none
noncomputable def space_set_1_lf (n : Nat) (a2 : List Nat) : List Nat → Nat → AT → AS → Option space_set_1_R := fun ms key T s => none
noncomputable def space_set_1_E (n : Nat) (o1 : Nat) (f1 : Nat × Nat) (a2 : List Nat) : SE space_set_1_R := space_set_1_E0 n space_set_1_R o1 f1 a2 (space_set_1_jf n a2) (space_set_1_lf n a2)
theorem space_set_1_eq (n : Nat) (o1 : Nat) (f1 : Nat × Nat) (a2 : List Nat) (a1 : Nat) : sxF cfg0 kd space_set_1_kr (space_set_1_E n o1 f1 a2) Try.f75 (bodyOf Try.f75) [(0, (.cells ([.sl 1 1]) 90 (0, 0)))] [.n .u32 a1, .ptr 0 0] space_set_1_ret = space_set_1 n a2 a1 := by kernel_rfl
theorem space_set_1_pv (n : Nat) (o1 : Nat) (f1 : Nat × Nat) (a2 : List Nat) (r : space_set_1_R) : PV cfg0 kd (space_set_1_E n o1 f1 a2) r [] (bodyOf Try.f75) (retK cfg0 kd space_set_1_kr (space_set_1_E n o1 f1 a2) Try.f75.results.toList space_set_1_ret) := by
  exact PV.triv (by kernel_rfl)
noncomputable def space_set_1_ct (n : Nat) (vs : List AV) (h : AH) : Option Ctr := match vs, h with
  | [.n .u32 a1, .ptr 0 0], [(0, (.cells ([.sl 1 1]) 90 (0, 0))), (1, (.row .u64 o1 a2 37 f1))] => some (.one space_set_1_R (space_set_1 n  a2 a1) [0] 0 space_set_1_out)
  | _, _ => none
theorem space_set_1_ok (n : Nat) : COk1 cfg0 75 (space_set_1_ct n) := by
  intro vs h c e
  unfold space_set_1_ct at e
  split at e
  · rename_i a1 o1 a2 f1
    cases e
    exact fun r hm => sxF_ok (E := space_set_1_E n o1 f1 a2) (nx1 := space_set_1_nx) (space_set_1_fn) rfl rfl rfl (callA_ok (space_set_1_pre_ok n)) space_set_1_ret_ok rfl (space_set_1_pv n o1 f1 a2 _) ((space_set_1_eq n o1 f1 a2 a1).trans hm)
  · cases e
end
end Go.Ev
end
section
set_option linter.unusedVariables false
set_option linter.unusedSimpArgs false
set_option maxRecDepth 100000
set_option maxHeartbeats 400000
namespace Go.Ev
open Go.RowKit Go.Proofs
section
theorem space_set_fn : cfg0.fn 50 = some Try.f50 := rfl
abbrev space_set_R : Type := (List (Nat))
@[reducible] def space_set_rt (b0 : List (Nat)) : Option space_set_R := some b0
noncomputable def space_set_out : space_set_R → AV × AH
  | b0 => ((.fn 75 [(.ptr 1 0)]), [(2, (.row .u64 0 b0 37 (0, 0))), (1, (.cells [(.sl 2 1)] 90 (0, 0)))])
noncomputable def space_set_nx : space_set_R → Nat
  | _ => 3
noncomputable def space_set_ret (v : AV) (h : AH) (nx : Nat) : Option space_set_R := match v, h, nx with
  | (.fn 75 [(.ptr 1 0)]), [(2, (.row .u64 0 b0 37 (0, 0))), (1, (.cells [(.sl 2 1)] 90 (0, 0)))], 3 => some b0
  | _, _, _ => none
theorem space_set_ret_ok (v : AV) (h : AH) (nx : Nat) (r : space_set_R) (e : space_set_ret v h nx = some r) : space_set_out r = (v, h) ∧ nx = space_set_nx r := by
  unfold space_set_ret at e
  split at e
  · cases e; exact ⟨rfl, rfl⟩
  · cases e
noncomputable def space_set_kr : KN := []
noncomputable def space_set_pre (n : Nat) : CT := (ctA 75 (space_set_1_ct n) ctZ)
theorem space_set_pre_ok (n : Nat) : COk cfg0 (space_set_pre n) := (ctA_ok (space_set_1_ok n) ctZ_ok)
noncomputable def space_set_E0 (n : Nat) (R : Type) (o1 : Nat) (f1 : Nat × Nat) (a2 : List Nat) (jf lf : List Nat → Nat → AT → AS → Option R) : SE R := ⟨[(0, (.row .u32 o1 a2 28 f1))], Try.f50.ntmps, 1, callA cfg0 kd [(0, (.row .u32 o1 a2 28 f1))] (space_set_pre n), n, [(4, ([0, 5, 12, 13, 14], 0))], [], [], [], jf, lf⟩
noncomputable def space_set_L4F (n : Nat) (a2 : List Nat) (r4 : (Int → Int → Int → List (Nat) → Option space_set_R))  (x0 : Int) (x1 : Int) (x2 : Int) (x3 : List (Nat)) : Option space_set_R := bif decide (x2 < x1) then bif decide (0 ≤ x2) && decide (Int.toNat x2 < List.length a2) then Option.bind a2[Int.toNat x2]? fun z => bif decide (w64 (↑z : Int) < x0) then bif true && decide (z / (64 : Nat) % 4294967296 < List.length x3) then Option.bind x3[z / (64 : Nat) % 4294967296]? fun z_1 => bif true && Nat.ble (z % (64 : Nat)) 64 then bif true && decide (z / (64 : Nat) % 4294967296 < List.length x3) then Option.bind x3[z / (64 : Nat) % 4294967296]? fun z_2 => r4 x0 x1 (w64 (x2 + 1)) (List.set x3 (z / (64 : Nat) % 4294967296) ((z_1 % 18446744073709551616 ||| (1 : Nat) * 2 ^ (z % (64 : Nat)) % 18446744073709551616 % 18446744073709551616) % 18446744073709551616)) else none else none else none else r4 x0 x1 (w64 (x2 + 1)) x3 else none else space_set_rt x3
noncomputable def space_set_L4 (n : Nat) (a2 : List Nat)  : Nat → Int → Int → Int → List (Nat) → Option space_set_R
  | 0, _, _, _, _ => none
  | m + 1, x0, x1, x2, x3 => space_set_L4F n a2  (space_set_L4 n a2  m)  x0 x1 x2 x3
noncomputable def space_set_F (n : Nat) (a2 : List Nat) (a1 : Int) (l4 : (Int → Int → Int → List (Nat) → Option space_set_R)) : Option space_set_R := bif decide (0 ≤ w64 (w64 (Int.tdiv a1 64) + 1)) && decide (0 ≤ w64 (w64 (Int.tdiv a1 64) + 1)) && (Nat.ble (Int.toNat (w64 (w64 (Int.tdiv a1 64) + 1))) (Int.toNat (w64 (w64 (Int.tdiv a1 64) + 1))) && Nat.ble (Int.toNat (w64 (w64 (Int.tdiv a1 64) + 1))) 100000000) then l4 a1 (↑(List.length a2) : Int) 0 (List.replicate (Int.toNat (w64 (w64 (Int.tdiv a1 64) + 1))) ((0 : Nat))) else none
noncomputable def space_set (n : Nat) (a2 : List Nat) (a1 : Int) : Option space_set_R := space_set_F n a2 a1 (space_set_L4 n a2 n)
noncomputable def space_set_L4q (n : Nat) (a2 : List Nat) (m4 : Nat) (T : AT) (s : AS) : Option space_set_R := match T, s with
  | [(0, (.i .i64 x0)), (5, (.ptr 1 0)), (12, (.sl 0 1)), (13, (.i .i64 x1)), (14, (.i .i64 x2))], ⟨[(2, (.row .u64 0 x3 37 (0, 0))), (1, (.cells [(.sl 2 1)] 90 (0, 0)))], 3, []⟩ => space_set_L4 n a2  m4 x0 x1 x2 x3
  | _, _ => none
noncomputable def space_set_jf (n : Nat) (a2 : List Nat) : List Nat → Nat → AT → AS → Option space_set_R := fun ms key T s => none
noncomputable def space_set_lf (n : Nat) (a2 : List Nat) : List Nat → Nat → AT → AS → Option space_set_R := fun ms key T s => cond (Nat.beq key 4) (match ms with | [m4] => space_set_L4q n a2 m4 T s | _ => none) (none)
noncomputable def space_set_E (n : Nat) (o1 : Nat) (f1 : Nat × Nat) (a2 : List Nat) : SE space_set_R := space_set_E0 n space_set_R o1 f1 a2 (space_set_jf n a2) (space_set_lf n a2)
theorem space_set_eq (n : Nat) (o1 : Nat) (f1 : Nat × Nat) (a2 : List Nat) (a1 : Int) : sxF cfg0 kd space_set_kr (space_set_E n o1 f1 a2) Try.f50 (bodyOf Try.f50) [] [.i .i64 a1, .sl 0 1] space_set_ret = space_set n a2 a1 := by kernel_rfl
theorem space_set_pv (n : Nat) (o1 : Nat) (f1 : Nat × Nat) (a2 : List Nat) (r : space_set_R) : PV cfg0 kd (space_set_E n o1 f1 a2) r [] (bodyOf Try.f50) (retK cfg0 kd space_set_kr (space_set_E n o1 f1 a2) Try.f50.results.toList space_set_ret) := by
  refine PV.sn (by kernel_rfl) ?_ ?_
  ·
    refine PV.sn (by kernel_rfl) ?_ ?_
    ·
      refine PV.sn (by kernel_rfl) ?_ ?_
      ·
        exact PV.triv (by kernel_rfl)
      ·
        refine PV.sn (by kernel_rfl) ?_ ?_
        ·
          refine PV.bl ?_
          refine PV.lp (live := [0, 5, 12, 13, 14]) (by kernel_rfl) ?_ ?_ ?_
          · intro T s h; change space_set_L4q n a2 0 _ _ = some r at h; unfold space_set_L4q at h; split at h
            · exact nomatch (show (none : Option space_set_R) = some r from h)
            · cases h
          · intro m4 T s h; change space_set_L4q n a2 (m4 + 1) _ _ = some r at h; unfold space_set_L4q at h; split at h
            · exact Eq.trans (by kernel_rfl) h
            · cases h
          · intro m4
            exact PV.triv (by kernel_rfl)
        ·
          exact PV.triv (by kernel_rfl)
    ·
      exact PV.triv (by kernel_rfl)
  ·
    exact PV.triv (by kernel_rfl)
noncomputable def space_set_ct (n : Nat) (vs : List AV) (h : AH) : Option Ctr := match vs, h with
  | [.i .i64 a1, .sl 0 1], [(0, (.row .u32 o1 a2 28 f1))] => some (.one space_set_R (space_set n  a2 a1) [] 2 space_set_out)
  | _, _ => none
theorem space_set_ok (n : Nat) : COk1 cfg0 50 (space_set_ct n) := by
  intro vs h c e
  unfold space_set_ct at e
  split at e
  · rename_i a1 o1 a2 f1
    cases e
    exact fun r hm => sxF_ok (E := space_set_E n o1 f1 a2) (nx1 := space_set_nx) (space_set_fn) rfl rfl rfl (callA_ok (space_set_pre_ok n)) space_set_ret_ok rfl (space_set_pv n o1 f1 a2 _) ((space_set_eq n o1 f1 a2 a1).trans hm)
  · cases e
end
end Go.Ev
end
section
set_option linter.unusedVariables false
set_option linter.unusedSimpArgs false
set_option maxRecDepth 100000
set_option maxHeartbeats 400000
namespace Go.Ev
open Go.RowKit Go.Proofs
section
theorem space_Rest_fn : cfg0.fn 15 = some Try.f15 := rfl
abbrev space_Rest_R : Type := (List (Nat))
@[reducible] def space_Rest_rt (b0 : List (Nat)) : Option space_Rest_R := some b0
noncomputable def space_Rest_out : space_Rest_R → AV × AH
  | b0 => ((.sl 1 1), [(1, (.row .u32 0 b0 28 (0, 0)))])
noncomputable def space_Rest_nx : space_Rest_R → Nat
  | _ => 2
noncomputable def space_Rest_ret (v : AV) (h : AH) (nx : Nat) : Option space_Rest_R := match v, h, nx with
  | (.sl 1 1), [(1, (.row .u32 0 b0 28 (0, 0)))], 2 => some b0
  | _, _, _ => none
theorem space_Rest_ret_ok (v : AV) (h : AH) (nx : Nat) (r : space_Rest_R) (e : space_Rest_ret v h nx = some r) : space_Rest_out r = (v, h) ∧ nx = space_Rest_nx r := by
  unfold space_Rest_ret at e
  split at e
  · cases e; exact ⟨rfl, rfl⟩
  · cases e
noncomputable def space_Rest_kr : KN := [((0, 0), (.u32, 28))]
noncomputable def space_Rest_pre (n : Nat) : CT := (ctA 49 (space_may_ct n) (ctA 50 (space_set_ct n) (ctA 75 (space_set_1_ct n) ctZ)))
theorem space_Rest_pre_ok (n : Nat) : COk cfg0 (space_Rest_pre n) := (ctA_ok (space_may_ok n) (ctA_ok (space_set_ok n) (ctA_ok (space_set_1_ok n) ctZ_ok)))
noncomputable def space_Rest_E0 (n : Nat) (R : Type) (o1 : Nat) (f1 : Nat × Nat) (a2 : List Nat) (jf lf : List Nat → Nat → AT → AS → Option R) : SE R := ⟨[(0, (.row .u32 o1 a2 28 f1))], Try.f15.ntmps, 1, callA cfg0 kd [(0, (.row .u32 o1 a2 28 f1))] (space_Rest_pre n), n, [(7, ([0, 5, 6, 7], 0))], [], [], [], jf, lf⟩
noncomputable def space_Rest_L7F (n : Nat) (a2 : List Nat) (r7 : (Int → Nat → List Nat → List (Nat) → Option space_Rest_R))  (x0 : Int) (x1 : Nat) (x2 : List Nat) (x3 : List (Nat)) : Option space_Rest_R := bif decide (w64 (↑x1 : Int) < x0) then Option.bind (space_set_1 n x2 x1) fun z => bif !z then bif Nat.ble (List.length x3 + List.length [x1]) 100000000 then r7 x0 ((x1 + (1 : Nat)) % 4294967296) x2 (x3 ++ [x1]) else none else r7 x0 ((x1 + (1 : Nat)) % 4294967296) x2 x3 else space_Rest_rt x3
noncomputable def space_Rest_L7 (n : Nat) (a2 : List Nat)  : Nat → Int → Nat → List Nat → List (Nat) → Option space_Rest_R
  | 0, _, _, _, _ => none
  | m + 1, x0, x1, x2, x3 => space_Rest_L7F n a2  (space_Rest_L7 n a2  m)  x0 x1 x2 x3
noncomputable def space_Rest_F (n : Nat) (a2 : List Nat) (a1 : Int) (l7 : (Int → Nat → List Nat → List (Nat) → Option space_Rest_R)) : Option space_Rest_R := Option.bind (space_may n a1) fun z => bif !z then space_Rest_rt [] else Option.bind (space_set n a2 a1) fun z_1 => l7 a1 ((2 : Nat)) z_1 []
noncomputable def space_Rest (n : Nat) (a2 : List Nat) (a1 : Int) : Option space_Rest_R := space_Rest_F n a2 a1 (space_Rest_L7 n a2 n)
noncomputable def space_Rest_L7q (n : Nat) (a2 : List Nat) (m7 : Nat) (T : AT) (s : AS) : Option space_Rest_R := match T, s with
  | [(0, (.i .i64 x0)), (5, (.sl 1 1)), (6, (.fn 75 [(.ptr 2 0)])), (7, (.n .u32 x1))], ⟨[(3, (.row .u64 0 x2 37 (0, 0))), (2, (.cells [(.sl 3 1)] 90 (0, 0))), (1, (.row .u32 0 x3 28 (0, 0)))], 4, []⟩ => space_Rest_L7 n a2  m7 x0 x1 x2 x3
  | _, _ => none
noncomputable def space_Rest_jf (n : Nat) (a2 : List Nat) : List Nat → Nat → AT → AS → Option space_Rest_R := fun ms key T s => none
noncomputable def space_Rest_lf (n : Nat) (a2 : List Nat) : List Nat → Nat → AT → AS → Option space_Rest_R := fun ms key T s => cond (Nat.beq key 7) (match ms with | [m7] => space_Rest_L7q n a2 m7 T s | _ => none) (none)
noncomputable def space_Rest_E (n : Nat) (o1 : Nat) (f1 : Nat × Nat) (a2 : List Nat) : SE space_Rest_R := space_Rest_E0 n space_Rest_R o1 f1 a2 (space_Rest_jf n a2) (space_Rest_lf n a2)
theorem space_Rest_eq (n : Nat) (o1 : Nat) (f1 : Nat × Nat) (a2 : List Nat) (a1 : Int) : sxF cfg0 kd space_Rest_kr (space_Rest_E n o1 f1 a2) Try.f15 (bodyOf Try.f15) [] [.i .i64 a1, .sl 0 1] space_Rest_ret = space_Rest n a2 a1 := by kernel_rfl
theorem space_Rest_pv (n : Nat) (o1 : Nat) (f1 : Nat × Nat) (a2 : List Nat) (r : space_Rest_R) : PV cfg0 kd (space_Rest_E n o1 f1 a2) r [] (bodyOf Try.f15) (retK cfg0 kd space_Rest_kr (space_Rest_E n o1 f1 a2) Try.f15.results.toList space_Rest_ret) := by
  refine PV.sn (by kernel_rfl) ?_ ?_
  ·
    refine PV.sn (by kernel_rfl) ?_ ?_
    ·
      refine PV.sn (by kernel_rfl) ?_ ?_
      ·
        refine PV.sn (by kernel_rfl) ?_ ?_
        ·
          refine PV.sn (by kernel_rfl) ?_ ?_
          ·
            exact PV.triv (by kernel_rfl)
          ·
            refine PV.sn (by kernel_rfl) ?_ ?_
            ·
              refine PV.bl ?_
              refine PV.lp (live := [0, 5, 6, 7]) (by kernel_rfl) ?_ ?_ ?_
              · intro T s h; change space_Rest_L7q n a2 0 _ _ = some r at h; unfold space_Rest_L7q at h; split at h
                · exact nomatch (show (none : Option space_Rest_R) = some r from h)
                · cases h
              · intro m7 T s h; change space_Rest_L7q n a2 (m7 + 1) _ _ = some r at h; unfold space_Rest_L7q at h; split at h
                · exact Eq.trans (by kernel_rfl) h
                · cases h
              · intro m7
                exact PV.triv (by kernel_rfl)
            ·
              exact PV.triv (by kernel_rfl)
        ·
          exact PV.triv (by kernel_rfl)
      ·
        exact PV.triv (by kernel_rfl)
    ·
      exact PV.triv (by kernel_rfl)
  ·
    exact PV.triv (by kernel_rfl)
noncomputable def space_Rest_ct (n : Nat) (vs : List AV) (h : AH) : Option Ctr := match vs, h with
  | [.i .i64 a1, .sl 0 1], [(0, (.row .u32 o1 a2 28 f1))] => some (.one space_Rest_R (space_Rest n  a2 a1) [] 1 space_Rest_out)
  | _, _ => none
theorem space_Rest_ok (n : Nat) : COk1 cfg0 15 (space_Rest_ct n) := by
  intro vs h c e
  unfold space_Rest_ct at e
  split at e
  · rename_i a1 o1 a2 f1
    cases e
    exact fun r hm => sxF_ok (E := space_Rest_E n o1 f1 a2) (nx1 := space_Rest_nx) (space_Rest_fn) rfl rfl rfl (callA_ok (space_Rest_pre_ok n)) space_Rest_ret_ok rfl (space_Rest_pv n o1 f1 a2 _) ((space_Rest_eq n o1 f1 a2 a1).trans hm)
  · cases e
end
end Go.Ev
end
section
set_option linter.unusedVariables false
set_option linter.unusedSimpArgs false
set_option maxRecDepth 100000
set_option maxHeartbeats 400000
namespace Go.Ev
open Go.RowKit Go.Proofs
section
theorem kit_Same_uint32_fn : cfg0.fn 21 = some Try.f21 := rfl
abbrev kit_Same_uint32_R : Type := Bool
@[reducible] def kit_Same_uint32_rt (b0 : Bool) : Option kit_Same_uint32_R := some b0
noncomputable def kit_Same_uint32_out : kit_Same_uint32_R → AV × AH
  | b0 => ((.b b0), [])
noncomputable def kit_Same_uint32_nx : kit_Same_uint32_R → Nat
  | _ => 2
noncomputable def kit_Same_uint32_ret (v : AV) (h : AH) (nx : Nat) : Option kit_Same_uint32_R := match v, h, nx with
  | (.b b0), [], 2 => some b0
  | _, _, _ => none
theorem kit_Same_uint32_ret_ok (v : AV) (h : AH) (nx : Nat) (r : kit_Same_uint32_R) (e : kit_Same_uint32_ret v h nx = some r) : kit_Same_uint32_out r = (v, h) ∧ nx = kit_Same_uint32_nx r := by
  unfold kit_Same_uint32_ret at e
  split at e
  · cases e; exact ⟨rfl, rfl⟩
  · cases e
noncomputable def kit_Same_uint32_kr : KN := []
noncomputable def kit_Same_uint32_pre (n : Nat) : CT := ctZ
theorem kit_Same_uint32_pre_ok (n : Nat) : COk cfg0 (kit_Same_uint32_pre n) := ctZ_ok
noncomputable def kit_Same_uint32_E0 (n : Nat) (R : Type) (o1 : Nat) (f1 : Nat × Nat) (o2 : Nat) (f2 : Nat × Nat) (a1 : List Nat) (a2 : List Nat) (jf lf : List Nat → Nat → AT → AS → Option R) : SE R := ⟨[(0, (.row .u32 o1 a1 28 f1)), (1, (.row .u32 o2 a2 28 f2))], Try.f21.ntmps, 2, callA cfg0 kd [(0, (.row .u32 o1 a1 28 f1)), (1, (.row .u32 o2 a2 28 f2))] (kit_Same_uint32_pre n), n, [(5, ([0, 1, 5], 0))], [], [], [], jf, lf⟩
noncomputable def kit_Same_uint32_L5F (n : Nat) (a1 : List Nat) (a2 : List Nat) (r5 : (Int → Option kit_Same_uint32_R))  (x0 : Int) : Option kit_Same_uint32_R := bif decide (x0 < (↑(List.length a1) : Int)) then bif decide (0 ≤ x0) && decide (Int.toNat x0 < List.length a1) then Option.bind a1[Int.toNat x0]? fun z => bif decide (0 ≤ x0) && decide (Int.toNat x0 < List.length a2) then Option.bind a2[Int.toNat x0]? fun z_1 => bif decide (z ≠ z_1) then kit_Same_uint32_rt false else r5 (w64 (x0 + 1)) else none else none else kit_Same_uint32_rt true
noncomputable def kit_Same_uint32_L5 (n : Nat) (a1 : List Nat) (a2 : List Nat)  : Nat → Int → Option kit_Same_uint32_R
  | 0, _ => none
  | m + 1, x0 => kit_Same_uint32_L5F n a1 a2  (kit_Same_uint32_L5 n a1 a2  m)  x0
noncomputable def kit_Same_uint32_F (n : Nat) (a1 : List Nat) (a2 : List Nat)  (l5 : (Int → Option kit_Same_uint32_R)) : Option kit_Same_uint32_R := bif decide ((↑(List.length a1) : Int) ≠ (↑(List.length a2) : Int)) then kit_Same_uint32_rt false else l5 0
noncomputable def kit_Same_uint32 (n : Nat) (a1 : List Nat) (a2 : List Nat)  : Option kit_Same_uint32_R := kit_Same_uint32_F n a1 a2  (kit_Same_uint32_L5 n a1 a2 n)
noncomputable def kit_Same_uint32_L5q (n : Nat) (a1 : List Nat) (a2 : List Nat) (m5 : Nat) (T : AT) (s : AS) : Option kit_Same_uint32_R := match T, s with
  | [(0, (.sl 0 1)), (1, (.sl 1 1)), (5, (.i .i64 x0))], ⟨[], 2, []⟩ => kit_Same_uint32_L5 n a1 a2  m5 x0
  | _, _ => none
noncomputable def kit_Same_uint32_jf (n : Nat) (a1 : List Nat) (a2 : List Nat) : List Nat → Nat → AT → AS → Option kit_Same_uint32_R := fun ms key T s => none
noncomputable def kit_Same_uint32_lf (n : Nat) (a1 : List Nat) (a2 : List Nat) : List Nat → Nat → AT → AS → Option kit_Same_uint32_R := fun ms key T s => cond (Nat.beq key 5) (match ms with | [m5] => kit_Same_uint32_L5q n a1 a2 m5 T s | _ => none) (none)
noncomputable def kit_Same_uint32_E (n : Nat) (o1 : Nat) (f1 : Nat × Nat) (o2 : Nat) (f2 : Nat × Nat) (a1 : List Nat) (a2 : List Nat) : SE kit_Same_uint32_R := kit_Same_uint32_E0 n kit_Same_uint32_R o1 f1 o2 f2 a1 a2 (kit_Same_uint32_jf n a1 a2) (kit_Same_uint32_lf n a1 a2)
theorem kit_Same_uint32_eq (n : Nat) (o1 : Nat) (f1 : Nat × Nat) (o2 : Nat) (f2 : Nat × Nat) (a1 : List Nat) (a2 : List Nat) : sxF cfg0 kd kit_Same_uint32_kr (kit_Same_uint32_E n o1 f1 o2 f2 a1 a2) Try.f21 (bodyOf Try.f21) [] [.sl 0 1, .sl 1 1] kit_Same_uint32_ret = kit_Same_uint32 n a1 a2  := by kernel_rfl
theorem kit_Same_uint32_pv (n : Nat) (o1 : Nat) (f1 : Nat × Nat) (o2 : Nat) (f2 : Nat × Nat) (a1 : List Nat) (a2 : List Nat) (r : kit_Same_uint32_R) : PV cfg0 kd (kit_Same_uint32_E n o1 f1 o2 f2 a1 a2) r [] (bodyOf Try.f21) (retK cfg0 kd kit_Same_uint32_kr (kit_Same_uint32_E n o1 f1 o2 f2 a1 a2) Try.f21.results.toList kit_Same_uint32_ret) := by
  refine PV.sn (by kernel_rfl) ?_ ?_
  ·
    refine PV.sn (by kernel_rfl) ?_ ?_
    ·
      refine PV.sn (by kernel_rfl) ?_ ?_
      ·
        exact PV.triv (by kernel_rfl)
      ·
        refine PV.sn (by kernel_rfl) ?_ ?_
        ·
          refine PV.bl ?_
          refine PV.lp (live := [0, 1, 5]) (by kernel_rfl) ?_ ?_ ?_
          · intro T s h; change kit_Same_uint32_L5q n a1 a2 0 _ _ = some r at h; unfold kit_Same_uint32_L5q at h; split at h
            · exact nomatch (show (none : Option kit_Same_uint32_R) = some r from h)
            · cases h
          · intro m5 T s h; change kit_Same_uint32_L5q n a1 a2 (m5 + 1) _ _ = some r at h; unfold kit_Same_uint32_L5q at h; split at h
            · exact Eq.trans (by kernel_rfl) h
            · cases h
          · intro m5
            exact PV.triv (by kernel_rfl)
        ·
          exact PV.triv (by kernel_rfl)
    ·
      exact PV.triv (by kernel_rfl)
  ·
    exact PV.triv (by kernel_rfl)
noncomputable def kit_Same_uint32_ct (n : Nat) (vs : List AV) (h : AH) : Option Ctr := match vs, h with
  | [.sl 0 1, .sl 1 1], [(0, (.row .u32 o1 a1 28 f1)), (1, (.row .u32 o2 a2 28 f2))] => some (.one kit_Same_uint32_R (kit_Same_uint32 n  a1 a2 ) [] 0 kit_Same_uint32_out)
  | _, _ => none
theorem kit_Same_uint32_ok (n : Nat) : COk1 cfg0 21 (kit_Same_uint32_ct n) := by
  intro vs h c e
  unfold kit_Same_uint32_ct at e
  split at e
  · rename_i o1 a1 f1 o2 a2 f2
    cases e
    exact fun r hm => sxF_ok (E := kit_Same_uint32_E n o1 f1 o2 f2 a1 a2) (nx1 := kit_Same_uint32_nx) (kit_Same_uint32_fn) rfl rfl rfl (callA_ok (kit_Same_uint32_pre_ok n)) kit_Same_uint32_ret_ok rfl (kit_Same_uint32_pv n o1 f1 o2 f2 a1 a2 _) ((kit_Same_uint32_eq n o1 f1 o2 f2 a1 a2 ).trans hm)
  · cases e
end
end Go.Ev
end
section
set_option linter.unusedVariables false
set_option linter.unusedSimpArgs false
set_option maxRecDepth 100000
set_option maxHeartbeats 400000
namespace Go.Ev
open Go.RowKit Go.Proofs
section
theorem law20_lives_fn : cfg0.fn 14 = some Try.f14 := rfl
abbrev law20_lives_R : Type := Bool
@[reducible] def law20_lives_rt (b0 : Bool) : Option law20_lives_R := some b0
noncomputable def law20_lives_out : law20_lives_R → AV × AH
  | b0 => ((.b b0), [])
noncomputable def law20_lives_nx : law20_lives_R → Nat
  | _ => 0
noncomputable def law20_lives_ret (v : AV) (h : AH) (nx : Nat) : Option law20_lives_R := match v, h, nx with
  | (.b b0), [], 0 => some b0
  | _, _, _ => none
theorem law20_lives_ret_ok (v : AV) (h : AH) (nx : Nat) (r : law20_lives_R) (e : law20_lives_ret v h nx = some r) : law20_lives_out r = (v, h) ∧ nx = law20_lives_nx r := by
  unfold law20_lives_ret at e
  split at e
  · cases e; exact ⟨rfl, rfl⟩
  · cases e
noncomputable def law20_lives_kr : KN := []
noncomputable def law20_lives_pre (n : Nat) : CT := (ctA 15 (space_Rest_ct n) (ctA 21 (kit_Same_uint32_ct n) ctZ))
theorem law20_lives_pre_ok (n : Nat) : COk cfg0 (law20_lives_pre n) := (ctA_ok (space_Rest_ok n) (ctA_ok (kit_Same_uint32_ok n) ctZ_ok))
noncomputable def law20_lives_E0 (n : Nat) (R : Type)   (jf lf : List Nat → Nat → AT → AS → Option R) : SE R := ⟨[], Try.f14.ntmps, 0, callA cfg0 kd [] (law20_lives_pre n), n, [], [], [], [], jf, lf⟩
noncomputable def law20_lives_F (n : Nat)   : Option law20_lives_R := Option.bind (space_Rest n [(3 : Nat), (5 : Nat)] 6) fun z => Option.bind (kit_Same_uint32 n z [(2 : Nat), (4 : Nat)]) fun z_1 => law20_lives_rt z_1
noncomputable def law20_lives (n : Nat)  : Option law20_lives_R := law20_lives_F n  
noncomputable def law20_lives_jf (n : Nat) : List Nat → Nat → AT → AS → Option law20_lives_R := fun ms key T s => none
noncomputable def law20_lives_lf (n : Nat) : List Nat → Nat → AT → AS → Option law20_lives_R := fun ms key T s => none
noncomputable def law20_lives_E (n : Nat)   : SE law20_lives_R := law20_lives_E0 n law20_lives_R   (law20_lives_jf n) (law20_lives_lf n)
theorem law20_lives_eq (n : Nat) : sxF cfg0 kd law20_lives_kr (law20_lives_E n  ) Try.f14 (bodyOf Try.f14) [] [] law20_lives_ret = law20_lives n  := by kernel_rfl
theorem law20_lives_pv (n : Nat) (r : law20_lives_R) : PV cfg0 kd (law20_lives_E n  ) r [] (bodyOf Try.f14) (retK cfg0 kd law20_lives_kr (law20_lives_E n  ) Try.f14.results.toList law20_lives_ret) := by
  exact PV.triv (by kernel_rfl)
noncomputable def law20_lives_ct (n : Nat) (vs : List AV) (h : AH) : Option Ctr := match vs, h with
  | [], [] => some (.one law20_lives_R (law20_lives n   ) [] 0 law20_lives_out)
  | _, _ => none
theorem law20_lives_ok (n : Nat) : COk1 cfg0 14 (law20_lives_ct n) := by
  intro vs h c e
  unfold law20_lives_ct at e
  split at e
  · cases e
    exact fun r hm => sxF_ok (E := law20_lives_E n  ) (nx1 := law20_lives_nx) (law20_lives_fn) rfl rfl rfl (callA_ok (law20_lives_pre_ok n)) law20_lives_ret_ok rfl (law20_lives_pv n   _) ((law20_lives_eq n   ).trans hm)
  · cases e
end
end Go.Ev
end
section
set_option linter.unusedVariables false
set_option linter.unusedSimpArgs false
set_option maxRecDepth 100000
set_option maxHeartbeats 400000
namespace Go.Ev
open Go.RowKit Go.Proofs
section
theorem space_Parted_fn : cfg0.fn 16 = some Try.f16 := rfl
abbrev space_Parted_R : Type := (List (Fnd))
@[reducible] def space_Parted_rt (b0 : List (Fnd)) : Option space_Parted_R := some b0
noncomputable def space_Parted_out : space_Parted_R → AV × AH
  | b0 => ((.sl 3 3), [(3, (.row .fnd 0 b0 32 (0, 0)))])
noncomputable def space_Parted_nx : space_Parted_R → Nat
  | _ => 4
noncomputable def space_Parted_ret (v : AV) (h : AH) (nx : Nat) : Option space_Parted_R := match v, h, nx with
  | (.sl 3 3), [(3, (.row .fnd 0 b0 32 (0, 0)))], 4 => some b0
  | _, _, _ => none
theorem space_Parted_ret_ok (v : AV) (h : AH) (nx : Nat) (r : space_Parted_R) (e : space_Parted_ret v h nx = some r) : space_Parted_out r = (v, h) ∧ nx = space_Parted_nx r := by
  unfold space_Parted_ret at e
  split at e
  · cases e; exact ⟨rfl, rfl⟩
  · cases e
noncomputable def space_Parted_kr : KN := [((0, 0), (.fnd, 32))]
noncomputable def space_Parted_pre (n : Nat) : CT := (ctA 49 (space_may_ct n) (ctA 50 (space_set_ct n) (ctA 75 (space_set_1_ct n) ctZ)))
theorem space_Parted_pre_ok (n : Nat) : COk cfg0 (space_Parted_pre n) := (ctA_ok (space_may_ok n) (ctA_ok (space_set_ok n) (ctA_ok (space_set_1_ok n) ctZ_ok)))
noncomputable def space_Parted_E0 (n : Nat) (R : Type) (o1 : Nat) (f1 : Nat × Nat) (o2 : Nat) (f2 : Nat × Nat) (o3 : Nat) (f3 : Nat × Nat) (a2 : List Nat) (a3 : List Nat) (a4 : List Nat) (jf lf : List Nat → Nat → AT → AS → Option R) : SE R := ⟨[(0, (.row .u32 o1 a2 28 f1)), (1, (.row .u32 o2 a3 28 f2)), (2, (.row .u32 o3 a4 28 f3))], Try.f16.ntmps, 3, callA cfg0 kd [(0, (.row .u32 o1 a2 28 f1)), (1, (.row .u32 o2 a3 28 f2)), (2, (.row .u32 o3 a4 28 f3))] (space_Parted_pre n), n, [(7, ([0, 9, 10, 11], 0)), (11, ([0, 9, 10, 11, 12, 34, 35], 4))], [], [], [], jf, lf⟩
noncomputable def space_Parted_L7F (n : Nat) (a2 : List Nat) (a3 : List Nat) (a4 : List Nat) (r7 : (Int → Nat → List Nat → List Nat → List Nat → List (Fnd) → Option space_Parted_R))  (x0 : Int) (x1 : Nat) (x2 : List Nat) (x3 : List Nat) (x4 : List Nat) (x5 : List (Fnd)) : Option space_Parted_R := bif decide (w64 (↑x1 : Int) < x0) then Option.bind (space_set_1 n x4 x1) fun z => bif z then Option.bind (space_set_1 n x3 x1) fun z_1 => bif z_1 then Option.bind (space_set_1 n x2 x1) fun z_2 => bif z_2 then bif Nat.ble (List.length x5 + List.length [Fnd.mk 15 x1 ((0 : Nat))]) 100000000 then r7 x0 ((x1 + (1 : Nat)) % 4294967296) x2 x3 x4 (x5 ++ [Fnd.mk 15 x1 ((0 : Nat))]) else none else bif Nat.ble (List.length x5 + List.length [Fnd.mk 15 x1 ((0 : Nat))]) 100000000 then r7 x0 ((x1 + (1 : Nat)) % 4294967296) x2 x3 x4 (x5 ++ [Fnd.mk 15 x1 ((0 : Nat))]) else none else Option.bind (space_set_1 n x2 x1) fun z_2 => bif z_2 then bif Nat.ble (List.length x5 + List.length [Fnd.mk 15 x1 ((0 : Nat))]) 100000000 then r7 x0 ((x1 + (1 : Nat)) % 4294967296) x2 x3 x4 (x5 ++ [Fnd.mk 15 x1 ((0 : Nat))]) else none else r7 x0 ((x1 + (1 : Nat)) % 4294967296) x2 x3 x4 x5 else Option.bind (space_set_1 n x3 x1) fun z_1 => bif z_1 then Option.bind (space_set_1 n x2 x1) fun z_2 => bif z_2 then bif Nat.ble (List.length x5 + List.length [Fnd.mk 15 x1 ((0 : Nat))]) 100000000 then r7 x0 ((x1 + (1 : Nat)) % 4294967296) x2 x3 x4 (x5 ++ [Fnd.mk 15 x1 ((0 : Nat))]) else none else r7 x0 ((x1 + (1 : Nat)) % 4294967296) x2 x3 x4 x5 else Option.bind (space_set_1 n x2 x1) fun z_2 => bif z_2 then r7 x0 ((x1 + (1 : Nat)) % 4294967296) x2 x3 x4 x5 else bif Nat.ble (List.length x5 + List.length [Fnd.mk 16 x1 ((0 : Nat))]) 100000000 then r7 x0 ((x1 + (1 : Nat)) % 4294967296) x2 x3 x4 (x5 ++ [Fnd.mk 16 x1 ((0 : Nat))]) else none else space_Parted_rt x5
noncomputable def space_Parted_L7 (n : Nat) (a2 : List Nat) (a3 : List Nat) (a4 : List Nat)  : Nat → Int → Nat → List Nat → List Nat → List Nat → List (Fnd) → Option space_Parted_R
  | 0, _, _, _, _, _, _ => none
  | m + 1, x0, x1, x2, x3, x4, x5 => space_Parted_L7F n a2 a3 a4  (space_Parted_L7 n a2 a3 a4  m)  x0 x1 x2 x3 x4 x5
noncomputable def space_Parted_F (n : Nat) (a2 : List Nat) (a3 : List Nat) (a4 : List Nat) (a1 : Int) (l7 : (Int → Nat → List Nat → List Nat → List Nat → List (Fnd) → Option space_Parted_R)) : Option space_Parted_R := Option.bind (space_may n a1) fun z => bif !z then space_Parted_rt [] else Option.bind (space_set n a2 a1) fun z_1 => Option.bind (space_set n a3 a1) fun z_2 => Option.bind (space_set n a4 a1) fun z_3 => l7 a1 ((2 : Nat)) z_3 z_2 z_1 []
noncomputable def space_Parted (n : Nat) (a2 : List Nat) (a3 : List Nat) (a4 : List Nat) (a1 : Int) : Option space_Parted_R := space_Parted_F n a2 a3 a4 a1 (space_Parted_L7 n a2 a3 a4 n)
noncomputable def space_Parted_L7q (n : Nat) (a2 : List Nat) (a3 : List Nat) (a4 : List Nat) (m7 : Nat) (T : AT) (s : AS) : Option space_Parted_R := match T, s with
  | [(0, (.i .i64 x0)), (9, (.sl 3 3)), (10, (.ptr 4 0)), (11, (.n .u32 x1))], ⟨[(10, (.row .u64 0 x2 37 (0, 0))), (9, (.row .u64 0 x3 37 (0, 0))), (8, (.row .u64 0 x4 37 (0, 0))), (7, (.cells [(.sl 10 1)] 90 (0, 0))), (6, (.cells [(.sl 9 1)] 90 (0, 0))), (5, (.cells [(.sl 8 1)] 90 (0, 0))), (4, (.cells [(.fn 75 [(.ptr 5 0)]), (.fn 75 [(.ptr 6 0)]), (.fn 75 [(.ptr 7 0)])] 70 (0, 0))), (3, (.row .fnd 0 x5 32 (0, 0)))], 11, []⟩ => space_Parted_L7 n a2 a3 a4  m7 x0 x1 x2 x3 x4 x5
  | _, _ => none
noncomputable def space_Parted_jf (n : Nat) (a2 : List Nat) (a3 : List Nat) (a4 : List Nat) : List Nat → Nat → AT → AS → Option space_Parted_R := fun ms key T s => none
noncomputable def space_Parted_lf (n : Nat) (a2 : List Nat) (a3 : List Nat) (a4 : List Nat) : List Nat → Nat → AT → AS → Option space_Parted_R := fun ms key T s => cond (Nat.beq key 7) (match ms with | [m7] => space_Parted_L7q n a2 a3 a4 m7 T s | _ => none) (none)
noncomputable def space_Parted_E (n : Nat) (o1 : Nat) (f1 : Nat × Nat) (o2 : Nat) (f2 : Nat × Nat) (o3 : Nat) (f3 : Nat × Nat) (a2 : List Nat) (a3 : List Nat) (a4 : List Nat) : SE space_Parted_R := space_Parted_E0 n space_Parted_R o1 f1 o2 f2 o3 f3 a2 a3 a4 (space_Parted_jf n a2 a3 a4) (space_Parted_lf n a2 a3 a4)
theorem space_Parted_eq (n : Nat) (o1 : Nat) (f1 : Nat × Nat) (o2 : Nat) (f2 : Nat × Nat) (o3 : Nat) (f3 : Nat × Nat) (a2 : List Nat) (a3 : List Nat) (a4 : List Nat) (a1 : Int) : sxF cfg0 kd space_Parted_kr (space_Parted_E n o1 f1 o2 f2 o3 f3 a2 a3 a4) Try.f16 (bodyOf Try.f16) [] [.i .i64 a1, .sl 0 1, .sl 1 1, .sl 2 1] space_Parted_ret = space_Parted n a2 a3 a4 a1 := by kernel_rfl
theorem space_Parted_pv (n : Nat) (o1 : Nat) (f1 : Nat × Nat) (o2 : Nat) (f2 : Nat × Nat) (o3 : Nat) (f3 : Nat × Nat) (a2 : List Nat) (a3 : List Nat) (a4 : List Nat) (r : space_Parted_R) : PV cfg0 kd (space_Parted_E n o1 f1 o2 f2 o3 f3 a2 a3 a4) r [] (bodyOf Try.f16) (retK cfg0 kd space_Parted_kr (space_Parted_E n o1 f1 o2 f2 o3 f3 a2 a3 a4) Try.f16.results.toList space_Parted_ret) := by
  refine PV.sn (by kernel_rfl) ?_ ?_
  ·
    refine PV.sn (by kernel_rfl) ?_ ?_
    ·
      refine PV.sn (by kernel_rfl) ?_ ?_
      ·
        refine PV.sn (by kernel_rfl) ?_ ?_
        ·
          refine PV.sn (by kernel_rfl) ?_ ?_
          ·
            exact PV.triv (by kernel_rfl)
          ·
            refine PV.sn (by kernel_rfl) ?_ ?_
            ·
              refine PV.bl ?_
              refine PV.lp (live := [0, 9, 10, 11]) (by kernel_rfl) ?_ ?_ ?_
              · intro T s h; change space_Parted_L7q n a2 a3 a4 0 _ _ = some r at h; unfold space_Parted_L7q at h; split at h
                · exact nomatch (show (none : Option space_Parted_R) = some r from h)
                · cases h
              · intro m7 T s h; change space_Parted_L7q n a2 a3 a4 (m7 + 1) _ _ = some r at h; unfold space_Parted_L7q at h; split at h
                · exact Eq.trans (by kernel_rfl) h
                · cases h
              · intro m7
                exact PV.triv (by kernel_rfl)
            ·
              exact PV.triv (by kernel_rfl)
        ·
          exact PV.triv (by kernel_rfl)
      ·
        exact PV.triv (by kernel_rfl)
    ·
      exact PV.triv (by kernel_rfl)
  ·
    exact PV.triv (by kernel_rfl)
noncomputable def space_Parted_ct (n : Nat) (vs : List AV) (h : AH) : Option Ctr := match vs, h with
  | [.i .i64 a1, .sl 0 1, .sl 1 1, .sl 2 1], [(0, (.row .u32 o1 a2 28 f1)), (1, (.row .u32 o2 a3 28 f2)), (2, (.row .u32 o3 a4 28 f3))] => some (.one space_Parted_R (space_Parted n  a2 a3 a4 a1) [] 1 space_Parted_out)
  | _, _ => none
theorem space_Parted_ok (n : Nat) : COk1 cfg0 16 (space_Parted_ct n) := by
  intro vs h c e
  unfold space_Parted_ct at e
  split at e
  · rename_i a1 o1 a2 f1 o2 a3 f2 o3 a4 f3
    cases e
    exact fun r hm => sxF_ok (E := space_Parted_E n o1 f1 o2 f2 o3 f3 a2 a3 a4) (nx1 := space_Parted_nx) (space_Parted_fn) rfl rfl rfl (callA_ok (space_Parted_pre_ok n)) space_Parted_ret_ok rfl (space_Parted_pv n o1 f1 o2 f2 o3 f3 a2 a3 a4 _) ((space_Parted_eq n o1 f1 o2 f2 o3 f3 a2 a3 a4 a1).trans hm)
  · cases e
end
end Go.Ev
end
section
set_option linter.unusedVariables false
set_option linter.unusedSimpArgs false
set_option maxRecDepth 100000
set_option maxHeartbeats 400000
namespace Go.Ev
open Go.RowKit Go.Proofs
section
theorem kit_Own_uint32_fn : cfg0.fn 17 = some Try.f17 := rfl
abbrev kit_Own_uint32_R : Type := (List (Nat))
@[reducible] def kit_Own_uint32_rt (b0 : List (Nat)) : Option kit_Own_uint32_R := some b0
noncomputable def kit_Own_uint32_out : kit_Own_uint32_R → AV × AH
  | b0 => ((.sl 1 1), [(1, (.row .u32 0 b0 28 (0, 0)))])
noncomputable def kit_Own_uint32_nx : kit_Own_uint32_R → Nat
  | _ => 2
noncomputable def kit_Own_uint32_ret (v : AV) (h : AH) (nx : Nat) : Option kit_Own_uint32_R := match v, h, nx with
  | (.sl 1 1), [(1, (.row .u32 0 b0 28 (0, 0)))], 2 => some b0
  | _, _, _ => none
theorem kit_Own_uint32_ret_ok (v : AV) (h : AH) (nx : Nat) (r : kit_Own_uint32_R) (e : kit_Own_uint32_ret v h nx = some r) : kit_Own_uint32_out r = (v, h) ∧ nx = kit_Own_uint32_nx r := by
  unfold kit_Own_uint32_ret at e
  split at e
  · cases e; exact ⟨rfl, rfl⟩
  · cases e
noncomputable def kit_Own_uint32_kr : KN := [((0, 0), (.u32, 28))]
noncomputable def kit_Own_uint32_pre (n : Nat) : CT := ctZ
theorem kit_Own_uint32_pre_ok (n : Nat) : COk cfg0 (kit_Own_uint32_pre n) := ctZ_ok
noncomputable def kit_Own_uint32_E0 (n : Nat) (R : Type) (o1 : Nat) (f1 : Nat × Nat) (a1 : List Nat) (jf lf : List Nat → Nat → AT → AS → Option R) : SE R := ⟨[(0, (.row .u32 o1 a1 28 f1))], Try.f17.ntmps, 1, callA cfg0 kd [(0, (.row .u32 o1 a1 28 f1))] (kit_Own_uint32_pre n), n, [], [], [], [], jf, lf⟩
noncomputable def kit_Own_uint32_F (n : Nat) (a1 : List Nat)   : Option kit_Own_uint32_R := bif Nat.ble ((0 : Nat) + List.length a1) 100000000 then kit_Own_uint32_rt ([] ++ a1) else none
noncomputable def kit_Own_uint32 (n : Nat) (a1 : List Nat)  : Option kit_Own_uint32_R := kit_Own_uint32_F n a1  
noncomputable def kit_Own_uint32_jf (n : Nat) (a1 : List Nat) : List Nat → Nat → AT → AS → Option kit_Own_uint32_R := fun ms key T s => none
noncomputable def kit_Own_uint32_lf (n : Nat) (a1 : List Nat) : List Nat → Nat → AT → AS → Option kit_Own_uint32_R := fun ms key T s => none
noncomputable def kit_Own_uint32_E (n : Nat) (o1 : Nat) (f1 : Nat × Nat) (a1 : List Nat) : SE kit_Own_uint32_R := kit_Own_uint32_E0 n kit_Own_uint32_R o1 f1 a1 (kit_Own_uint32_jf n a1) (kit_Own_uint32_lf n a1)
theorem kit_Own_uint32_eq (n : Nat) (o1 : Nat) (f1 : Nat × Nat) (a1 : List Nat) : sxF cfg0 kd kit_Own_uint32_kr (kit_Own_uint32_E n o1 f1 a1) Try.f17 (bodyOf Try.f17) [] [.sl 0 1] kit_Own_uint32_ret = kit_Own_uint32 n a1  := by kernel_rfl
theorem kit_Own_uint32_pv (n : Nat) (o1 : Nat) (f1 : Nat × Nat) (a1 : List Nat) (r : kit_Own_uint32_R) : PV cfg0 kd (kit_Own_uint32_E n o1 f1 a1) r [] (bodyOf Try.f17) (retK cfg0 kd kit_Own_uint32_kr (kit_Own_uint32_E n o1 f1 a1) Try.f17.results.toList kit_Own_uint32_ret) := by
  exact PV.triv (by kernel_rfl)
noncomputable def kit_Own_uint32_ct (n : Nat) (vs : List AV) (h : AH) : Option Ctr := match vs, h with
  | [.sl 0 1], [(0, (.row .u32 o1 a1 28 f1))] => some (.one kit_Own_uint32_R (kit_Own_uint32 n  a1 ) [] 1 kit_Own_uint32_out)
  | _, _ => none
theorem kit_Own_uint32_ok (n : Nat) : COk1 cfg0 17 (kit_Own_uint32_ct n) := by
  intro vs h c e
  unfold kit_Own_uint32_ct at e
  split at e
  · rename_i o1 a1 f1
    cases e
    exact fun r hm => sxF_ok (E := kit_Own_uint32_E n o1 f1 a1) (nx1 := kit_Own_uint32_nx) (kit_Own_uint32_fn) rfl rfl rfl (callA_ok (kit_Own_uint32_pre_ok n)) kit_Own_uint32_ret_ok rfl (kit_Own_uint32_pv n o1 f1 a1 _) ((kit_Own_uint32_eq n o1 f1 a1 ).trans hm)
  · cases e
end
end Go.Ev
end
section
set_option linter.unusedVariables false
set_option linter.unusedSimpArgs false
set_option maxRecDepth 100000
set_option maxHeartbeats 400000
namespace Go.Ev
open Go.RowKit Go.Proofs
section
theorem kit_Pick_fn : cfg0.fn 18 = some Try.f18 := rfl
abbrev kit_Pick_R : Type := Int
@[reducible] def kit_Pick_rt (b0 : Int) : Option kit_Pick_R := some b0
noncomputable def kit_Pick_out : kit_Pick_R → AV × AH
  | b0 => ((.i .i64 b0), [])
noncomputable def kit_Pick_nx : kit_Pick_R → Nat
  | _ => 0
noncomputable def kit_Pick_ret (v : AV) (h : AH) (nx : Nat) : Option kit_Pick_R := match v, h, nx with
  | (.i .i64 b0), [], 0 => some b0
  | _, _, _ => none
theorem kit_Pick_ret_ok (v : AV) (h : AH) (nx : Nat) (r : kit_Pick_R) (e : kit_Pick_ret v h nx = some r) : kit_Pick_out r = (v, h) ∧ nx = kit_Pick_nx r := by
  unfold kit_Pick_ret at e
  split at e
  · cases e; exact ⟨rfl, rfl⟩
  · cases e
noncomputable def kit_Pick_kr : KN := []
noncomputable def kit_Pick_pre (n : Nat) : CT := ctZ
theorem kit_Pick_pre_ok (n : Nat) : COk cfg0 (kit_Pick_pre n) := ctZ_ok
noncomputable def kit_Pick_E0 (n : Nat) (R : Type)   (jf lf : List Nat → Nat → AT → AS → Option R) : SE R := ⟨[], Try.f18.ntmps, 0, callA cfg0 kd [] (kit_Pick_pre n), n, [], [], [], [], jf, lf⟩
noncomputable def kit_Pick_F (n : Nat) (a1 : Int) (a2 : Int)  : Option kit_Pick_R := bif decide (a2 < 1) then kit_Pick_rt 0 else bif decide (a2 ≠ 0) then bif decide (Int.tmod a1 a2 < 0) then kit_Pick_rt (w64 (Int.tmod a1 a2 + a2)) else kit_Pick_rt (Int.tmod a1 a2) else none
noncomputable def kit_Pick (n : Nat) (a1 : Int) (a2 : Int) : Option kit_Pick_R := kit_Pick_F n a1 a2 
noncomputable def kit_Pick_jf (n : Nat) : List Nat → Nat → AT → AS → Option kit_Pick_R := fun ms key T s => none
noncomputable def kit_Pick_lf (n : Nat) : List Nat → Nat → AT → AS → Option kit_Pick_R := fun ms key T s => none
noncomputable def kit_Pick_E (n : Nat)   : SE kit_Pick_R := kit_Pick_E0 n kit_Pick_R   (kit_Pick_jf n) (kit_Pick_lf n)
theorem kit_Pick_eq (n : Nat) (a1 : Int) (a2 : Int) : sxF cfg0 kd kit_Pick_kr (kit_Pick_E n  ) Try.f18 (bodyOf Try.f18) [] [.i .i64 a1, .i .i64 a2] kit_Pick_ret = kit_Pick n a1 a2 := by kernel_rfl
theorem kit_Pick_pv (n : Nat) (r : kit_Pick_R) : PV cfg0 kd (kit_Pick_E n  ) r [] (bodyOf Try.f18) (retK cfg0 kd kit_Pick_kr (kit_Pick_E n  ) Try.f18.results.toList kit_Pick_ret) := by
  exact PV.triv (by kernel_rfl)
noncomputable def kit_Pick_ct (n : Nat) (vs : List AV) (h : AH) : Option Ctr := match vs, h with
  | [.i .i64 a1, .i .i64 a2], [] => some (.one kit_Pick_R (kit_Pick n   a1 a2) [] 0 kit_Pick_out)
  | _, _ => none
theorem kit_Pick_ok (n : Nat) : COk1 cfg0 18 (kit_Pick_ct n) := by
  intro vs h c e
  unfold kit_Pick_ct at e
  split at e
  · rename_i a1 a2
    cases e
    exact fun r hm => sxF_ok (E := kit_Pick_E n  ) (nx1 := kit_Pick_nx) (kit_Pick_fn) rfl rfl rfl (callA_ok (kit_Pick_pre_ok n)) kit_Pick_ret_ok rfl (kit_Pick_pv n   _) ((kit_Pick_eq n   a1 a2).trans hm)
  · cases e
end
end Go.Ev
end
section
set_option linter.unusedVariables false
set_option linter.unusedSimpArgs false
set_option maxRecDepth 100000
set_option maxHeartbeats 400000
namespace Go.Ev
open Go.RowKit Go.Proofs
section
theorem kit_Same_api_Finding_fn : cfg0.fn 19 = some Try.f19 := rfl
abbrev kit_Same_api_Finding_R : Type := Bool
@[reducible] def kit_Same_api_Finding_rt (b0 : Bool) : Option kit_Same_api_Finding_R := some b0
noncomputable def kit_Same_api_Finding_out : kit_Same_api_Finding_R → AV × AH
  | b0 => ((.b b0), [])
noncomputable def kit_Same_api_Finding_nx : kit_Same_api_Finding_R → Nat
  | _ => 2
noncomputable def kit_Same_api_Finding_ret (v : AV) (h : AH) (nx : Nat) : Option kit_Same_api_Finding_R := match v, h, nx with
  | (.b b0), [], 2 => some b0
  | _, _, _ => none
theorem kit_Same_api_Finding_ret_ok (v : AV) (h : AH) (nx : Nat) (r : kit_Same_api_Finding_R) (e : kit_Same_api_Finding_ret v h nx = some r) : kit_Same_api_Finding_out r = (v, h) ∧ nx = kit_Same_api_Finding_nx r := by
  unfold kit_Same_api_Finding_ret at e
  split at e
  · cases e; exact ⟨rfl, rfl⟩
  · cases e
noncomputable def kit_Same_api_Finding_kr : KN := []
noncomputable def kit_Same_api_Finding_pre (n : Nat) : CT := ctZ
theorem kit_Same_api_Finding_pre_ok (n : Nat) : COk cfg0 (kit_Same_api_Finding_pre n) := ctZ_ok
noncomputable def kit_Same_api_Finding_E0 (n : Nat) (R : Type) (o1 : Nat) (f1 : Nat × Nat) (o2 : Nat) (f2 : Nat × Nat) (a1 : List Fnd) (a2 : List Fnd) (jf lf : List Nat → Nat → AT → AS → Option R) : SE R := ⟨[(0, (.row .fnd o1 a1 32 f1)), (1, (.row .fnd o2 a2 32 f2))], Try.f19.ntmps, 2, callA cfg0 kd [(0, (.row .fnd o1 a1 32 f1)), (1, (.row .fnd o2 a2 32 f2))] (kit_Same_api_Finding_pre n), n, [(5, ([0, 1, 5], 0))], [], [], [], jf, lf⟩
noncomputable def kit_Same_api_Finding_L5F (n : Nat) (a1 : List Fnd) (a2 : List Fnd) (r5 : (Int → Option kit_Same_api_Finding_R))  (x0 : Int) : Option kit_Same_api_Finding_R := bif decide (x0 < (↑(List.length a1) : Int)) then bif decide (0 ≤ x0) && decide (Int.toNat x0 < List.length a1) then Option.bind a1[Int.toNat x0]? fun z => bif decide (0 ≤ x0) && decide (Int.toNat x0 < List.length a2) then Option.bind a2[Int.toNat x0]? fun z_1 => bif !(decide (z.kind = z_1.kind) && (decide (z.page = z_1.page) && (decide (z.other = z_1.other) && true))) then kit_Same_api_Finding_rt false else r5 (w64 (x0 + 1)) else none else none else kit_Same_api_Finding_rt true
noncomputable def kit_Same_api_Finding_L5 (n : Nat) (a1 : List Fnd) (a2 : List Fnd)  : Nat → Int → Option kit_Same_api_Finding_R
  | 0, _ => none
  | m + 1, x0 => kit_Same_api_Finding_L5F n a1 a2  (kit_Same_api_Finding_L5 n a1 a2  m)  x0
noncomputable def kit_Same_api_Finding_F (n : Nat) (a1 : List Fnd) (a2 : List Fnd)  (l5 : (Int → Option kit_Same_api_Finding_R)) : Option kit_Same_api_Finding_R := bif decide ((↑(List.length a1) : Int) ≠ (↑(List.length a2) : Int)) then kit_Same_api_Finding_rt false else l5 0
noncomputable def kit_Same_api_Finding (n : Nat) (a1 : List Fnd) (a2 : List Fnd)  : Option kit_Same_api_Finding_R := kit_Same_api_Finding_F n a1 a2  (kit_Same_api_Finding_L5 n a1 a2 n)
noncomputable def kit_Same_api_Finding_L5q (n : Nat) (a1 : List Fnd) (a2 : List Fnd) (m5 : Nat) (T : AT) (s : AS) : Option kit_Same_api_Finding_R := match T, s with
  | [(0, (.sl 0 3)), (1, (.sl 1 3)), (5, (.i .i64 x0))], ⟨[], 2, []⟩ => kit_Same_api_Finding_L5 n a1 a2  m5 x0
  | _, _ => none
noncomputable def kit_Same_api_Finding_jf (n : Nat) (a1 : List Fnd) (a2 : List Fnd) : List Nat → Nat → AT → AS → Option kit_Same_api_Finding_R := fun ms key T s => none
noncomputable def kit_Same_api_Finding_lf (n : Nat) (a1 : List Fnd) (a2 : List Fnd) : List Nat → Nat → AT → AS → Option kit_Same_api_Finding_R := fun ms key T s => cond (Nat.beq key 5) (match ms with | [m5] => kit_Same_api_Finding_L5q n a1 a2 m5 T s | _ => none) (none)
noncomputable def kit_Same_api_Finding_E (n : Nat) (o1 : Nat) (f1 : Nat × Nat) (o2 : Nat) (f2 : Nat × Nat) (a1 : List Fnd) (a2 : List Fnd) : SE kit_Same_api_Finding_R := kit_Same_api_Finding_E0 n kit_Same_api_Finding_R o1 f1 o2 f2 a1 a2 (kit_Same_api_Finding_jf n a1 a2) (kit_Same_api_Finding_lf n a1 a2)
theorem kit_Same_api_Finding_eq (n : Nat) (o1 : Nat) (f1 : Nat × Nat) (o2 : Nat) (f2 : Nat × Nat) (a1 : List Fnd) (a2 : List Fnd) : sxF cfg0 kd kit_Same_api_Finding_kr (kit_Same_api_Finding_E n o1 f1 o2 f2 a1 a2) Try.f19 (bodyOf Try.f19) [] [.sl 0 3, .sl 1 3] kit_Same_api_Finding_ret = kit_Same_api_Finding n a1 a2  := by kernel_rfl
theorem kit_Same_api_Finding_pv (n : Nat) (o1 : Nat) (f1 : Nat × Nat) (o2 : Nat) (f2 : Nat × Nat) (a1 : List Fnd) (a2 : List Fnd) (r : kit_Same_api_Finding_R) : PV cfg0 kd (kit_Same_api_Finding_E n o1 f1 o2 f2 a1 a2) r [] (bodyOf Try.f19) (retK cfg0 kd kit_Same_api_Finding_kr (kit_Same_api_Finding_E n o1 f1 o2 f2 a1 a2) Try.f19.results.toList kit_Same_api_Finding_ret) := by
  refine PV.sn (by kernel_rfl) ?_ ?_
  ·
    refine PV.sn (by kernel_rfl) ?_ ?_
    ·
      refine PV.sn (by kernel_rfl) ?_ ?_
      ·
        exact PV.triv (by kernel_rfl)
      ·
        refine PV.sn (by kernel_rfl) ?_ ?_
        ·
          refine PV.bl ?_
          refine PV.lp (live := [0, 1, 5]) (by kernel_rfl) ?_ ?_ ?_
          · intro T s h; change kit_Same_api_Finding_L5q n a1 a2 0 _ _ = some r at h; unfold kit_Same_api_Finding_L5q at h; split at h
            · exact nomatch (show (none : Option kit_Same_api_Finding_R) = some r from h)
            · cases h
          · intro m5 T s h; change kit_Same_api_Finding_L5q n a1 a2 (m5 + 1) _ _ = some r at h; unfold kit_Same_api_Finding_L5q at h; split at h
            · exact Eq.trans (by kernel_rfl) h
            · cases h
          · intro m5
            exact PV.triv (by kernel_rfl)
        ·
          exact PV.triv (by kernel_rfl)
    ·
      exact PV.triv (by kernel_rfl)
  ·
    exact PV.triv (by kernel_rfl)
noncomputable def kit_Same_api_Finding_ct (n : Nat) (vs : List AV) (h : AH) : Option Ctr := match vs, h with
  | [.sl 0 3, .sl 1 3], [(0, (.row .fnd o1 a1 32 f1)), (1, (.row .fnd o2 a2 32 f2))] => some (.one kit_Same_api_Finding_R (kit_Same_api_Finding n  a1 a2 ) [] 0 kit_Same_api_Finding_out)
  | _, _ => none
theorem kit_Same_api_Finding_ok (n : Nat) : COk1 cfg0 19 (kit_Same_api_Finding_ct n) := by
  intro vs h c e
  unfold kit_Same_api_Finding_ct at e
  split at e
  · rename_i o1 a1 f1 o2 a2 f2
    cases e
    exact fun r hm => sxF_ok (E := kit_Same_api_Finding_E n o1 f1 o2 f2 a1 a2) (nx1 := kit_Same_api_Finding_nx) (kit_Same_api_Finding_fn) rfl rfl rfl (callA_ok (kit_Same_api_Finding_pre_ok n)) kit_Same_api_Finding_ret_ok rfl (kit_Same_api_Finding_pv n o1 f1 o2 f2 a1 a2 _) ((kit_Same_api_Finding_eq n o1 f1 o2 f2 a1 a2 ).trans hm)
  · cases e
end
end Go.Ev
end
section
set_option linter.unusedVariables false
set_option linter.unusedSimpArgs false
set_option maxRecDepth 100000
set_option maxHeartbeats 400000
namespace Go.Ev
open Go.RowKit Go.Proofs
section
theorem law20_SpaceRest_fn : cfg0.fn 3 = some Try.f3 := rfl
abbrev law20_SpaceRest_R : Type := Bool
@[reducible] def law20_SpaceRest_rt (b0 : Bool) : Option law20_SpaceRest_R := some b0
noncomputable def law20_SpaceRest_out : law20_SpaceRest_R → AV × AH
  | b0 => ((.b b0), [])
noncomputable def law20_SpaceRest_nx : law20_SpaceRest_R → Nat
  | _ => 1
noncomputable def law20_SpaceRest_ret (v : AV) (h : AH) (nx : Nat) : Option law20_SpaceRest_R := match v, h, nx with
  | (.b b0), [], 1 => some b0
  | _, _, _ => none
theorem law20_SpaceRest_ret_ok (v : AV) (h : AH) (nx : Nat) (r : law20_SpaceRest_R) (e : law20_SpaceRest_ret v h nx = some r) : law20_SpaceRest_out r = (v, h) ∧ nx = law20_SpaceRest_nx r := by
  unfold law20_SpaceRest_ret at e
  split at e
  · cases e; exact ⟨rfl, rfl⟩
  · cases e
noncomputable def law20_SpaceRest_kr : KN := []
noncomputable def law20_SpaceRest_pre (n : Nat) : CT := (ctA 14 (law20_lives_ct n) (ctA 15 (space_Rest_ct n) (ctA 16 (space_Parted_ct n) (ctA 17 (kit_Own_uint32_ct n) (ctA 18 (kit_Pick_ct n) (ctA 19 (kit_Same_api_Finding_ct n) ctZ))))))
theorem law20_SpaceRest_pre_ok (n : Nat) : COk cfg0 (law20_SpaceRest_pre n) := (ctA_ok (law20_lives_ok n) (ctA_ok (space_Rest_ok n) (ctA_ok (space_Parted_ok n) (ctA_ok (kit_Own_uint32_ok n) (ctA_ok (kit_Pick_ok n) (ctA_ok (kit_Same_api_Finding_ok n) ctZ_ok))))))
noncomputable def law20_SpaceRest_E0 (n : Nat) (R : Type) (o1 : Nat) (a2 : List Nat) (jf lf : List Nat → Nat → AT → AS → Option R) : SE R := ⟨[(0, (.row .u32 o1 a2 28 (1, 0)))], Try.f3.ntmps, 1, callA cfg0 kd [(0, (.row .u32 o1 a2 28 (1, 0)))] (law20_SpaceRest_pre n), n, [(15, ([0, 7, 10], 0))], [(6, [0, 1, 2]), (9, [0, 1, 2, 7]), (14, [0, 7])], [((77777, 7), (.u32, 0))], [], jf, lf⟩
noncomputable def law20_SpaceRest_L15F (n : Nat) (a2 : List Nat) (r15 : (Int → Int → List Nat → Option law20_SpaceRest_R))  (x0 : Int) (x1 : Int) (x2 : List Nat) : Option law20_SpaceRest_R := bif decide (x1 < (↑(List.length x2) : Int)) then bif decide (0 ≤ x1) && decide (Int.toNat x1 < List.length x2) then Option.bind x2[Int.toNat x1]? fun z => bif decide (z < (2 : Nat)) then law20_SpaceRest_rt false else bif decide (0 ≤ x1) && decide (Int.toNat x1 < List.length x2) then Option.bind x2[Int.toNat x1]? fun z_1 => bif decide (x0 ≤ w64 (↑z_1 : Int)) then law20_SpaceRest_rt false else bif decide (0 < x1) then bif decide (0 ≤ w64 (x1 - 1)) && decide (Int.toNat (w64 (x1 - 1)) < List.length x2) then Option.bind x2[Int.toNat (w64 (x1 - 1))]? fun z_2 => bif decide (0 ≤ x1) && decide (Int.toNat x1 < List.length x2) then Option.bind x2[Int.toNat x1]? fun z_3 => bif decide (z_3 ≤ z_2) then law20_SpaceRest_rt false else r15 x0 (w64 (x1 + 1)) x2 else none else none else r15 x0 (w64 (x1 + 1)) x2 else none else none else law20_SpaceRest_rt true
noncomputable def law20_SpaceRest_L15 (n : Nat) (a2 : List Nat)  : Nat → Int → Int → List Nat → Option law20_SpaceRest_R
  | 0, _, _, _ => none
  | m + 1, x0, x1, x2 => law20_SpaceRest_L15F n a2  (law20_SpaceRest_L15 n a2  m)  x0 x1 x2
noncomputable def law20_SpaceRest_J14F (n : Nat) (a2 : List Nat)  (l15 : (Int → Int → List Nat → Option law20_SpaceRest_R)) (x0 : Int) (x1 : List Nat) : Option law20_SpaceRest_R := l15 x0 0 x1
noncomputable def law20_SpaceRest_J14 (n : Nat) (a2 : List Nat)  (x0 : Int) (x1 : List Nat) : Option law20_SpaceRest_R := law20_SpaceRest_J14F n a2  (law20_SpaceRest_L15 n a2  n) x0 x1
noncomputable def law20_SpaceRest_J9F (n : Nat) (a2 : List Nat)  (j14 : (Int → List Nat → Option law20_SpaceRest_R)) (x0 : Int) (x1 : Int) (x2 : List Nat) : Option law20_SpaceRest_R := bif decide (0 < (↑(List.length x2) : Int)) then Option.bind (kit_Pick n x1 (↑(List.length x2) : Int)) fun z => bif decide (0 ≤ z) && decide (Int.toNat z ≤ List.length x2) then Option.bind (kit_Own_uint32 n (List.take (Int.toNat z) x2)) fun z_1 => bif decide (0 ≤ w64 (z + 1)) && decide (Int.toNat (w64 (z + 1)) ≤ List.length x2) then bif Nat.ble (List.length z_1 + List.length (List.drop (Int.toNat (w64 (z + 1))) x2)) 100000000 then Option.bind (space_Parted n a2 [] (z_1 ++ List.drop (Int.toNat (w64 (z + 1))) x2) x0) fun z_2 => bif decide (0 ≤ z) && decide (Int.toNat z < List.length x2) then Option.bind x2[Int.toNat z]? fun z_3 => Option.bind (kit_Same_api_Finding n z_2 [Fnd.mk 16 z_3 ((0 : Nat))]) fun z_4 => bif !z_4 then law20_SpaceRest_rt false else Option.bind (kit_Own_uint32 n a2) fun z_5 => bif decide (0 ≤ z) && decide (Int.toNat z < List.length x2) then Option.bind x2[Int.toNat z]? fun z_6 => bif Nat.ble (List.length z_5 + List.length [z_6]) 100000000 then Option.bind (space_Parted n (z_5 ++ [z_6]) [] x2 x0) fun z_7 => bif decide (0 ≤ z) && decide (Int.toNat z < List.length x2) then Option.bind x2[Int.toNat z]? fun z_8 => Option.bind (kit_Same_api_Finding n z_7 [Fnd.mk 15 z_8 ((0 : Nat))]) fun z_9 => bif !z_9 then law20_SpaceRest_rt false else j14 x0 x2 else none else none else none else none else none else none else none else j14 x0 x2
noncomputable def law20_SpaceRest_J9 (n : Nat) (a2 : List Nat)  (x0 : Int) (x1 : Int) (x2 : List Nat) : Option law20_SpaceRest_R := law20_SpaceRest_J9F n a2  (law20_SpaceRest_J14 n a2 ) x0 x1 x2
noncomputable def law20_SpaceRest_J6F (n : Nat) (a2 : List Nat)  (j9 : (Int → Int → List Nat → Option law20_SpaceRest_R)) (x0 : Int) (x1 : Int) : Option law20_SpaceRest_R := Option.bind (space_Rest n a2 x0) fun z => Option.bind (space_Parted n a2 [] z x0) fun z_1 => bif decide ((↑(List.length z_1) : Int) ≠ 0) then law20_SpaceRest_rt false else Option.bind (kit_Own_uint32 n a2) fun z_2 => Option.bind (space_Parted n [] z_2 z x0) fun z_3 => bif decide ((↑(List.length z_3) : Int) ≠ 0) then law20_SpaceRest_rt false else j9 x0 x1 z
noncomputable def law20_SpaceRest_J6 (n : Nat) (a2 : List Nat)  (x0 : Int) (x1 : Int) : Option law20_SpaceRest_R := law20_SpaceRest_J6F n a2  (law20_SpaceRest_J9 n a2 ) x0 x1
noncomputable def law20_SpaceRest_F (n : Nat) (a2 : List Nat) (a1 : Int) (a3 : Int) (j6 : (Int → Int → Option law20_SpaceRest_R)) : Option law20_SpaceRest_R := Option.bind (law20_lives n) fun z => bif !z then law20_SpaceRest_rt false else bif decide (a1 < 0) then law20_SpaceRest_rt true else bif decide (500 < a1) then law20_SpaceRest_rt true else bif decide (200 < (↑(List.length a2) : Int)) then law20_SpaceRest_rt true else j6 a1 a3
noncomputable def law20_SpaceRest (n : Nat) (a2 : List Nat) (a1 : Int) (a3 : Int) : Option law20_SpaceRest_R := law20_SpaceRest_F n a2 a1 a3 (law20_SpaceRest_J6 n a2)
noncomputable def law20_SpaceRest_L15q (n : Nat) (a2 : List Nat) (m15 : Nat) (T : AT) (s : AS) : Option law20_SpaceRest_R := match T, s with
  | [(0, (.i .i64 x0)), (7, (.sl 1 1)), (10, (.i .i64 x1))], ⟨[(1, (.row .u32 0 x2 28 (1, 0)))], 2, []⟩ => law20_SpaceRest_L15 n a2  m15 x0 x1 x2
  | _, _ => none
noncomputable def law20_SpaceRest_J14q (n : Nat) (a2 : List Nat)  (T : AT) (s : AS) : Option law20_SpaceRest_R := match T, s with
  | [(0, (.i .i64 x0)), (7, (.sl 1 1))], ⟨[(1, (.row .u32 0 x1 28 (1, 0)))], 2, []⟩ => law20_SpaceRest_J14 n a2  x0 x1
  | _, _ => none
noncomputable def law20_SpaceRest_J9q (n : Nat) (a2 : List Nat)  (T : AT) (s : AS) : Option law20_SpaceRest_R := match T, s with
  | [(0, (.i .i64 x0)), (1, (.sl 0 1)), (2, (.i .i64 x1)), (7, (.sl 1 1))], ⟨[(1, (.row .u32 0 x2 28 (1, 0)))], 2, []⟩ => law20_SpaceRest_J9 n a2  x0 x1 x2
  | _, _ => none
noncomputable def law20_SpaceRest_J6q (n : Nat) (a2 : List Nat)  (T : AT) (s : AS) : Option law20_SpaceRest_R := match T, s with
  | [(0, (.i .i64 x0)), (1, (.sl 0 1)), (2, (.i .i64 x1))], ⟨[], 1, []⟩ => law20_SpaceRest_J6 n a2  x0 x1
  | _, _ => none
noncomputable def law20_SpaceRest_jf (n : Nat) (a2 : List Nat) : List Nat → Nat → AT → AS → Option law20_SpaceRest_R := fun ms key T s => cond (Nat.beq key 14) (match ms with | [] => law20_SpaceRest_J14q n a2  T s | _ => none) (cond (Nat.beq key 9) (match ms with | [] => law20_SpaceRest_J9q n a2  T s | _ => none) (cond (Nat.beq key 6) (match ms with | [] => law20_SpaceRest_J6q n a2  T s | _ => none) (none)))
noncomputable def law20_SpaceRest_lf (n : Nat) (a2 : List Nat) : List Nat → Nat → AT → AS → Option law20_SpaceRest_R := fun ms key T s => cond (Nat.beq key 15) (match ms with | [m15] => law20_SpaceRest_L15q n a2 m15 T s | _ => none) (none)
noncomputable def law20_SpaceRest_E (n : Nat) (o1 : Nat) (a2 : List Nat) : SE law20_SpaceRest_R := law20_SpaceRest_E0 n law20_SpaceRest_R o1 a2 (law20_SpaceRest_jf n a2) (law20_SpaceRest_lf n a2)
theorem law20_SpaceRest_eq (n : Nat) (o1 : Nat) (a2 : List Nat) (a1 : Int) (a3 : Int) : sxF cfg0 kd law20_SpaceRest_kr (law20_SpaceRest_E n o1 a2) Try.f3 (bodyOf Try.f3) [] [.i .i64 a1, .sl 0 1, .i .i64 a3] law20_SpaceRest_ret = law20_SpaceRest n a2 a1 a3 := by kernel_rfl
theorem law20_SpaceRest_pv (n : Nat) (o1 : Nat) (a2 : List Nat) (r : law20_SpaceRest_R) : PV cfg0 kd (law20_SpaceRest_E n o1 a2) r [] (bodyOf Try.f3) (retK cfg0 kd law20_SpaceRest_kr (law20_SpaceRest_E n o1 a2) Try.f3.results.toList law20_SpaceRest_ret) := by
  refine PV.sn (by kernel_rfl) ?_ ?_
  ·
    refine PV.sn (by kernel_rfl) ?_ ?_
    ·
      refine PV.sj (live := [0, 1, 2]) (by kernel_rfl) ?_ ?_ ?_
      · intro T s h; change law20_SpaceRest_J6q n a2  _ _ = some r at h; unfold law20_SpaceRest_J6q at h; split at h
        · exact Eq.trans (by kernel_rfl) h
        · cases h
      ·
        refine PV.sn (by kernel_rfl) ?_ ?_
        ·
          refine PV.sj (live := [0, 1, 2, 7]) (by kernel_rfl) ?_ ?_ ?_
          · intro T s h; change law20_SpaceRest_J9q n a2  _ _ = some r at h; unfold law20_SpaceRest_J9q at h; split at h
            · exact Eq.trans (by kernel_rfl) h
            · cases h
          ·
            refine PV.sj (live := [0, 7]) (by kernel_rfl) ?_ ?_ ?_
            · intro T s h; change law20_SpaceRest_J14q n a2  _ _ = some r at h; unfold law20_SpaceRest_J14q at h; split at h
              · exact Eq.trans (by kernel_rfl) h
              · cases h
            ·
              refine PV.sn (by kernel_rfl) ?_ ?_
              ·
                exact PV.triv (by kernel_rfl)
              ·
                refine PV.sn (by kernel_rfl) ?_ ?_
                ·
                  refine PV.bl ?_
                  refine PV.lp (live := [0, 7, 10]) (by kernel_rfl) ?_ ?_ ?_
                  · intro T s h; change law20_SpaceRest_L15q n a2 0 _ _ = some r at h; unfold law20_SpaceRest_L15q at h; split at h
                    · exact nomatch (show (none : Option law20_SpaceRest_R) = some r from h)
                    · cases h
                  · intro m15 T s h; change law20_SpaceRest_L15q n a2 (m15 + 1) _ _ = some r at h; unfold law20_SpaceRest_L15q at h; split at h
                    · exact Eq.trans (by kernel_rfl) h
                    · cases h
                  · intro m15
                    exact PV.triv (by kernel_rfl)
                ·
                  exact PV.triv (by kernel_rfl)
            ·
              exact PV.triv (by kernel_rfl)
          ·
            exact PV.triv (by kernel_rfl)
        ·
          exact PV.triv (by kernel_rfl)
      ·
        exact PV.triv (by kernel_rfl)
    ·
      exact PV.triv (by kernel_rfl)
  ·
    exact PV.triv (by kernel_rfl)
noncomputable def law20_SpaceRest_ct (n : Nat) (vs : List AV) (h : AH) : Option Ctr := match vs, h with
  | [.i .i64 a1, .sl 0 1, .i .i64 a3], [(0, (.row .u32 o1 a2 28 (1, 0)))] => some (.one law20_SpaceRest_R (law20_SpaceRest n  a2 a1 a3) [] 0 law20_SpaceRest_out)
  | _, _ => none
theorem law20_SpaceRest_ok (n : Nat) : COk1 cfg0 3 (law20_SpaceRest_ct n) := by
  intro vs h c e
  unfold law20_SpaceRest_ct at e
  split at e
  · rename_i a1 a3 o1 a2
    cases e
    exact fun r hm => sxF_ok (E := law20_SpaceRest_E n o1 a2) (nx1 := law20_SpaceRest_nx) (law20_SpaceRest_fn) rfl rfl rfl (callA_ok (law20_SpaceRest_pre_ok n)) law20_SpaceRest_ret_ok rfl (law20_SpaceRest_pv n o1 a2 _) ((law20_SpaceRest_eq n o1 a2 a1 a3).trans hm)
  · cases e
end
end Go.Ev
end