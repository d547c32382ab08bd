/- Words of my own, printed by a program of mine. -/
import Derived.Test.YtmnpchmdgobcnaaDTab
section
set_option linter.unusedVariables false
set_option linter.unusedSimpArgs false
set_option maxRecDepth 100000
set_option maxHeartbeats 400000
namespace Go.Ev
open Go.RowKit Go.Proofs
section
theorem leaf_value_size_fn : cfg0.fn 70 = some Try.f70 := rfl
abbrev leaf_value_size_R : Type := Int
@[reducible] def leaf_value_size_rt (b0 : Int) : Option leaf_value_size_R := some b0
noncomputable def leaf_value_size_out : leaf_value_size_R → AV × AH
  | b0 => ((.i .i64 b0), [])
noncomputable def leaf_value_size_nx : leaf_value_size_R → Nat
  | _ => 0
noncomputable def leaf_value_size_ret (v : AV) (h : AH) (nx : Nat) : Option leaf_value_size_R := match v, h, nx with
  | (.i .i64 b0), [], 0 => some b0
  | _, _, _ => none
theorem leaf_value_size_ret_ok (v : AV) (h : AH) (nx : Nat) (r : leaf_value_size_R) (e : leaf_value_size_ret v h nx = some r) : leaf_value_size_out r = (v, h) ∧ nx = leaf_value_size_nx r := by
  unfold leaf_value_size_ret at e
  split at e
  · cases e; exact ⟨rfl, rfl⟩
  · cases e
noncomputable def leaf_value_size_kr : KN := []
noncomputable def leaf_value_size_pre (n : Nat) : CT := ctZ
theorem leaf_value_size_pre_ok (n : Nat) : COk cfg0 (leaf_value_size_pre n) := ctZ_ok
noncomputable def leaf_value_size_E0 (n : Nat) (R : Type)   (jf lf : List Nat → Nat → AT → AS → Option R) : SE R := ⟨[], Try.f70.ntmps, 0, callA cfg0 kd [] (leaf_value_size_pre n), n, [], [], [], [], jf, lf⟩
noncomputable def leaf_value_size_F (n : Nat) (a1 : Item)  : Option leaf_value_size_R := bif a1.over then leaf_value_size_rt 8 else leaf_value_size_rt (w64 (1 + (↑(List.length a1.value) : Int)))
noncomputable def leaf_value_size (n : Nat) (a1 : Item) : Option leaf_value_size_R := leaf_value_size_F n a1 
noncomputable def leaf_value_size_jf (n : Nat) : List Nat → Nat → AT → AS → Option leaf_value_size_R := fun ms key T s => none
noncomputable def leaf_value_size_lf (n : Nat) : List Nat → Nat → AT → AS → Option leaf_value_size_R := fun ms key T s => none
noncomputable def leaf_value_size_E (n : Nat)   : SE leaf_value_size_R := leaf_value_size_E0 n leaf_value_size_R   (leaf_value_size_jf n) (leaf_value_size_lf n)
theorem leaf_value_size_eq (n : Nat) (a1 : Item) : sxF cfg0 kd leaf_value_size_kr (leaf_value_size_E n  ) Try.f70 (bodyOf Try.f70) [] [.ag (RK.k .item a1)] leaf_value_size_ret = leaf_value_size n a1 := by kernel_rfl
theorem leaf_value_size_pv (n : Nat) (r : leaf_value_size_R) : PV cfg0 kd (leaf_value_size_E n  ) r [] (bodyOf Try.f70) (retK cfg0 kd leaf_value_size_kr (leaf_value_size_E n  ) Try.f70.results.toList leaf_value_size_ret) := by
  exact PV.triv (by kernel_rfl)
noncomputable def leaf_value_size_ct (n : Nat) (vs : List AV) (h : AH) : Option Ctr := match vs, h with
  | [.ag [.s a1_0, .s a1_1, .b a1_2, .i .i64 a1_3, .n .u32 a1_4]], [] => some (.one leaf_value_size_R (leaf_value_size n   ⟨a1_0, a1_1, a1_2, a1_3, a1_4⟩) [] 0 leaf_value_size_out)
  | _, _ => none
theorem leaf_value_size_ok (n : Nat) : COk1 cfg0 70 (leaf_value_size_ct n) := by
  intro vs h c e
  unfold leaf_value_size_ct at e
  split at e
  · rename_i a1_0 a1_1 a1_2 a1_3 a1_4
    cases e
    exact fun r hm => sxF_ok (E := leaf_value_size_E n  ) (nx1 := leaf_value_size_nx) (leaf_value_size_fn) rfl rfl rfl (callA_ok (leaf_value_size_pre_ok n)) leaf_value_size_ret_ok rfl (leaf_value_size_pv n   _) ((leaf_value_size_eq n   ⟨a1_0, a1_1, a1_2, a1_3, a1_4⟩).trans hm)
  · cases e
end
end Go.Ev
end
section
set_option linter.unusedVariables false
set_option linter.unusedSimpArgs false
set_option maxRecDepth 100000
set_option maxHeartbeats 400000
namespace Go.Ev
open Go.RowKit Go.Proofs
section
theorem leaf_Size_fn : cfg0.fn 20 = some Try.f20 := rfl
abbrev leaf_Size_R : Type := Int
@[reducible] def leaf_Size_rt (b0 : Int) : Option leaf_Size_R := some b0
noncomputable def leaf_Size_out : leaf_Size_R → AV × AH
  | b0 => ((.i .i64 b0), [])
noncomputable def leaf_Size_nx : leaf_Size_R → Nat
  | _ => 1
noncomputable def leaf_Size_ret (v : AV) (h : AH) (nx : Nat) : Option leaf_Size_R := match v, h, nx with
  | (.i .i64 b0), [], 1 => some b0
  | _, _, _ => none
theorem leaf_Size_ret_ok (v : AV) (h : AH) (nx : Nat) (r : leaf_Size_R) (e : leaf_Size_ret v h nx = some r) : leaf_Size_out r = (v, h) ∧ nx = leaf_Size_nx r := by
  unfold leaf_Size_ret at e
  split at e
  · cases e; exact ⟨rfl, rfl⟩
  · cases e
noncomputable def leaf_Size_kr : KN := []
noncomputable def leaf_Size_pre (n : Nat) : CT := (ctA 70 (leaf_value_size_ct n) ctZ)
theorem leaf_Size_pre_ok (n : Nat) : COk cfg0 (leaf_Size_pre n) := (ctA_ok (leaf_value_size_ok n) ctZ_ok)
noncomputable def leaf_Size_E0 (n : Nat) (R : Type) (o1 : Nat) (f1 : Nat × Nat) (a1 : List Item) (jf lf : List Nat → Nat → AT → AS → Option R) : SE R := ⟨[(0, (.row .item o1 a1 35 f1))], Try.f20.ntmps, 1, callA cfg0 kd [(0, (.row .item o1 a1 35 f1))] (leaf_Size_pre n), n, [(3, ([2, 5, 6, 7], 0))], [], [], [], jf, lf⟩
noncomputable def leaf_Size_L3F (n : Nat) (a1 : List Item) (r3 : (Int → Int → Int → Option leaf_Size_R))  (x0 : Int) (x1 : Int) (x2 : Int) : Option leaf_Size_R := bif decide (x2 < x1) then bif decide (0 ≤ x2) && decide (Int.toNat x2 < List.length a1) then Option.bind a1[Int.toNat x2]? fun z => Option.bind (leaf_value_size n (Item.mk z.key z.value z.over z.len z.head)) fun z_1 => r3 (w64 (x0 + w64 (w64 (2 + (↑(List.length z.key) : Int)) + z_1))) x1 (w64 (x2 + 1)) else none else leaf_Size_rt x0
noncomputable def leaf_Size_L3 (n : Nat) (a1 : List Item)  : Nat → Int → Int → Int → Option leaf_Size_R
  | 0, _, _, _ => none
  | m + 1, x0, x1, x2 => leaf_Size_L3F n a1  (leaf_Size_L3 n a1  m)  x0 x1 x2
noncomputable def leaf_Size_F (n : Nat) (a1 : List Item)  (l3 : (Int → Int → Int → Option leaf_Size_R)) : Option leaf_Size_R := l3 0 (↑(List.length a1) : Int) 0
noncomputable def leaf_Size (n : Nat) (a1 : List Item)  : Option leaf_Size_R := leaf_Size_F n a1  (leaf_Size_L3 n a1 n)
noncomputable def leaf_Size_L3q (n : Nat) (a1 : List Item) (m3 : Nat) (T : AT) (s : AS) : Option leaf_Size_R := match T, s with
  | [(2, (.i .i64 x0)), (5, (.sl 0 5)), (6, (.i .i64 x1)), (7, (.i .i64 x2))], ⟨[], 1, []⟩ => leaf_Size_L3 n a1  m3 x0 x1 x2
  | _, _ => none
noncomputable def leaf_Size_jf (n : Nat) (a1 : List Item) : List Nat → Nat → AT → AS → Option leaf_Size_R := fun ms key T s => none
noncomputable def leaf_Size_lf (n : Nat) (a1 : List Item) : List Nat → Nat → AT → AS → Option leaf_Size_R := fun ms key T s => cond (Nat.beq key 3) (match ms with | [m3] => leaf_Size_L3q n a1 m3 T s | _ => none) (none)
noncomputable def leaf_Size_E (n : Nat) (o1 : Nat) (f1 : Nat × Nat) (a1 : List Item) : SE leaf_Size_R := leaf_Size_E0 n leaf_Size_R o1 f1 a1 (leaf_Size_jf n a1) (leaf_Size_lf n a1)
theorem leaf_Size_eq (n : Nat) (o1 : Nat) (f1 : Nat × Nat) (a1 : List Item) : sxF cfg0 kd leaf_Size_kr (leaf_Size_E n o1 f1 a1) Try.f20 (bodyOf Try.f20) [] [.sl 0 5] leaf_Size_ret = leaf_Size n a1  := by kernel_rfl
theorem leaf_Size_pv (n : Nat) (o1 : Nat) (f1 : Nat × Nat) (a1 : List Item) (r : leaf_Size_R) : PV cfg0 kd (leaf_Size_E n o1 f1 a1) r [] (bodyOf Try.f20) (retK cfg0 kd leaf_Size_kr (leaf_Size_E n o1 f1 a1) Try.f20.results.toList leaf_Size_ret) := by
  refine PV.sn (by kernel_rfl) ?_ ?_
  ·
    refine PV.sn (by kernel_rfl) ?_ ?_
    ·
      exact PV.triv (by kernel_rfl)
    ·
      refine PV.sn (by kernel_rfl) ?_ ?_
      ·
        refine PV.bl ?_
        refine PV.lp (live := [2, 5, 6, 7]) (by kernel_rfl) ?_ ?_ ?_
        · intro T s h; change leaf_Size_L3q n a1 0 _ _ = some r at h; unfold leaf_Size_L3q at h; split at h
          · exact nomatch (show (none : Option leaf_Size_R) = some r from h)
          · cases h
        · intro m3 T s h; change leaf_Size_L3q n a1 (m3 + 1) _ _ = some r at h; unfold leaf_Size_L3q at h; split at h
          · exact Eq.trans (by kernel_rfl) h
          · cases h
        · intro m3
          exact PV.triv (by kernel_rfl)
      ·
        exact PV.triv (by kernel_rfl)
  ·
    exact PV.triv (by kernel_rfl)
noncomputable def leaf_Size_ct (n : Nat) (vs : List AV) (h : AH) : Option Ctr := match vs, h with
  | [.sl 0 5], [(0, (.row .item o1 a1 35 f1))] => some (.one leaf_Size_R (leaf_Size n  a1 ) [] 0 leaf_Size_out)
  | _, _ => none
theorem leaf_Size_ok (n : Nat) : COk1 cfg0 20 (leaf_Size_ct n) := by
  intro vs h c e
  unfold leaf_Size_ct at e
  split at e
  · rename_i o1 a1 f1
    cases e
    exact fun r hm => sxF_ok (E := leaf_Size_E n o1 f1 a1) (nx1 := leaf_Size_nx) (leaf_Size_fn) rfl rfl rfl (callA_ok (leaf_Size_pre_ok n)) leaf_Size_ret_ok rfl (leaf_Size_pv n o1 f1 a1 _) ((leaf_Size_eq n o1 f1 a1 ).trans hm)
  · cases e
end
end Go.Ev
end
section
set_option linter.unusedVariables false
set_option linter.unusedSimpArgs false
set_option maxRecDepth 100000
set_option maxHeartbeats 400000
namespace Go.Ev
open Go.RowKit Go.Proofs
section
theorem leaf_In_fn : cfg0.fn 33 = some Try.f33 := rfl
abbrev leaf_In_R : Type := Bool
@[reducible] def leaf_In_rt (b0 : Bool) : Option leaf_In_R := some b0
noncomputable def leaf_In_out : leaf_In_R → AV × AH
  | b0 => ((.b b0), [])
noncomputable def leaf_In_nx : leaf_In_R → Nat
  | _ => 0
noncomputable def leaf_In_ret (v : AV) (h : AH) (nx : Nat) : Option leaf_In_R := match v, h, nx with
  | (.b b0), [], 0 => some b0
  | _, _, _ => none
theorem leaf_In_ret_ok (v : AV) (h : AH) (nx : Nat) (r : leaf_In_R) (e : leaf_In_ret v h nx = some r) : leaf_In_out r = (v, h) ∧ nx = leaf_In_nx r := by
  unfold leaf_In_ret at e
  split at e
  · cases e; exact ⟨rfl, rfl⟩
  · cases e
noncomputable def leaf_In_kr : KN := []
noncomputable def leaf_In_pre (n : Nat) : CT := ctZ
theorem leaf_In_pre_ok (n : Nat) : COk cfg0 (leaf_In_pre n) := ctZ_ok
noncomputable def leaf_In_E0 (n : Nat) (R : Type)   (jf lf : List Nat → Nat → AT → AS → Option R) : SE R := ⟨[], Try.f33.ntmps, 0, callA cfg0 kd [] (leaf_In_pre n), n, [], [], [], [], jf, lf⟩
noncomputable def leaf_In_F (n : Nat) (a1 : Int) (a2 : Int)  : Option leaf_In_R := bif decide (0 ≤ a2) then leaf_In_rt (decide (a2 ≤ if 255 < w64 (Int.tdiv a1 8) then 255 else w64 (Int.tdiv a1 8))) else leaf_In_rt false
noncomputable def leaf_In (n : Nat) (a1 : Int) (a2 : Int) : Option leaf_In_R := leaf_In_F n a1 a2 
noncomputable def leaf_In_jf (n : Nat) : List Nat → Nat → AT → AS → Option leaf_In_R := fun ms key T s => none
noncomputable def leaf_In_lf (n : Nat) : List Nat → Nat → AT → AS → Option leaf_In_R := fun ms key T s => none
noncomputable def leaf_In_E (n : Nat)   : SE leaf_In_R := leaf_In_E0 n leaf_In_R   (leaf_In_jf n) (leaf_In_lf n)
theorem leaf_In_eq (n : Nat) (a1 : Int) (a2 : Int) : sxF cfg0 kd leaf_In_kr (leaf_In_E n  ) Try.f33 (bodyOf Try.f33) [] [.i .i64 a1, .i .i64 a2] leaf_In_ret = leaf_In n a1 a2 := by kernel_rfl
theorem leaf_In_pv (n : Nat) (r : leaf_In_R) : PV cfg0 kd (leaf_In_E n  ) r [] (bodyOf Try.f33) (retK cfg0 kd leaf_In_kr (leaf_In_E n  ) Try.f33.results.toList leaf_In_ret) := by
  exact PV.triv (by kernel_rfl)
noncomputable def leaf_In_ct (n : Nat) (vs : List AV) (h : AH) : Option Ctr := match vs, h with
  | [.i .i64 a1, .i .i64 a2], [] => some (.one leaf_In_R (leaf_In n   a1 a2) [] 0 leaf_In_out)
  | _, _ => none
theorem leaf_In_ok (n : Nat) : COk1 cfg0 33 (leaf_In_ct n) := by
  intro vs h c e
  unfold leaf_In_ct at e
  split at e
  · rename_i a1 a2
    cases e
    exact fun r hm => sxF_ok (E := leaf_In_E n  ) (nx1 := leaf_In_nx) (leaf_In_fn) rfl rfl rfl (callA_ok (leaf_In_pre_ok n)) leaf_In_ret_ok rfl (leaf_In_pv n   _) ((leaf_In_eq n   a1 a2).trans hm)
  · cases e
end
end Go.Ev
end
section
set_option linter.unusedVariables false
set_option linter.unusedSimpArgs false
set_option maxRecDepth 100000
set_option maxHeartbeats 400000
namespace Go.Ev
open Go.RowKit Go.Proofs
section
theorem law08_lives_fn : cfg0.fn 14 = some Try.f14 := rfl
abbrev law08_lives_R : Type := Bool
@[reducible] def law08_lives_rt (b0 : Bool) : Option law08_lives_R := some b0
noncomputable def law08_lives_out : law08_lives_R → AV × AH
  | b0 => ((.b b0), [])
noncomputable def law08_lives_nx : law08_lives_R → Nat
  | _ => 0
noncomputable def law08_lives_ret (v : AV) (h : AH) (nx : Nat) : Option law08_lives_R := match v, h, nx with
  | (.b b0), [], 0 => some b0
  | _, _, _ => none
theorem law08_lives_ret_ok (v : AV) (h : AH) (nx : Nat) (r : law08_lives_R) (e : law08_lives_ret v h nx = some r) : law08_lives_out r = (v, h) ∧ nx = law08_lives_nx r := by
  unfold law08_lives_ret at e
  split at e
  · cases e; exact ⟨rfl, rfl⟩
  · cases e
noncomputable def law08_lives_kr : KN := []
noncomputable def law08_lives_pre (n : Nat) : CT := (ctA 20 (leaf_Size_ct n) (ctA 33 (leaf_In_ct n) ctZ))
theorem law08_lives_pre_ok (n : Nat) : COk cfg0 (law08_lives_pre n) := (ctA_ok (leaf_Size_ok n) (ctA_ok (leaf_In_ok n) ctZ_ok))
noncomputable def law08_lives_E0 (n : Nat) (R : Type)   (jf lf : List Nat → Nat → AT → AS → Option R) : SE R := ⟨[], Try.f14.ntmps, 0, callA cfg0 kd [] (law08_lives_pre n), n, [], [], [], [], jf, lf⟩
noncomputable def law08_lives_F (n : Nat)   : Option law08_lives_R := Option.bind (leaf_Size n [Item.mk #[107].toList #[118].toList false 0 ((0 : Nat))]) fun z => bif decide (z = 5) then law08_lives_rt true else law08_lives_rt false
noncomputable def law08_lives (n : Nat)  : Option law08_lives_R := law08_lives_F n  
noncomputable def law08_lives_jf (n : Nat) : List Nat → Nat → AT → AS → Option law08_lives_R := fun ms key T s => none
noncomputable def law08_lives_lf (n : Nat) : List Nat → Nat → AT → AS → Option law08_lives_R := fun ms key T s => none
noncomputable def law08_lives_E (n : Nat)   : SE law08_lives_R := law08_lives_E0 n law08_lives_R   (law08_lives_jf n) (law08_lives_lf n)
theorem law08_lives_eq (n : Nat) : sxF cfg0 kd law08_lives_kr (law08_lives_E n  ) Try.f14 (bodyOf Try.f14) [] [] law08_lives_ret = law08_lives n  := by kernel_rfl
theorem law08_lives_pv (n : Nat) (r : law08_lives_R) : PV cfg0 kd (law08_lives_E n  ) r [] (bodyOf Try.f14) (retK cfg0 kd law08_lives_kr (law08_lives_E n  ) Try.f14.results.toList law08_lives_ret) := by
  exact PV.triv (by kernel_rfl)
noncomputable def law08_lives_ct (n : Nat) (vs : List AV) (h : AH) : Option Ctr := match vs, h with
  | [], [] => some (.one law08_lives_R (law08_lives n   ) [] 0 law08_lives_out)
  | _, _ => none
theorem law08_lives_ok (n : Nat) : COk1 cfg0 14 (law08_lives_ct n) := by
  intro vs h c e
  unfold law08_lives_ct at e
  split at e
  · cases e
    exact fun r hm => sxF_ok (E := law08_lives_E n  ) (nx1 := law08_lives_nx) (law08_lives_fn) rfl rfl rfl (callA_ok (law08_lives_pre_ok n)) law08_lives_ret_ok rfl (law08_lives_pv n   _) ((law08_lives_eq n   ).trans hm)
  · cases e
end
end Go.Ev
end
section
set_option linter.unusedVariables false
set_option linter.unusedSimpArgs false
set_option maxRecDepth 100000
set_option maxHeartbeats 400000
namespace Go.Ev
open Go.RowKit Go.Proofs
section
theorem leaf_number_fn : cfg0.fn 58 = some Try.f58 := rfl
abbrev leaf_number_R : Type := Bool
@[reducible] def leaf_number_rt (b0 : Bool) : Option leaf_number_R := some b0
noncomputable def leaf_number_out : leaf_number_R → AV × AH
  | b0 => ((.b b0), [])
noncomputable def leaf_number_nx : leaf_number_R → Nat
  | _ => 0
noncomputable def leaf_number_ret (v : AV) (h : AH) (nx : Nat) : Option leaf_number_R := match v, h, nx with
  | (.b b0), [], 0 => some b0
  | _, _, _ => none
theorem leaf_number_ret_ok (v : AV) (h : AH) (nx : Nat) (r : leaf_number_R) (e : leaf_number_ret v h nx = some r) : leaf_number_out r = (v, h) ∧ nx = leaf_number_nx r := by
  unfold leaf_number_ret at e
  split at e
  · cases e; exact ⟨rfl, rfl⟩
  · cases e
noncomputable def leaf_number_kr : KN := []
noncomputable def leaf_number_pre (n : Nat) : CT := ctZ
theorem leaf_number_pre_ok (n : Nat) : COk cfg0 (leaf_number_pre n) := ctZ_ok
noncomputable def leaf_number_E0 (n : Nat) (R : Type)   (jf lf : List Nat → Nat → AT → AS → Option R) : SE R := ⟨[], Try.f58.ntmps, 0, callA cfg0 kd [] (leaf_number_pre n), n, [], [], [], [], jf, lf⟩
noncomputable def leaf_number_F (n : Nat) (a1 : Nat)  : Option leaf_number_R := bif decide ((2 : Nat) ≤ a1) then leaf_number_rt (decide (a1 ≤ (2147483647 : Nat))) else leaf_number_rt false
noncomputable def leaf_number (n : Nat) (a1 : Nat) : Option leaf_number_R := leaf_number_F n a1 
noncomputable def leaf_number_jf (n : Nat) : List Nat → Nat → AT → AS → Option leaf_number_R := fun ms key T s => none
noncomputable def leaf_number_lf (n : Nat) : List Nat → Nat → AT → AS → Option leaf_number_R := fun ms key T s => none
noncomputable def leaf_number_E (n : Nat)   : SE leaf_number_R := leaf_number_E0 n leaf_number_R   (leaf_number_jf n) (leaf_number_lf n)
theorem leaf_number_eq (n : Nat) (a1 : Nat) : sxF cfg0 kd leaf_number_kr (leaf_number_E n  ) Try.f58 (bodyOf Try.f58) [] [.n .u32 a1] leaf_number_ret = leaf_number n a1 := by kernel_rfl
theorem leaf_number_pv (n : Nat) (r : leaf_number_R) : PV cfg0 kd (leaf_number_E n  ) r [] (bodyOf Try.f58) (retK cfg0 kd leaf_number_kr (leaf_number_E n  ) Try.f58.results.toList leaf_number_ret) := by
  exact PV.triv (by kernel_rfl)
noncomputable def leaf_number_ct (n : Nat) (vs : List AV) (h : AH) : Option Ctr := match vs, h with
  | [.n .u32 a1], [] => some (.one leaf_number_R (leaf_number n   a1) [] 0 leaf_number_out)
  | _, _ => none
theorem leaf_number_ok (n : Nat) : COk1 cfg0 58 (leaf_number_ct n) := by
  intro vs h c e
  unfold leaf_number_ct at e
  split at e
  · rename_i a1
    cases e
    exact fun r hm => sxF_ok (E := leaf_number_E n  ) (nx1 := leaf_number_nx) (leaf_number_fn) rfl rfl rfl (callA_ok (leaf_number_pre_ok n)) leaf_number_ret_ok rfl (leaf_number_pv n   _) ((leaf_number_eq n   a1).trans hm)
  · cases e
end
end Go.Ev
end
section
set_option linter.unusedVariables false
set_option linter.unusedSimpArgs false
set_option maxRecDepth 100000
set_option maxHeartbeats 400000
namespace Go.Ev
open Go.RowKit Go.Proofs
section
theorem branch_Key_fn : cfg0.fn 136 = some Try.f136 := rfl
abbrev branch_Key_R : Type := Bool
@[reducible] def branch_Key_rt (b0 : Bool) : Option branch_Key_R := some b0
noncomputable def branch_Key_out : branch_Key_R → AV × AH
  | b0 => ((.b b0), [])
noncomputable def branch_Key_nx : branch_Key_R → Nat
  | _ => 0
noncomputable def branch_Key_ret (v : AV) (h : AH) (nx : Nat) : Option branch_Key_R := match v, h, nx with
  | (.b b0), [], 0 => some b0
  | _, _, _ => none
theorem branch_Key_ret_ok (v : AV) (h : AH) (nx : Nat) (r : branch_Key_R) (e : branch_Key_ret v h nx = some r) : branch_Key_out r = (v, h) ∧ nx = branch_Key_nx r := by
  unfold branch_Key_ret at e
  split at e
  · cases e; exact ⟨rfl, rfl⟩
  · cases e
noncomputable def branch_Key_kr : KN := []
noncomputable def branch_Key_pre (n : Nat) : CT := ctZ
theorem branch_Key_pre_ok (n : Nat) : COk cfg0 (branch_Key_pre n) := ctZ_ok
noncomputable def branch_Key_E0 (n : Nat) (R : Type)   (jf lf : List Nat → Nat → AT → AS → Option R) : SE R := ⟨[], Try.f136.ntmps, 0, callA cfg0 kd [] (branch_Key_pre n), n, [], [], [], [], jf, lf⟩
noncomputable def branch_Key_F (n : Nat) (a1 : List UInt8)  : Option branch_Key_R := branch_Key_rt (decide ((↑(List.length a1) : Int) ≤ 40))
noncomputable def branch_Key (n : Nat) (a1 : List UInt8) : Option branch_Key_R := branch_Key_F n a1 
noncomputable def branch_Key_jf (n : Nat) : List Nat → Nat → AT → AS → Option branch_Key_R := fun ms key T s => none
noncomputable def branch_Key_lf (n : Nat) : List Nat → Nat → AT → AS → Option branch_Key_R := fun ms key T s => none
noncomputable def branch_Key_E (n : Nat)   : SE branch_Key_R := branch_Key_E0 n branch_Key_R   (branch_Key_jf n) (branch_Key_lf n)
theorem branch_Key_eq (n : Nat) (a1 : List UInt8) : sxF cfg0 kd branch_Key_kr (branch_Key_E n  ) Try.f136 (bodyOf Try.f136) [] [.s a1] branch_Key_ret = branch_Key n a1 := by kernel_rfl
theorem branch_Key_pv (n : Nat) (r : branch_Key_R) : PV cfg0 kd (branch_Key_E n  ) r [] (bodyOf Try.f136) (retK cfg0 kd branch_Key_kr (branch_Key_E n  ) Try.f136.results.toList branch_Key_ret) := by
  exact PV.triv (by kernel_rfl)
noncomputable def branch_Key_ct (n : Nat) (vs : List AV) (h : AH) : Option Ctr := match vs, h with
  | [.s a1], [] => some (.one branch_Key_R (branch_Key n   a1) [] 0 branch_Key_out)
  | _, _ => none
theorem branch_Key_ok (n : Nat) : COk1 cfg0 136 (branch_Key_ct n) := by
  intro vs h c e
  unfold branch_Key_ct at e
  split at e
  · rename_i a1
    cases e
    exact fun r hm => sxF_ok (E := branch_Key_E n  ) (nx1 := branch_Key_nx) (branch_Key_fn) rfl rfl rfl (callA_ok (branch_Key_pre_ok n)) branch_Key_ret_ok rfl (branch_Key_pv n   _) ((branch_Key_eq n   a1).trans hm)
  · cases e
end
end Go.Ev
end
section
set_option linter.unusedVariables false
set_option linter.unusedSimpArgs false
set_option maxRecDepth 100000
set_option maxHeartbeats 400000
namespace Go.Ev
open Go.RowKit Go.Proofs
section
theorem leaf_value_may_fn : cfg0.fn 112 = some Try.f112 := rfl
abbrev leaf_value_may_R : Type := Bool
@[reducible] def leaf_value_may_rt (b0 : Bool) : Option leaf_value_may_R := some b0
noncomputable def leaf_value_may_out : leaf_value_may_R → AV × AH
  | b0 => ((.b b0), [])
noncomputable def leaf_value_may_nx : leaf_value_may_R → Nat
  | _ => 0
noncomputable def leaf_value_may_ret (v : AV) (h : AH) (nx : Nat) : Option leaf_value_may_R := match v, h, nx with
  | (.b b0), [], 0 => some b0
  | _, _, _ => none
theorem leaf_value_may_ret_ok (v : AV) (h : AH) (nx : Nat) (r : leaf_value_may_R) (e : leaf_value_may_ret v h nx = some r) : leaf_value_may_out r = (v, h) ∧ nx = leaf_value_may_nx r := by
  unfold leaf_value_may_ret at e
  split at e
  · cases e; exact ⟨rfl, rfl⟩
  · cases e
noncomputable def leaf_value_may_kr : KN := []
noncomputable def leaf_value_may_pre (n : Nat) : CT := (ctA 58 (leaf_number_ct n) (ctA 136 (branch_Key_ct n) ctZ))
theorem leaf_value_may_pre_ok (n : Nat) : COk cfg0 (leaf_value_may_pre n) := (ctA_ok (leaf_number_ok n) (ctA_ok (branch_Key_ok n) ctZ_ok))
noncomputable def leaf_value_may_E0 (n : Nat) (R : Type)   (jf lf : List Nat → Nat → AT → AS → Option R) : SE R := ⟨[], Try.f112.ntmps, 0, callA cfg0 kd [] (leaf_value_may_pre n), n, [], [], [], [], jf, lf⟩
noncomputable def leaf_value_may_F (n : Nat) (a1 : Item)  : Option leaf_value_may_R := bif !decide ((↑(List.length a1.key) : Int) ≤ 40) then leaf_value_may_rt false else bif a1.over then bif decide (a1.value = []) then bif decide (1 ≤ a1.len) then bif decide (a1.len ≤ 4096) then Option.bind (leaf_number n a1.head) fun z => leaf_value_may_rt z else leaf_value_may_rt false else leaf_value_may_rt false else leaf_value_may_rt false else bif decide ((↑(List.length a1.value) : Int) ≤ 255) then bif decide (a1.len = 0) then leaf_value_may_rt (decide (a1.head = (0 : Nat))) else leaf_value_may_rt false else leaf_value_may_rt false
noncomputable def leaf_value_may (n : Nat) (a1 : Item) : Option leaf_value_may_R := leaf_value_may_F n a1 
noncomputable def leaf_value_may_jf (n : Nat) : List Nat → Nat → AT → AS → Option leaf_value_may_R := fun ms key T s => none
noncomputable def leaf_value_may_lf (n : Nat) : List Nat → Nat → AT → AS → Option leaf_value_may_R := fun ms key T s => none
noncomputable def leaf_value_may_E (n : Nat)   : SE leaf_value_may_R := leaf_value_may_E0 n leaf_value_may_R   (leaf_value_may_jf n) (leaf_value_may_lf n)
theorem leaf_value_may_eq (n : Nat) (a1 : Item) : sxF cfg0 kd leaf_value_may_kr (leaf_value_may_E n  ) Try.f112 (bodyOf Try.f112) [] [.ag (RK.k .item a1)] leaf_value_may_ret = leaf_value_may n a1 := by kernel_rfl
theorem leaf_value_may_pv (n : Nat) (r : leaf_value_may_R) : PV cfg0 kd (leaf_value_may_E n  ) r [] (bodyOf Try.f112) (retK cfg0 kd leaf_value_may_kr (leaf_value_may_E n  ) Try.f112.results.toList leaf_value_may_ret) := by
  exact PV.triv (by kernel_rfl)
noncomputable def leaf_value_may_ct (n : Nat) (vs : List AV) (h : AH) : Option Ctr := match vs, h with
  | [.ag [.s a1_0, .s a1_1, .b a1_2, .i .i64 a1_3, .n .u32 a1_4]], [] => some (.one leaf_value_may_R (leaf_value_may n   ⟨a1_0, a1_1, a1_2, a1_3, a1_4⟩) [] 0 leaf_value_may_out)
  | _, _ => none
theorem leaf_value_may_ok (n : Nat) : COk1 cfg0 112 (leaf_value_may_ct n) := by
  intro vs h c e
  unfold leaf_value_may_ct at e
  split at e
  · rename_i a1_0 a1_1 a1_2 a1_3 a1_4
    cases e
    exact fun r hm => sxF_ok (E := leaf_value_may_E n  ) (nx1 := leaf_value_may_nx) (leaf_value_may_fn) rfl rfl rfl (callA_ok (leaf_value_may_pre_ok n)) leaf_value_may_ret_ok rfl (leaf_value_may_pv n   _) ((leaf_value_may_eq n   ⟨a1_0, a1_1, a1_2, a1_3, a1_4⟩).trans hm)
  · cases e
end
end Go.Ev
end
section
set_option linter.unusedVariables false
set_option linter.unusedSimpArgs false
set_option maxRecDepth 100000
set_option maxHeartbeats 400000
namespace Go.Ev
open Go.RowKit Go.Proofs
section
theorem leaf_may_fn : cfg0.fn 56 = some Try.f56 := rfl
abbrev leaf_may_R : Type := Bool
@[reducible] def leaf_may_rt (b0 : Bool) : Option leaf_may_R := some b0
noncomputable def leaf_may_out : leaf_may_R → AV × AH
  | b0 => ((.b b0), [])
noncomputable def leaf_may_nx : leaf_may_R → Nat
  | _ => 1
noncomputable def leaf_may_ret (v : AV) (h : AH) (nx : Nat) : Option leaf_may_R := match v, h, nx with
  | (.b b0), [], 1 => some b0
  | _, _, _ => none
theorem leaf_may_ret_ok (v : AV) (h : AH) (nx : Nat) (r : leaf_may_R) (e : leaf_may_ret v h nx = some r) : leaf_may_out r = (v, h) ∧ nx = leaf_may_nx r := by
  unfold leaf_may_ret at e
  split at e
  · cases e; exact ⟨rfl, rfl⟩
  · cases e
noncomputable def leaf_may_kr : KN := []
noncomputable def leaf_may_pre (n : Nat) : CT := (ctA 112 (leaf_value_may_ct n) ctZ)
theorem leaf_may_pre_ok (n : Nat) : COk cfg0 (leaf_may_pre n) := (ctA_ok (leaf_value_may_ok n) ctZ_ok)
noncomputable def leaf_may_E0 (n : Nat) (R : Type) (o1 : Nat) (f1 : Nat × Nat) (a1 : List Item) (jf lf : List Nat → Nat → AT → AS → Option R) : SE R := ⟨[(0, (.row .item o1 a1 35 f1))], Try.f56.ntmps, 1, callA cfg0 kd [(0, (.row .item o1 a1 35 f1))] (leaf_may_pre n), n, [(3, ([0, 5, 6, 7], 0))], [], [], [], jf, lf⟩
noncomputable def leaf_may_L3F (n : Nat) (a1 : List Item) (r3 : (Int → Int → Option leaf_may_R))  (x0 : Int) (x1 : Int) : Option leaf_may_R := bif decide (x1 < x0) then bif decide (0 ≤ x1) && decide (Int.toNat x1 < List.length a1) then Option.bind a1[Int.toNat x1]? fun z => Option.bind (leaf_value_may n (Item.mk z.key z.value z.over z.len z.head)) fun z_1 => bif !z_1 then leaf_may_rt false else bif decide (0 < x1) then bif decide (0 ≤ w64 (x1 - 1)) && decide (Int.toNat (w64 (x1 - 1)) < List.length a1) then Option.bind a1[Int.toNat (w64 (x1 - 1))]? fun z_2 => bif !sLt z_2.key z.key then leaf_may_rt false else r3 x0 (w64 (x1 + 1)) else none else r3 x0 (w64 (x1 + 1)) else none else leaf_may_rt (decide (0 < (↑(List.length a1) : Int)))
noncomputable def leaf_may_L3 (n : Nat) (a1 : List Item)  : Nat → Int → Int → Option leaf_may_R
  | 0, _, _ => none
  | m + 1, x0, x1 => leaf_may_L3F n a1  (leaf_may_L3 n a1  m)  x0 x1
noncomputable def leaf_may_F (n : Nat) (a1 : List Item)  (l3 : (Int → Int → Option leaf_may_R)) : Option leaf_may_R := l3 (↑(List.length a1) : Int) 0
noncomputable def leaf_may (n : Nat) (a1 : List Item)  : Option leaf_may_R := leaf_may_F n a1  (leaf_may_L3 n a1 n)
noncomputable def leaf_may_L3q (n : Nat) (a1 : List Item) (m3 : Nat) (T : AT) (s : AS) : Option leaf_may_R := match T, s with
  | [(0, (.sl 0 5)), (5, (.sl 0 5)), (6, (.i .i64 x0)), (7, (.i .i64 x1))], ⟨[], 1, []⟩ => leaf_may_L3 n a1  m3 x0 x1
  | _, _ => none
noncomputable def leaf_may_jf (n : Nat) (a1 : List Item) : List Nat → Nat → AT → AS → Option leaf_may_R := fun ms key T s => none
noncomputable def leaf_may_lf (n : Nat) (a1 : List Item) : List Nat → Nat → AT → AS → Option leaf_may_R := fun ms key T s => cond (Nat.beq key 3) (match ms with | [m3] => leaf_may_L3q n a1 m3 T s | _ => none) (none)
noncomputable def leaf_may_E (n : Nat) (o1 : Nat) (f1 : Nat × Nat) (a1 : List Item) : SE leaf_may_R := leaf_may_E0 n leaf_may_R o1 f1 a1 (leaf_may_jf n a1) (leaf_may_lf n a1)
theorem leaf_may_eq (n : Nat) (o1 : Nat) (f1 : Nat × Nat) (a1 : List Item) : sxF cfg0 kd leaf_may_kr (leaf_may_E n o1 f1 a1) Try.f56 (bodyOf Try.f56) [] [.sl 0 5] leaf_may_ret = leaf_may n a1  := by kernel_rfl
theorem leaf_may_pv (n : Nat) (o1 : Nat) (f1 : Nat × Nat) (a1 : List Item) (r : leaf_may_R) : PV cfg0 kd (leaf_may_E n o1 f1 a1) r [] (bodyOf Try.f56) (retK cfg0 kd leaf_may_kr (leaf_may_E n o1 f1 a1) Try.f56.results.toList leaf_may_ret) := by
  refine PV.sn (by kernel_rfl) ?_ ?_
  ·
    refine PV.sn (by kernel_rfl) ?_ ?_
    ·
      exact PV.triv (by kernel_rfl)
    ·
      refine PV.sn (by kernel_rfl) ?_ ?_
      ·
        refine PV.bl ?_
        refine PV.lp (live := [0, 5, 6, 7]) (by kernel_rfl) ?_ ?_ ?_
        · intro T s h; change leaf_may_L3q n a1 0 _ _ = some r at h; unfold leaf_may_L3q at h; split at h
          · exact nomatch (show (none : Option leaf_may_R) = some r from h)
          · cases h
        · intro m3 T s h; change leaf_may_L3q n a1 (m3 + 1) _ _ = some r at h; unfold leaf_may_L3q at h; split at h
          · exact Eq.trans (by kernel_rfl) h
          · cases h
        · intro m3
          exact PV.triv (by kernel_rfl)
      ·
        exact PV.triv (by kernel_rfl)
  ·
    exact PV.triv (by kernel_rfl)
noncomputable def leaf_may_ct (n : Nat) (vs : List AV) (h : AH) : Option Ctr := match vs, h with
  | [.sl 0 5], [(0, (.row .item o1 a1 35 f1))] => some (.one leaf_may_R (leaf_may n  a1 ) [] 0 leaf_may_out)
  | _, _ => none
theorem leaf_may_ok (n : Nat) : COk1 cfg0 56 (leaf_may_ct n) := by
  intro vs h c e
  unfold leaf_may_ct at e
  split at e
  · rename_i o1 a1 f1
    cases e
    exact fun r hm => sxF_ok (E := leaf_may_E n o1 f1 a1) (nx1 := leaf_may_nx) (leaf_may_fn) rfl rfl rfl (callA_ok (leaf_may_pre_ok n)) leaf_may_ret_ok rfl (leaf_may_pv n o1 f1 a1 _) ((leaf_may_eq n o1 f1 a1 ).trans hm)
  · cases e
end
end Go.Ev
end
section
set_option linter.unusedVariables false
set_option linter.unusedSimpArgs false
set_option maxRecDepth 100000
set_option maxHeartbeats 400000
namespace Go.Ev
open Go.RowKit Go.Proofs
section
theorem device_Good_fn : cfg0.fn 71 = some Try.f71 := rfl
abbrev device_Good_R : Type := Bool
@[reducible] def device_Good_rt (b0 : Bool) : Option device_Good_R := some b0
noncomputable def device_Good_out : device_Good_R → AV × AH
  | b0 => ((.b b0), [])
noncomputable def device_Good_nx : device_Good_R → Nat
  | _ => 0
noncomputable def device_Good_ret (v : AV) (h : AH) (nx : Nat) : Option device_Good_R := match v, h, nx with
  | (.b b0), [], 0 => some b0
  | _, _, _ => none
theorem device_Good_ret_ok (v : AV) (h : AH) (nx : Nat) (r : device_Good_R) (e : device_Good_ret v h nx = some r) : device_Good_out r = (v, h) ∧ nx = device_Good_nx r := by
  unfold device_Good_ret at e
  split at e
  · cases e; exact ⟨rfl, rfl⟩
  · cases e
noncomputable def device_Good_kr : KN := []
noncomputable def device_Good_pre (n : Nat) : CT := ctZ
theorem device_Good_pre_ok (n : Nat) : COk cfg0 (device_Good_pre n) := ctZ_ok
noncomputable def device_Good_E0 (n : Nat) (R : Type)   (jf lf : List Nat → Nat → AT → AS → Option R) : SE R := ⟨[], Try.f71.ntmps, 0, callA cfg0 kd [] (device_Good_pre n), n, [], [], [], [], jf, lf⟩
noncomputable def device_Good_F (n : Nat) (a1 : Int)  : Option device_Good_R := bif decide (128 ≤ a1) then bif decide (a1 ≤ 4096) then device_Good_rt (decide (Int.tmod a1 64 = 0)) else device_Good_rt false else device_Good_rt false
noncomputable def device_Good (n : Nat) (a1 : Int) : Option device_Good_R := device_Good_F n a1 
noncomputable def device_Good_jf (n : Nat) : List Nat → Nat → AT → AS → Option device_Good_R := fun ms key T s => none
noncomputable def device_Good_lf (n : Nat) : List Nat → Nat → AT → AS → Option device_Good_R := fun ms key T s => none
noncomputable def device_Good_E (n : Nat)   : SE device_Good_R := device_Good_E0 n device_Good_R   (device_Good_jf n) (device_Good_lf n)
theorem device_Good_eq (n : Nat) (a1 : Int) : sxF cfg0 kd device_Good_kr (device_Good_E n  ) Try.f71 (bodyOf Try.f71) [] [.i .i64 a1] device_Good_ret = device_Good n a1 := by kernel_rfl
theorem device_Good_pv (n : Nat) (r : device_Good_R) : PV cfg0 kd (device_Good_E n  ) r [] (bodyOf Try.f71) (retK cfg0 kd device_Good_kr (device_Good_E n  ) Try.f71.results.toList device_Good_ret) := by
  exact PV.triv (by kernel_rfl)
noncomputable def device_Good_ct (n : Nat) (vs : List AV) (h : AH) : Option Ctr := match vs, h with
  | [.i .i64 a1], [] => some (.one device_Good_R (device_Good n   a1) [] 0 device_Good_out)
  | _, _ => none
theorem device_Good_ok (n : Nat) : COk1 cfg0 71 (device_Good_ct n) := by
  intro vs h c e
  unfold device_Good_ct at e
  split at e
  · rename_i a1
    cases e
    exact fun r hm => sxF_ok (E := device_Good_E n  ) (nx1 := device_Good_nx) (device_Good_fn) rfl rfl rfl (callA_ok (device_Good_pre_ok n)) device_Good_ret_ok rfl (device_Good_pv n   _) ((device_Good_eq n   a1).trans hm)
  · cases e
end
end Go.Ev
end
section
set_option linter.unusedVariables false
set_option linter.unusedSimpArgs false
set_option maxRecDepth 100000
set_option maxHeartbeats 400000
namespace Go.Ev
open Go.RowKit Go.Proofs
section
theorem frame_Room_fn : cfg0.fn 57 = some Try.f57 := rfl
abbrev frame_Room_R : Type := Int
@[reducible] def frame_Room_rt (b0 : Int) : Option frame_Room_R := some b0
noncomputable def frame_Room_out : frame_Room_R → AV × AH
  | b0 => ((.i .i64 b0), [])
noncomputable def frame_Room_nx : frame_Room_R → Nat
  | _ => 0
noncomputable def frame_Room_ret (v : AV) (h : AH) (nx : Nat) : Option frame_Room_R := match v, h, nx with
  | (.i .i64 b0), [], 0 => some b0
  | _, _, _ => none
theorem frame_Room_ret_ok (v : AV) (h : AH) (nx : Nat) (r : frame_Room_R) (e : frame_Room_ret v h nx = some r) : frame_Room_out r = (v, h) ∧ nx = frame_Room_nx r := by
  unfold frame_Room_ret at e
  split at e
  · cases e; exact ⟨rfl, rfl⟩
  · cases e
noncomputable def frame_Room_kr : KN := []
noncomputable def frame_Room_pre (n : Nat) : CT := (ctA 71 (device_Good_ct n) ctZ)
theorem frame_Room_pre_ok (n : Nat) : COk cfg0 (frame_Room_pre n) := (ctA_ok (device_Good_ok n) ctZ_ok)
noncomputable def frame_Room_E0 (n : Nat) (R : Type)   (jf lf : List Nat → Nat → AT → AS → Option R) : SE R := ⟨[], Try.f57.ntmps, 0, callA cfg0 kd [] (frame_Room_pre n), n, [], [], [], [], jf, lf⟩
noncomputable def frame_Room_F (n : Nat) (a1 : Int)  : Option frame_Room_R := Option.bind (device_Good n a1) fun z => bif !z then frame_Room_rt 0 else frame_Room_rt (w64 (a1 - 24))
noncomputable def frame_Room (n : Nat) (a1 : Int) : Option frame_Room_R := frame_Room_F n a1 
noncomputable def frame_Room_jf (n : Nat) : List Nat → Nat → AT → AS → Option frame_Room_R := fun ms key T s => none
noncomputable def frame_Room_lf (n : Nat) : List Nat → Nat → AT → AS → Option frame_Room_R := fun ms key T s => none
noncomputable def frame_Room_E (n : Nat)   : SE frame_Room_R := frame_Room_E0 n frame_Room_R   (frame_Room_jf n) (frame_Room_lf n)
theorem frame_Room_eq (n : Nat) (a1 : Int) : sxF cfg0 kd frame_Room_kr (frame_Room_E n  ) Try.f57 (bodyOf Try.f57) [] [.i .i64 a1] frame_Room_ret = frame_Room n a1 := by kernel_rfl
theorem frame_Room_pv (n : Nat) (r : frame_Room_R) : PV cfg0 kd (frame_Room_E n  ) r [] (bodyOf Try.f57) (retK cfg0 kd frame_Room_kr (frame_Room_E n  ) Try.f57.results.toList frame_Room_ret) := by
  exact PV.triv (by kernel_rfl)
noncomputable def frame_Room_ct (n : Nat) (vs : List AV) (h : AH) : Option Ctr := match vs, h with
  | [.i .i64 a1], [] => some (.one frame_Room_R (frame_Room n   a1) [] 0 frame_Room_out)
  | _, _ => none
theorem frame_Room_ok (n : Nat) : COk1 cfg0 57 (frame_Room_ct n) := by
  intro vs h c e
  unfold frame_Room_ct at e
  split at e
  · rename_i a1
    cases e
    exact fun r hm => sxF_ok (E := frame_Room_E n  ) (nx1 := frame_Room_nx) (frame_Room_fn) rfl rfl rfl (callA_ok (frame_Room_pre_ok n)) frame_Room_ret_ok rfl (frame_Room_pv n   _) ((frame_Room_eq n   a1).trans hm)
  · cases e
end
end Go.Ev
end
section
set_option linter.unusedVariables false
set_option linter.unusedSimpArgs false
set_option maxRecDepth 100000
set_option maxHeartbeats 400000
namespace Go.Ev
open Go.RowKit Go.Proofs
section
theorem octet_Put_fn : cfg0.fn 59 = some Try.f59 := rfl
abbrev octet_Put_R : Type := (List (UInt8))
@[reducible] def octet_Put_rt (b0 : List (UInt8)) : Option octet_Put_R := some b0
noncomputable def octet_Put_out : octet_Put_R → AV × AH
  | b0 => ((.sl 1 1), [(1, (.row .u8 0 b0 5 (0, 0)))])
noncomputable def octet_Put_nx : octet_Put_R → Nat
  | _ => 2
noncomputable def octet_Put_ret (v : AV) (h : AH) (nx : Nat) : Option octet_Put_R := match v, h, nx with
  | (.sl 1 1), [(1, (.row .u8 0 b0 5 (0, 0)))], 2 => some b0
  | _, _, _ => none
theorem octet_Put_ret_ok (v : AV) (h : AH) (nx : Nat) (r : octet_Put_R) (e : octet_Put_ret v h nx = some r) : octet_Put_out r = (v, h) ∧ nx = octet_Put_nx r := by
  unfold octet_Put_ret at e
  split at e
  · cases e; exact ⟨rfl, rfl⟩
  · cases e
noncomputable def octet_Put_kr : KN := [((0, 0), (.u8, 5))]
noncomputable def octet_Put_pre (n : Nat) : CT := ctZ
theorem octet_Put_pre_ok (n : Nat) : COk cfg0 (octet_Put_pre n) := ctZ_ok
noncomputable def octet_Put_E0 (n : Nat) (R : Type) (o1 : Nat) (f1 : Nat × Nat) (a1 : List UInt8) (jf lf : List Nat → Nat → AT → AS → Option R) : SE R := ⟨[(0, (.row .u8 o1 a1 5 f1))], Try.f59.ntmps, 1, callA cfg0 kd [(0, (.row .u8 o1 a1 5 f1))] (octet_Put_pre n), n, [(6, ([1, 7, 22, 23], 0))], [(5, [1, 2, 7])], [], [], jf, lf⟩
noncomputable def octet_Put_L6F (n : Nat) (a1 : List UInt8) (r6 : (Nat → Int → Int → List (UInt8) → Option octet_Put_R))  (x0 : Nat) (x1 : Int) (x2 : Int) (x3 : List (UInt8)) : Option octet_Put_R := bif decide (x2 < x1) then bif decide (0 ≤ w64 (8 * x2)) && Nat.ble (Int.toNat (w64 (8 * x2))) 64 then bif Nat.ble (List.length x3 + List.length [UInt8.ofNat (x0 / 2 ^ Int.toNat (w64 (8 * x2)))]) 100000000 then r6 x0 x1 (w64 (x2 + 1)) (x3 ++ [UInt8.ofNat (x0 / 2 ^ Int.toNat (w64 (8 * x2)))]) else none else none else octet_Put_rt x3
noncomputable def octet_Put_L6 (n : Nat) (a1 : List UInt8)  : Nat → Nat → Int → Int → List (UInt8) → Option octet_Put_R
  | 0, _, _, _, _ => none
  | m + 1, x0, x1, x2, x3 => octet_Put_L6F n a1  (octet_Put_L6 n a1  m)  x0 x1 x2 x3
noncomputable def octet_Put_J5F (n : Nat) (a1 : List UInt8)  (l6 : (Nat → Int → Int → List (UInt8) → Option octet_Put_R)) (x0 : Nat) (x1 : Int) (x2 : List (UInt8)) : Option octet_Put_R := l6 x0 x1 0 x2
noncomputable def octet_Put_J5 (n : Nat) (a1 : List UInt8)  (x0 : Nat) (x1 : Int) (x2 : List (UInt8)) : Option octet_Put_R := octet_Put_J5F n a1  (octet_Put_L6 n a1  n) x0 x1 x2
noncomputable def octet_Put_F (n : Nat) (a1 : List UInt8) (a2 : Nat) (a3 : Int) (j5 : (Nat → Int → List (UInt8) → Option octet_Put_R)) : Option octet_Put_R := bif decide (0 ≤ 0) && decide (0 ≤ w64 ((↑(List.length a1) : Int) + 8)) && (Nat.ble ((0 : Nat)) (Int.toNat (w64 ((↑(List.length a1) : Int) + 8))) && Nat.ble (Int.toNat (w64 ((↑(List.length a1) : Int) + 8))) 100000000) then bif Nat.ble (List.length (List.replicate ((0 : Nat)) (UInt8.ofNat ((0 : Nat)))) + List.length a1) 100000000 then bif decide (a3 < 1) then octet_Put_rt (List.replicate ((0 : Nat)) (UInt8.ofNat ((0 : Nat))) ++ a1) else bif decide (8 < a3) then octet_Put_rt (List.replicate ((0 : Nat)) (UInt8.ofNat ((0 : Nat))) ++ a1) else j5 a2 a3 (List.replicate ((0 : Nat)) (UInt8.ofNat ((0 : Nat))) ++ a1) else none else none
noncomputable def octet_Put (n : Nat) (a1 : List UInt8) (a2 : Nat) (a3 : Int) : Option octet_Put_R := octet_Put_F n a1 a2 a3 (octet_Put_J5 n a1)
noncomputable def octet_Put_L6q (n : Nat) (a1 : List UInt8) (m6 : Nat) (T : AT) (s : AS) : Option octet_Put_R := match T, s with
  | [(1, (.n .u64 x0)), (7, (.sl 1 1)), (22, (.i .i64 x1)), (23, (.i .i64 x2))], ⟨[(1, (.row .u8 0 x3 5 (0, 0)))], 2, []⟩ => octet_Put_L6 n a1  m6 x0 x1 x2 x3
  | _, _ => none
noncomputable def octet_Put_J5q (n : Nat) (a1 : List UInt8)  (T : AT) (s : AS) : Option octet_Put_R := match T, s with
  | [(1, (.n .u64 x0)), (2, (.i .i64 x1)), (7, (.sl 1 1))], ⟨[(1, (.row .u8 0 x2 5 (0, 0)))], 2, []⟩ => octet_Put_J5 n a1  x0 x1 x2
  | _, _ => none
noncomputable def octet_Put_jf (n : Nat) (a1 : List UInt8) : List Nat → Nat → AT → AS → Option octet_Put_R := fun ms key T s => cond (Nat.beq key 5) (match ms with | [] => octet_Put_J5q n a1  T s | _ => none) (none)
noncomputable def octet_Put_lf (n : Nat) (a1 : List UInt8) : List Nat → Nat → AT → AS → Option octet_Put_R := fun ms key T s => cond (Nat.beq key 6) (match ms with | [m6] => octet_Put_L6q n a1 m6 T s | _ => none) (none)
noncomputable def octet_Put_E (n : Nat) (o1 : Nat) (f1 : Nat × Nat) (a1 : List UInt8) : SE octet_Put_R := octet_Put_E0 n octet_Put_R o1 f1 a1 (octet_Put_jf n a1) (octet_Put_lf n a1)
theorem octet_Put_eq (n : Nat) (o1 : Nat) (f1 : Nat × Nat) (a1 : List UInt8) (a2 : Nat) (a3 : Int) : sxF cfg0 kd octet_Put_kr (octet_Put_E n o1 f1 a1) Try.f59 (bodyOf Try.f59) [] [.sl 0 1, .n .u64 a2, .i .i64 a3] octet_Put_ret = octet_Put n a1 a2 a3 := by kernel_rfl
theorem octet_Put_pv (n : Nat) (o1 : Nat) (f1 : Nat × Nat) (a1 : List UInt8) (r : octet_Put_R) : PV cfg0 kd (octet_Put_E n o1 f1 a1) r [] (bodyOf Try.f59) (retK cfg0 kd octet_Put_kr (octet_Put_E n o1 f1 a1) Try.f59.results.toList octet_Put_ret) := by
  refine PV.sn (by kernel_rfl) ?_ ?_
  ·
    refine PV.sn (by kernel_rfl) ?_ ?_
    ·
      refine PV.sj (live := [1, 2, 7]) (by kernel_rfl) ?_ ?_ ?_
      · intro T s h; change octet_Put_J5q n a1  _ _ = some r at h; unfold octet_Put_J5q at h; split at h
        · exact Eq.trans (by kernel_rfl) h
        · cases h
      ·
        refine PV.sn (by kernel_rfl) ?_ ?_
        ·
          exact PV.triv (by kernel_rfl)
        ·
          refine PV.sn (by kernel_rfl) ?_ ?_
          ·
            refine PV.bl ?_
            refine PV.lp (live := [1, 7, 22, 23]) (by kernel_rfl) ?_ ?_ ?_
            · intro T s h; change octet_Put_L6q n a1 0 _ _ = some r at h; unfold octet_Put_L6q at h; split at h
              · exact nomatch (show (none : Option octet_Put_R) = some r from h)
              · cases h
            · intro m6 T s h; change octet_Put_L6q n a1 (m6 + 1) _ _ = some r at h; unfold octet_Put_L6q at h; split at h
              · exact Eq.trans (by kernel_rfl) h
              · cases h
            · intro m6
              exact PV.triv (by kernel_rfl)
          ·
            exact PV.triv (by kernel_rfl)
      ·
        exact PV.triv (by kernel_rfl)
    ·
      exact PV.triv (by kernel_rfl)
  ·
    exact PV.triv (by kernel_rfl)
noncomputable def octet_Put_ct (n : Nat) (vs : List AV) (h : AH) : Option Ctr := match vs, h with
  | [.sl 0 1, .n .u64 a2, .i .i64 a3], [(0, (.row .u8 o1 a1 5 f1))] => some (.one octet_Put_R (octet_Put n  a1 a2 a3) [] 1 octet_Put_out)
  | _, _ => none
theorem octet_Put_ok (n : Nat) : COk1 cfg0 59 (octet_Put_ct n) := by
  intro vs h c e
  unfold octet_Put_ct at e
  split at e
  · rename_i a2 a3 o1 a1 f1
    cases e
    exact fun r hm => sxF_ok (E := octet_Put_E n o1 f1 a1) (nx1 := octet_Put_nx) (octet_Put_fn) rfl rfl rfl (callA_ok (octet_Put_pre_ok n)) octet_Put_ret_ok rfl (octet_Put_pv n o1 f1 a1 _) ((octet_Put_eq n o1 f1 a1 a2 a3).trans hm)
  · cases e
end
end Go.Ev
end
section
set_option linter.unusedVariables false
set_option linter.unusedSimpArgs false
set_option maxRecDepth 100000
set_option maxHeartbeats 400000
namespace Go.Ev
open Go.RowKit Go.Proofs
section
theorem leaf_value_put_fn : cfg0.fn 60 = some Try.f60 := rfl
abbrev leaf_value_put_R : Type := (List UInt8)
@[reducible] def leaf_value_put_rt (b0 : List UInt8) : Option leaf_value_put_R := some b0
noncomputable def leaf_value_put_out : leaf_value_put_R → AV × AH
  | b0 => ((.sl 1 1), [(1, (.row .u8 0 b0 5 (0, 0)))])
noncomputable def leaf_value_put_nx : leaf_value_put_R → Nat
  | _ => 2
noncomputable def leaf_value_put_ret (v : AV) (h : AH) (nx : Nat) : Option leaf_value_put_R := match v, h, nx with
  | (.sl 1 1), [(1, (.row .u8 0 b0 5 (0, 0)))], 2 => some b0
  | _, _, _ => none
theorem leaf_value_put_ret_ok (v : AV) (h : AH) (nx : Nat) (r : leaf_value_put_R) (e : leaf_value_put_ret v h nx = some r) : leaf_value_put_out r = (v, h) ∧ nx = leaf_value_put_nx r := by
  unfold leaf_value_put_ret at e
  split at e
  · cases e; exact ⟨rfl, rfl⟩
  · cases e
noncomputable def leaf_value_put_kr : KN := [((0, 0), (.u8, 5))]
noncomputable def leaf_value_put_pre (n : Nat) : CT := (ctA 59 (octet_Put_ct n) ctZ)
theorem leaf_value_put_pre_ok (n : Nat) : COk cfg0 (leaf_value_put_pre n) := (ctA_ok (octet_Put_ok n) ctZ_ok)
noncomputable def leaf_value_put_E0 (n : Nat) (R : Type) (o1 : Nat) (f1 : Nat × Nat) (a2 : List UInt8) (jf lf : List Nat → Nat → AT → AS → Option R) : SE R := ⟨[(0, (.row .u8 o1 a2 5 f1))], Try.f60.ntmps, 1, callA cfg0 kd [(0, (.row .u8 o1 a2 5 f1))] (leaf_value_put_pre n), n, [], [], [], [], jf, lf⟩
noncomputable def leaf_value_put_F (n : Nat) (a2 : List UInt8) (a1 : Item)  : Option leaf_value_put_R := bif a1.over then Option.bind (octet_Put n a2 (u64 a1.len) 4) fun z => Option.bind (octet_Put n z (a1.head % 18446744073709551616) 4) fun z_1 => leaf_value_put_rt z_1 else Option.bind (octet_Put n a2 (u64 (↑(List.length a1.value) : Int)) 1) fun z => bif Nat.ble (List.length z + List.length a1.value) 100000000 then leaf_value_put_rt (z ++ a1.value) else none
noncomputable def leaf_value_put (n : Nat) (a2 : List UInt8) (a1 : Item) : Option leaf_value_put_R := leaf_value_put_F n a2 a1 
noncomputable def leaf_value_put_jf (n : Nat) (a2 : List UInt8) : List Nat → Nat → AT → AS → Option leaf_value_put_R := fun ms key T s => none
noncomputable def leaf_value_put_lf (n : Nat) (a2 : List UInt8) : List Nat → Nat → AT → AS → Option leaf_value_put_R := fun ms key T s => none
noncomputable def leaf_value_put_E (n : Nat) (o1 : Nat) (f1 : Nat × Nat) (a2 : List UInt8) : SE leaf_value_put_R := leaf_value_put_E0 n leaf_value_put_R o1 f1 a2 (leaf_value_put_jf n a2) (leaf_value_put_lf n a2)
theorem leaf_value_put_eq (n : Nat) (o1 : Nat) (f1 : Nat × Nat) (a2 : List UInt8) (a1 : Item) : sxF cfg0 kd leaf_value_put_kr (leaf_value_put_E n o1 f1 a2) Try.f60 (bodyOf Try.f60) [] [.ag (RK.k .item a1), .sl 0 1] leaf_value_put_ret = leaf_value_put n a2 a1 := by kernel_rfl
theorem leaf_value_put_pv (n : Nat) (o1 : Nat) (f1 : Nat × Nat) (a2 : List UInt8) (r : leaf_value_put_R) : PV cfg0 kd (leaf_value_put_E n o1 f1 a2) r [] (bodyOf Try.f60) (retK cfg0 kd leaf_value_put_kr (leaf_value_put_E n o1 f1 a2) Try.f60.results.toList leaf_value_put_ret) := by
  exact PV.triv (by kernel_rfl)
noncomputable def leaf_value_put_ct (n : Nat) (vs : List AV) (h : AH) : Option Ctr := match vs, h with
  | [.ag [.s a1_0, .s a1_1, .b a1_2, .i .i64 a1_3, .n .u32 a1_4], .sl 0 1], [(0, (.row .u8 o1 a2 5 f1))] => some (.one leaf_value_put_R (leaf_value_put n  a2 ⟨a1_0, a1_1, a1_2, a1_3, a1_4⟩) [] 1 leaf_value_put_out)
  | _, _ => none
theorem leaf_value_put_ok (n : Nat) : COk1 cfg0 60 (leaf_value_put_ct n) := by
  intro vs h c e
  unfold leaf_value_put_ct at e
  split at e
  · rename_i a1_0 a1_1 a1_2 a1_3 a1_4 o1 a2 f1
    cases e
    exact fun r hm => sxF_ok (E := leaf_value_put_E n o1 f1 a2) (nx1 := leaf_value_put_nx) (leaf_value_put_fn) rfl rfl rfl (callA_ok (leaf_value_put_pre_ok n)) leaf_value_put_ret_ok rfl (leaf_value_put_pv n o1 f1 a2 _) ((leaf_value_put_eq n o1 f1 a2 ⟨a1_0, a1_1, a1_2, a1_3, a1_4⟩).trans hm)
  · cases e
end
end Go.Ev
end
section
set_option linter.unusedVariables false
set_option linter.unusedSimpArgs false
set_option maxRecDepth 100000
set_option maxHeartbeats 400000
namespace Go.Ev
open Go.RowKit Go.Proofs
section
theorem frame_Body_fn : cfg0.fn 61 = some Try.f61 := rfl
abbrev frame_Body_R : Type := (List UInt8) × Int
@[reducible] def frame_Body_rt (b0 : List UInt8) (b1 : Int) : Option frame_Body_R := some (b0, b1)
noncomputable def frame_Body_out : frame_Body_R → AV × AH
  | (b0, b1) => ((.tu [(.s b0), (.i .i64 b1)]), [])
noncomputable def frame_Body_nx : frame_Body_R → Nat
  | _ => 1
noncomputable def frame_Body_ret (v : AV) (h : AH) (nx : Nat) : Option frame_Body_R := match v, h, nx with
  | (.tu [(.s b0), (.i .i64 b1)]), [], 1 => some (b0, b1)
  | _, _, _ => none
theorem frame_Body_ret_ok (v : AV) (h : AH) (nx : Nat) (r : frame_Body_R) (e : frame_Body_ret v h nx = some r) : frame_Body_out r = (v, h) ∧ nx = frame_Body_nx r := by
  unfold frame_Body_ret at e
  split at e
  · cases e; exact ⟨rfl, rfl⟩
  · cases e
noncomputable def frame_Body_kr : KN := []
noncomputable def frame_Body_pre (n : Nat) : CT := (ctA 57 (frame_Room_ct n) (ctA 71 (device_Good_ct n) ctZ))
theorem frame_Body_pre_ok (n : Nat) : COk cfg0 (frame_Body_pre n) := (ctA_ok (frame_Room_ok n) (ctA_ok (device_Good_ok n) ctZ_ok))
noncomputable def frame_Body_E0 (n : Nat) (R : Type) (o1 : Nat) (f1 : Nat × Nat) (a2 : List UInt8) (jf lf : List Nat → Nat → AT → AS → Option R) : SE R := ⟨[(0, (.row .u8 o1 a2 5 f1))], Try.f61.ntmps, 1, callA cfg0 kd [(0, (.row .u8 o1 a2 5 f1))] (frame_Body_pre n), n, [], [], [], [], jf, lf⟩
noncomputable def frame_Body_F (n : Nat) (a2 : List UInt8) (a1 : Int)  : Option frame_Body_R := Option.bind (device_Good n a1) fun z => bif !z then frame_Body_rt [] 2 else Option.bind (frame_Room n a1) fun z_1 => bif decide (z_1 < (↑(List.length a2) : Int)) then frame_Body_rt [] 3 else Option.bind (frame_Room n a1) fun z_2 => bif decide (0 ≤ z_2) && decide (0 ≤ z_2) && (Nat.ble (Int.toNat z_2) (Int.toNat z_2) && Nat.ble (Int.toNat z_2) 100000000) then bif Nat.ble 1 (List.length (List.replicate (Int.toNat z_2) (UInt8.ofNat ((0 : Nat))))) then frame_Body_rt (List.take (Nat.min (List.length a2) (List.length (List.replicate (Int.toNat z_2) (UInt8.ofNat ((0 : Nat)))))) a2 ++ List.drop (Nat.min (List.length a2) (List.length (List.replicate (Int.toNat z_2) (UInt8.ofNat ((0 : Nat)))))) (List.replicate (Int.toNat z_2) (UInt8.ofNat ((0 : Nat))))) 0 else none else none
noncomputable def frame_Body (n : Nat) (a2 : List UInt8) (a1 : Int) : Option frame_Body_R := frame_Body_F n a2 a1 
noncomputable def frame_Body_jf (n : Nat) (a2 : List UInt8) : List Nat → Nat → AT → AS → Option frame_Body_R := fun ms key T s => none
noncomputable def frame_Body_lf (n : Nat) (a2 : List UInt8) : List Nat → Nat → AT → AS → Option frame_Body_R := fun ms key T s => none
noncomputable def frame_Body_E (n : Nat) (o1 : Nat) (f1 : Nat × Nat) (a2 : List UInt8) : SE frame_Body_R := frame_Body_E0 n frame_Body_R o1 f1 a2 (frame_Body_jf n a2) (frame_Body_lf n a2)
theorem frame_Body_eq (n : Nat) (o1 : Nat) (f1 : Nat × Nat) (a2 : List UInt8) (a1 : Int) : sxF cfg0 kd frame_Body_kr (frame_Body_E n o1 f1 a2) Try.f61 (bodyOf Try.f61) [] [.i .i64 a1, .sl 0 1] frame_Body_ret = frame_Body n a2 a1 := by kernel_rfl
theorem frame_Body_pv (n : Nat) (o1 : Nat) (f1 : Nat × Nat) (a2 : List UInt8) (r : frame_Body_R) : PV cfg0 kd (frame_Body_E n o1 f1 a2) r [] (bodyOf Try.f61) (retK cfg0 kd frame_Body_kr (frame_Body_E n o1 f1 a2) Try.f61.results.toList frame_Body_ret) := by
  exact PV.triv (by kernel_rfl)
noncomputable def frame_Body_ct (n : Nat) (vs : List AV) (h : AH) : Option Ctr := match vs, h with
  | [.i .i64 a1, .sl 0 1], [(0, (.row .u8 o1 a2 5 f1))] => some (.one frame_Body_R (frame_Body n  a2 a1) [] 0 frame_Body_out)
  | _, _ => none
theorem frame_Body_ok (n : Nat) : COk1 cfg0 61 (frame_Body_ct n) := by
  intro vs h c e
  unfold frame_Body_ct at e
  split at e
  · rename_i a1 o1 a2 f1
    cases e
    exact fun r hm => sxF_ok (E := frame_Body_E n o1 f1 a2) (nx1 := frame_Body_nx) (frame_Body_fn) rfl rfl rfl (callA_ok (frame_Body_pre_ok n)) frame_Body_ret_ok rfl (frame_Body_pv n o1 f1 a2 _) ((frame_Body_eq n o1 f1 a2 a1).trans hm)
  · cases e
end
end Go.Ev
end
section
set_option linter.unusedVariables false
set_option linter.unusedSimpArgs false
set_option maxRecDepth 100000
set_option maxHeartbeats 400000
namespace Go.Ev
open Go.RowKit Go.Proofs
section
theorem leaf_Page_fn : cfg0.fn 15 = some Try.f15 := rfl
abbrev leaf_Page_R : Type := Pg × Int
@[reducible] def leaf_Page_rt (b0 : Pg) (b1 : Int) : Option leaf_Page_R := some (b0, b1)
noncomputable def leaf_Page_out : leaf_Page_R → AV × AH
  | (b0, b1) => ((.tu [(.ag (RK.k .page b0)), (.i .i64 b1)]), [])
noncomputable def leaf_Page_nx : leaf_Page_R → Nat
  | _ => 1
noncomputable def leaf_Page_ret (v : AV) (h : AH) (nx : Nat) : Option leaf_Page_R := match v, h, nx with
  | (.tu [(.ag [.i .i64 b0_0, .i .i64 b0_1, .n .u32 b0_2, .n .u32 b0_3, .n .u64 b0_4, .s b0_5]), (.i .i64 b1)]), [], 1 => some (⟨b0_0, b0_1, b0_2, b0_3, b0_4, b0_5⟩, b1)
  | _, _, _ => none
theorem leaf_Page_ret_ok (v : AV) (h : AH) (nx : Nat) (r : leaf_Page_R) (e : leaf_Page_ret v h nx = some r) : leaf_Page_out r = (v, h) ∧ nx = leaf_Page_nx r := by
  unfold leaf_Page_ret at e
  split at e
  · cases e; exact ⟨rfl, rfl⟩
  · cases e
noncomputable def leaf_Page_kr : KN := []
noncomputable def leaf_Page_pre (n : Nat) : CT := (ctA 20 (leaf_Size_ct n) (ctA 56 (leaf_may_ct n) (ctA 57 (frame_Room_ct n) (ctA 58 (leaf_number_ct n) (ctA 59 (octet_Put_ct n) (ctA 60 (leaf_value_put_ct n) (ctA 61 (frame_Body_ct n) ctZ)))))))
theorem leaf_Page_pre_ok (n : Nat) : COk cfg0 (leaf_Page_pre n) := (ctA_ok (leaf_Size_ok n) (ctA_ok (leaf_may_ok n) (ctA_ok (frame_Room_ok n) (ctA_ok (leaf_number_ok n) (ctA_ok (octet_Put_ok n) (ctA_ok (leaf_value_put_ok n) (ctA_ok (frame_Body_ok n) ctZ_ok)))))))
noncomputable def leaf_Page_E0 (n : Nat) (R : Type) (o1 : Nat) (f1 : Nat × Nat) (a4 : List Item) (jf lf : List Nat → Nat → AT → AS → Option R) : SE R := ⟨[(0, (.row .item o1 a4 35 f1))], Try.f15.ntmps, 1, callA cfg0 kd [(0, (.row .item o1 a4 35 f1))] (leaf_Page_pre n), n, [(6, ([0, 1, 2, 3, 8, 10, 36, 37, 38], 0))], [(4, [0, 1, 2, 3, 8]), (11, [0, 1, 2, 3, 8, 10, 12, 13, 36, 37, 38])], [], [], jf, lf⟩
noncomputable def leaf_Page_J11F (n : Nat) (a4 : List Item) (r6 : (Int → Nat → Nat → Int → Int → List (UInt8) → Pg → Option leaf_Page_R))  (x0 : Int) (x1 : Nat) (x2 : Nat) (x3 : Nat) (x4 : Int) (x5 : Int) (x6 : Item) (x7 : List (UInt8)) (x8 : Pg) : Option leaf_Page_R := Option.bind (octet_Put n x7 x3 1) fun z => Option.bind (octet_Put n z (u64 (↑(List.length x6.key) : Int)) 1) fun z_1 => bif Nat.ble (List.length z_1 + List.length x6.key) 100000000 then Option.bind (leaf_value_put n (z_1 ++ x6.key) (Item.mk x6.key x6.value x6.over x6.len x6.head)) fun z_2 => r6 x0 x1 x2 x4 (w64 (x5 + 1)) z_2 x8 else none
noncomputable def leaf_Page_J11 (n : Nat) (a4 : List Item) (r6 : (Int → Nat → Nat → Int → Int → List (UInt8) → Pg → Option leaf_Page_R)) (x0 : Int) (x1 : Nat) (x2 : Nat) (x3 : Nat) (x4 : Int) (x5 : Int) (x6 : Item) (x7 : List (UInt8)) (x8 : Pg) : Option leaf_Page_R := leaf_Page_J11F n a4 r6  x0 x1 x2 x3 x4 x5 x6 x7 x8
noncomputable def leaf_Page_L6F (n : Nat) (a4 : List Item) (r6 : (Int → Nat → Nat → Int → Int → List (UInt8) → Pg → Option leaf_Page_R)) (j11 : (Int → Nat → Nat → Nat → Int → Int → Item → List (UInt8) → Pg → Option leaf_Page_R)) (x0 : Int) (x1 : Nat) (x2 : Nat) (x3 : Int) (x4 : Int) (x5 : List (UInt8)) (x6 : Pg) : Option leaf_Page_R := bif decide (x4 < x3) then bif decide (0 ≤ x4) && decide (Int.toNat x4 < List.length a4) then Option.bind a4[Int.toNat x4]? fun z => bif z.over then j11 x0 x1 x2 ((1 : Nat)) x3 x4 z x5 x6 else j11 x0 x1 x2 ((0 : Nat)) x3 x4 z x5 x6 else none else Option.bind (frame_Body n x5 x0) fun z => leaf_Page_rt (Pg.mk 4 (↑(List.length a4) : Int) x1 ((0 : Nat)) x2 z.fst) 0
noncomputable def leaf_Page_L6 (n : Nat) (a4 : List Item)  : Nat → Int → Nat → Nat → Int → Int → List (UInt8) → Pg → Option leaf_Page_R
  | 0, _, _, _, _, _, _, _ => none
  | m + 1, x0, x1, x2, x3, x4, x5, x6 => leaf_Page_L6F n a4  (leaf_Page_L6 n a4  m) (leaf_Page_J11 n a4 (leaf_Page_L6 n a4  m)) x0 x1 x2 x3 x4 x5 x6
noncomputable def leaf_Page_J4F (n : Nat) (a4 : List Item)  (l6 : (Int → Nat → Nat → Int → Int → List (UInt8) → Pg → Option leaf_Page_R)) (x0 : Int) (x1 : Nat) (x2 : Nat) (x3 : Pg) : Option leaf_Page_R := l6 x0 x1 x2 (↑(List.length a4) : Int) 0 [] x3
noncomputable def leaf_Page_J4 (n : Nat) (a4 : List Item)  (x0 : Int) (x1 : Nat) (x2 : Nat) (x3 : Pg) : Option leaf_Page_R := leaf_Page_J4F n a4  (leaf_Page_L6 n a4  n) x0 x1 x2 x3
noncomputable def leaf_Page_F (n : Nat) (a4 : List Item) (a1 : Int) (a2 : Nat) (a3 : Nat) (j4 : (Int → Nat → Nat → Pg → Option leaf_Page_R)) : Option leaf_Page_R := Option.bind (leaf_may n a4) fun z => bif !z then leaf_Page_rt (Pg.mk 0 0 ((0 : Nat)) ((0 : Nat)) ((0 : Nat)) []) 2 else Option.bind (leaf_Size n a4) fun z_1 => Option.bind (frame_Room n a1) fun z_2 => bif decide (z_2 < z_1) then leaf_Page_rt (Pg.mk 0 0 ((0 : Nat)) ((0 : Nat)) ((0 : Nat)) []) 2 else Option.bind (leaf_number n a2) fun z_3 => bif !z_3 then leaf_Page_rt (Pg.mk 0 0 ((0 : Nat)) ((0 : Nat)) ((0 : Nat)) []) 2 else bif decide ((4611686018427387904 : Nat) < a3) then leaf_Page_rt (Pg.mk 0 0 ((0 : Nat)) ((0 : Nat)) ((0 : Nat)) []) 2 else j4 a1 a2 a3 (Pg.mk 0 0 ((0 : Nat)) ((0 : Nat)) ((0 : Nat)) [])
noncomputable def leaf_Page (n : Nat) (a4 : List Item) (a1 : Int) (a2 : Nat) (a3 : Nat) : Option leaf_Page_R := leaf_Page_F n a4 a1 a2 a3 (leaf_Page_J4 n a4)
noncomputable def leaf_Page_J11q (n : Nat) (a4 : List Item) (m6 : Nat) (T : AT) (s : AS) : Option leaf_Page_R := match T, s with
  | [(0, (.i .i64 x0)), (1, (.n .u32 x1)), (2, (.n .u64 x2)), (3, (.sl 0 5)), (8, (.ptr 1 0)), (10, (.sl 2 1)), (12, (.ptr 3 0)), (13, (.n .u64 x3)), (36, (.sl 0 5)), (37, (.i .i64 x4)), (38, (.i .i64 x5))], ⟨[(3, (.cells [.s x6_0, .s x6_1, .b x6_2, .i .i64 x6_3, .n .u32 x6_4] 35 (0, 0))), (2, (.row .u8 0 x7 5 (0, 0))), (1, (.cells [.i .i64 x8_0, .i .i64 x8_1, .n .u32 x8_2, .n .u32 x8_3, .n .u64 x8_4, .s x8_5] 27 (0, 0)))], 4, []⟩ => leaf_Page_J11 n a4 (leaf_Page_L6 n a4  m6) x0 x1 x2 x3 x4 x5 ⟨x6_0, x6_1, x6_2, x6_3, x6_4⟩ x7 ⟨x8_0, x8_1, x8_2, x8_3, x8_4, x8_5⟩
  | _, _ => none
noncomputable def leaf_Page_L6q (n : Nat) (a4 : List Item) (m6 : Nat) (T : AT) (s : AS) : Option leaf_Page_R := match T, s with
  | [(0, (.i .i64 x0)), (1, (.n .u32 x1)), (2, (.n .u64 x2)), (3, (.sl 0 5)), (8, (.ptr 1 0)), (10, (.sl 2 1)), (36, (.sl 0 5)), (37, (.i .i64 x3)), (38, (.i .i64 x4))], ⟨[(2, (.row .u8 0 x5 5 (0, 0))), (1, (.cells [.i .i64 x6_0, .i .i64 x6_1, .n .u32 x6_2, .n .u32 x6_3, .n .u64 x6_4, .s x6_5] 27 (0, 0)))], 3, []⟩ => leaf_Page_L6 n a4  m6 x0 x1 x2 x3 x4 x5 ⟨x6_0, x6_1, x6_2, x6_3, x6_4, x6_5⟩
  | _, _ => none
noncomputable def leaf_Page_J4q (n : Nat) (a4 : List Item)  (T : AT) (s : AS) : Option leaf_Page_R := match T, s with
  | [(0, (.i .i64 x0)), (1, (.n .u32 x1)), (2, (.n .u64 x2)), (3, (.sl 0 5)), (8, (.ptr 1 0))], ⟨[(1, (.cells [.i .i64 x3_0, .i .i64 x3_1, .n .u32 x3_2, .n .u32 x3_3, .n .u64 x3_4, .s x3_5] 27 (0, 0)))], 2, []⟩ => leaf_Page_J4 n a4  x0 x1 x2 ⟨x3_0, x3_1, x3_2, x3_3, x3_4, x3_5⟩
  | _, _ => none
noncomputable def leaf_Page_jf (n : Nat) (a4 : List Item) : List Nat → Nat → AT → AS → Option leaf_Page_R := fun ms key T s => cond (Nat.beq key 11) (match ms with | [m6] => leaf_Page_J11q n a4 m6 T s | _ => none) (cond (Nat.beq key 4) (match ms with | [] => leaf_Page_J4q n a4  T s | _ => none) (none))
noncomputable def leaf_Page_lf (n : Nat) (a4 : List Item) : List Nat → Nat → AT → AS → Option leaf_Page_R := fun ms key T s => cond (Nat.beq key 6) (match ms with | [m6] => leaf_Page_L6q n a4 m6 T s | _ => none) (none)
noncomputable def leaf_Page_E (n : Nat) (o1 : Nat) (f1 : Nat × Nat) (a4 : List Item) : SE leaf_Page_R := leaf_Page_E0 n leaf_Page_R o1 f1 a4 (leaf_Page_jf n a4) (leaf_Page_lf n a4)
theorem leaf_Page_eq (n : Nat) (o1 : Nat) (f1 : Nat × Nat) (a4 : List Item) (a1 : Int) (a2 : Nat) (a3 : Nat) : sxF cfg0 kd leaf_Page_kr (leaf_Page_E n o1 f1 a4) Try.f15 (bodyOf Try.f15) [] [.i .i64 a1, .n .u32 a2, .n .u64 a3, .sl 0 5] leaf_Page_ret = leaf_Page n a4 a1 a2 a3 := by kernel_rfl
theorem leaf_Page_pv (n : Nat) (o1 : Nat) (f1 : Nat × Nat) (a4 : List Item) (r : leaf_Page_R) : PV cfg0 kd (leaf_Page_E n o1 f1 a4) r [] (bodyOf Try.f15) (retK cfg0 kd leaf_Page_kr (leaf_Page_E n o1 f1 a4) Try.f15.results.toList leaf_Page_ret) := by
  refine PV.sn (by kernel_rfl) ?_ ?_
  ·
    refine PV.sj (live := [0, 1, 2, 3, 8]) (by kernel_rfl) ?_ ?_ ?_
    · intro T s h; change leaf_Page_J4q n a4  _ _ = some r at h; unfold leaf_Page_J4q at h; split at h
      · exact Eq.trans (by kernel_rfl) h
      · cases h
    ·
      refine PV.sn (by kernel_rfl) ?_ ?_
      ·
        refine PV.sn (by kernel_rfl) ?_ ?_
        ·
          exact PV.triv (by kernel_rfl)
        ·
          refine PV.sn (by kernel_rfl) ?_ ?_
          ·
            refine PV.bl ?_
            refine PV.lp (live := [0, 1, 2, 3, 8, 10, 36, 37, 38]) (by kernel_rfl) ?_ ?_ ?_
            · intro T s h; change leaf_Page_L6q n a4 0 _ _ = some r at h; unfold leaf_Page_L6q at h; split at h
              · exact nomatch (show (none : Option leaf_Page_R) = some r from h)
              · cases h
            · intro m6 T s h; change leaf_Page_L6q n a4 (m6 + 1) _ _ = some r at h; unfold leaf_Page_L6q at h; split at h
              · exact Eq.trans (by kernel_rfl) h
              · cases h
            · intro m6
              refine PV.sn (by kernel_rfl) ?_ ?_
              ·
                refine PV.sn (by kernel_rfl) ?_ ?_
                ·
                  refine PV.sn (by kernel_rfl) ?_ ?_
                  ·
                    exact PV.triv (by kernel_rfl)
                  ·
                    refine PV.bl ?_
                    refine PV.sn (by kernel_rfl) ?_ ?_
                    ·
                      refine PV.sn (by kernel_rfl) ?_ ?_
                      ·
                        refine PV.sj (live := [0, 1, 2, 3, 8, 10, 12, 13, 36, 37, 38]) (by kernel_rfl) ?_ ?_ ?_
                        · intro T s h; change leaf_Page_J11q n a4 m6 _ _ = some r at h; unfold leaf_Page_J11q at h; split at h
                          · exact Eq.trans (by kernel_rfl) h
                          · cases h
                        ·
                          exact PV.triv (by kernel_rfl)
                        ·
                          exact PV.triv (by kernel_rfl)
                      ·
                        exact PV.triv (by kernel_rfl)
                    ·
                      exact PV.triv (by kernel_rfl)
                ·
                  exact PV.triv (by kernel_rfl)
              ·
                exact PV.triv (by kernel_rfl)
          ·
            exact PV.triv (by kernel_rfl)
      ·
        exact PV.triv (by kernel_rfl)
    ·
      exact PV.triv (by kernel_rfl)
  ·
    exact PV.triv (by kernel_rfl)
noncomputable def leaf_Page_ct (n : Nat) (vs : List AV) (h : AH) : Option Ctr := match vs, h with
  | [.i .i64 a1, .n .u32 a2, .n .u64 a3, .sl 0 5], [(0, (.row .item o1 a4 35 f1))] => some (.one leaf_Page_R (leaf_Page n  a4 a1 a2 a3) [] 0 leaf_Page_out)
  | _, _ => none
theorem leaf_Page_ok (n : Nat) : COk1 cfg0 15 (leaf_Page_ct n) := by
  intro vs h c e
  unfold leaf_Page_ct at e
  split at e
  · rename_i a1 a2 a3 o1 a4 f1
    cases e
    exact fun r hm => sxF_ok (E := leaf_Page_E n o1 f1 a4) (nx1 := leaf_Page_nx) (leaf_Page_fn) rfl rfl rfl (callA_ok (leaf_Page_pre_ok n)) leaf_Page_ret_ok rfl (leaf_Page_pv n o1 f1 a4 _) ((leaf_Page_eq n o1 f1 a4 a1 a2 a3).trans hm)
  · cases e
end
end Go.Ev
end
section
set_option linter.unusedVariables false
set_option linter.unusedSimpArgs false
set_option maxRecDepth 100000
set_option maxHeartbeats 400000
namespace Go.Ev
open Go.RowKit Go.Proofs
section
theorem kit_LightItems_fn : cfg0.fn 62 = some Try.f62 := rfl
abbrev kit_LightItems_R : Type := Bool
@[reducible] def kit_LightItems_rt (b0 : Bool) : Option kit_LightItems_R := some b0
noncomputable def kit_LightItems_out : kit_LightItems_R → AV × AH
  | b0 => ((.b b0), [])
noncomputable def kit_LightItems_nx : kit_LightItems_R → Nat
  | _ => 1
noncomputable def kit_LightItems_ret (v : AV) (h : AH) (nx : Nat) : Option kit_LightItems_R := match v, h, nx with
  | (.b b0), [], 1 => some b0
  | _, _, _ => none
theorem kit_LightItems_ret_ok (v : AV) (h : AH) (nx : Nat) (r : kit_LightItems_R) (e : kit_LightItems_ret v h nx = some r) : kit_LightItems_out r = (v, h) ∧ nx = kit_LightItems_nx r := by
  unfold kit_LightItems_ret at e
  split at e
  · cases e; exact ⟨rfl, rfl⟩
  · cases e
noncomputable def kit_LightItems_kr : KN := []
noncomputable def kit_LightItems_pre (n : Nat) : CT := ctZ
theorem kit_LightItems_pre_ok (n : Nat) : COk cfg0 (kit_LightItems_pre n) := ctZ_ok
noncomputable def kit_LightItems_E0 (n : Nat) (R : Type) (o1 : Nat) (f1 : Nat × Nat) (a1 : List Item) (jf lf : List Nat → Nat → AT → AS → Option R) : SE R := ⟨[(0, (.row .item o1 a1 35 f1))], Try.f62.ntmps, 1, callA cfg0 kd [(0, (.row .item o1 a1 35 f1))] (kit_LightItems_pre n), n, [(6, ([0, 2, 7, 8], 0))], [], [], [], jf, lf⟩
noncomputable def kit_LightItems_L6F (n : Nat) (a1 : List Item) (r6 : (Int → Int → Int → Option kit_LightItems_R))  (x0 : Int) (x1 : Int) (x2 : Int) : Option kit_LightItems_R := bif decide (x2 < (↑(List.length a1) : Int)) then bif decide (0 ≤ x2) && decide (Int.toNat x2 < List.length a1) then Option.bind a1[Int.toNat x2]? fun z => bif decide (0 ≤ x2) && decide (Int.toNat x2 < List.length a1) then Option.bind a1[Int.toNat x2]? fun z_1 => bif decide (x0 < w64 (w64 (x1 + (↑(List.length z.key) : Int)) + (↑(List.length z_1.value) : Int))) then kit_LightItems_rt false else r6 x0 (w64 (w64 (x1 + (↑(List.length z.key) : Int)) + (↑(List.length z_1.value) : Int))) (w64 (x2 + 1)) else none else none else kit_LightItems_rt true
noncomputable def kit_LightItems_L6 (n : Nat) (a1 : List Item)  : Nat → Int → Int → Int → Option kit_LightItems_R
  | 0, _, _, _ => none
  | m + 1, x0, x1, x2 => kit_LightItems_L6F n a1  (kit_LightItems_L6 n a1  m)  x0 x1 x2
noncomputable def kit_LightItems_F (n : Nat) (a1 : List Item) (a2 : Int) (a3 : Int) (l6 : (Int → Int → Int → Option kit_LightItems_R)) : Option kit_LightItems_R := bif decide (a2 < (↑(List.length a1) : Int)) then kit_LightItems_rt false else l6 a3 0 0
noncomputable def kit_LightItems (n : Nat) (a1 : List Item) (a2 : Int) (a3 : Int) : Option kit_LightItems_R := kit_LightItems_F n a1 a2 a3 (kit_LightItems_L6 n a1 n)
noncomputable def kit_LightItems_L6q (n : Nat) (a1 : List Item) (m6 : Nat) (T : AT) (s : AS) : Option kit_LightItems_R := match T, s with
  | [(0, (.sl 0 5)), (2, (.i .i64 x0)), (7, (.i .i64 x1)), (8, (.i .i64 x2))], ⟨[], 1, []⟩ => kit_LightItems_L6 n a1  m6 x0 x1 x2
  | _, _ => none
noncomputable def kit_LightItems_jf (n : Nat) (a1 : List Item) : List Nat → Nat → AT → AS → Option kit_LightItems_R := fun ms key T s => none
noncomputable def kit_LightItems_lf (n : Nat) (a1 : List Item) : List Nat → Nat → AT → AS → Option kit_LightItems_R := fun ms key T s => cond (Nat.beq key 6) (match ms with | [m6] => kit_LightItems_L6q n a1 m6 T s | _ => none) (none)
noncomputable def kit_LightItems_E (n : Nat) (o1 : Nat) (f1 : Nat × Nat) (a1 : List Item) : SE kit_LightItems_R := kit_LightItems_E0 n kit_LightItems_R o1 f1 a1 (kit_LightItems_jf n a1) (kit_LightItems_lf n a1)
theorem kit_LightItems_eq (n : Nat) (o1 : Nat) (f1 : Nat × Nat) (a1 : List Item) (a2 : Int) (a3 : Int) : sxF cfg0 kd kit_LightItems_kr (kit_LightItems_E n o1 f1 a1) Try.f62 (bodyOf Try.f62) [] [.sl 0 5, .i .i64 a2, .i .i64 a3] kit_LightItems_ret = kit_LightItems n a1 a2 a3 := by kernel_rfl
theorem kit_LightItems_pv (n : Nat) (o1 : Nat) (f1 : Nat × Nat) (a1 : List Item) (r : kit_LightItems_R) : PV cfg0 kd (kit_LightItems_E n o1 f1 a1) r [] (bodyOf Try.f62) (retK cfg0 kd kit_LightItems_kr (kit_LightItems_E n o1 f1 a1) Try.f62.results.toList kit_LightItems_ret) := by
  refine PV.sn (by kernel_rfl) ?_ ?_
  ·
    refine PV.sn (by kernel_rfl) ?_ ?_
    ·
      refine PV.sn (by kernel_rfl) ?_ ?_
      ·
        refine PV.sn (by kernel_rfl) ?_ ?_
        ·
          exact PV.triv (by kernel_rfl)
        ·
          refine PV.sn (by kernel_rfl) ?_ ?_
          ·
            refine PV.bl ?_
            refine PV.lp (live := [0, 2, 7, 8]) (by kernel_rfl) ?_ ?_ ?_
            · intro T s h; change kit_LightItems_L6q n a1 0 _ _ = some r at h; unfold kit_LightItems_L6q at h; split at h
              · exact nomatch (show (none : Option kit_LightItems_R) = some r from h)
              · cases h
            · intro m6 T s h; change kit_LightItems_L6q n a1 (m6 + 1) _ _ = some r at h; unfold kit_LightItems_L6q at h; split at h
              · exact Eq.trans (by kernel_rfl) h
              · cases h
            · intro m6
              exact PV.triv (by kernel_rfl)
          ·
            exact PV.triv (by kernel_rfl)
      ·
        exact PV.triv (by kernel_rfl)
    ·
      exact PV.triv (by kernel_rfl)
  ·
    exact PV.triv (by kernel_rfl)
noncomputable def kit_LightItems_ct (n : Nat) (vs : List AV) (h : AH) : Option Ctr := match vs, h with
  | [.sl 0 5, .i .i64 a2, .i .i64 a3], [(0, (.row .item o1 a1 35 f1))] => some (.one kit_LightItems_R (kit_LightItems n  a1 a2 a3) [] 0 kit_LightItems_out)
  | _, _ => none
theorem kit_LightItems_ok (n : Nat) : COk1 cfg0 62 (kit_LightItems_ct n) := by
  intro vs h c e
  unfold kit_LightItems_ct at e
  split at e
  · rename_i a2 a3 o1 a1 f1
    cases e
    exact fun r hm => sxF_ok (E := kit_LightItems_E n o1 f1 a1) (nx1 := kit_LightItems_nx) (kit_LightItems_fn) rfl rfl rfl (callA_ok (kit_LightItems_pre_ok n)) kit_LightItems_ret_ok rfl (kit_LightItems_pv n o1 f1 a1 _) ((kit_LightItems_eq n o1 f1 a1 a2 a3).trans hm)
  · cases e
end
end Go.Ev
end
section
set_option linter.unusedVariables false
set_option linter.unusedSimpArgs false
set_option maxRecDepth 100000
set_option maxHeartbeats 400000
namespace Go.Ev
open Go.RowKit Go.Proofs
section
theorem law08_light_fn : cfg0.fn 16 = some Try.f16 := rfl
abbrev law08_light_R : Type := Bool
@[reducible] def law08_light_rt (b0 : Bool) : Option law08_light_R := some b0
noncomputable def law08_light_out : law08_light_R → AV × AH
  | b0 => ((.b b0), [])
noncomputable def law08_light_nx : law08_light_R → Nat
  | _ => 1
noncomputable def law08_light_ret (v : AV) (h : AH) (nx : Nat) : Option law08_light_R := match v, h, nx with
  | (.b b0), [], 1 => some b0
  | _, _, _ => none
theorem law08_light_ret_ok (v : AV) (h : AH) (nx : Nat) (r : law08_light_R) (e : law08_light_ret v h nx = some r) : law08_light_out r = (v, h) ∧ nx = law08_light_nx r := by
  unfold law08_light_ret at e
  split at e
  · cases e; exact ⟨rfl, rfl⟩
  · cases e
noncomputable def law08_light_kr : KN := []
noncomputable def law08_light_pre (n : Nat) : CT := (ctA 62 (kit_LightItems_ct n) ctZ)
theorem law08_light_pre_ok (n : Nat) : COk cfg0 (law08_light_pre n) := (ctA_ok (kit_LightItems_ok n) ctZ_ok)
noncomputable def law08_light_E0 (n : Nat) (R : Type) (o1 : Nat) (f1 : Nat × Nat) (a1 : List Item) (jf lf : List Nat → Nat → AT → AS → Option R) : SE R := ⟨[(0, (.row .item o1 a1 35 f1))], Try.f16.ntmps, 1, callA cfg0 kd [(0, (.row .item o1 a1 35 f1))] (law08_light_pre n), n, [], [], [], [], jf, lf⟩
noncomputable def law08_light_F (n : Nat) (a1 : List Item)   : Option law08_light_R := Option.bind (kit_LightItems n a1 100 4000) fun z => law08_light_rt z
noncomputable def law08_light (n : Nat) (a1 : List Item)  : Option law08_light_R := law08_light_F n a1  
noncomputable def law08_light_jf (n : Nat) (a1 : List Item) : List Nat → Nat → AT → AS → Option law08_light_R := fun ms key T s => none
noncomputable def law08_light_lf (n : Nat) (a1 : List Item) : List Nat → Nat → AT → AS → Option law08_light_R := fun ms key T s => none
noncomputable def law08_light_E (n : Nat) (o1 : Nat) (f1 : Nat × Nat) (a1 : List Item) : SE law08_light_R := law08_light_E0 n law08_light_R o1 f1 a1 (law08_light_jf n a1) (law08_light_lf n a1)
theorem law08_light_eq (n : Nat) (o1 : Nat) (f1 : Nat × Nat) (a1 : List Item) : sxF cfg0 kd law08_light_kr (law08_light_E n o1 f1 a1) Try.f16 (bodyOf Try.f16) [] [.sl 0 5] law08_light_ret = law08_light n a1  := by kernel_rfl
theorem law08_light_pv (n : Nat) (o1 : Nat) (f1 : Nat × Nat) (a1 : List Item) (r : law08_light_R) : PV cfg0 kd (law08_light_E n o1 f1 a1) r [] (bodyOf Try.f16) (retK cfg0 kd law08_light_kr (law08_light_E n o1 f1 a1) Try.f16.results.toList law08_light_ret) := by
  exact PV.triv (by kernel_rfl)
noncomputable def law08_light_ct (n : Nat) (vs : List AV) (h : AH) : Option Ctr := match vs, h with
  | [.sl 0 5], [(0, (.row .item o1 a1 35 f1))] => some (.one law08_light_R (law08_light n  a1 ) [] 0 law08_light_out)
  | _, _ => none
theorem law08_light_ok (n : Nat) : COk1 cfg0 16 (law08_light_ct n) := by
  intro vs h c e
  unfold law08_light_ct at e
  split at e
  · rename_i o1 a1 f1
    cases e
    exact fun r hm => sxF_ok (E := law08_light_E n o1 f1 a1) (nx1 := law08_light_nx) (law08_light_fn) rfl rfl rfl (callA_ok (law08_light_pre_ok n)) law08_light_ret_ok rfl (law08_light_pv n o1 f1 a1 _) ((law08_light_eq n o1 f1 a1 ).trans hm)
  · cases e
end
end Go.Ev
end
section
set_option linter.unusedVariables false
set_option linter.unusedSimpArgs false
set_option maxRecDepth 100000
set_option maxHeartbeats 400000
namespace Go.Ev
open Go.RowKit Go.Proofs
section
theorem leaf_rising_1_fn : cfg0.fn 114 = some Try.f114 := rfl
abbrev leaf_rising_1_R : Type := Bool
@[reducible] def leaf_rising_1_rt (b0 : Bool) : Option leaf_rising_1_R := some b0
noncomputable def leaf_rising_1_out : leaf_rising_1_R → AV × AH
  | b0 => ((.b b0), [(0, (.cells [(.sl 1 5)] 22 (0, 0)))])
noncomputable def leaf_rising_1_nx : leaf_rising_1_R → Nat
  | _ => 2
noncomputable def leaf_rising_1_ret (v : AV) (h : AH) (nx : Nat) : Option leaf_rising_1_R := match v, h, nx with
  | (.b b0), [(0, (.cells [(.sl 1 5)] 22 (0, 0)))], 2 => some b0
  | _, _, _ => none
theorem leaf_rising_1_ret_ok (v : AV) (h : AH) (nx : Nat) (r : leaf_rising_1_R) (e : leaf_rising_1_ret v h nx = some r) : leaf_rising_1_out r = (v, h) ∧ nx = leaf_rising_1_nx r := by
  unfold leaf_rising_1_ret at e
  split at e
  · cases e; exact ⟨rfl, rfl⟩
  · cases e
noncomputable def leaf_rising_1_kr : KN := []
noncomputable def leaf_rising_1_pre (n : Nat) : CT := ctZ
theorem leaf_rising_1_pre_ok (n : Nat) : COk cfg0 (leaf_rising_1_pre n) := ctZ_ok
noncomputable def leaf_rising_1_E0 (n : Nat) (R : Type) (o1 : Nat) (f1 : Nat × Nat) (a3 : List Item) (jf lf : List Nat → Nat → AT → AS → Option R) : SE R := ⟨[(1, (.row .item o1 a3 35 f1))], Try.f114.ntmps, 2, callA cfg0 kd [(1, (.row .item o1 a3 35 f1))] (leaf_rising_1_pre n), n, [], [], [], [], jf, lf⟩
noncomputable def leaf_rising_1_F (n : Nat) (a3 : List Item) (a1 : Int) (a2 : Int)  : Option leaf_rising_1_R := bif decide (0 ≤ a1) && decide (Int.toNat a1 < List.length a3) then Option.bind a3[Int.toNat a1]? fun z => bif decide (0 ≤ a2) && decide (Int.toNat a2 < List.length a3) then Option.bind a3[Int.toNat a2]? fun z_1 => leaf_rising_1_rt (sLt z.key z_1.key) else none else none
noncomputable def leaf_rising_1 (n : Nat) (a3 : List Item) (a1 : Int) (a2 : Int) : Option leaf_rising_1_R := leaf_rising_1_F n a3 a1 a2 
noncomputable def leaf_rising_1_jf (n : Nat) (a3 : List Item) : List Nat → Nat → AT → AS → Option leaf_rising_1_R := fun ms key T s => none
noncomputable def leaf_rising_1_lf (n : Nat) (a3 : List Item) : List Nat → Nat → AT → AS → Option leaf_rising_1_R := fun ms key T s => none
noncomputable def leaf_rising_1_E (n : Nat) (o1 : Nat) (f1 : Nat × Nat) (a3 : List Item) : SE leaf_rising_1_R := leaf_rising_1_E0 n leaf_rising_1_R o1 f1 a3 (leaf_rising_1_jf n a3) (leaf_rising_1_lf n a3)
theorem leaf_rising_1_eq (n : Nat) (o1 : Nat) (f1 : Nat × Nat) (a3 : List Item) (a1 : Int) (a2 : Int) : sxF cfg0 kd leaf_rising_1_kr (leaf_rising_1_E n o1 f1 a3) Try.f114 (bodyOf Try.f114) [(0, (.cells ([.sl 1 5]) 22 (0, 0)))] [.i .i64 a1, .i .i64 a2, .ptr 0 0] leaf_rising_1_ret = leaf_rising_1 n a3 a1 a2 := by kernel_rfl
theorem leaf_rising_1_pv (n : Nat) (o1 : Nat) (f1 : Nat × Nat) (a3 : List Item) (r : leaf_rising_1_R) : PV cfg0 kd (leaf_rising_1_E n o1 f1 a3) r [] (bodyOf Try.f114) (retK cfg0 kd leaf_rising_1_kr (leaf_rising_1_E n o1 f1 a3) Try.f114.results.toList leaf_rising_1_ret) := by
  exact PV.triv (by kernel_rfl)
noncomputable def leaf_rising_1_ct (n : Nat) (vs : List AV) (h : AH) : Option Ctr := match vs, h with
  | [.i .i64 a1, .i .i64 a2, .ptr 0 0], [(0, (.cells ([.sl 1 5]) 22 (0, 0))), (1, (.row .item o1 a3 35 f1))] => some (.one leaf_rising_1_R (leaf_rising_1 n  a3 a1 a2) [0] 0 leaf_rising_1_out)
  | _, _ => none
theorem leaf_rising_1_ok (n : Nat) : COk1 cfg0 114 (leaf_rising_1_ct n) := by
  intro vs h c e
  unfold leaf_rising_1_ct at e
  split at e
  · rename_i a1 a2 o1 a3 f1
    cases e
    exact fun r hm => sxF_ok (E := leaf_rising_1_E n o1 f1 a3) (nx1 := leaf_rising_1_nx) (leaf_rising_1_fn) rfl rfl rfl (callA_ok (leaf_rising_1_pre_ok n)) leaf_rising_1_ret_ok rfl (leaf_rising_1_pv n o1 f1 a3 _) ((leaf_rising_1_eq n o1 f1 a3 a1 a2).trans hm)
  · cases e
end
end Go.Ev
end
section
set_option linter.unusedVariables false
set_option linter.unusedSimpArgs false
set_option maxRecDepth 100000
set_option maxHeartbeats 400000
namespace Go.Ev
open Go.RowKit Go.Proofs
section
theorem sort_SliceIsSorted_fn : cfg0.fn 113 = some Try.f113 := rfl
abbrev sort_SliceIsSorted_R : Type := Bool
@[reducible] def sort_SliceIsSorted_rt (b0 : Bool) : Option sort_SliceIsSorted_R := some b0
noncomputable def sort_SliceIsSorted_out : sort_SliceIsSorted_R → AV × AH
  | b0 => ((.b b0), [(1, (.cells [(.sl 0 5)] 22 (0, 0)))])
noncomputable def sort_SliceIsSorted_nx : sort_SliceIsSorted_R → Nat
  | _ => 2
noncomputable def sort_SliceIsSorted_ret (v : AV) (h : AH) (nx : Nat) : Option sort_SliceIsSorted_R := match v, h, nx with
  | (.b b0), [(1, (.cells [(.sl 0 5)] 22 (0, 0)))], 2 => some b0
  | _, _, _ => none
theorem sort_SliceIsSorted_ret_ok (v : AV) (h : AH) (nx : Nat) (r : sort_SliceIsSorted_R) (e : sort_SliceIsSorted_ret v h nx = some r) : sort_SliceIsSorted_out r = (v, h) ∧ nx = sort_SliceIsSorted_nx r := by
  unfold sort_SliceIsSorted_ret at e
  split at e
  · cases e; exact ⟨rfl, rfl⟩
  · cases e
noncomputable def sort_SliceIsSorted_kr : KN := []
noncomputable def sort_SliceIsSorted_pre (n : Nat) : CT := (ctA 114 (leaf_rising_1_ct n) ctZ)
theorem sort_SliceIsSorted_pre_ok (n : Nat) : COk cfg0 (sort_SliceIsSorted_pre n) := (ctA_ok (leaf_rising_1_ok n) ctZ_ok)
noncomputable def sort_SliceIsSorted_E0 (n : Nat) (R : Type) (o1 : Nat) (f1 : Nat × Nat) (a1 : List Item) (jf lf : List Nat → Nat → AT → AS → Option R) : SE R := ⟨[(0, (.row .item o1 a1 35 f1))], Try.f113.ntmps, 2, callA cfg0 kd [(0, (.row .item o1 a1 35 f1))] (sort_SliceIsSorted_pre n), n, [(5, ([1, 7], 0))], [], [], [], jf, lf⟩
noncomputable def sort_SliceIsSorted_L5F (n : Nat) (a1 : List Item) (r5 : (Int → Option sort_SliceIsSorted_R))  (x0 : Int) : Option sort_SliceIsSorted_R := bif decide (0 < x0) then Option.bind (leaf_rising_1 n a1 x0 (w64 (x0 - 1))) fun z => bif z then sort_SliceIsSorted_rt false else r5 (w64 (x0 - 1)) else sort_SliceIsSorted_rt true
noncomputable def sort_SliceIsSorted_L5 (n : Nat) (a1 : List Item)  : Nat → Int → Option sort_SliceIsSorted_R
  | 0, _ => none
  | m + 1, x0 => sort_SliceIsSorted_L5F n a1  (sort_SliceIsSorted_L5 n a1  m)  x0
noncomputable def sort_SliceIsSorted_F (n : Nat) (a1 : List Item)  (l5 : (Int → Option sort_SliceIsSorted_R)) : Option sort_SliceIsSorted_R := l5 (w64 ((↑(List.length a1) : Int) - 1))
noncomputable def sort_SliceIsSorted (n : Nat) (a1 : List Item)  : Option sort_SliceIsSorted_R := sort_SliceIsSorted_F n a1  (sort_SliceIsSorted_L5 n a1 n)
noncomputable def sort_SliceIsSorted_L5q (n : Nat) (a1 : List Item) (m5 : Nat) (T : AT) (s : AS) : Option sort_SliceIsSorted_R := match T, s with
  | [(1, (.fn 114 [(.ptr 1 0)])), (7, (.i .i64 x0))], ⟨[(1, (.cells [(.sl 0 5)] 22 (0, 0)))], 2, []⟩ => sort_SliceIsSorted_L5 n a1  m5 x0
  | _, _ => none
noncomputable def sort_SliceIsSorted_jf (n : Nat) (a1 : List Item) : List Nat → Nat → AT → AS → Option sort_SliceIsSorted_R := fun ms key T s => none
noncomputable def sort_SliceIsSorted_lf (n : Nat) (a1 : List Item) : List Nat → Nat → AT → AS → Option sort_SliceIsSorted_R := fun ms key T s => cond (Nat.beq key 5) (match ms with | [m5] => sort_SliceIsSorted_L5q n a1 m5 T s | _ => none) (none)
noncomputable def sort_SliceIsSorted_E (n : Nat) (o1 : Nat) (f1 : Nat × Nat) (a1 : List Item) : SE sort_SliceIsSorted_R := sort_SliceIsSorted_E0 n sort_SliceIsSorted_R o1 f1 a1 (sort_SliceIsSorted_jf n a1) (sort_SliceIsSorted_lf n a1)
theorem sort_SliceIsSorted_eq (n : Nat) (o1 : Nat) (f1 : Nat × Nat) (a1 : List Item) : sxF cfg0 kd sort_SliceIsSorted_kr (sort_SliceIsSorted_E n o1 f1 a1) Try.f113 (bodyOf Try.f113) [(1, (.cells [.sl 0 5] 22 (0, 0)))] [.ifc 22 (.sl 0 5), .fn 114 [.ptr 1 0]] sort_SliceIsSorted_ret = sort_SliceIsSorted n a1  := by kernel_rfl
theorem sort_SliceIsSorted_pv (n : Nat) (o1 : Nat) (f1 : Nat × Nat) (a1 : List Item) (r : sort_SliceIsSorted_R) : PV cfg0 kd (sort_SliceIsSorted_E n o1 f1 a1) r [] (bodyOf Try.f113) (retK cfg0 kd sort_SliceIsSorted_kr (sort_SliceIsSorted_E n o1 f1 a1) Try.f113.results.toList sort_SliceIsSorted_ret) := by
  refine PV.sn (by kernel_rfl) ?_ ?_
  ·
    refine PV.sn (by kernel_rfl) ?_ ?_
    ·
      refine PV.sn (by kernel_rfl) ?_ ?_
      ·
        refine PV.sn (by kernel_rfl) ?_ ?_
        ·
          exact PV.triv (by kernel_rfl)
        ·
          refine PV.sn (by kernel_rfl) ?_ ?_
          ·
            refine PV.bl ?_
            refine PV.lp (live := [1, 7]) (by kernel_rfl) ?_ ?_ ?_
            · intro T s h; change sort_SliceIsSorted_L5q n a1 0 _ _ = some r at h; unfold sort_SliceIsSorted_L5q at h; split at h
              · exact nomatch (show (none : Option sort_SliceIsSorted_R) = some r from h)
              · cases h
            · intro m5 T s h; change sort_SliceIsSorted_L5q n a1 (m5 + 1) _ _ = some r at h; unfold sort_SliceIsSorted_L5q at h; split at h
              · exact Eq.trans (by kernel_rfl) h
              · cases h
            · intro m5
              exact PV.triv (by kernel_rfl)
          ·
            exact PV.triv (by kernel_rfl)
      ·
        exact PV.triv (by kernel_rfl)
    ·
      exact PV.triv (by kernel_rfl)
  ·
    exact PV.triv (by kernel_rfl)
noncomputable def sort_SliceIsSorted_ct (n : Nat) (vs : List AV) (h : AH) : Option Ctr := match vs, h with
  | [.ifc 22 (.sl 0 5), .fn 114 [.ptr 1 0]], [(0, (.row .item o1 a1 35 f1)), (1, (.cells [.sl 0 5] 22 (0, 0)))] => some (.one sort_SliceIsSorted_R (sort_SliceIsSorted n  a1 ) [1] 0 sort_SliceIsSorted_out)
  | _, _ => none
theorem sort_SliceIsSorted_ok (n : Nat) : COk1 cfg0 113 (sort_SliceIsSorted_ct n) := by
  intro vs h c e
  unfold sort_SliceIsSorted_ct at e
  split at e
  · rename_i o1 a1 f1
    cases e
    exact fun r hm => sxF_ok (E := sort_SliceIsSorted_E n o1 f1 a1) (nx1 := sort_SliceIsSorted_nx) (sort_SliceIsSorted_fn) rfl rfl rfl (callA_ok (sort_SliceIsSorted_pre_ok n)) sort_SliceIsSorted_ret_ok rfl (sort_SliceIsSorted_pv n o1 f1 a1 _) ((sort_SliceIsSorted_eq n o1 f1 a1 ).trans hm)
  · cases e
end
end Go.Ev
end
section
set_option linter.unusedVariables false
set_option linter.unusedSimpArgs false
set_option maxRecDepth 100000
set_option maxHeartbeats 400000
namespace Go.Ev
open Go.RowKit Go.Proofs
section
theorem leaf_rising_fn : cfg0.fn 63 = some Try.f63 := rfl
abbrev leaf_rising_R : Type := Bool
@[reducible] def leaf_rising_rt (b0 : Bool) : Option leaf_rising_R := some b0
noncomputable def leaf_rising_out : leaf_rising_R → AV × AH
  | b0 => ((.b b0), [])
noncomputable def leaf_rising_nx : leaf_rising_R → Nat
  | _ => 1
noncomputable def leaf_rising_ret (v : AV) (h : AH) (nx : Nat) : Option leaf_rising_R := match v, h, nx with
  | (.b b0), [], 1 => some b0
  | _, _, _ => none
theorem leaf_rising_ret_ok (v : AV) (h : AH) (nx : Nat) (r : leaf_rising_R) (e : leaf_rising_ret v h nx = some r) : leaf_rising_out r = (v, h) ∧ nx = leaf_rising_nx r := by
  unfold leaf_rising_ret at e
  split at e
  · cases e; exact ⟨rfl, rfl⟩
  · cases e
noncomputable def leaf_rising_kr : KN := []
noncomputable def leaf_rising_pre (n : Nat) : CT := (ctA 113 (sort_SliceIsSorted_ct n) (ctA 114 (leaf_rising_1_ct n) ctZ))
theorem leaf_rising_pre_ok (n : Nat) : COk cfg0 (leaf_rising_pre n) := (ctA_ok (sort_SliceIsSorted_ok n) (ctA_ok (leaf_rising_1_ok n) ctZ_ok))
noncomputable def leaf_rising_E0 (n : Nat) (R : Type) (o1 : Nat) (f1 : Nat × Nat) (a1 : List Item) (jf lf : List Nat → Nat → AT → AS → Option R) : SE R := ⟨[(0, (.row .item o1 a1 35 f1))], Try.f63.ntmps, 1, callA cfg0 kd [(0, (.row .item o1 a1 35 f1))] (leaf_rising_pre n), n, [], [], [], [], jf, lf⟩
noncomputable def leaf_rising_F (n : Nat) (a1 : List Item)   : Option leaf_rising_R := Option.bind (sort_SliceIsSorted n a1) fun z => leaf_rising_rt z
noncomputable def leaf_rising (n : Nat) (a1 : List Item)  : Option leaf_rising_R := leaf_rising_F n a1  
noncomputable def leaf_rising_jf (n : Nat) (a1 : List Item) : List Nat → Nat → AT → AS → Option leaf_rising_R := fun ms key T s => none
noncomputable def leaf_rising_lf (n : Nat) (a1 : List Item) : List Nat → Nat → AT → AS → Option leaf_rising_R := fun ms key T s => none
noncomputable def leaf_rising_E (n : Nat) (o1 : Nat) (f1 : Nat × Nat) (a1 : List Item) : SE leaf_rising_R := leaf_rising_E0 n leaf_rising_R o1 f1 a1 (leaf_rising_jf n a1) (leaf_rising_lf n a1)
theorem leaf_rising_eq (n : Nat) (o1 : Nat) (f1 : Nat × Nat) (a1 : List Item) : sxF cfg0 kd leaf_rising_kr (leaf_rising_E n o1 f1 a1) Try.f63 (bodyOf Try.f63) [] [.sl 0 5] leaf_rising_ret = leaf_rising n a1  := by kernel_rfl
theorem leaf_rising_pv (n : Nat) (o1 : Nat) (f1 : Nat × Nat) (a1 : List Item) (r : leaf_rising_R) : PV cfg0 kd (leaf_rising_E n o1 f1 a1) r [] (bodyOf Try.f63) (retK cfg0 kd leaf_rising_kr (leaf_rising_E n o1 f1 a1) Try.f63.results.toList leaf_rising_ret) := by
  exact PV.triv (by kernel_rfl)
noncomputable def leaf_rising_ct (n : Nat) (vs : List AV) (h : AH) : Option Ctr := match vs, h with
  | [.sl 0 5], [(0, (.row .item o1 a1 35 f1))] => some (.one leaf_rising_R (leaf_rising n  a1 ) [] 0 leaf_rising_out)
  | _, _ => none
theorem leaf_rising_ok (n : Nat) : COk1 cfg0 63 (leaf_rising_ct n) := by
  intro vs h c e
  unfold leaf_rising_ct at e
  split at e
  · rename_i o1 a1 f1
    cases e
    exact fun r hm => sxF_ok (E := leaf_rising_E n o1 f1 a1) (nx1 := leaf_rising_nx) (leaf_rising_fn) rfl rfl rfl (callA_ok (leaf_rising_pre_ok n)) leaf_rising_ret_ok rfl (leaf_rising_pv n o1 f1 a1 _) ((leaf_rising_eq n o1 f1 a1 ).trans hm)
  · cases e
end
end Go.Ev
end
section
set_option linter.unusedVariables false
set_option linter.unusedSimpArgs false
set_option maxRecDepth 100000
set_option maxHeartbeats 400000
namespace Go.Ev
open Go.RowKit Go.Proofs
section
theorem leaf_Find_1_fn : cfg0.fn 65 = some Try.f65 := rfl
abbrev leaf_Find_1_R : Type := Bool × (List UInt8)
@[reducible] def leaf_Find_1_rt (b0 : Bool) (b1 : List UInt8) : Option leaf_Find_1_R := some (b0, b1)
noncomputable def leaf_Find_1_out : leaf_Find_1_R → AV × AH
  | (b0, b1) => ((.b b0), [(0, (.cells [(.sl 2 5)] 22 (0, 0))), (1, (.cells [(.s b1)] 9 (0, 0)))])
noncomputable def leaf_Find_1_nx : leaf_Find_1_R → Nat
  | _ => 3
noncomputable def leaf_Find_1_ret (v : AV) (h : AH) (nx : Nat) : Option leaf_Find_1_R := match v, h, nx with
  | (.b b0), [(0, (.cells [(.sl 2 5)] 22 (0, 0))), (1, (.cells [(.s b1)] 9 (0, 0)))], 3 => some (b0, b1)
  | _, _, _ => none
theorem leaf_Find_1_ret_ok (v : AV) (h : AH) (nx : Nat) (r : leaf_Find_1_R) (e : leaf_Find_1_ret v h nx = some r) : leaf_Find_1_out r = (v, h) ∧ nx = leaf_Find_1_nx r := by
  unfold leaf_Find_1_ret at e
  split at e
  · cases e; exact ⟨rfl, rfl⟩
  · cases e
noncomputable def leaf_Find_1_kr : KN := []
noncomputable def leaf_Find_1_pre (n : Nat) : CT := ctZ
theorem leaf_Find_1_pre_ok (n : Nat) : COk cfg0 (leaf_Find_1_pre n) := ctZ_ok
noncomputable def leaf_Find_1_E0 (n : Nat) (R : Type) (o1 : Nat) (f1 : Nat × Nat) (a2 : List Item) (jf lf : List Nat → Nat → AT → AS → Option R) : SE R := ⟨[(2, (.row .item o1 a2 35 f1))], Try.f65.ntmps, 3, callA cfg0 kd [(2, (.row .item o1 a2 35 f1))] (leaf_Find_1_pre n), n, [], [], [], [], jf, lf⟩
noncomputable def leaf_Find_1_F (n : Nat) (a2 : List Item) (a1 : Int) (a3 : List UInt8)  : Option leaf_Find_1_R := bif decide (0 ≤ a1) && decide (Int.toNat a1 < List.length a2) then Option.bind a2[Int.toNat a1]? fun z => leaf_Find_1_rt (!sLt z.key a3) a3 else none
noncomputable def leaf_Find_1 (n : Nat) (a2 : List Item) (a1 : Int) (a3 : List UInt8) : Option leaf_Find_1_R := leaf_Find_1_F n a2 a1 a3 
noncomputable def leaf_Find_1_jf (n : Nat) (a2 : List Item) : List Nat → Nat → AT → AS → Option leaf_Find_1_R := fun ms key T s => none
noncomputable def leaf_Find_1_lf (n : Nat) (a2 : List Item) : List Nat → Nat → AT → AS → Option leaf_Find_1_R := fun ms key T s => none
noncomputable def leaf_Find_1_E (n : Nat) (o1 : Nat) (f1 : Nat × Nat) (a2 : List Item) : SE leaf_Find_1_R := leaf_Find_1_E0 n leaf_Find_1_R o1 f1 a2 (leaf_Find_1_jf n a2) (leaf_Find_1_lf n a2)
theorem leaf_Find_1_eq (n : Nat) (o1 : Nat) (f1 : Nat × Nat) (a2 : List Item) (a1 : Int) (a3 : List UInt8) : sxF cfg0 kd leaf_Find_1_kr (leaf_Find_1_E n o1 f1 a2) Try.f65 (bodyOf Try.f65) [(0, (.cells ([.sl 2 5]) 22 (0, 0))), (1, (.cells ([.s a3]) 9 (0, 0)))] [.i .i64 a1, .ptr 0 0, .ptr 1 0] leaf_Find_1_ret = leaf_Find_1 n a2 a1 a3 := by kernel_rfl
theorem leaf_Find_1_pv (n : Nat) (o1 : Nat) (f1 : Nat × Nat) (a2 : List Item) (r : leaf_Find_1_R) : PV cfg0 kd (leaf_Find_1_E n o1 f1 a2) r [] (bodyOf Try.f65) (retK cfg0 kd leaf_Find_1_kr (leaf_Find_1_E n o1 f1 a2) Try.f65.results.toList leaf_Find_1_ret) := by
  exact PV.triv (by kernel_rfl)
noncomputable def leaf_Find_1_ct (n : Nat) (vs : List AV) (h : AH) : Option Ctr := match vs, h with
  | [.i .i64 a1, .ptr 0 0, .ptr 1 0], [(0, (.cells ([.sl 2 5]) 22 (0, 0))), (1, (.cells ([.s a3]) 9 (0, 0))), (2, (.row .item o1 a2 35 f1))] => some (.one leaf_Find_1_R (leaf_Find_1 n  a2 a1 a3) [0, 1] 0 leaf_Find_1_out)
  | _, _ => none
theorem leaf_Find_1_ok (n : Nat) : COk1 cfg0 65 (leaf_Find_1_ct n) := by
  intro vs h c e
  unfold leaf_Find_1_ct at e
  split at e
  · rename_i a1 a3 o1 a2 f1
    cases e
    exact fun r hm => sxF_ok (E := leaf_Find_1_E n o1 f1 a2) (nx1 := leaf_Find_1_nx) (leaf_Find_1_fn) rfl rfl rfl (callA_ok (leaf_Find_1_pre_ok n)) leaf_Find_1_ret_ok rfl (leaf_Find_1_pv n o1 f1 a2 _) ((leaf_Find_1_eq n o1 f1 a2 a1 a3).trans hm)
  · cases e
end
end Go.Ev
end
section
set_option linter.unusedVariables false
set_option linter.unusedSimpArgs false
set_option maxRecDepth 100000
set_option maxHeartbeats 400000
namespace Go.Ev
open Go.RowKit Go.Proofs
section
theorem sort_Search_fn : cfg0.fn 64 = some Try.f64 := rfl
abbrev sort_Search_R : Type := Int × (List UInt8)
@[reducible] def sort_Search_rt (b0 : Int) (b1 : List UInt8) : Option sort_Search_R := some (b0, b1)
noncomputable def sort_Search_out : sort_Search_R → AV × AH
  | (b0, b1) => ((.i .i64 b0), [(0, (.cells [(.sl 2 5)] 22 (0, 0))), (1, (.cells [(.s b1)] 9 (0, 0)))])
noncomputable def sort_Search_nx : sort_Search_R → Nat
  | _ => 3
noncomputable def sort_Search_ret (v : AV) (h : AH) (nx : Nat) : Option sort_Search_R := match v, h, nx with
  | (.i .i64 b0), [(0, (.cells [(.sl 2 5)] 22 (0, 0))), (1, (.cells [(.s b1)] 9 (0, 0)))], 3 => some (b0, b1)
  | _, _, _ => none
theorem sort_Search_ret_ok (v : AV) (h : AH) (nx : Nat) (r : sort_Search_R) (e : sort_Search_ret v h nx = some r) : sort_Search_out r = (v, h) ∧ nx = sort_Search_nx r := by
  unfold sort_Search_ret at e
  split at e
  · cases e; exact ⟨rfl, rfl⟩
  · cases e
noncomputable def sort_Search_kr : KN := []
noncomputable def sort_Search_pre (n : Nat) : CT := (ctA 65 (leaf_Find_1_ct n) ctZ)
theorem sort_Search_pre_ok (n : Nat) : COk cfg0 (sort_Search_pre n) := (ctA_ok (leaf_Find_1_ok n) ctZ_ok)
noncomputable def sort_Search_E0 (n : Nat) (R : Type) (o1 : Nat) (f1 : Nat × Nat) (a2 : List Item) (jf lf : List Nat → Nat → AT → AS → Option R) : SE R := ⟨[(2, (.row .item o1 a2 35 f1))], Try.f64.ntmps, 3, callA cfg0 kd [(2, (.row .item o1 a2 35 f1))] (sort_Search_pre n), n, [(3, ([1, 5, 6], 0))], [], [], [], jf, lf⟩
noncomputable def sort_Search_L3F (n : Nat) (a2 : List Item) (r3 : (Int → Int → List UInt8 → Option sort_Search_R))  (x0 : Int) (x1 : Int) (x2 : List UInt8) : Option sort_Search_R := bif decide (x0 < x1) then Option.bind (leaf_Find_1 n a2 (w64 (↑(u64 (w64 (x0 + x1)) / 2 ^ (1 : Nat)) : Int)) x2) fun z => bif !z.fst then r3 (w64 (w64 (↑(u64 (w64 (x0 + x1)) / 2 ^ (1 : Nat)) : Int) + 1)) x1 z.2 else r3 x0 (w64 (↑(u64 (w64 (x0 + x1)) / 2 ^ (1 : Nat)) : Int)) z.2 else sort_Search_rt x0 x2
noncomputable def sort_Search_L3 (n : Nat) (a2 : List Item)  : Nat → Int → Int → List UInt8 → Option sort_Search_R
  | 0, _, _, _ => none
  | m + 1, x0, x1, x2 => sort_Search_L3F n a2  (sort_Search_L3 n a2  m)  x0 x1 x2
noncomputable def sort_Search_F (n : Nat) (a2 : List Item) (a1 : Int) (a3 : List UInt8) (l3 : (Int → Int → List UInt8 → Option sort_Search_R)) : Option sort_Search_R := l3 0 a1 a3
noncomputable def sort_Search (n : Nat) (a2 : List Item) (a1 : Int) (a3 : List UInt8) : Option sort_Search_R := sort_Search_F n a2 a1 a3 (sort_Search_L3 n a2 n)
noncomputable def sort_Search_L3q (n : Nat) (a2 : List Item) (m3 : Nat) (T : AT) (s : AS) : Option sort_Search_R := match T, s with
  | [(1, (.fn 65 [(.ptr 0 0), (.ptr 1 0)])), (5, (.i .i64 x0)), (6, (.i .i64 x1))], ⟨[(0, (.cells [(.sl 2 5)] 22 (0, 0))), (1, (.cells [(.s x2)] 9 (0, 0)))], 3, []⟩ => sort_Search_L3 n a2  m3 x0 x1 x2
  | _, _ => none
noncomputable def sort_Search_jf (n : Nat) (a2 : List Item) : List Nat → Nat → AT → AS → Option sort_Search_R := fun ms key T s => none
noncomputable def sort_Search_lf (n : Nat) (a2 : List Item) : List Nat → Nat → AT → AS → Option sort_Search_R := fun ms key T s => cond (Nat.beq key 3) (match ms with | [m3] => sort_Search_L3q n a2 m3 T s | _ => none) (none)
noncomputable def sort_Search_E (n : Nat) (o1 : Nat) (f1 : Nat × Nat) (a2 : List Item) : SE sort_Search_R := sort_Search_E0 n sort_Search_R o1 f1 a2 (sort_Search_jf n a2) (sort_Search_lf n a2)
theorem sort_Search_eq (n : Nat) (o1 : Nat) (f1 : Nat × Nat) (a2 : List Item) (a1 : Int) (a3 : List UInt8) : sxF cfg0 kd sort_Search_kr (sort_Search_E n o1 f1 a2) Try.f64 (bodyOf Try.f64) [(0, (.cells ([.sl 2 5]) 22 (0, 0))), (1, (.cells ([.s a3]) 9 (0, 0)))] [.i .i64 a1, .fn 65 [.ptr 0 0, .ptr 1 0]] sort_Search_ret = sort_Search n a2 a1 a3 := by kernel_rfl
theorem sort_Search_pv (n : Nat) (o1 : Nat) (f1 : Nat × Nat) (a2 : List Item) (r : sort_Search_R) : PV cfg0 kd (sort_Search_E n o1 f1 a2) r [] (bodyOf Try.f64) (retK cfg0 kd sort_Search_kr (sort_Search_E n o1 f1 a2) Try.f64.results.toList sort_Search_ret) := by
  refine PV.sn (by kernel_rfl) ?_ ?_
  ·
    refine PV.sn (by kernel_rfl) ?_ ?_
    ·
      refine PV.sn (by kernel_rfl) ?_ ?_
      ·
        exact PV.triv (by kernel_rfl)
      ·
        refine PV.bl ?_
        refine PV.lp (live := [1, 5, 6]) (by kernel_rfl) ?_ ?_ ?_
        · intro T s h; change sort_Search_L3q n a2 0 _ _ = some r at h; unfold sort_Search_L3q at h; split at h
          · exact nomatch (show (none : Option sort_Search_R) = some r from h)
          · cases h
        · intro m3 T s h; change sort_Search_L3q n a2 (m3 + 1) _ _ = some r at h; unfold sort_Search_L3q at h; split at h
          · exact Eq.trans (by kernel_rfl) h
          · cases h
        · intro m3
          exact PV.triv (by kernel_rfl)
    ·
      exact PV.triv (by kernel_rfl)
  ·
    exact PV.triv (by kernel_rfl)
noncomputable def sort_Search_ct (n : Nat) (vs : List AV) (h : AH) : Option Ctr := match vs, h with
  | [.i .i64 a1, .fn 65 [.ptr 0 0, .ptr 1 0]], [(0, (.cells ([.sl 2 5]) 22 (0, 0))), (1, (.cells ([.s a3]) 9 (0, 0))), (2, (.row .item o1 a2 35 f1))] => some (.one sort_Search_R (sort_Search n  a2 a1 a3) [0, 1] 0 sort_Search_out)
  | _, _ => none
theorem sort_Search_ok (n : Nat) : COk1 cfg0 64 (sort_Search_ct n) := by
  intro vs h c e
  unfold sort_Search_ct at e
  split at e
  · rename_i a1 a3 o1 a2 f1
    cases e
    exact fun r hm => sxF_ok (E := sort_Search_E n o1 f1 a2) (nx1 := sort_Search_nx) (sort_Search_fn) rfl rfl rfl (callA_ok (sort_Search_pre_ok n)) sort_Search_ret_ok rfl (sort_Search_pv n o1 f1 a2 _) ((sort_Search_eq n o1 f1 a2 a1 a3).trans hm)
  · cases e
end
end Go.Ev
end
section
set_option linter.unusedVariables false
set_option linter.unusedSimpArgs false
set_option maxRecDepth 100000
set_option maxHeartbeats 400000
namespace Go.Ev
open Go.RowKit Go.Proofs
section
theorem leaf_Find_fn : cfg0.fn 17 = some Try.f17 := rfl
abbrev leaf_Find_R : Type := Int × Bool
@[reducible] def leaf_Find_rt (b0 : Int) (b1 : Bool) : Option leaf_Find_R := some (b0, b1)
noncomputable def leaf_Find_out : leaf_Find_R → AV × AH
  | (b0, b1) => ((.tu [(.i .i64 b0), (.b b1)]), [])
noncomputable def leaf_Find_nx : leaf_Find_R → Nat
  | _ => 1
noncomputable def leaf_Find_ret (v : AV) (h : AH) (nx : Nat) : Option leaf_Find_R := match v, h, nx with
  | (.tu [(.i .i64 b0), (.b b1)]), [], 1 => some (b0, b1)
  | _, _, _ => none
theorem leaf_Find_ret_ok (v : AV) (h : AH) (nx : Nat) (r : leaf_Find_R) (e : leaf_Find_ret v h nx = some r) : leaf_Find_out r = (v, h) ∧ nx = leaf_Find_nx r := by
  unfold leaf_Find_ret at e
  split at e
  · cases e; exact ⟨rfl, rfl⟩
  · cases e
noncomputable def leaf_Find_kr : KN := []
noncomputable def leaf_Find_pre (n : Nat) : CT := (ctA 63 (leaf_rising_ct n) (ctA 64 (sort_Search_ct n) (ctA 65 (leaf_Find_1_ct n) ctZ)))
theorem leaf_Find_pre_ok (n : Nat) : COk cfg0 (leaf_Find_pre n) := (ctA_ok (leaf_rising_ok n) (ctA_ok (sort_Search_ok n) (ctA_ok (leaf_Find_1_ok n) ctZ_ok)))
noncomputable def leaf_Find_E0 (n : Nat) (R : Type) (o1 : Nat) (f1 : Nat × Nat) (a1 : List Item) (jf lf : List Nat → Nat → AT → AS → Option R) : SE R := ⟨[(0, (.row .item o1 a1 35 f1))], Try.f17.ntmps, 1, callA cfg0 kd [(0, (.row .item o1 a1 35 f1))] (leaf_Find_pre n), n, [(5, ([2, 3, 6], 0))], [(7, [2, 3, 6])], [], [], jf, lf⟩
noncomputable def leaf_Find_J7F (n : Nat) (a1 : List Item)   (x0 : Int) (x1 : List UInt8) : Option leaf_Find_R := bif decide (x0 < (↑(List.length a1) : Int)) then bif decide (0 ≤ x0) && decide (Int.toNat x0 < List.length a1) then Option.bind a1[Int.toNat x0]? fun z => leaf_Find_rt x0 (decide (z.key = x1)) else none else leaf_Find_rt x0 false
noncomputable def leaf_Find_J7 (n : Nat) (a1 : List Item)  (x0 : Int) (x1 : List UInt8) : Option leaf_Find_R := leaf_Find_J7F n a1   x0 x1
noncomputable def leaf_Find_L5F (n : Nat) (a1 : List Item) (r5 : (Int → List UInt8 → Option leaf_Find_R)) (j7 : (Int → List UInt8 → Option leaf_Find_R)) (x0 : Int) (x1 : List UInt8) : Option leaf_Find_R := bif decide (x0 < (↑(List.length a1) : Int)) then bif decide (0 ≤ x0) && decide (Int.toNat x0 < List.length a1) then Option.bind a1[Int.toNat x0]? fun z => bif sLt z.key x1 then r5 (w64 (x0 + 1)) x1 else j7 x0 x1 else none else j7 x0 x1
noncomputable def leaf_Find_L5 (n : Nat) (a1 : List Item)  : Nat → Int → List UInt8 → Option leaf_Find_R
  | 0, _, _ => none
  | m + 1, x0, x1 => leaf_Find_L5F n a1  (leaf_Find_L5 n a1  m) (leaf_Find_J7 n a1 ) x0 x1
noncomputable def leaf_Find_F (n : Nat) (a1 : List Item) (a2 : List UInt8) (j7 : (Int → List UInt8 → Option leaf_Find_R)) (l5 : (Int → List UInt8 → Option leaf_Find_R)) : Option leaf_Find_R := Option.bind (leaf_rising n a1) fun z => bif z then Option.bind (sort_Search n a1 (↑(List.length a1) : Int) a2) fun z_1 => j7 z_1.1 z_1.2 else l5 0 a2
noncomputable def leaf_Find (n : Nat) (a1 : List Item) (a2 : List UInt8) : Option leaf_Find_R := leaf_Find_F n a1 a2 (leaf_Find_J7 n a1) (leaf_Find_L5 n a1 n)
noncomputable def leaf_Find_J7q (n : Nat) (a1 : List Item)  (T : AT) (s : AS) : Option leaf_Find_R := match T, s with
  | [(2, (.ptr 1 0)), (3, (.ptr 2 0)), (6, (.i .i64 x0))], ⟨[(2, (.cells [(.s x1)] 9 (0, 0))), (1, (.cells [(.sl 0 5)] 22 (0, 0)))], 3, []⟩ => leaf_Find_J7 n a1  x0 x1
  | _, _ => none
noncomputable def leaf_Find_L5q (n : Nat) (a1 : List Item) (m5 : Nat) (T : AT) (s : AS) : Option leaf_Find_R := match T, s with
  | [(2, (.ptr 1 0)), (3, (.ptr 2 0)), (6, (.i .i64 x0))], ⟨[(2, (.cells [(.s x1)] 9 (0, 0))), (1, (.cells [(.sl 0 5)] 22 (0, 0)))], 3, []⟩ => leaf_Find_L5 n a1  m5 x0 x1
  | _, _ => none
noncomputable def leaf_Find_jf (n : Nat) (a1 : List Item) : List Nat → Nat → AT → AS → Option leaf_Find_R := fun ms key T s => cond (Nat.beq key 7) (match ms with | [] => leaf_Find_J7q n a1  T s | _ => none) (none)
noncomputable def leaf_Find_lf (n : Nat) (a1 : List Item) : List Nat → Nat → AT → AS → Option leaf_Find_R := fun ms key T s => cond (Nat.beq key 5) (match ms with | [m5] => leaf_Find_L5q n a1 m5 T s | _ => none) (none)
noncomputable def leaf_Find_E (n : Nat) (o1 : Nat) (f1 : Nat × Nat) (a1 : List Item) : SE leaf_Find_R := leaf_Find_E0 n leaf_Find_R o1 f1 a1 (leaf_Find_jf n a1) (leaf_Find_lf n a1)
theorem leaf_Find_eq (n : Nat) (o1 : Nat) (f1 : Nat × Nat) (a1 : List Item) (a2 : List UInt8) : sxF cfg0 kd leaf_Find_kr (leaf_Find_E n o1 f1 a1) Try.f17 (bodyOf Try.f17) [] [.sl 0 5, .s a2] leaf_Find_ret = leaf_Find n a1 a2 := by kernel_rfl
theorem leaf_Find_pv (n : Nat) (o1 : Nat) (f1 : Nat × Nat) (a1 : List Item) (r : leaf_Find_R) : PV cfg0 kd (leaf_Find_E n o1 f1 a1) r [] (bodyOf Try.f17) (retK cfg0 kd leaf_Find_kr (leaf_Find_E n o1 f1 a1) Try.f17.results.toList leaf_Find_ret) := by
  refine PV.sn (by kernel_rfl) ?_ ?_
  ·
    refine PV.sn (by kernel_rfl) ?_ ?_
    ·
      refine PV.sj (live := [2, 3, 6]) (by kernel_rfl) ?_ ?_ ?_
      · intro T s h; change leaf_Find_J7q n a1  _ _ = some r at h; unfold leaf_Find_J7q at h; split at h
        · exact Eq.trans (by kernel_rfl) h
        · cases h
      ·
        exact PV.triv (by kernel_rfl)
      ·
        refine PV.sn (by kernel_rfl) ?_ ?_
        ·
          refine PV.cn ?_ ?_
          ·
            exact PV.triv (by kernel_rfl)
          ·
            refine PV.bl ?_
            refine PV.lp (live := [2, 3, 6]) (by kernel_rfl) ?_ ?_ ?_
            · intro T s h; change leaf_Find_L5q n a1 0 _ _ = some r at h; unfold leaf_Find_L5q at h; split at h
              · exact nomatch (show (none : Option leaf_Find_R) = some r from h)
              · cases h
            · intro m5 T s h; change leaf_Find_L5q n a1 (m5 + 1) _ _ = some r at h; unfold leaf_Find_L5q at h; split at h
              · exact Eq.trans (by kernel_rfl) h
              · cases h
            · intro m5
              exact PV.triv (by kernel_rfl)
        ·
          exact PV.triv (by kernel_rfl)
    ·
      exact PV.triv (by kernel_rfl)
  ·
    exact PV.triv (by kernel_rfl)
noncomputable def leaf_Find_ct (n : Nat) (vs : List AV) (h : AH) : Option Ctr := match vs, h with
  | [.sl 0 5, .s a2], [(0, (.row .item o1 a1 35 f1))] => some (.one leaf_Find_R (leaf_Find n  a1 a2) [] 0 leaf_Find_out)
  | _, _ => none
theorem leaf_Find_ok (n : Nat) : COk1 cfg0 17 (leaf_Find_ct n) := by
  intro vs h c e
  unfold leaf_Find_ct at e
  split at e
  · rename_i a2 o1 a1 f1
    cases e
    exact fun r hm => sxF_ok (E := leaf_Find_E n o1 f1 a1) (nx1 := leaf_Find_nx) (leaf_Find_fn) rfl rfl rfl (callA_ok (leaf_Find_pre_ok n)) leaf_Find_ret_ok rfl (leaf_Find_pv n o1 f1 a1 _) ((leaf_Find_eq n o1 f1 a1 a2).trans hm)
  · cases e
end
end Go.Ev
end
section
set_option linter.unusedVariables false
set_option linter.unusedSimpArgs false
set_option maxRecDepth 100000
set_option maxHeartbeats 400000
namespace Go.Ev
open Go.RowKit Go.Proofs
section
theorem law08_LeafFinds_fn : cfg0.fn 3 = some Try.f3 := rfl
abbrev law08_LeafFinds_R : Type := Bool
@[reducible] def law08_LeafFinds_rt (b0 : Bool) : Option law08_LeafFinds_R := some b0
noncomputable def law08_LeafFinds_out : law08_LeafFinds_R → AV × AH
  | b0 => ((.b b0), [])
noncomputable def law08_LeafFinds_nx : law08_LeafFinds_R → Nat
  | _ => 1
noncomputable def law08_LeafFinds_ret (v : AV) (h : AH) (nx : Nat) : Option law08_LeafFinds_R := match v, h, nx with
  | (.b b0), [], 1 => some b0
  | _, _, _ => none
theorem law08_LeafFinds_ret_ok (v : AV) (h : AH) (nx : Nat) (r : law08_LeafFinds_R) (e : law08_LeafFinds_ret v h nx = some r) : law08_LeafFinds_out r = (v, h) ∧ nx = law08_LeafFinds_nx r := by
  unfold law08_LeafFinds_ret at e
  split at e
  · cases e; exact ⟨rfl, rfl⟩
  · cases e
noncomputable def law08_LeafFinds_kr : KN := []
noncomputable def law08_LeafFinds_pre (n : Nat) : CT := (ctA 14 (law08_lives_ct n) (ctA 15 (leaf_Page_ct n) (ctA 16 (law08_light_ct n) (ctA 17 (leaf_Find_ct n) ctZ))))
theorem law08_LeafFinds_pre_ok (n : Nat) : COk cfg0 (law08_LeafFinds_pre n) := (ctA_ok (law08_lives_ok n) (ctA_ok (leaf_Page_ok n) (ctA_ok (law08_light_ok n) (ctA_ok (leaf_Find_ok n) ctZ_ok))))
noncomputable def law08_LeafFinds_E0 (n : Nat) (R : Type) (o1 : Nat) (f1 : Nat × Nat) (a2 : List Item) (jf lf : List Nat → Nat → AT → AS → Option R) : SE R := ⟨[(0, (.row .item o1 a2 35 f1))], Try.f3.ntmps, 1, callA cfg0 kd [(0, (.row .item o1 a2 35 f1))] (law08_LeafFinds_pre n), n, [(12, ([1, 2, 9, 10, 11, 12], 0))], [(7, [1, 2]), (10, [1, 2, 9, 10]), (17, [1, 2, 9, 10, 11, 12])], [], [], jf, lf⟩
noncomputable def law08_LeafFinds_J17F (n : Nat) (a2 : List Item) (r12 : (List UInt8 → Int → Bool → Bool → Int → Option law08_LeafFinds_R))  (x0 : List UInt8) (x1 : Int) (x2 : Bool) (x3 : Bool) (x4 : Int) : Option law08_LeafFinds_R := bif x3 then r12 x0 x1 x2 true (w64 (x4 + 1)) else bif decide (0 ≤ x4) && decide (Int.toNat x4 < List.length a2) then Option.bind a2[Int.toNat x4]? fun z => r12 x0 x1 x2 (decide (z.key = x0)) (w64 (x4 + 1)) else none
noncomputable def law08_LeafFinds_J17 (n : Nat) (a2 : List Item) (r12 : (List UInt8 → Int → Bool → Bool → Int → Option law08_LeafFinds_R)) (x0 : List UInt8) (x1 : Int) (x2 : Bool) (x3 : Bool) (x4 : Int) : Option law08_LeafFinds_R := law08_LeafFinds_J17F n a2 r12  x0 x1 x2 x3 x4
noncomputable def law08_LeafFinds_L12F (n : Nat) (a2 : List Item) (r12 : (List UInt8 → Int → Bool → Bool → Int → Option law08_LeafFinds_R)) (j17 : (List UInt8 → Int → Bool → Bool → Int → Option law08_LeafFinds_R)) (x0 : List UInt8) (x1 : Int) (x2 : Bool) (x3 : Bool) (x4 : Int) : Option law08_LeafFinds_R := bif decide (x4 < (↑(List.length a2) : Int)) then bif decide (0 ≤ x4) && decide (Int.toNat x4 < List.length a2) then Option.bind a2[Int.toNat x4]? fun z => Option.bind (leaf_Find n a2 z.key) fun z_1 => bif decide (z_1.fst ≠ x4) then law08_LeafFinds_rt false else bif !z_1.snd then law08_LeafFinds_rt false else bif decide (0 ≤ x4) && decide (Int.toNat x4 < List.length a2) then Option.bind a2[Int.toNat x4]? fun z_2 => bif !decide (x4 < x1) == sLt z_2.key x0 then law08_LeafFinds_rt false else j17 x0 x1 x2 x3 x4 else none else none else law08_LeafFinds_rt (x3 == x2)
noncomputable def law08_LeafFinds_L12 (n : Nat) (a2 : List Item)  : Nat → List UInt8 → Int → Bool → Bool → Int → Option law08_LeafFinds_R
  | 0, _, _, _, _, _ => none
  | m + 1, x0, x1, x2, x3, x4 => law08_LeafFinds_L12F n a2  (law08_LeafFinds_L12 n a2  m) (law08_LeafFinds_J17 n a2 (law08_LeafFinds_L12 n a2  m)) x0 x1 x2 x3 x4
noncomputable def law08_LeafFinds_J10F (n : Nat) (a2 : List Item)  (l12 : (List UInt8 → Int → Bool → Bool → Int → Option law08_LeafFinds_R)) (x0 : List UInt8) (x1 : Int) (x2 : Bool) : Option law08_LeafFinds_R := l12 x0 x1 x2 false 0
noncomputable def law08_LeafFinds_J10 (n : Nat) (a2 : List Item)  (x0 : List UInt8) (x1 : Int) (x2 : Bool) : Option law08_LeafFinds_R := law08_LeafFinds_J10F n a2  (law08_LeafFinds_L12 n a2  n) x0 x1 x2
noncomputable def law08_LeafFinds_J7F (n : Nat) (a2 : List Item)  (j10 : (List UInt8 → Int → Bool → Option law08_LeafFinds_R)) (x0 : List UInt8) : Option law08_LeafFinds_R := Option.bind (leaf_Find n a2 x0) fun z => bif decide (z.fst < 0) then law08_LeafFinds_rt false else bif decide ((↑(List.length a2) : Int) < z.fst) then law08_LeafFinds_rt false else j10 x0 z.fst z.snd
noncomputable def law08_LeafFinds_J7 (n : Nat) (a2 : List Item)  (x0 : List UInt8) : Option law08_LeafFinds_R := law08_LeafFinds_J7F n a2  (law08_LeafFinds_J10 n a2 ) x0
noncomputable def law08_LeafFinds_F (n : Nat) (a2 : List Item) (a1 : Int) (a3 : List UInt8) (j7 : (List UInt8 → Option law08_LeafFinds_R)) : Option law08_LeafFinds_R := Option.bind (law08_lives n) fun z => bif !z then law08_LeafFinds_rt false else Option.bind (leaf_Page n a2 a1 ((2 : Nat)) ((0 : Nat))) fun z_1 => Option.bind (law08_light n a2) fun z_2 => bif !z_2 then law08_LeafFinds_rt true else bif decide (z_1.snd ≠ 0) then law08_LeafFinds_rt true else bif decide (200 < (↑(List.length a3) : Int)) then law08_LeafFinds_rt true else j7 a3
noncomputable def law08_LeafFinds (n : Nat) (a2 : List Item) (a1 : Int) (a3 : List UInt8) : Option law08_LeafFinds_R := law08_LeafFinds_F n a2 a1 a3 (law08_LeafFinds_J7 n a2)
noncomputable def law08_LeafFinds_J17q (n : Nat) (a2 : List Item) (m12 : Nat) (T : AT) (s : AS) : Option law08_LeafFinds_R := match T, s with
  | [(1, (.sl 0 5)), (2, (.s x0)), (9, (.i .i64 x1)), (10, (.b x2)), (11, (.b x3)), (12, (.i .i64 x4))], ⟨[], 1, []⟩ => law08_LeafFinds_J17 n a2 (law08_LeafFinds_L12 n a2  m12) x0 x1 x2 x3 x4
  | _, _ => none
noncomputable def law08_LeafFinds_L12q (n : Nat) (a2 : List Item) (m12 : Nat) (T : AT) (s : AS) : Option law08_LeafFinds_R := match T, s with
  | [(1, (.sl 0 5)), (2, (.s x0)), (9, (.i .i64 x1)), (10, (.b x2)), (11, (.b x3)), (12, (.i .i64 x4))], ⟨[], 1, []⟩ => law08_LeafFinds_L12 n a2  m12 x0 x1 x2 x3 x4
  | _, _ => none
noncomputable def law08_LeafFinds_J10q (n : Nat) (a2 : List Item)  (T : AT) (s : AS) : Option law08_LeafFinds_R := match T, s with
  | [(1, (.sl 0 5)), (2, (.s x0)), (9, (.i .i64 x1)), (10, (.b x2))], ⟨[], 1, []⟩ => law08_LeafFinds_J10 n a2  x0 x1 x2
  | _, _ => none
noncomputable def law08_LeafFinds_J7q (n : Nat) (a2 : List Item)  (T : AT) (s : AS) : Option law08_LeafFinds_R := match T, s with
  | [(1, (.sl 0 5)), (2, (.s x0))], ⟨[], 1, []⟩ => law08_LeafFinds_J7 n a2  x0
  | _, _ => none
noncomputable def law08_LeafFinds_jf (n : Nat) (a2 : List Item) : List Nat → Nat → AT → AS → Option law08_LeafFinds_R := fun ms key T s => cond (Nat.beq key 17) (match ms with | [m12] => law08_LeafFinds_J17q n a2 m12 T s | _ => none) (cond (Nat.beq key 10) (match ms with | [] => law08_LeafFinds_J10q n a2  T s | _ => none) (cond (Nat.beq key 7) (match ms with | [] => law08_LeafFinds_J7q n a2  T s | _ => none) (none)))
noncomputable def law08_LeafFinds_lf (n : Nat) (a2 : List Item) : List Nat → Nat → AT → AS → Option law08_LeafFinds_R := fun ms key T s => cond (Nat.beq key 12) (match ms with | [m12] => law08_LeafFinds_L12q n a2 m12 T s | _ => none) (none)
noncomputable def law08_LeafFinds_E (n : Nat) (o1 : Nat) (f1 : Nat × Nat) (a2 : List Item) : SE law08_LeafFinds_R := law08_LeafFinds_E0 n law08_LeafFinds_R o1 f1 a2 (law08_LeafFinds_jf n a2) (law08_LeafFinds_lf n a2)
theorem law08_LeafFinds_eq (n : Nat) (o1 : Nat) (f1 : Nat × Nat) (a2 : List Item) (a1 : Int) (a3 : List UInt8) : sxF cfg0 kd law08_LeafFinds_kr (law08_LeafFinds_E n o1 f1 a2) Try.f3 (bodyOf Try.f3) [] [.i .i64 a1, .sl 0 5, .s a3] law08_LeafFinds_ret = law08_LeafFinds n a2 a1 a3 := by kernel_rfl
theorem law08_LeafFinds_pv (n : Nat) (o1 : Nat) (f1 : Nat × Nat) (a2 : List Item) (r : law08_LeafFinds_R) : PV cfg0 kd (law08_LeafFinds_E n o1 f1 a2) r [] (bodyOf Try.f3) (retK cfg0 kd law08_LeafFinds_kr (law08_LeafFinds_E n o1 f1 a2) Try.f3.results.toList law08_LeafFinds_ret) := by
  refine PV.sn (by kernel_rfl) ?_ ?_
  ·
    refine PV.sn (by kernel_rfl) ?_ ?_
    ·
      refine PV.sn (by kernel_rfl) ?_ ?_
      ·
        refine PV.sj (live := [1, 2]) (by kernel_rfl) ?_ ?_ ?_
        · intro T s h; change law08_LeafFinds_J7q n a2  _ _ = some r at h; unfold law08_LeafFinds_J7q at h; split at h
          · exact Eq.trans (by kernel_rfl) h
          · cases h
        ·
          refine PV.sn (by kernel_rfl) ?_ ?_
          ·
            refine PV.sj (live := [1, 2, 9, 10]) (by kernel_rfl) ?_ ?_ ?_
            · intro T s h; change law08_LeafFinds_J10q n a2  _ _ = some r at h; unfold law08_LeafFinds_J10q at h; split at h
              · exact Eq.trans (by kernel_rfl) h
              · cases h
            ·
              refine PV.sn (by kernel_rfl) ?_ ?_
              ·
                refine PV.sn (by kernel_rfl) ?_ ?_
                ·
                  exact PV.triv (by kernel_rfl)
                ·
                  refine PV.sn (by kernel_rfl) ?_ ?_
                  ·
                    refine PV.bl ?_
                    refine PV.lp (live := [1, 2, 9, 10, 11, 12]) (by kernel_rfl) ?_ ?_ ?_
                    · intro T s h; change law08_LeafFinds_L12q n a2 0 _ _ = some r at h; unfold law08_LeafFinds_L12q at h; split at h
                      · exact nomatch (show (none : Option law08_LeafFinds_R) = some r from h)
                      · cases h
                    · intro m12 T s h; change law08_LeafFinds_L12q n a2 (m12 + 1) _ _ = some r at h; unfold law08_LeafFinds_L12q at h; split at h
                      · exact Eq.trans (by kernel_rfl) h
                      · cases h
                    · intro m12
                      refine PV.sn (by kernel_rfl) ?_ ?_
                      ·
                        refine PV.sn (by kernel_rfl) ?_ ?_
                        ·
                          exact PV.triv (by kernel_rfl)
                        ·
                          refine PV.bl ?_
                          refine PV.sn (by kernel_rfl) ?_ ?_
                          ·
                            refine PV.sj (live := [1, 2, 9, 10, 11, 12]) (by kernel_rfl) ?_ ?_ ?_
                            · intro T s h; change law08_LeafFinds_J17q n a2 m12 _ _ = some r at h; unfold law08_LeafFinds_J17q at h; split at h
                              · exact Eq.trans (by kernel_rfl) h
                              · cases h
                            ·
                              exact PV.triv (by kernel_rfl)
                            ·
                              exact PV.triv (by kernel_rfl)
                          ·
                            exact PV.triv (by kernel_rfl)
                      ·
                        exact PV.triv (by kernel_rfl)
                  ·
                    exact PV.triv (by kernel_rfl)
              ·
                exact PV.triv (by kernel_rfl)
            ·
              exact PV.triv (by kernel_rfl)
          ·
            exact PV.triv (by kernel_rfl)
        ·
          exact PV.triv (by kernel_rfl)
      ·
        exact PV.triv (by kernel_rfl)
    ·
      exact PV.triv (by kernel_rfl)
  ·
    exact PV.triv (by kernel_rfl)
noncomputable def law08_LeafFinds_ct (n : Nat) (vs : List AV) (h : AH) : Option Ctr := match vs, h with
  | [.i .i64 a1, .sl 0 5, .s a3], [(0, (.row .item o1 a2 35 f1))] => some (.one law08_LeafFinds_R (law08_LeafFinds n  a2 a1 a3) [] 0 law08_LeafFinds_out)
  | _, _ => none
theorem law08_LeafFinds_ok (n : Nat) : COk1 cfg0 3 (law08_LeafFinds_ct n) := by
  intro vs h c e
  unfold law08_LeafFinds_ct at e
  split at e
  · rename_i a1 a3 o1 a2 f1
    cases e
    exact fun r hm => sxF_ok (E := law08_LeafFinds_E n o1 f1 a2) (nx1 := law08_LeafFinds_nx) (law08_LeafFinds_fn) rfl rfl rfl (callA_ok (law08_LeafFinds_pre_ok n)) law08_LeafFinds_ret_ok rfl (law08_LeafFinds_pv n o1 f1 a2 _) ((law08_LeafFinds_eq n o1 f1 a2 a1 a3).trans hm)
  · cases e
end
end Go.Ev
end
section
set_option linter.unusedVariables false
set_option linter.unusedSimpArgs false
set_option maxRecDepth 100000
set_option maxHeartbeats 400000
namespace Go.Ev
open Go.RowKit Go.Proofs
section
theorem octet_New_fn : cfg0.fn 66 = some Try.f66 := rfl
abbrev octet_New_R : Type := (List UInt8)
@[reducible] def octet_New_rt (b0 : List UInt8) : Option octet_New_R := some b0
noncomputable def octet_New_out : octet_New_R → AV × AH
  | b0 => ((.ptr 0 0), [(0, (.cells [(.s b0)] 133 (0, 0)))])
noncomputable def octet_New_nx : octet_New_R → Nat
  | _ => 1
noncomputable def octet_New_ret (v : AV) (h : AH) (nx : Nat) : Option octet_New_R := match v, h, nx with
  | (.ptr 0 0), [(0, (.cells [(.s b0)] 133 (0, 0)))], 1 => some b0
  | _, _, _ => none
theorem octet_New_ret_ok (v : AV) (h : AH) (nx : Nat) (r : octet_New_R) (e : octet_New_ret v h nx = some r) : octet_New_out r = (v, h) ∧ nx = octet_New_nx r := by
  unfold octet_New_ret at e
  split at e
  · cases e; exact ⟨rfl, rfl⟩
  · cases e
noncomputable def octet_New_kr : KN := []
noncomputable def octet_New_pre (n : Nat) : CT := ctZ
theorem octet_New_pre_ok (n : Nat) : COk cfg0 (octet_New_pre n) := ctZ_ok
noncomputable def octet_New_E0 (n : Nat) (R : Type)   (jf lf : List Nat → Nat → AT → AS → Option R) : SE R := ⟨[], Try.f66.ntmps, 0, callA cfg0 kd [] (octet_New_pre n), n, [], [], [], [], jf, lf⟩
noncomputable def octet_New_F (n : Nat) (a1 : List UInt8)  : Option octet_New_R := octet_New_rt a1
noncomputable def octet_New (n : Nat) (a1 : List UInt8) : Option octet_New_R := octet_New_F n a1 
noncomputable def octet_New_jf (n : Nat) : List Nat → Nat → AT → AS → Option octet_New_R := fun ms key T s => none
noncomputable def octet_New_lf (n : Nat) : List Nat → Nat → AT → AS → Option octet_New_R := fun ms key T s => none
noncomputable def octet_New_E (n : Nat)   : SE octet_New_R := octet_New_E0 n octet_New_R   (octet_New_jf n) (octet_New_lf n)
theorem octet_New_eq (n : Nat) (a1 : List UInt8) : sxF cfg0 kd octet_New_kr (octet_New_E n  ) Try.f66 (bodyOf Try.f66) [] [.s a1] octet_New_ret = octet_New n a1 := by kernel_rfl
theorem octet_New_pv (n : Nat) (r : octet_New_R) : PV cfg0 kd (octet_New_E n  ) r [] (bodyOf Try.f66) (retK cfg0 kd octet_New_kr (octet_New_E n  ) Try.f66.results.toList octet_New_ret) := by
  exact PV.triv (by kernel_rfl)
noncomputable def octet_New_ct (n : Nat) (vs : List AV) (h : AH) : Option Ctr := match vs, h with
  | [.s a1], [] => some (.one octet_New_R (octet_New n   a1) [] 1 octet_New_out)
  | _, _ => none
theorem octet_New_ok (n : Nat) : COk1 cfg0 66 (octet_New_ct n) := by
  intro vs h c e
  unfold octet_New_ct at e
  split at e
  · rename_i a1
    cases e
    exact fun r hm => sxF_ok (E := octet_New_E n  ) (nx1 := octet_New_nx) (octet_New_fn) rfl rfl rfl (callA_ok (octet_New_pre_ok n)) octet_New_ret_ok rfl (octet_New_pv n   _) ((octet_New_eq n   a1).trans hm)
  · cases e
end
end Go.Ev
end
section
set_option linter.unusedVariables false
set_option linter.unusedSimpArgs false
set_option maxRecDepth 100000
set_option maxHeartbeats 400000
namespace Go.Ev
open Go.RowKit Go.Proofs
section
theorem octet_Reader_take_fn : cfg0.fn 139 = some Try.f139 := rfl
abbrev octet_Reader_take_R : Type := (List UInt8) × Int × (List UInt8)
@[reducible] def octet_Reader_take_rt (b0 : List UInt8) (b1 : Int) (b2 : List UInt8) : Option octet_Reader_take_R := some (b0, b1, b2)
noncomputable def octet_Reader_take_out : octet_Reader_take_R → AV × AH
  | (b0, b1, b2) => ((.tu [(.s b0), (.i .i64 b1)]), [(0, (.cells [(.s b2)] 133 (0, 0)))])
noncomputable def octet_Reader_take_nx : octet_Reader_take_R → Nat
  | _ => 1
noncomputable def octet_Reader_take_ret (v : AV) (h : AH) (nx : Nat) : Option octet_Reader_take_R := match v, h, nx with
  | (.tu [(.s b0), (.i .i64 b1)]), [(0, (.cells [(.s b2)] 133 (0, 0)))], 1 => some (b0, b1, b2)
  | _, _, _ => none
theorem octet_Reader_take_ret_ok (v : AV) (h : AH) (nx : Nat) (r : octet_Reader_take_R) (e : octet_Reader_take_ret v h nx = some r) : octet_Reader_take_out r = (v, h) ∧ nx = octet_Reader_take_nx r := by
  unfold octet_Reader_take_ret at e
  split at e
  · cases e; exact ⟨rfl, rfl⟩
  · cases e
noncomputable def octet_Reader_take_kr : KN := []
noncomputable def octet_Reader_take_pre (n : Nat) : CT := ctZ
theorem octet_Reader_take_pre_ok (n : Nat) : COk cfg0 (octet_Reader_take_pre n) := ctZ_ok
noncomputable def octet_Reader_take_E0 (n : Nat) (R : Type)   (jf lf : List Nat → Nat → AT → AS → Option R) : SE R := ⟨[], Try.f139.ntmps, 1, callA cfg0 kd [] (octet_Reader_take_pre n), n, [], [], [], [], jf, lf⟩
noncomputable def octet_Reader_take_F (n : Nat) (a1 : Int) (a2 : List UInt8)  : Option octet_Reader_take_R := bif decide ((↑(List.length a2) : Int) < a1) then octet_Reader_take_rt [] 7 a2 else bif decide (0 ≤ a1) && decide (Int.toNat a1 ≤ List.length a2) then bif decide (0 ≤ a1) && decide (Int.toNat a1 ≤ List.length a2) then octet_Reader_take_rt (List.take (Int.toNat a1) a2) 0 (List.drop (Int.toNat a1) a2) else none else none
noncomputable def octet_Reader_take (n : Nat) (a1 : Int) (a2 : List UInt8) : Option octet_Reader_take_R := octet_Reader_take_F n a1 a2 
noncomputable def octet_Reader_take_jf (n : Nat) : List Nat → Nat → AT → AS → Option octet_Reader_take_R := fun ms key T s => none
noncomputable def octet_Reader_take_lf (n : Nat) : List Nat → Nat → AT → AS → Option octet_Reader_take_R := fun ms key T s => none
noncomputable def octet_Reader_take_E (n : Nat)   : SE octet_Reader_take_R := octet_Reader_take_E0 n octet_Reader_take_R   (octet_Reader_take_jf n) (octet_Reader_take_lf n)
theorem octet_Reader_take_eq (n : Nat) (a1 : Int) (a2 : List UInt8) : sxF cfg0 kd octet_Reader_take_kr (octet_Reader_take_E n  ) Try.f139 (bodyOf Try.f139) [(0, (.cells ([.s a2]) 133 (0, 0)))] [.ptr 0 0, .i .i64 a1] octet_Reader_take_ret = octet_Reader_take n a1 a2 := by kernel_rfl
theorem octet_Reader_take_pv (n : Nat) (r : octet_Reader_take_R) : PV cfg0 kd (octet_Reader_take_E n  ) r [] (bodyOf Try.f139) (retK cfg0 kd octet_Reader_take_kr (octet_Reader_take_E n  ) Try.f139.results.toList octet_Reader_take_ret) := by
  exact PV.triv (by kernel_rfl)
noncomputable def octet_Reader_take_ct (n : Nat) (vs : List AV) (h : AH) : Option Ctr := match vs, h with
  | [.ptr 0 0, .i .i64 a1], [(0, (.cells ([.s a2]) 133 (0, 0)))] => some (.one octet_Reader_take_R (octet_Reader_take n   a1 a2) [0] 0 octet_Reader_take_out)
  | _, _ => none
theorem octet_Reader_take_ok (n : Nat) : COk1 cfg0 139 (octet_Reader_take_ct n) := by
  intro vs h c e
  unfold octet_Reader_take_ct at e
  split at e
  · rename_i a1 a2
    cases e
    exact fun r hm => sxF_ok (E := octet_Reader_take_E n  ) (nx1 := octet_Reader_take_nx) (octet_Reader_take_fn) rfl rfl rfl (callA_ok (octet_Reader_take_pre_ok n)) octet_Reader_take_ret_ok rfl (octet_Reader_take_pv n   _) ((octet_Reader_take_eq n   a1 a2).trans hm)
  · cases e
end
end Go.Ev
end
section
set_option linter.unusedVariables false
set_option linter.unusedSimpArgs false
set_option maxRecDepth 100000
set_option maxHeartbeats 400000
namespace Go.Ev
open Go.RowKit Go.Proofs
section
theorem octet_Reader_Number_fn : cfg0.fn 115 = some Try.f115 := rfl
abbrev octet_Reader_Number_R : Type := Nat × Int × (List UInt8)
@[reducible] def octet_Reader_Number_rt (b0 : Nat) (b1 : Int) (b2 : List UInt8) : Option octet_Reader_Number_R := some (b0, b1, b2)
noncomputable def octet_Reader_Number_out : octet_Reader_Number_R → AV × AH
  | (b0, b1, b2) => ((.tu [(.n .u64 b0), (.i .i64 b1)]), [(0, (.cells [(.s b2)] 133 (0, 0)))])
noncomputable def octet_Reader_Number_nx : octet_Reader_Number_R → Nat
  | _ => 1
noncomputable def octet_Reader_Number_ret (v : AV) (h : AH) (nx : Nat) : Option octet_Reader_Number_R := match v, h, nx with
  | (.tu [(.n .u64 b0), (.i .i64 b1)]), [(0, (.cells [(.s b2)] 133 (0, 0)))], 1 => some (b0, b1, b2)
  | _, _, _ => none
theorem octet_Reader_Number_ret_ok (v : AV) (h : AH) (nx : Nat) (r : octet_Reader_Number_R) (e : octet_Reader_Number_ret v h nx = some r) : octet_Reader_Number_out r = (v, h) ∧ nx = octet_Reader_Number_nx r := by
  unfold octet_Reader_Number_ret at e
  split at e
  · cases e; exact ⟨rfl, rfl⟩
  · cases e
noncomputable def octet_Reader_Number_kr : KN := []
noncomputable def octet_Reader_Number_pre (n : Nat) : CT := (ctA 139 (octet_Reader_take_ct n) ctZ)
theorem octet_Reader_Number_pre_ok (n : Nat) : COk cfg0 (octet_Reader_Number_pre n) := (ctA_ok (octet_Reader_take_ok n) ctZ_ok)
noncomputable def octet_Reader_Number_E0 (n : Nat) (R : Type)   (jf lf : List Nat → Nat → AT → AS → Option R) : SE R := ⟨[], Try.f115.ntmps, 1, callA cfg0 kd [] (octet_Reader_Number_pre n), n, [(8, ([4, 5, 6, 25, 26], 0))], [(6, [0, 1, 4])], [], [], jf, lf⟩
noncomputable def octet_Reader_Number_L8F (n : Nat) (r8 : (Nat → Int → List UInt8 → Int → Int → List UInt8 → Option octet_Reader_Number_R))  (x0 : Nat) (x1 : Int) (x2 : List UInt8) (x3 : Int) (x4 : Int) (x5 : List UInt8) : Option octet_Reader_Number_R := bif decide (x4 < x3) then bif decide (0 ≤ x4) then Option.bind x2[Int.toNat x4]? fun z => bif decide (0 ≤ w64 (8 * x4)) && Nat.ble (Int.toNat (w64 (8 * x4))) 64 then r8 ((x0 % 18446744073709551616 ||| UInt8.toNat z * 2 ^ Int.toNat (w64 (8 * x4)) % 18446744073709551616 % 18446744073709551616) % 18446744073709551616) x1 x2 x3 (w64 (x4 + 1)) x5 else none else none else octet_Reader_Number_rt x0 x1 x5
noncomputable def octet_Reader_Number_L8 (n : Nat)  : Nat → Nat → Int → List UInt8 → Int → Int → List UInt8 → Option octet_Reader_Number_R
  | 0, _, _, _, _, _, _ => none
  | m + 1, x0, x1, x2, x3, x4, x5 => octet_Reader_Number_L8F n  (octet_Reader_Number_L8 n  m)  x0 x1 x2 x3 x4 x5
noncomputable def octet_Reader_Number_J6F (n : Nat)  (l8 : (Nat → Int → List UInt8 → Int → Int → List UInt8 → Option octet_Reader_Number_R)) (x0 : Int) (x1 : Nat) (x2 : List UInt8) : Option octet_Reader_Number_R := Option.bind (octet_Reader_take n x0 x2) fun z => l8 x1 z.2.fst z.fst (↑(List.length z.fst) : Int) 0 z.2.2
noncomputable def octet_Reader_Number_J6 (n : Nat)  (x0 : Int) (x1 : Nat) (x2 : List UInt8) : Option octet_Reader_Number_R := octet_Reader_Number_J6F n  (octet_Reader_Number_L8 n  n) x0 x1 x2
noncomputable def octet_Reader_Number_F (n : Nat) (a1 : Int) (a2 : List UInt8) (j6 : (Int → Nat → List UInt8 → Option octet_Reader_Number_R)) : Option octet_Reader_Number_R := bif decide (a1 < 1) then octet_Reader_Number_rt ((0 : Nat)) 2 a2 else bif decide (8 < a1) then octet_Reader_Number_rt ((0 : Nat)) 2 a2 else j6 a1 ((0 : Nat)) a2
noncomputable def octet_Reader_Number (n : Nat) (a1 : Int) (a2 : List UInt8) : Option octet_Reader_Number_R := octet_Reader_Number_F n a1 a2 (octet_Reader_Number_J6 n)
noncomputable def octet_Reader_Number_L8q (n : Nat) (m8 : Nat) (T : AT) (s : AS) : Option octet_Reader_Number_R := match T, s with
  | [(4, (.n .u64 x0)), (5, (.i .i64 x1)), (6, (.s x2)), (25, (.i .i64 x3)), (26, (.i .i64 x4))], ⟨[(0, (.cells [(.s x5)] 133 (0, 0)))], 1, []⟩ => octet_Reader_Number_L8 n  m8 x0 x1 x2 x3 x4 x5
  | _, _ => none
noncomputable def octet_Reader_Number_J6q (n : Nat)  (T : AT) (s : AS) : Option octet_Reader_Number_R := match T, s with
  | [(0, (.ptr 0 0)), (1, (.i .i64 x0)), (4, (.n .u64 x1))], ⟨[(0, (.cells [(.s x2)] 133 (0, 0)))], 1, []⟩ => octet_Reader_Number_J6 n  x0 x1 x2
  | _, _ => none
noncomputable def octet_Reader_Number_jf (n : Nat) : List Nat → Nat → AT → AS → Option octet_Reader_Number_R := fun ms key T s => cond (Nat.beq key 6) (match ms with | [] => octet_Reader_Number_J6q n  T s | _ => none) (none)
noncomputable def octet_Reader_Number_lf (n : Nat) : List Nat → Nat → AT → AS → Option octet_Reader_Number_R := fun ms key T s => cond (Nat.beq key 8) (match ms with | [m8] => octet_Reader_Number_L8q n m8 T s | _ => none) (none)
noncomputable def octet_Reader_Number_E (n : Nat)   : SE octet_Reader_Number_R := octet_Reader_Number_E0 n octet_Reader_Number_R   (octet_Reader_Number_jf n) (octet_Reader_Number_lf n)
theorem octet_Reader_Number_eq (n : Nat) (a1 : Int) (a2 : List UInt8) : sxF cfg0 kd octet_Reader_Number_kr (octet_Reader_Number_E n  ) Try.f115 (bodyOf Try.f115) [(0, (.cells ([.s a2]) 133 (0, 0)))] [.ptr 0 0, .i .i64 a1] octet_Reader_Number_ret = octet_Reader_Number n a1 a2 := by kernel_rfl
theorem octet_Reader_Number_pv (n : Nat) (r : octet_Reader_Number_R) : PV cfg0 kd (octet_Reader_Number_E n  ) r [] (bodyOf Try.f115) (retK cfg0 kd octet_Reader_Number_kr (octet_Reader_Number_E n  ) Try.f115.results.toList octet_Reader_Number_ret) := by
  refine PV.sn (by kernel_rfl) ?_ ?_
  ·
    refine PV.sj (live := [0, 1, 4]) (by kernel_rfl) ?_ ?_ ?_
    · intro T s h; change octet_Reader_Number_J6q n  _ _ = some r at h; unfold octet_Reader_Number_J6q at h; split at h
      · exact Eq.trans (by kernel_rfl) h
      · cases h
    ·
      refine PV.sn (by kernel_rfl) ?_ ?_
      ·
        refine PV.sn (by kernel_rfl) ?_ ?_
        ·
          exact PV.triv (by kernel_rfl)
        ·
          refine PV.sn (by kernel_rfl) ?_ ?_
          ·
            refine PV.bl ?_
            refine PV.lp (live := [4, 5, 6, 25, 26]) (by kernel_rfl) ?_ ?_ ?_
            · intro T s h; change octet_Reader_Number_L8q n 0 _ _ = some r at h; unfold octet_Reader_Number_L8q at h; split at h
              · exact nomatch (show (none : Option octet_Reader_Number_R) = some r from h)
              · cases h
            · intro m8 T s h; change octet_Reader_Number_L8q n (m8 + 1) _ _ = some r at h; unfold octet_Reader_Number_L8q at h; split at h
              · exact Eq.trans (by kernel_rfl) h
              · cases h
            · intro m8
              exact PV.triv (by kernel_rfl)
          ·
            exact PV.triv (by kernel_rfl)
      ·
        exact PV.triv (by kernel_rfl)
    ·
      exact PV.triv (by kernel_rfl)
  ·
    exact PV.triv (by kernel_rfl)
noncomputable def octet_Reader_Number_ct (n : Nat) (vs : List AV) (h : AH) : Option Ctr := match vs, h with
  | [.ptr 0 0, .i .i64 a1], [(0, (.cells ([.s a2]) 133 (0, 0)))] => some (.one octet_Reader_Number_R (octet_Reader_Number n   a1 a2) [0] 0 octet_Reader_Number_out)
  | _, _ => none
theorem octet_Reader_Number_ok (n : Nat) : COk1 cfg0 115 (octet_Reader_Number_ct n) := by
  intro vs h c e
  unfold octet_Reader_Number_ct at e
  split at e
  · rename_i a1 a2
    cases e
    exact fun r hm => sxF_ok (E := octet_Reader_Number_E n  ) (nx1 := octet_Reader_Number_nx) (octet_Reader_Number_fn) rfl rfl rfl (callA_ok (octet_Reader_Number_pre_ok n)) octet_Reader_Number_ret_ok rfl (octet_Reader_Number_pv n   _) ((octet_Reader_Number_eq n   a1 a2).trans hm)
  · cases e
end
end Go.Ev
end
section
set_option linter.unusedVariables false
set_option linter.unusedSimpArgs false
set_option maxRecDepth 100000
set_option maxHeartbeats 400000
namespace Go.Ev
open Go.RowKit Go.Proofs
section
theorem octet_Reader_Bytes_fn : cfg0.fn 116 = some Try.f116 := rfl
abbrev octet_Reader_Bytes_R : Type := (List UInt8) × Int × (List UInt8)
@[reducible] def octet_Reader_Bytes_rt (b0 : List UInt8) (b1 : Int) (b2 : List UInt8) : Option octet_Reader_Bytes_R := some (b0, b1, b2)
noncomputable def octet_Reader_Bytes_out : octet_Reader_Bytes_R → AV × AH
  | (b0, b1, b2) => ((.tu [(.s b0), (.i .i64 b1)]), [(0, (.cells [(.s b2)] 133 (0, 0)))])
noncomputable def octet_Reader_Bytes_nx : octet_Reader_Bytes_R → Nat
  | _ => 1
noncomputable def octet_Reader_Bytes_ret (v : AV) (h : AH) (nx : Nat) : Option octet_Reader_Bytes_R := match v, h, nx with
  | (.tu [(.s b0), (.i .i64 b1)]), [(0, (.cells [(.s b2)] 133 (0, 0)))], 1 => some (b0, b1, b2)
  | _, _, _ => none
theorem octet_Reader_Bytes_ret_ok (v : AV) (h : AH) (nx : Nat) (r : octet_Reader_Bytes_R) (e : octet_Reader_Bytes_ret v h nx = some r) : octet_Reader_Bytes_out r = (v, h) ∧ nx = octet_Reader_Bytes_nx r := by
  unfold octet_Reader_Bytes_ret at e
  split at e
  · cases e; exact ⟨rfl, rfl⟩
  · cases e
noncomputable def octet_Reader_Bytes_kr : KN := []
noncomputable def octet_Reader_Bytes_pre (n : Nat) : CT := (ctA 139 (octet_Reader_take_ct n) ctZ)
theorem octet_Reader_Bytes_pre_ok (n : Nat) : COk cfg0 (octet_Reader_Bytes_pre n) := (ctA_ok (octet_Reader_take_ok n) ctZ_ok)
noncomputable def octet_Reader_Bytes_E0 (n : Nat) (R : Type)   (jf lf : List Nat → Nat → AT → AS → Option R) : SE R := ⟨[], Try.f116.ntmps, 1, callA cfg0 kd [] (octet_Reader_Bytes_pre n), n, [], [], [], [], jf, lf⟩
noncomputable def octet_Reader_Bytes_F (n : Nat) (a1 : Int) (a2 : List UInt8)  : Option octet_Reader_Bytes_R := bif decide (a1 < 0) then octet_Reader_Bytes_rt [] 2 a2 else Option.bind (octet_Reader_take n a1 a2) fun z => octet_Reader_Bytes_rt z.fst z.2.fst z.2.2
noncomputable def octet_Reader_Bytes (n : Nat) (a1 : Int) (a2 : List UInt8) : Option octet_Reader_Bytes_R := octet_Reader_Bytes_F n a1 a2 
noncomputable def octet_Reader_Bytes_jf (n : Nat) : List Nat → Nat → AT → AS → Option octet_Reader_Bytes_R := fun ms key T s => none
noncomputable def octet_Reader_Bytes_lf (n : Nat) : List Nat → Nat → AT → AS → Option octet_Reader_Bytes_R := fun ms key T s => none
noncomputable def octet_Reader_Bytes_E (n : Nat)   : SE octet_Reader_Bytes_R := octet_Reader_Bytes_E0 n octet_Reader_Bytes_R   (octet_Reader_Bytes_jf n) (octet_Reader_Bytes_lf n)
theorem octet_Reader_Bytes_eq (n : Nat) (a1 : Int) (a2 : List UInt8) : sxF cfg0 kd octet_Reader_Bytes_kr (octet_Reader_Bytes_E n  ) Try.f116 (bodyOf Try.f116) [(0, (.cells ([.s a2]) 133 (0, 0)))] [.ptr 0 0, .i .i64 a1] octet_Reader_Bytes_ret = octet_Reader_Bytes n a1 a2 := by kernel_rfl
theorem octet_Reader_Bytes_pv (n : Nat) (r : octet_Reader_Bytes_R) : PV cfg0 kd (octet_Reader_Bytes_E n  ) r [] (bodyOf Try.f116) (retK cfg0 kd octet_Reader_Bytes_kr (octet_Reader_Bytes_E n  ) Try.f116.results.toList octet_Reader_Bytes_ret) := by
  exact PV.triv (by kernel_rfl)
noncomputable def octet_Reader_Bytes_ct (n : Nat) (vs : List AV) (h : AH) : Option Ctr := match vs, h with
  | [.ptr 0 0, .i .i64 a1], [(0, (.cells ([.s a2]) 133 (0, 0)))] => some (.one octet_Reader_Bytes_R (octet_Reader_Bytes n   a1 a2) [0] 0 octet_Reader_Bytes_out)
  | _, _ => none
theorem octet_Reader_Bytes_ok (n : Nat) : COk1 cfg0 116 (octet_Reader_Bytes_ct n) := by
  intro vs h c e
  unfold octet_Reader_Bytes_ct at e
  split at e
  · rename_i a1 a2
    cases e
    exact fun r hm => sxF_ok (E := octet_Reader_Bytes_E n  ) (nx1 := octet_Reader_Bytes_nx) (octet_Reader_Bytes_fn) rfl rfl rfl (callA_ok (octet_Reader_Bytes_pre_ok n)) octet_Reader_Bytes_ret_ok rfl (octet_Reader_Bytes_pv n   _) ((octet_Reader_Bytes_eq n   a1 a2).trans hm)
  · cases e
end
end Go.Ev
end
section
set_option linter.unusedVariables false
set_option linter.unusedSimpArgs false
set_option maxRecDepth 100000
set_option maxHeartbeats 400000
namespace Go.Ev
open Go.RowKit Go.Proofs
section
theorem leaf_item_fn : cfg0.fn 69 = some Try.f69 := rfl
abbrev leaf_item_R : Type := Item × Int × (List UInt8)
@[reducible] def leaf_item_rt (b0 : Item) (b1 : Int) (b2 : List UInt8) : Option leaf_item_R := some (b0, b1, b2)
noncomputable def leaf_item_out : leaf_item_R → AV × AH
  | (b0, b1, b2) => ((.tu [(.ag (RK.k .item b0)), (.i .i64 b1)]), [(0, (.cells [(.s b2)] 133 (0, 0)))])
noncomputable def leaf_item_nx : leaf_item_R → Nat
  | _ => 1
noncomputable def leaf_item_ret (v : AV) (h : AH) (nx : Nat) : Option leaf_item_R := match v, h, nx with
  | (.tu [(.ag [.s b0_0, .s b0_1, .b b0_2, .i .i64 b0_3, .n .u32 b0_4]), (.i .i64 b1)]), [(0, (.cells [(.s b2)] 133 (0, 0)))], 1 => some (⟨b0_0, b0_1, b0_2, b0_3, b0_4⟩, b1, b2)
  | _, _, _ => none
theorem leaf_item_ret_ok (v : AV) (h : AH) (nx : Nat) (r : leaf_item_R) (e : leaf_item_ret v h nx = some r) : leaf_item_out r = (v, h) ∧ nx = leaf_item_nx r := by
  unfold leaf_item_ret at e
  split at e
  · cases e; exact ⟨rfl, rfl⟩
  · cases e
noncomputable def leaf_item_kr : KN := []
noncomputable def leaf_item_pre (n : Nat) : CT := (ctA 115 (octet_Reader_Number_ct n) (ctA 116 (octet_Reader_Bytes_ct n) ctZ))
theorem leaf_item_pre_ok (n : Nat) : COk cfg0 (leaf_item_pre n) := (ctA_ok (octet_Reader_Number_ok n) (ctA_ok (octet_Reader_Bytes_ok n) ctZ_ok))
noncomputable def leaf_item_E0 (n : Nat) (R : Type)   (jf lf : List Nat → Nat → AT → AS → Option R) : SE R := ⟨[], Try.f69.ntmps, 1, callA cfg0 kd [] (leaf_item_pre n), n, [], [(6, [0, 2, 4, 6])], [], [], jf, lf⟩
noncomputable def leaf_item_J6F (n : Nat)   (x0 : Nat) (x1 : Nat) (x2 : Item) (x3 : List UInt8) : Option leaf_item_R := Option.bind (octet_Reader_Bytes n (w64 (↑x1 : Int)) x3) fun z => bif decide (z.2.fst ≠ 0) then leaf_item_rt (Item.mk z.fst x2.value x2.over x2.len x2.head) z.2.fst z.2.2 else bif decide (x0 = (1 : Nat)) then Option.bind (octet_Reader_Number n 4 z.2.2) fun z_1 => Option.bind (octet_Reader_Number n 4 z_1.2.2) fun z_2 => leaf_item_rt (Item.mk z.fst x2.value (decide (x0 = (1 : Nat))) (w64 (↑z_1.fst : Int)) (z_2.fst % 4294967296)) z_2.2.fst z_2.2.2 else Option.bind (octet_Reader_Number n 1 z.2.2) fun z_1 => bif decide (z_1.2.fst ≠ 0) then leaf_item_rt (Item.mk z.fst x2.value (decide (x0 = (1 : Nat))) x2.len x2.head) z_1.2.fst z_1.2.2 else Option.bind (octet_Reader_Bytes n (w64 (↑z_1.fst : Int)) z_1.2.2) fun z_2 => leaf_item_rt (Item.mk z.fst z_2.fst (decide (x0 = (1 : Nat))) x2.len x2.head) z_2.2.fst z_2.2.2
noncomputable def leaf_item_J6 (n : Nat)  (x0 : Nat) (x1 : Nat) (x2 : Item) (x3 : List UInt8) : Option leaf_item_R := leaf_item_J6F n   x0 x1 x2 x3
noncomputable def leaf_item_F (n : Nat) (a1 : List UInt8) (j6 : (Nat → Nat → Item → List UInt8 → Option leaf_item_R)) : Option leaf_item_R := Option.bind (octet_Reader_Number n 1 a1) fun z => Option.bind (octet_Reader_Number n 1 z.2.2) fun z_1 => bif decide (z_1.2.fst ≠ 0) then leaf_item_rt (Item.mk [] [] false 0 ((0 : Nat))) 4 z_1.2.2 else bif decide ((1 : Nat) < z.fst) then leaf_item_rt (Item.mk [] [] false 0 ((0 : Nat))) 4 z_1.2.2 else j6 z.fst z_1.fst (Item.mk [] [] false 0 ((0 : Nat))) z_1.2.2
noncomputable def leaf_item (n : Nat) (a1 : List UInt8) : Option leaf_item_R := leaf_item_F n a1 (leaf_item_J6 n)
noncomputable def leaf_item_J6q (n : Nat)  (T : AT) (s : AS) : Option leaf_item_R := match T, s with
  | [(0, (.ptr 0 0)), (2, (.ptr 1 0)), (4, (.n .u64 x0)), (6, (.n .u64 x1))], ⟨[(1, (.cells [.s x2_0, .s x2_1, .b x2_2, .i .i64 x2_3, .n .u32 x2_4] 35 (0, 0))), (0, (.cells [(.s x3)] 133 (0, 0)))], 2, []⟩ => leaf_item_J6 n  x0 x1 ⟨x2_0, x2_1, x2_2, x2_3, x2_4⟩ x3
  | _, _ => none
noncomputable def leaf_item_jf (n : Nat) : List Nat → Nat → AT → AS → Option leaf_item_R := fun ms key T s => cond (Nat.beq key 6) (match ms with | [] => leaf_item_J6q n  T s | _ => none) (none)
noncomputable def leaf_item_lf (n : Nat) : List Nat → Nat → AT → AS → Option leaf_item_R := fun ms key T s => none
noncomputable def leaf_item_E (n : Nat)   : SE leaf_item_R := leaf_item_E0 n leaf_item_R   (leaf_item_jf n) (leaf_item_lf n)
theorem leaf_item_eq (n : Nat) (a1 : List UInt8) : sxF cfg0 kd leaf_item_kr (leaf_item_E n  ) Try.f69 (bodyOf Try.f69) [(0, (.cells ([.s a1]) 133 (0, 0)))] [.ptr 0 0] leaf_item_ret = leaf_item n a1 := by kernel_rfl
theorem leaf_item_pv (n : Nat) (r : leaf_item_R) : PV cfg0 kd (leaf_item_E n  ) r [] (bodyOf Try.f69) (retK cfg0 kd leaf_item_kr (leaf_item_E n  ) Try.f69.results.toList leaf_item_ret) := by
  refine PV.sn (by kernel_rfl) ?_ ?_
  ·
    refine PV.sn (by kernel_rfl) ?_ ?_
    ·
      refine PV.sn (by kernel_rfl) ?_ ?_
      ·
        refine PV.sj (live := [0, 2, 4, 6]) (by kernel_rfl) ?_ ?_ ?_
        · intro T s h; change leaf_item_J6q n  _ _ = some r at h; unfold leaf_item_J6q at h; split at h
          · exact Eq.trans (by kernel_rfl) h
          · cases h
        ·
          exact PV.triv (by kernel_rfl)
        ·
          exact PV.triv (by kernel_rfl)
      ·
        exact PV.triv (by kernel_rfl)
    ·
      exact PV.triv (by kernel_rfl)
  ·
    exact PV.triv (by kernel_rfl)
noncomputable def leaf_item_ct (n : Nat) (vs : List AV) (h : AH) : Option Ctr := match vs, h with
  | [.ptr 0 0], [(0, (.cells ([.s a1]) 133 (0, 0)))] => some (.one leaf_item_R (leaf_item n   a1) [0] 0 leaf_item_out)
  | _, _ => none
theorem leaf_item_ok (n : Nat) : COk1 cfg0 69 (leaf_item_ct n) := by
  intro vs h c e
  unfold leaf_item_ct at e
  split at e
  · rename_i a1
    cases e
    exact fun r hm => sxF_ok (E := leaf_item_E n  ) (nx1 := leaf_item_nx) (leaf_item_fn) rfl rfl rfl (callA_ok (leaf_item_pre_ok n)) leaf_item_ret_ok rfl (leaf_item_pv n   _) ((leaf_item_eq n   a1).trans hm)
  · cases e
end
end Go.Ev
end
section
set_option linter.unusedVariables false
set_option linter.unusedSimpArgs false
set_option maxRecDepth 100000
set_option maxHeartbeats 400000
namespace Go.Ev
open Go.RowKit Go.Proofs
section
theorem leaf_Of_1_fn : cfg0.fn 68 = some Try.f68 := rfl
abbrev leaf_Of_1_R : Type := Item × Int × (List UInt8)
@[reducible] def leaf_Of_1_rt (b0 : Item) (b1 : Int) (b2 : List UInt8) : Option leaf_Of_1_R := some (b0, b1, b2)
noncomputable def leaf_Of_1_out : leaf_Of_1_R → AV × AH
  | (b0, b1, b2) => ((.tu [(.ag (RK.k .item b0)), (.i .i64 b1)]), [(0, (.cells [(.ptr 1 0)] 89 (0, 0))), (1, (.cells [(.s b2)] 133 (0, 0)))])
noncomputable def leaf_Of_1_nx : leaf_Of_1_R → Nat
  | _ => 2
noncomputable def leaf_Of_1_ret (v : AV) (h : AH) (nx : Nat) : Option leaf_Of_1_R := match v, h, nx with
  | (.tu [(.ag [.s b0_0, .s b0_1, .b b0_2, .i .i64 b0_3, .n .u32 b0_4]), (.i .i64 b1)]), [(0, (.cells [(.ptr 1 0)] 89 (0, 0))), (1, (.cells [(.s b2)] 133 (0, 0)))], 2 => some (⟨b0_0, b0_1, b0_2, b0_3, b0_4⟩, b1, b2)
  | _, _, _ => none
theorem leaf_Of_1_ret_ok (v : AV) (h : AH) (nx : Nat) (r : leaf_Of_1_R) (e : leaf_Of_1_ret v h nx = some r) : leaf_Of_1_out r = (v, h) ∧ nx = leaf_Of_1_nx r := by
  unfold leaf_Of_1_ret at e
  split at e
  · cases e; exact ⟨rfl, rfl⟩
  · cases e
noncomputable def leaf_Of_1_kr : KN := []
noncomputable def leaf_Of_1_pre (n : Nat) : CT := (ctA 69 (leaf_item_ct n) ctZ)
theorem leaf_Of_1_pre_ok (n : Nat) : COk cfg0 (leaf_Of_1_pre n) := (ctA_ok (leaf_item_ok n) ctZ_ok)
noncomputable def leaf_Of_1_E0 (n : Nat) (R : Type)   (jf lf : List Nat → Nat → AT → AS → Option R) : SE R := ⟨[], Try.f68.ntmps, 2, callA cfg0 kd [] (leaf_Of_1_pre n), n, [], [], [], [], jf, lf⟩
noncomputable def leaf_Of_1_F (n : Nat) (a1 : List UInt8)  : Option leaf_Of_1_R := Option.bind (leaf_item n a1) fun z => leaf_Of_1_rt z.fst z.2.fst z.2.2
noncomputable def leaf_Of_1 (n : Nat) (a1 : List UInt8) : Option leaf_Of_1_R := leaf_Of_1_F n a1 
noncomputable def leaf_Of_1_jf (n : Nat) : List Nat → Nat → AT → AS → Option leaf_Of_1_R := fun ms key T s => none
noncomputable def leaf_Of_1_lf (n : Nat) : List Nat → Nat → AT → AS → Option leaf_Of_1_R := fun ms key T s => none
noncomputable def leaf_Of_1_E (n : Nat)   : SE leaf_Of_1_R := leaf_Of_1_E0 n leaf_Of_1_R   (leaf_Of_1_jf n) (leaf_Of_1_lf n)
theorem leaf_Of_1_eq (n : Nat) (a1 : List UInt8) : sxF cfg0 kd leaf_Of_1_kr (leaf_Of_1_E n  ) Try.f68 (bodyOf Try.f68) [(0, (.cells ([.ptr 1 0]) 89 (0, 0))), (1, (.cells ([.s a1]) 133 (0, 0)))] [.ptr 0 0] leaf_Of_1_ret = leaf_Of_1 n a1 := by kernel_rfl
theorem leaf_Of_1_pv (n : Nat) (r : leaf_Of_1_R) : PV cfg0 kd (leaf_Of_1_E n  ) r [] (bodyOf Try.f68) (retK cfg0 kd leaf_Of_1_kr (leaf_Of_1_E n  ) Try.f68.results.toList leaf_Of_1_ret) := by
  exact PV.triv (by kernel_rfl)
noncomputable def leaf_Of_1_ct (n : Nat) (vs : List AV) (h : AH) : Option Ctr := match vs, h with
  | [.ptr 0 0], [(0, (.cells ([.ptr 1 0]) 89 (0, 0))), (1, (.cells ([.s a1]) 133 (0, 0)))] => some (.one leaf_Of_1_R (leaf_Of_1 n   a1) [0, 1] 0 leaf_Of_1_out)
  | _, _ => none
theorem leaf_Of_1_ok (n : Nat) : COk1 cfg0 68 (leaf_Of_1_ct n) := by
  intro vs h c e
  unfold leaf_Of_1_ct at e
  split at e
  · rename_i a1
    cases e
    exact fun r hm => sxF_ok (E := leaf_Of_1_E n  ) (nx1 := leaf_Of_1_nx) (leaf_Of_1_fn) rfl rfl rfl (callA_ok (leaf_Of_1_pre_ok n)) leaf_Of_1_ret_ok rfl (leaf_Of_1_pv n   _) ((leaf_Of_1_eq n   a1).trans hm)
  · cases e
end
end Go.Ev
end
section
set_option linter.unusedVariables false
set_option linter.unusedSimpArgs false
set_option maxRecDepth 100000
set_option maxHeartbeats 400000
namespace Go.Ev
open Go.RowKit Go.Proofs
section
theorem leaf_each_api_Item_fn : cfg0.fn 67 = some Try.f67 := rfl
abbrev leaf_each_api_Item_R : Type := Int × (List (Item)) × (List UInt8)
@[reducible] def leaf_each_api_Item_rt (b0 : Int) (b1 : List (Item)) (b2 : List UInt8) : Option leaf_each_api_Item_R := some (b0, b1, b2)
noncomputable def leaf_each_api_Item_out : leaf_each_api_Item_R → AV × AH
  | (b0, b1, b2) => ((.tu [(.sl 2 5), (.i .i64 b0)]), [(2, (.row .item 0 b1 35 (0, 0))), (0, (.cells [(.ptr 1 0)] 89 (0, 0))), (1, (.cells [(.s b2)] 133 (0, 0)))])
noncomputable def leaf_each_api_Item_nx : leaf_each_api_Item_R → Nat
  | _ => 3
noncomputable def leaf_each_api_Item_ret (v : AV) (h : AH) (nx : Nat) : Option leaf_each_api_Item_R := match v, h, nx with
  | (.tu [(.sl 2 5), (.i .i64 b0)]), [(2, (.row .item 0 b1 35 (0, 0))), (0, (.cells [(.ptr 1 0)] 89 (0, 0))), (1, (.cells [(.s b2)] 133 (0, 0)))], 3 => some (b0, b1, b2)
  | _, _, _ => none
theorem leaf_each_api_Item_ret_ok (v : AV) (h : AH) (nx : Nat) (r : leaf_each_api_Item_R) (e : leaf_each_api_Item_ret v h nx = some r) : leaf_each_api_Item_out r = (v, h) ∧ nx = leaf_each_api_Item_nx r := by
  unfold leaf_each_api_Item_ret at e
  split at e
  · cases e; exact ⟨rfl, rfl⟩
  · cases e
noncomputable def leaf_each_api_Item_kr : KN := [((0, 1), (.item, 35))]
noncomputable def leaf_each_api_Item_pre (n : Nat) : CT := (ctA 68 (leaf_Of_1_ct n) ctZ)
theorem leaf_each_api_Item_pre_ok (n : Nat) : COk cfg0 (leaf_each_api_Item_pre n) := (ctA_ok (leaf_Of_1_ok n) ctZ_ok)
noncomputable def leaf_each_api_Item_E0 (n : Nat) (R : Type)   (jf lf : List Nat → Nat → AT → AS → Option R) : SE R := ⟨[], Try.f67.ntmps, 2, callA cfg0 kd [] (leaf_each_api_Item_pre n), n, [(3, ([1, 4, 8, 9], 0))], [], [], [], jf, lf⟩
noncomputable def leaf_each_api_Item_L3F (n : Nat) (r3 : (Int → Int → List (Item) → List UInt8 → Option leaf_each_api_Item_R))  (x0 : Int) (x1 : Int) (x2 : List (Item)) (x3 : List UInt8) : Option leaf_each_api_Item_R := bif decide (x1 < x0) then Option.bind (leaf_Of_1 n x3) fun z => bif decide (z.2.fst ≠ 0) then leaf_each_api_Item_rt z.2.fst [] z.2.2 else bif Nat.ble (List.length x2 + List.length [Item.mk z.fst.key z.fst.value z.fst.over z.fst.len z.fst.head]) 100000000 then r3 x0 (w64 (x1 + 1)) (x2 ++ [Item.mk z.fst.key z.fst.value z.fst.over z.fst.len z.fst.head]) z.2.2 else none else leaf_each_api_Item_rt 0 x2 x3
noncomputable def leaf_each_api_Item_L3 (n : Nat)  : Nat → Int → Int → List (Item) → List UInt8 → Option leaf_each_api_Item_R
  | 0, _, _, _, _ => none
  | m + 1, x0, x1, x2, x3 => leaf_each_api_Item_L3F n  (leaf_each_api_Item_L3 n  m)  x0 x1 x2 x3
noncomputable def leaf_each_api_Item_F (n : Nat) (a1 : Int) (a2 : List UInt8) (l3 : (Int → Int → List (Item) → List UInt8 → Option leaf_each_api_Item_R)) : Option leaf_each_api_Item_R := l3 a1 0 [] a2
noncomputable def leaf_each_api_Item (n : Nat) (a1 : Int) (a2 : List UInt8) : Option leaf_each_api_Item_R := leaf_each_api_Item_F n a1 a2 (leaf_each_api_Item_L3 n n)
noncomputable def leaf_each_api_Item_L3q (n : Nat) (m3 : Nat) (T : AT) (s : AS) : Option leaf_each_api_Item_R := match T, s with
  | [(1, (.fn 68 [(.ptr 0 0)])), (4, (.sl 2 5)), (8, (.i .i64 x0)), (9, (.i .i64 x1))], ⟨[(2, (.row .item 0 x2 35 (0, 0))), (0, (.cells [(.ptr 1 0)] 89 (0, 0))), (1, (.cells [(.s x3)] 133 (0, 0)))], 3, []⟩ => leaf_each_api_Item_L3 n  m3 x0 x1 x2 x3
  | _, _ => none
noncomputable def leaf_each_api_Item_jf (n : Nat) : List Nat → Nat → AT → AS → Option leaf_each_api_Item_R := fun ms key T s => none
noncomputable def leaf_each_api_Item_lf (n : Nat) : List Nat → Nat → AT → AS → Option leaf_each_api_Item_R := fun ms key T s => cond (Nat.beq key 3) (match ms with | [m3] => leaf_each_api_Item_L3q n m3 T s | _ => none) (none)
noncomputable def leaf_each_api_Item_E (n : Nat)   : SE leaf_each_api_Item_R := leaf_each_api_Item_E0 n leaf_each_api_Item_R   (leaf_each_api_Item_jf n) (leaf_each_api_Item_lf n)
theorem leaf_each_api_Item_eq (n : Nat) (a1 : Int) (a2 : List UInt8) : sxF cfg0 kd leaf_each_api_Item_kr (leaf_each_api_Item_E n  ) Try.f67 (bodyOf Try.f67) [(0, (.cells ([.ptr 1 0]) 89 (0, 0))), (1, (.cells ([.s a2]) 133 (0, 0)))] [.i .i64 a1, .fn 68 [.ptr 0 0]] leaf_each_api_Item_ret = leaf_each_api_Item n a1 a2 := by kernel_rfl
theorem leaf_each_api_Item_pv (n : Nat) (r : leaf_each_api_Item_R) : PV cfg0 kd (leaf_each_api_Item_E n  ) r [] (bodyOf Try.f67) (retK cfg0 kd leaf_each_api_Item_kr (leaf_each_api_Item_E n  ) Try.f67.results.toList leaf_each_api_Item_ret) := by
  refine PV.sn (by kernel_rfl) ?_ ?_
  ·
    refine PV.sn (by kernel_rfl) ?_ ?_
    ·
      exact PV.triv (by kernel_rfl)
    ·
      refine PV.sn (by kernel_rfl) ?_ ?_
      ·
        refine PV.bl ?_
        refine PV.lp (live := [1, 4, 8, 9]) (by kernel_rfl) ?_ ?_ ?_
        · intro T s h; change leaf_each_api_Item_L3q n 0 _ _ = some r at h; unfold leaf_each_api_Item_L3q at h; split at h
          · exact nomatch (show (none : Option leaf_each_api_Item_R) = some r from h)
          · cases h
        · intro m3 T s h; change leaf_each_api_Item_L3q n (m3 + 1) _ _ = some r at h; unfold leaf_each_api_Item_L3q at h; split at h
          · exact Eq.trans (by kernel_rfl) h
          · cases h
        · intro m3
          exact PV.triv (by kernel_rfl)
      ·
        exact PV.triv (by kernel_rfl)
  ·
    exact PV.triv (by kernel_rfl)
noncomputable def leaf_each_api_Item_ct (n : Nat) (vs : List AV) (h : AH) : Option Ctr := match vs, h with
  | [.i .i64 a1, .fn 68 [.ptr 0 0]], [(0, (.cells ([.ptr 1 0]) 89 (0, 0))), (1, (.cells ([.s a2]) 133 (0, 0)))] => some (.one leaf_each_api_Item_R (leaf_each_api_Item n   a1 a2) [0, 1] 1 leaf_each_api_Item_out)
  | _, _ => none
theorem leaf_each_api_Item_ok (n : Nat) : COk1 cfg0 67 (leaf_each_api_Item_ct n) := by
  intro vs h c e
  unfold leaf_each_api_Item_ct at e
  split at e
  · rename_i a1 a2
    cases e
    exact fun r hm => sxF_ok (E := leaf_each_api_Item_E n  ) (nx1 := leaf_each_api_Item_nx) (leaf_each_api_Item_fn) rfl rfl rfl (callA_ok (leaf_each_api_Item_pre_ok n)) leaf_each_api_Item_ret_ok rfl (leaf_each_api_Item_pv n   _) ((leaf_each_api_Item_eq n   a1 a2).trans hm)
  · cases e
end
end Go.Ev
end
section
set_option linter.unusedVariables false
set_option linter.unusedSimpArgs false
set_option maxRecDepth 100000
set_option maxHeartbeats 400000
namespace Go.Ev
open Go.RowKit Go.Proofs
section
theorem leaf_Of_fn : cfg0.fn 18 = some Try.f18 := rfl
abbrev leaf_Of_R : Type := Int × (List (Item))
@[reducible] def leaf_Of_rt (b0 : Int) (b1 : List (Item)) : Option leaf_Of_R := some (b0, b1)
noncomputable def leaf_Of_out : leaf_Of_R → AV × AH
  | (b0, b1) => ((.tu [(.sl 0 5), (.i .i64 b0)]), [(0, (.row .item 0 b1 35 (0, 0)))])
noncomputable def leaf_Of_nx : leaf_Of_R → Nat
  | _ => 1
noncomputable def leaf_Of_ret (v : AV) (h : AH) (nx : Nat) : Option leaf_Of_R := match v, h, nx with
  | (.tu [(.sl 0 5), (.i .i64 b0)]), [(0, (.row .item 0 b1 35 (0, 0)))], 1 => some (b0, b1)
  | _, _, _ => none
theorem leaf_Of_ret_ok (v : AV) (h : AH) (nx : Nat) (r : leaf_Of_R) (e : leaf_Of_ret v h nx = some r) : leaf_Of_out r = (v, h) ∧ nx = leaf_Of_nx r := by
  unfold leaf_Of_ret at e
  split at e
  · cases e; exact ⟨rfl, rfl⟩
  · cases e
noncomputable def leaf_Of_kr : KN := [((0, 1), (.item, 35))]
noncomputable def leaf_Of_pre (n : Nat) : CT := (ctA 15 (leaf_Page_ct n) (ctA 66 (octet_New_ct n) (ctA 67 (leaf_each_api_Item_ct n) (ctA 68 (leaf_Of_1_ct n) ctZ))))
theorem leaf_Of_pre_ok (n : Nat) : COk cfg0 (leaf_Of_pre n) := (ctA_ok (leaf_Page_ok n) (ctA_ok (octet_New_ok n) (ctA_ok (leaf_each_api_Item_ok n) (ctA_ok (leaf_Of_1_ok n) ctZ_ok))))
noncomputable def leaf_Of_E0 (n : Nat) (R : Type)   (jf lf : List Nat → Nat → AT → AS → Option R) : SE R := ⟨[], Try.f18.ntmps, 0, callA cfg0 kd [] (leaf_Of_pre n), n, [], [], [], [], jf, lf⟩
noncomputable def leaf_Of_F (n : Nat) (a1 : Pg)  : Option leaf_Of_R := Option.bind (leaf_each_api_Item n a1.count a1.body) fun z => bif decide (z.fst ≠ 0) then leaf_Of_rt 4 [] else Option.bind (leaf_Page n z.2.1 (w64 ((↑(List.length a1.body) : Int) + 24)) a1.page a1.tx) fun z_1 => bif decide (z_1.snd ≠ 0) then leaf_Of_rt 4 [] else bif !(decide (z_1.fst.kind = a1.kind) && (decide (z_1.fst.count = a1.count) && (decide (z_1.fst.page = a1.page) && (decide (z_1.fst.link = a1.link) && (decide (z_1.fst.tx = a1.tx) && (decide (z_1.fst.body = a1.body) && true)))))) then leaf_Of_rt 4 [] else leaf_Of_rt 0 z.2.1
noncomputable def leaf_Of (n : Nat) (a1 : Pg) : Option leaf_Of_R := leaf_Of_F n a1 
noncomputable def leaf_Of_jf (n : Nat) : List Nat → Nat → AT → AS → Option leaf_Of_R := fun ms key T s => none
noncomputable def leaf_Of_lf (n : Nat) : List Nat → Nat → AT → AS → Option leaf_Of_R := fun ms key T s => none
noncomputable def leaf_Of_E (n : Nat)   : SE leaf_Of_R := leaf_Of_E0 n leaf_Of_R   (leaf_Of_jf n) (leaf_Of_lf n)
theorem leaf_Of_eq (n : Nat) (a1 : Pg) : sxF cfg0 kd leaf_Of_kr (leaf_Of_E n  ) Try.f18 (bodyOf Try.f18) [] [.ag (RK.k .page a1)] leaf_Of_ret = leaf_Of n a1 := by kernel_rfl
theorem leaf_Of_pv (n : Nat) (r : leaf_Of_R) : PV cfg0 kd (leaf_Of_E n  ) r [] (bodyOf Try.f18) (retK cfg0 kd leaf_Of_kr (leaf_Of_E n  ) Try.f18.results.toList leaf_Of_ret) := by
  exact PV.triv (by kernel_rfl)
noncomputable def leaf_Of_ct (n : Nat) (vs : List AV) (h : AH) : Option Ctr := match vs, h with
  | [.ag [.i .i64 a1_0, .i .i64 a1_1, .n .u32 a1_2, .n .u32 a1_3, .n .u64 a1_4, .s a1_5]], [] => some (.one leaf_Of_R (leaf_Of n   ⟨a1_0, a1_1, a1_2, a1_3, a1_4, a1_5⟩) [] 1 leaf_Of_out)
  | _, _ => none
theorem leaf_Of_ok (n : Nat) : COk1 cfg0 18 (leaf_Of_ct n) := by
  intro vs h c e
  unfold leaf_Of_ct at e
  split at e
  · rename_i a1_0 a1_1 a1_2 a1_3 a1_4 a1_5
    cases e
    exact fun r hm => sxF_ok (E := leaf_Of_E n  ) (nx1 := leaf_Of_nx) (leaf_Of_fn) rfl rfl rfl (callA_ok (leaf_Of_pre_ok n)) leaf_Of_ret_ok rfl (leaf_Of_pv n   _) ((leaf_Of_eq n   ⟨a1_0, a1_1, a1_2, a1_3, a1_4, a1_5⟩).trans hm)
  · cases e
end
end Go.Ev
end
section
set_option linter.unusedVariables false
set_option linter.unusedSimpArgs false
set_option maxRecDepth 100000
set_option maxHeartbeats 400000
namespace Go.Ev
open Go.RowKit Go.Proofs
section
theorem kit_Same_api_Item_fn : cfg0.fn 19 = some Try.f19 := rfl
abbrev kit_Same_api_Item_R : Type := Bool
@[reducible] def kit_Same_api_Item_rt (b0 : Bool) : Option kit_Same_api_Item_R := some b0
noncomputable def kit_Same_api_Item_out : kit_Same_api_Item_R → AV × AH
  | b0 => ((.b b0), [])
noncomputable def kit_Same_api_Item_nx : kit_Same_api_Item_R → Nat
  | _ => 2
noncomputable def kit_Same_api_Item_ret (v : AV) (h : AH) (nx : Nat) : Option kit_Same_api_Item_R := match v, h, nx with
  | (.b b0), [], 2 => some b0
  | _, _, _ => none
theorem kit_Same_api_Item_ret_ok (v : AV) (h : AH) (nx : Nat) (r : kit_Same_api_Item_R) (e : kit_Same_api_Item_ret v h nx = some r) : kit_Same_api_Item_out r = (v, h) ∧ nx = kit_Same_api_Item_nx r := by
  unfold kit_Same_api_Item_ret at e
  split at e
  · cases e; exact ⟨rfl, rfl⟩
  · cases e
noncomputable def kit_Same_api_Item_kr : KN := []
noncomputable def kit_Same_api_Item_pre (n : Nat) : CT := ctZ
theorem kit_Same_api_Item_pre_ok (n : Nat) : COk cfg0 (kit_Same_api_Item_pre n) := ctZ_ok
noncomputable def kit_Same_api_Item_E0 (n : Nat) (R : Type) (o1 : Nat) (f1 : Nat × Nat) (o2 : Nat) (f2 : Nat × Nat) (a1 : List Item) (a2 : List Item) (jf lf : List Nat → Nat → AT → AS → Option R) : SE R := ⟨[(0, (.row .item o1 a1 35 f1)), (1, (.row .item o2 a2 35 f2))], Try.f19.ntmps, 2, callA cfg0 kd [(0, (.row .item o1 a1 35 f1)), (1, (.row .item o2 a2 35 f2))] (kit_Same_api_Item_pre n), n, [(5, ([0, 1, 5], 0))], [], [], [], jf, lf⟩
noncomputable def kit_Same_api_Item_L5F (n : Nat) (a1 : List Item) (a2 : List Item) (r5 : (Int → Option kit_Same_api_Item_R))  (x0 : Int) : Option kit_Same_api_Item_R := bif decide (x0 < (↑(List.length a1) : Int)) then bif decide (0 ≤ x0) && decide (Int.toNat x0 < List.length a1) then Option.bind a1[Int.toNat x0]? fun z => bif decide (0 ≤ x0) && decide (Int.toNat x0 < List.length a2) then Option.bind a2[Int.toNat x0]? fun z_1 => bif !(decide (z.key = z_1.key) && (decide (z.value = z_1.value) && (z.over == z_1.over && (decide (z.len = z_1.len) && (decide (z.head = z_1.head) && true))))) then kit_Same_api_Item_rt false else r5 (w64 (x0 + 1)) else none else none else kit_Same_api_Item_rt true
noncomputable def kit_Same_api_Item_L5 (n : Nat) (a1 : List Item) (a2 : List Item)  : Nat → Int → Option kit_Same_api_Item_R
  | 0, _ => none
  | m + 1, x0 => kit_Same_api_Item_L5F n a1 a2  (kit_Same_api_Item_L5 n a1 a2  m)  x0
noncomputable def kit_Same_api_Item_F (n : Nat) (a1 : List Item) (a2 : List Item)  (l5 : (Int → Option kit_Same_api_Item_R)) : Option kit_Same_api_Item_R := bif decide ((↑(List.length a1) : Int) ≠ (↑(List.length a2) : Int)) then kit_Same_api_Item_rt false else l5 0
noncomputable def kit_Same_api_Item (n : Nat) (a1 : List Item) (a2 : List Item)  : Option kit_Same_api_Item_R := kit_Same_api_Item_F n a1 a2  (kit_Same_api_Item_L5 n a1 a2 n)
noncomputable def kit_Same_api_Item_L5q (n : Nat) (a1 : List Item) (a2 : List Item) (m5 : Nat) (T : AT) (s : AS) : Option kit_Same_api_Item_R := match T, s with
  | [(0, (.sl 0 5)), (1, (.sl 1 5)), (5, (.i .i64 x0))], ⟨[], 2, []⟩ => kit_Same_api_Item_L5 n a1 a2  m5 x0
  | _, _ => none
noncomputable def kit_Same_api_Item_jf (n : Nat) (a1 : List Item) (a2 : List Item) : List Nat → Nat → AT → AS → Option kit_Same_api_Item_R := fun ms key T s => none
noncomputable def kit_Same_api_Item_lf (n : Nat) (a1 : List Item) (a2 : List Item) : List Nat → Nat → AT → AS → Option kit_Same_api_Item_R := fun ms key T s => cond (Nat.beq key 5) (match ms with | [m5] => kit_Same_api_Item_L5q n a1 a2 m5 T s | _ => none) (none)
noncomputable def kit_Same_api_Item_E (n : Nat) (o1 : Nat) (f1 : Nat × Nat) (o2 : Nat) (f2 : Nat × Nat) (a1 : List Item) (a2 : List Item) : SE kit_Same_api_Item_R := kit_Same_api_Item_E0 n kit_Same_api_Item_R o1 f1 o2 f2 a1 a2 (kit_Same_api_Item_jf n a1 a2) (kit_Same_api_Item_lf n a1 a2)
theorem kit_Same_api_Item_eq (n : Nat) (o1 : Nat) (f1 : Nat × Nat) (o2 : Nat) (f2 : Nat × Nat) (a1 : List Item) (a2 : List Item) : sxF cfg0 kd kit_Same_api_Item_kr (kit_Same_api_Item_E n o1 f1 o2 f2 a1 a2) Try.f19 (bodyOf Try.f19) [] [.sl 0 5, .sl 1 5] kit_Same_api_Item_ret = kit_Same_api_Item n a1 a2  := by kernel_rfl
theorem kit_Same_api_Item_pv (n : Nat) (o1 : Nat) (f1 : Nat × Nat) (o2 : Nat) (f2 : Nat × Nat) (a1 : List Item) (a2 : List Item) (r : kit_Same_api_Item_R) : PV cfg0 kd (kit_Same_api_Item_E n o1 f1 o2 f2 a1 a2) r [] (bodyOf Try.f19) (retK cfg0 kd kit_Same_api_Item_kr (kit_Same_api_Item_E n o1 f1 o2 f2 a1 a2) Try.f19.results.toList kit_Same_api_Item_ret) := by
  refine PV.sn (by kernel_rfl) ?_ ?_
  ·
    refine PV.sn (by kernel_rfl) ?_ ?_
    ·
      refine PV.sn (by kernel_rfl) ?_ ?_
      ·
        exact PV.triv (by kernel_rfl)
      ·
        refine PV.sn (by kernel_rfl) ?_ ?_
        ·
          refine PV.bl ?_
          refine PV.lp (live := [0, 1, 5]) (by kernel_rfl) ?_ ?_ ?_
          · intro T s h; change kit_Same_api_Item_L5q n a1 a2 0 _ _ = some r at h; unfold kit_Same_api_Item_L5q at h; split at h
            · exact nomatch (show (none : Option kit_Same_api_Item_R) = some r from h)
            · cases h
          · intro m5 T s h; change kit_Same_api_Item_L5q n a1 a2 (m5 + 1) _ _ = some r at h; unfold kit_Same_api_Item_L5q at h; split at h
            · exact Eq.trans (by kernel_rfl) h
            · cases h
          · intro m5
            exact PV.triv (by kernel_rfl)
        ·
          exact PV.triv (by kernel_rfl)
    ·
      exact PV.triv (by kernel_rfl)
  ·
    exact PV.triv (by kernel_rfl)
noncomputable def kit_Same_api_Item_ct (n : Nat) (vs : List AV) (h : AH) : Option Ctr := match vs, h with
  | [.sl 0 5, .sl 1 5], [(0, (.row .item o1 a1 35 f1)), (1, (.row .item o2 a2 35 f2))] => some (.one kit_Same_api_Item_R (kit_Same_api_Item n  a1 a2 ) [] 0 kit_Same_api_Item_out)
  | _, _ => none
theorem kit_Same_api_Item_ok (n : Nat) : COk1 cfg0 19 (kit_Same_api_Item_ct n) := by
  intro vs h c e
  unfold kit_Same_api_Item_ct at e
  split at e
  · rename_i o1 a1 f1 o2 a2 f2
    cases e
    exact fun r hm => sxF_ok (E := kit_Same_api_Item_E n o1 f1 o2 f2 a1 a2) (nx1 := kit_Same_api_Item_nx) (kit_Same_api_Item_fn) rfl rfl rfl (callA_ok (kit_Same_api_Item_pre_ok n)) kit_Same_api_Item_ret_ok rfl (kit_Same_api_Item_pv n o1 f1 o2 f2 a1 a2 _) ((kit_Same_api_Item_eq n o1 f1 o2 f2 a1 a2 ).trans hm)
  · cases e
end
end Go.Ev
end
section
set_option linter.unusedVariables false
set_option linter.unusedSimpArgs false
set_option maxRecDepth 100000
set_option maxHeartbeats 400000
namespace Go.Ev
open Go.RowKit Go.Proofs
section
theorem ref08_One_fn : cfg0.fn 99 = some Try.f99 := rfl
abbrev ref08_One_R : Type := Int
@[reducible] def ref08_One_rt (b0 : Int) : Option ref08_One_R := some b0
noncomputable def ref08_One_out : ref08_One_R → AV × AH
  | b0 => ((.i .i64 b0), [])
noncomputable def ref08_One_nx : ref08_One_R → Nat
  | _ => 0
noncomputable def ref08_One_ret (v : AV) (h : AH) (nx : Nat) : Option ref08_One_R := match v, h, nx with
  | (.i .i64 b0), [], 0 => some b0
  | _, _, _ => none
theorem ref08_One_ret_ok (v : AV) (h : AH) (nx : Nat) (r : ref08_One_R) (e : ref08_One_ret v h nx = some r) : ref08_One_out r = (v, h) ∧ nx = ref08_One_nx r := by
  unfold ref08_One_ret at e
  split at e
  · cases e; exact ⟨rfl, rfl⟩
  · cases e
noncomputable def ref08_One_kr : KN := []
noncomputable def ref08_One_pre (n : Nat) : CT := ctZ
theorem ref08_One_pre_ok (n : Nat) : COk cfg0 (ref08_One_pre n) := ctZ_ok
noncomputable def ref08_One_E0 (n : Nat) (R : Type)   (jf lf : List Nat → Nat → AT → AS → Option R) : SE R := ⟨[], Try.f99.ntmps, 0, callA cfg0 kd [] (ref08_One_pre n), n, [], [], [], [], jf, lf⟩
noncomputable def ref08_One_F (n : Nat) (a1 : Item)  : Option ref08_One_R := bif a1.over then ref08_One_rt (w64 (10 + (↑(List.length a1.key) : Int))) else ref08_One_rt (w64 (w64 (3 + (↑(List.length a1.key) : Int)) + (↑(List.length a1.value) : Int)))
noncomputable def ref08_One (n : Nat) (a1 : Item) : Option ref08_One_R := ref08_One_F n a1 
noncomputable def ref08_One_jf (n : Nat) : List Nat → Nat → AT → AS → Option ref08_One_R := fun ms key T s => none
noncomputable def ref08_One_lf (n : Nat) : List Nat → Nat → AT → AS → Option ref08_One_R := fun ms key T s => none
noncomputable def ref08_One_E (n : Nat)   : SE ref08_One_R := ref08_One_E0 n ref08_One_R   (ref08_One_jf n) (ref08_One_lf n)
theorem ref08_One_eq (n : Nat) (a1 : Item) : sxF cfg0 kd ref08_One_kr (ref08_One_E n  ) Try.f99 (bodyOf Try.f99) [] [.ag (RK.k .item a1)] ref08_One_ret = ref08_One n a1 := by kernel_rfl
theorem ref08_One_pv (n : Nat) (r : ref08_One_R) : PV cfg0 kd (ref08_One_E n  ) r [] (bodyOf Try.f99) (retK cfg0 kd ref08_One_kr (ref08_One_E n  ) Try.f99.results.toList ref08_One_ret) := by
  exact PV.triv (by kernel_rfl)
noncomputable def ref08_One_ct (n : Nat) (vs : List AV) (h : AH) : Option Ctr := match vs, h with
  | [.ag [.s a1_0, .s a1_1, .b a1_2, .i .i64 a1_3, .n .u32 a1_4]], [] => some (.one ref08_One_R (ref08_One n   ⟨a1_0, a1_1, a1_2, a1_3, a1_4⟩) [] 0 ref08_One_out)
  | _, _ => none
theorem ref08_One_ok (n : Nat) : COk1 cfg0 99 (ref08_One_ct n) := by
  intro vs h c e
  unfold ref08_One_ct at e
  split at e
  · rename_i a1_0 a1_1 a1_2 a1_3 a1_4
    cases e
    exact fun r hm => sxF_ok (E := ref08_One_E n  ) (nx1 := ref08_One_nx) (ref08_One_fn) rfl rfl rfl (callA_ok (ref08_One_pre_ok n)) ref08_One_ret_ok rfl (ref08_One_pv n   _) ((ref08_One_eq n   ⟨a1_0, a1_1, a1_2, a1_3, a1_4⟩).trans hm)
  · cases e
end
end Go.Ev
end
section
set_option linter.unusedVariables false
set_option linter.unusedSimpArgs false
set_option maxRecDepth 100000
set_option maxHeartbeats 400000
namespace Go.Ev
open Go.RowKit Go.Proofs
section
theorem ref08_Size_fn : cfg0.fn 37 = some Try.f37 := rfl
abbrev ref08_Size_R : Type := Int
@[reducible] def ref08_Size_rt (b0 : Int) : Option ref08_Size_R := some b0
noncomputable def ref08_Size_out : ref08_Size_R → AV × AH
  | b0 => ((.i .i64 b0), [])
noncomputable def ref08_Size_nx : ref08_Size_R → Nat
  | _ => 1
noncomputable def ref08_Size_ret (v : AV) (h : AH) (nx : Nat) : Option ref08_Size_R := match v, h, nx with
  | (.i .i64 b0), [], 1 => some b0
  | _, _, _ => none
theorem ref08_Size_ret_ok (v : AV) (h : AH) (nx : Nat) (r : ref08_Size_R) (e : ref08_Size_ret v h nx = some r) : ref08_Size_out r = (v, h) ∧ nx = ref08_Size_nx r := by
  unfold ref08_Size_ret at e
  split at e
  · cases e; exact ⟨rfl, rfl⟩
  · cases e
noncomputable def ref08_Size_kr : KN := []
noncomputable def ref08_Size_pre (n : Nat) : CT := (ctA 99 (ref08_One_ct n) ctZ)
theorem ref08_Size_pre_ok (n : Nat) : COk cfg0 (ref08_Size_pre n) := (ctA_ok (ref08_One_ok n) ctZ_ok)
noncomputable def ref08_Size_E0 (n : Nat) (R : Type) (o1 : Nat) (f1 : Nat × Nat) (a1 : List Item) (jf lf : List Nat → Nat → AT → AS → Option R) : SE R := ⟨[(0, (.row .item o1 a1 35 f1))], Try.f37.ntmps, 1, callA cfg0 kd [(0, (.row .item o1 a1 35 f1))] (ref08_Size_pre n), n, [(4, ([0, 3, 4], 0))], [], [], [], jf, lf⟩
noncomputable def ref08_Size_L4F (n : Nat) (a1 : List Item) (r4 : (Int → Int → Option ref08_Size_R))  (x0 : Int) (x1 : Int) : Option ref08_Size_R := bif decide (x1 < (↑(List.length a1) : Int)) then bif decide (0 ≤ x1) && decide (Int.toNat x1 < List.length a1) then Option.bind a1[Int.toNat x1]? fun z => Option.bind (ref08_One n (Item.mk z.key z.value z.over z.len z.head)) fun z_1 => r4 (w64 (x0 + z_1)) (w64 (x1 + 1)) else none else ref08_Size_rt x0
noncomputable def ref08_Size_L4 (n : Nat) (a1 : List Item)  : Nat → Int → Int → Option ref08_Size_R
  | 0, _, _ => none
  | m + 1, x0, x1 => ref08_Size_L4F n a1  (ref08_Size_L4 n a1  m)  x0 x1
noncomputable def ref08_Size_F (n : Nat) (a1 : List Item)  (l4 : (Int → Int → Option ref08_Size_R)) : Option ref08_Size_R := l4 0 0
noncomputable def ref08_Size (n : Nat) (a1 : List Item)  : Option ref08_Size_R := ref08_Size_F n a1  (ref08_Size_L4 n a1 n)
noncomputable def ref08_Size_L4q (n : Nat) (a1 : List Item) (m4 : Nat) (T : AT) (s : AS) : Option ref08_Size_R := match T, s with
  | [(0, (.sl 0 5)), (3, (.i .i64 x0)), (4, (.i .i64 x1))], ⟨[], 1, []⟩ => ref08_Size_L4 n a1  m4 x0 x1
  | _, _ => none
noncomputable def ref08_Size_jf (n : Nat) (a1 : List Item) : List Nat → Nat → AT → AS → Option ref08_Size_R := fun ms key T s => none
noncomputable def ref08_Size_lf (n : Nat) (a1 : List Item) : List Nat → Nat → AT → AS → Option ref08_Size_R := fun ms key T s => cond (Nat.beq key 4) (match ms with | [m4] => ref08_Size_L4q n a1 m4 T s | _ => none) (none)
noncomputable def ref08_Size_E (n : Nat) (o1 : Nat) (f1 : Nat × Nat) (a1 : List Item) : SE ref08_Size_R := ref08_Size_E0 n ref08_Size_R o1 f1 a1 (ref08_Size_jf n a1) (ref08_Size_lf n a1)
theorem ref08_Size_eq (n : Nat) (o1 : Nat) (f1 : Nat × Nat) (a1 : List Item) : sxF cfg0 kd ref08_Size_kr (ref08_Size_E n o1 f1 a1) Try.f37 (bodyOf Try.f37) [] [.sl 0 5] ref08_Size_ret = ref08_Size n a1  := by kernel_rfl
theorem ref08_Size_pv (n : Nat) (o1 : Nat) (f1 : Nat × Nat) (a1 : List Item) (r : ref08_Size_R) : PV cfg0 kd (ref08_Size_E n o1 f1 a1) r [] (bodyOf Try.f37) (retK cfg0 kd ref08_Size_kr (ref08_Size_E n o1 f1 a1) Try.f37.results.toList ref08_Size_ret) := by
  refine PV.sn (by kernel_rfl) ?_ ?_
  ·
    refine PV.sn (by kernel_rfl) ?_ ?_
    ·
      refine PV.sn (by kernel_rfl) ?_ ?_
      ·
        exact PV.triv (by kernel_rfl)
      ·
        refine PV.sn (by kernel_rfl) ?_ ?_
        ·
          refine PV.bl ?_
          refine PV.lp (live := [0, 3, 4]) (by kernel_rfl) ?_ ?_ ?_
          · intro T s h; change ref08_Size_L4q n a1 0 _ _ = some r at h; unfold ref08_Size_L4q at h; split at h
            · exact nomatch (show (none : Option ref08_Size_R) = some r from h)
            · cases h
          · intro m4 T s h; change ref08_Size_L4q n a1 (m4 + 1) _ _ = some r at h; unfold ref08_Size_L4q at h; split at h
            · exact Eq.trans (by kernel_rfl) h
            · cases h
          · intro m4
            exact PV.triv (by kernel_rfl)
        ·
          exact PV.triv (by kernel_rfl)
    ·
      exact PV.triv (by kernel_rfl)
  ·
    exact PV.triv (by kernel_rfl)
noncomputable def ref08_Size_ct (n : Nat) (vs : List AV) (h : AH) : Option Ctr := match vs, h with
  | [.sl 0 5], [(0, (.row .item o1 a1 35 f1))] => some (.one ref08_Size_R (ref08_Size n  a1 ) [] 0 ref08_Size_out)
  | _, _ => none
theorem ref08_Size_ok (n : Nat) : COk1 cfg0 37 (ref08_Size_ct n) := by
  intro vs h c e
  unfold ref08_Size_ct at e
  split at e
  · rename_i o1 a1 f1
    cases e
    exact fun r hm => sxF_ok (E := ref08_Size_E n o1 f1 a1) (nx1 := ref08_Size_nx) (ref08_Size_fn) rfl rfl rfl (callA_ok (ref08_Size_pre_ok n)) ref08_Size_ret_ok rfl (ref08_Size_pv n o1 f1 a1 _) ((ref08_Size_eq n o1 f1 a1 ).trans hm)
  · cases e
end
end Go.Ev
end
section
set_option linter.unusedVariables false
set_option linter.unusedSimpArgs false
set_option maxRecDepth 100000
set_option maxHeartbeats 400000
namespace Go.Ev
open Go.RowKit Go.Proofs
section
theorem ref03_Good_fn : cfg0.fn 78 = some Try.f78 := rfl
abbrev ref03_Good_R : Type := Bool
@[reducible] def ref03_Good_rt (b0 : Bool) : Option ref03_Good_R := some b0
noncomputable def ref03_Good_out : ref03_Good_R → AV × AH
  | b0 => ((.b b0), [])
noncomputable def ref03_Good_nx : ref03_Good_R → Nat
  | _ => 0
noncomputable def ref03_Good_ret (v : AV) (h : AH) (nx : Nat) : Option ref03_Good_R := match v, h, nx with
  | (.b b0), [], 0 => some b0
  | _, _, _ => none
theorem ref03_Good_ret_ok (v : AV) (h : AH) (nx : Nat) (r : ref03_Good_R) (e : ref03_Good_ret v h nx = some r) : ref03_Good_out r = (v, h) ∧ nx = ref03_Good_nx r := by
  unfold ref03_Good_ret at e
  split at e
  · cases e; exact ⟨rfl, rfl⟩
  · cases e
noncomputable def ref03_Good_kr : KN := []
noncomputable def ref03_Good_pre (n : Nat) : CT := ctZ
theorem ref03_Good_pre_ok (n : Nat) : COk cfg0 (ref03_Good_pre n) := ctZ_ok
noncomputable def ref03_Good_E0 (n : Nat) (R : Type)   (jf lf : List Nat → Nat → AT → AS → Option R) : SE R := ⟨[], Try.f78.ntmps, 0, callA cfg0 kd [] (ref03_Good_pre n), n, [], [], [], [], jf, lf⟩
noncomputable def ref03_Good_F (n : Nat) (a1 : Int)  : Option ref03_Good_R := bif decide (128 ≤ a1) then bif decide (a1 ≤ 4096) then ref03_Good_rt (decide (Int.tmod a1 64 = 0)) else ref03_Good_rt false else ref03_Good_rt false
noncomputable def ref03_Good (n : Nat) (a1 : Int) : Option ref03_Good_R := ref03_Good_F n a1 
noncomputable def ref03_Good_jf (n : Nat) : List Nat → Nat → AT → AS → Option ref03_Good_R := fun ms key T s => none
noncomputable def ref03_Good_lf (n : Nat) : List Nat → Nat → AT → AS → Option ref03_Good_R := fun ms key T s => none
noncomputable def ref03_Good_E (n : Nat)   : SE ref03_Good_R := ref03_Good_E0 n ref03_Good_R   (ref03_Good_jf n) (ref03_Good_lf n)
theorem ref03_Good_eq (n : Nat) (a1 : Int) : sxF cfg0 kd ref03_Good_kr (ref03_Good_E n  ) Try.f78 (bodyOf Try.f78) [] [.i .i64 a1] ref03_Good_ret = ref03_Good n a1 := by kernel_rfl
theorem ref03_Good_pv (n : Nat) (r : ref03_Good_R) : PV cfg0 kd (ref03_Good_E n  ) r [] (bodyOf Try.f78) (retK cfg0 kd ref03_Good_kr (ref03_Good_E n  ) Try.f78.results.toList ref03_Good_ret) := by
  exact PV.triv (by kernel_rfl)
noncomputable def ref03_Good_ct (n : Nat) (vs : List AV) (h : AH) : Option Ctr := match vs, h with
  | [.i .i64 a1], [] => some (.one ref03_Good_R (ref03_Good n   a1) [] 0 ref03_Good_out)
  | _, _ => none
theorem ref03_Good_ok (n : Nat) : COk1 cfg0 78 (ref03_Good_ct n) := by
  intro vs h c e
  unfold ref03_Good_ct at e
  split at e
  · rename_i a1
    cases e
    exact fun r hm => sxF_ok (E := ref03_Good_E n  ) (nx1 := ref03_Good_nx) (ref03_Good_fn) rfl rfl rfl (callA_ok (ref03_Good_pre_ok n)) ref03_Good_ret_ok rfl (ref03_Good_pv n   _) ((ref03_Good_eq n   a1).trans hm)
  · cases e
end
end Go.Ev
end
section
set_option linter.unusedVariables false
set_option linter.unusedSimpArgs false
set_option maxRecDepth 100000
set_option maxHeartbeats 400000
namespace Go.Ev
open Go.RowKit Go.Proofs
section
theorem ref04_Room_fn : cfg0.fn 41 = some Try.f41 := rfl
abbrev ref04_Room_R : Type := Int
@[reducible] def ref04_Room_rt (b0 : Int) : Option ref04_Room_R := some b0
noncomputable def ref04_Room_out : ref04_Room_R → AV × AH
  | b0 => ((.i .i64 b0), [])
noncomputable def ref04_Room_nx : ref04_Room_R → Nat
  | _ => 0
noncomputable def ref04_Room_ret (v : AV) (h : AH) (nx : Nat) : Option ref04_Room_R := match v, h, nx with
  | (.i .i64 b0), [], 0 => some b0
  | _, _, _ => none
theorem ref04_Room_ret_ok (v : AV) (h : AH) (nx : Nat) (r : ref04_Room_R) (e : ref04_Room_ret v h nx = some r) : ref04_Room_out r = (v, h) ∧ nx = ref04_Room_nx r := by
  unfold ref04_Room_ret at e
  split at e
  · cases e; exact ⟨rfl, rfl⟩
  · cases e
noncomputable def ref04_Room_kr : KN := []
noncomputable def ref04_Room_pre (n : Nat) : CT := (ctA 78 (ref03_Good_ct n) ctZ)
theorem ref04_Room_pre_ok (n : Nat) : COk cfg0 (ref04_Room_pre n) := (ctA_ok (ref03_Good_ok n) ctZ_ok)
noncomputable def ref04_Room_E0 (n : Nat) (R : Type)   (jf lf : List Nat → Nat → AT → AS → Option R) : SE R := ⟨[], Try.f41.ntmps, 0, callA cfg0 kd [] (ref04_Room_pre n), n, [], [], [], [], jf, lf⟩
noncomputable def ref04_Room_F (n : Nat) (a1 : Int)  : Option ref04_Room_R := Option.bind (ref03_Good n a1) fun z => bif !z then ref04_Room_rt 0 else ref04_Room_rt (w64 (a1 - 24))
noncomputable def ref04_Room (n : Nat) (a1 : Int) : Option ref04_Room_R := ref04_Room_F n a1 
noncomputable def ref04_Room_jf (n : Nat) : List Nat → Nat → AT → AS → Option ref04_Room_R := fun ms key T s => none
noncomputable def ref04_Room_lf (n : Nat) : List Nat → Nat → AT → AS → Option ref04_Room_R := fun ms key T s => none
noncomputable def ref04_Room_E (n : Nat)   : SE ref04_Room_R := ref04_Room_E0 n ref04_Room_R   (ref04_Room_jf n) (ref04_Room_lf n)
theorem ref04_Room_eq (n : Nat) (a1 : Int) : sxF cfg0 kd ref04_Room_kr (ref04_Room_E n  ) Try.f41 (bodyOf Try.f41) [] [.i .i64 a1] ref04_Room_ret = ref04_Room n a1 := by kernel_rfl
theorem ref04_Room_pv (n : Nat) (r : ref04_Room_R) : PV cfg0 kd (ref04_Room_E n  ) r [] (bodyOf Try.f41) (retK cfg0 kd ref04_Room_kr (ref04_Room_E n  ) Try.f41.results.toList ref04_Room_ret) := by
  exact PV.triv (by kernel_rfl)
noncomputable def ref04_Room_ct (n : Nat) (vs : List AV) (h : AH) : Option Ctr := match vs, h with
  | [.i .i64 a1], [] => some (.one ref04_Room_R (ref04_Room n   a1) [] 0 ref04_Room_out)
  | _, _ => none
theorem ref04_Room_ok (n : Nat) : COk1 cfg0 41 (ref04_Room_ct n) := by
  intro vs h c e
  unfold ref04_Room_ct at e
  split at e
  · rename_i a1
    cases e
    exact fun r hm => sxF_ok (E := ref04_Room_E n  ) (nx1 := ref04_Room_nx) (ref04_Room_fn) rfl rfl rfl (callA_ok (ref04_Room_pre_ok n)) ref04_Room_ret_ok rfl (ref04_Room_pv n   _) ((ref04_Room_eq n   a1).trans hm)
  · cases e
end
end Go.Ev
end
section
set_option linter.unusedVariables false
set_option linter.unusedSimpArgs false
set_option maxRecDepth 100000
set_option maxHeartbeats 400000
namespace Go.Ev
open Go.RowKit Go.Proofs
section
theorem ref04_Number_fn : cfg0.fn 93 = some Try.f93 := rfl
abbrev ref04_Number_R : Type := Bool
@[reducible] def ref04_Number_rt (b0 : Bool) : Option ref04_Number_R := some b0
noncomputable def ref04_Number_out : ref04_Number_R → AV × AH
  | b0 => ((.b b0), [])
noncomputable def ref04_Number_nx : ref04_Number_R → Nat
  | _ => 0
noncomputable def ref04_Number_ret (v : AV) (h : AH) (nx : Nat) : Option ref04_Number_R := match v, h, nx with
  | (.b b0), [], 0 => some b0
  | _, _, _ => none
theorem ref04_Number_ret_ok (v : AV) (h : AH) (nx : Nat) (r : ref04_Number_R) (e : ref04_Number_ret v h nx = some r) : ref04_Number_out r = (v, h) ∧ nx = ref04_Number_nx r := by
  unfold ref04_Number_ret at e
  split at e
  · cases e; exact ⟨rfl, rfl⟩
  · cases e
noncomputable def ref04_Number_kr : KN := []
noncomputable def ref04_Number_pre (n : Nat) : CT := ctZ
theorem ref04_Number_pre_ok (n : Nat) : COk cfg0 (ref04_Number_pre n) := ctZ_ok
noncomputable def ref04_Number_E0 (n : Nat) (R : Type)   (jf lf : List Nat → Nat → AT → AS → Option R) : SE R := ⟨[], Try.f93.ntmps, 0, callA cfg0 kd [] (ref04_Number_pre n), n, [], [], [], [], jf, lf⟩
noncomputable def ref04_Number_F (n : Nat) (a1 : Nat)  : Option ref04_Number_R := bif decide ((2 : Nat) ≤ a1) then ref04_Number_rt (decide (a1 ≤ (2147483647 : Nat))) else ref04_Number_rt false
noncomputable def ref04_Number (n : Nat) (a1 : Nat) : Option ref04_Number_R := ref04_Number_F n a1 
noncomputable def ref04_Number_jf (n : Nat) : List Nat → Nat → AT → AS → Option ref04_Number_R := fun ms key T s => none
noncomputable def ref04_Number_lf (n : Nat) : List Nat → Nat → AT → AS → Option ref04_Number_R := fun ms key T s => none
noncomputable def ref04_Number_E (n : Nat)   : SE ref04_Number_R := ref04_Number_E0 n ref04_Number_R   (ref04_Number_jf n) (ref04_Number_lf n)
theorem ref04_Number_eq (n : Nat) (a1 : Nat) : sxF cfg0 kd ref04_Number_kr (ref04_Number_E n  ) Try.f93 (bodyOf Try.f93) [] [.n .u32 a1] ref04_Number_ret = ref04_Number n a1 := by kernel_rfl
theorem ref04_Number_pv (n : Nat) (r : ref04_Number_R) : PV cfg0 kd (ref04_Number_E n  ) r [] (bodyOf Try.f93) (retK cfg0 kd ref04_Number_kr (ref04_Number_E n  ) Try.f93.results.toList ref04_Number_ret) := by
  exact PV.triv (by kernel_rfl)
noncomputable def ref04_Number_ct (n : Nat) (vs : List AV) (h : AH) : Option Ctr := match vs, h with
  | [.n .u32 a1], [] => some (.one ref04_Number_R (ref04_Number n   a1) [] 0 ref04_Number_out)
  | _, _ => none
theorem ref04_Number_ok (n : Nat) : COk1 cfg0 93 (ref04_Number_ct n) := by
  intro vs h c e
  unfold ref04_Number_ct at e
  split at e
  · rename_i a1
    cases e
    exact fun r hm => sxF_ok (E := ref04_Number_E n  ) (nx1 := ref04_Number_nx) (ref04_Number_fn) rfl rfl rfl (callA_ok (ref04_Number_pre_ok n)) ref04_Number_ret_ok rfl (ref04_Number_pv n   _) ((ref04_Number_eq n   a1).trans hm)
  · cases e
end
end Go.Ev
end
section
set_option linter.unusedVariables false
set_option linter.unusedSimpArgs false
set_option maxRecDepth 100000
set_option maxHeartbeats 400000
namespace Go.Ev
open Go.RowKit Go.Proofs
section
theorem ref07_Key_fn : cfg0.fn 143 = some Try.f143 := rfl
abbrev ref07_Key_R : Type := Bool
@[reducible] def ref07_Key_rt (b0 : Bool) : Option ref07_Key_R := some b0
noncomputable def ref07_Key_out : ref07_Key_R → AV × AH
  | b0 => ((.b b0), [])
noncomputable def ref07_Key_nx : ref07_Key_R → Nat
  | _ => 0
noncomputable def ref07_Key_ret (v : AV) (h : AH) (nx : Nat) : Option ref07_Key_R := match v, h, nx with
  | (.b b0), [], 0 => some b0
  | _, _, _ => none
theorem ref07_Key_ret_ok (v : AV) (h : AH) (nx : Nat) (r : ref07_Key_R) (e : ref07_Key_ret v h nx = some r) : ref07_Key_out r = (v, h) ∧ nx = ref07_Key_nx r := by
  unfold ref07_Key_ret at e
  split at e
  · cases e; exact ⟨rfl, rfl⟩
  · cases e
noncomputable def ref07_Key_kr : KN := []
noncomputable def ref07_Key_pre (n : Nat) : CT := ctZ
theorem ref07_Key_pre_ok (n : Nat) : COk cfg0 (ref07_Key_pre n) := ctZ_ok
noncomputable def ref07_Key_E0 (n : Nat) (R : Type)   (jf lf : List Nat → Nat → AT → AS → Option R) : SE R := ⟨[], Try.f143.ntmps, 0, callA cfg0 kd [] (ref07_Key_pre n), n, [], [], [], [], jf, lf⟩
noncomputable def ref07_Key_F (n : Nat) (a1 : List UInt8)  : Option ref07_Key_R := ref07_Key_rt (decide ((↑(List.length a1) : Int) ≤ 40))
noncomputable def ref07_Key (n : Nat) (a1 : List UInt8) : Option ref07_Key_R := ref07_Key_F n a1 
noncomputable def ref07_Key_jf (n : Nat) : List Nat → Nat → AT → AS → Option ref07_Key_R := fun ms key T s => none
noncomputable def ref07_Key_lf (n : Nat) : List Nat → Nat → AT → AS → Option ref07_Key_R := fun ms key T s => none
noncomputable def ref07_Key_E (n : Nat)   : SE ref07_Key_R := ref07_Key_E0 n ref07_Key_R   (ref07_Key_jf n) (ref07_Key_lf n)
theorem ref07_Key_eq (n : Nat) (a1 : List UInt8) : sxF cfg0 kd ref07_Key_kr (ref07_Key_E n  ) Try.f143 (bodyOf Try.f143) [] [.s a1] ref07_Key_ret = ref07_Key n a1 := by kernel_rfl
theorem ref07_Key_pv (n : Nat) (r : ref07_Key_R) : PV cfg0 kd (ref07_Key_E n  ) r [] (bodyOf Try.f143) (retK cfg0 kd ref07_Key_kr (ref07_Key_E n  ) Try.f143.results.toList ref07_Key_ret) := by
  exact PV.triv (by kernel_rfl)
noncomputable def ref07_Key_ct (n : Nat) (vs : List AV) (h : AH) : Option Ctr := match vs, h with
  | [.s a1], [] => some (.one ref07_Key_R (ref07_Key n   a1) [] 0 ref07_Key_out)
  | _, _ => none
theorem ref07_Key_ok (n : Nat) : COk1 cfg0 143 (ref07_Key_ct n) := by
  intro vs h c e
  unfold ref07_Key_ct at e
  split at e
  · rename_i a1
    cases e
    exact fun r hm => sxF_ok (E := ref07_Key_E n  ) (nx1 := ref07_Key_nx) (ref07_Key_fn) rfl rfl rfl (callA_ok (ref07_Key_pre_ok n)) ref07_Key_ret_ok rfl (ref07_Key_pv n   _) ((ref07_Key_eq n   a1).trans hm)
  · cases e
end
end Go.Ev
end
section
set_option linter.unusedVariables false
set_option linter.unusedSimpArgs false
set_option maxRecDepth 100000
set_option maxHeartbeats 400000
namespace Go.Ev
open Go.RowKit Go.Proofs
section
theorem ref08_may_fn : cfg0.fn 131 = some Try.f131 := rfl
abbrev ref08_may_R : Type := Bool
@[reducible] def ref08_may_rt (b0 : Bool) : Option ref08_may_R := some b0
noncomputable def ref08_may_out : ref08_may_R → AV × AH
  | b0 => ((.b b0), [])
noncomputable def ref08_may_nx : ref08_may_R → Nat
  | _ => 0
noncomputable def ref08_may_ret (v : AV) (h : AH) (nx : Nat) : Option ref08_may_R := match v, h, nx with
  | (.b b0), [], 0 => some b0
  | _, _, _ => none
theorem ref08_may_ret_ok (v : AV) (h : AH) (nx : Nat) (r : ref08_may_R) (e : ref08_may_ret v h nx = some r) : ref08_may_out r = (v, h) ∧ nx = ref08_may_nx r := by
  unfold ref08_may_ret at e
  split at e
  · cases e; exact ⟨rfl, rfl⟩
  · cases e
noncomputable def ref08_may_kr : KN := []
noncomputable def ref08_may_pre (n : Nat) : CT := (ctA 93 (ref04_Number_ct n) (ctA 143 (ref07_Key_ct n) ctZ))
theorem ref08_may_pre_ok (n : Nat) : COk cfg0 (ref08_may_pre n) := (ctA_ok (ref04_Number_ok n) (ctA_ok (ref07_Key_ok n) ctZ_ok))
noncomputable def ref08_may_E0 (n : Nat) (R : Type)   (jf lf : List Nat → Nat → AT → AS → Option R) : SE R := ⟨[], Try.f131.ntmps, 0, callA cfg0 kd [] (ref08_may_pre n), n, [], [], [], [], jf, lf⟩
noncomputable def ref08_may_F (n : Nat) (a1 : Item)  : Option ref08_may_R := bif a1.over then bif decide ((↑(List.length a1.key) : Int) ≤ 40) then bif decide (a1.value = []) then bif decide (1 ≤ a1.len) then bif decide (a1.len ≤ 4096) then Option.bind (ref04_Number n a1.head) fun z => ref08_may_rt z else ref08_may_rt false else ref08_may_rt false else ref08_may_rt false else ref08_may_rt false else bif decide ((↑(List.length a1.key) : Int) ≤ 40) then bif decide ((↑(List.length a1.value) : Int) ≤ 255) then bif decide (a1.len = 0) then ref08_may_rt (decide (a1.head = (0 : Nat))) else ref08_may_rt false else ref08_may_rt false else ref08_may_rt false
noncomputable def ref08_may (n : Nat) (a1 : Item) : Option ref08_may_R := ref08_may_F n a1 
noncomputable def ref08_may_jf (n : Nat) : List Nat → Nat → AT → AS → Option ref08_may_R := fun ms key T s => none
noncomputable def ref08_may_lf (n : Nat) : List Nat → Nat → AT → AS → Option ref08_may_R := fun ms key T s => none
noncomputable def ref08_may_E (n : Nat)   : SE ref08_may_R := ref08_may_E0 n ref08_may_R   (ref08_may_jf n) (ref08_may_lf n)
theorem ref08_may_eq (n : Nat) (a1 : Item) : sxF cfg0 kd ref08_may_kr (ref08_may_E n  ) Try.f131 (bodyOf Try.f131) [] [.ag (RK.k .item a1)] ref08_may_ret = ref08_may n a1 := by kernel_rfl
theorem ref08_may_pv (n : Nat) (r : ref08_may_R) : PV cfg0 kd (ref08_may_E n  ) r [] (bodyOf Try.f131) (retK cfg0 kd ref08_may_kr (ref08_may_E n  ) Try.f131.results.toList ref08_may_ret) := by
  exact PV.triv (by kernel_rfl)
noncomputable def ref08_may_ct (n : Nat) (vs : List AV) (h : AH) : Option Ctr := match vs, h with
  | [.ag [.s a1_0, .s a1_1, .b a1_2, .i .i64 a1_3, .n .u32 a1_4]], [] => some (.one ref08_may_R (ref08_may n   ⟨a1_0, a1_1, a1_2, a1_3, a1_4⟩) [] 0 ref08_may_out)
  | _, _ => none
theorem ref08_may_ok (n : Nat) : COk1 cfg0 131 (ref08_may_ct n) := by
  intro vs h c e
  unfold ref08_may_ct at e
  split at e
  · rename_i a1_0 a1_1 a1_2 a1_3 a1_4
    cases e
    exact fun r hm => sxF_ok (E := ref08_may_E n  ) (nx1 := ref08_may_nx) (ref08_may_fn) rfl rfl rfl (callA_ok (ref08_may_pre_ok n)) ref08_may_ret_ok rfl (ref08_may_pv n   _) ((ref08_may_eq n   ⟨a1_0, a1_1, a1_2, a1_3, a1_4⟩).trans hm)
  · cases e
end
end Go.Ev
end
section
set_option linter.unusedVariables false
set_option linter.unusedSimpArgs false
set_option maxRecDepth 100000
set_option maxHeartbeats 400000
namespace Go.Ev
open Go.RowKit Go.Proofs
section
theorem ref08_May_fn : cfg0.fn 92 = some Try.f92 := rfl
abbrev ref08_May_R : Type := Bool
@[reducible] def ref08_May_rt (b0 : Bool) : Option ref08_May_R := some b0
noncomputable def ref08_May_out : ref08_May_R → AV × AH
  | b0 => ((.b b0), [])
noncomputable def ref08_May_nx : ref08_May_R → Nat
  | _ => 1
noncomputable def ref08_May_ret (v : AV) (h : AH) (nx : Nat) : Option ref08_May_R := match v, h, nx with
  | (.b b0), [], 1 => some b0
  | _, _, _ => none
theorem ref08_May_ret_ok (v : AV) (h : AH) (nx : Nat) (r : ref08_May_R) (e : ref08_May_ret v h nx = some r) : ref08_May_out r = (v, h) ∧ nx = ref08_May_nx r := by
  unfold ref08_May_ret at e
  split at e
  · cases e; exact ⟨rfl, rfl⟩
  · cases e
noncomputable def ref08_May_kr : KN := []
noncomputable def ref08_May_pre (n : Nat) : CT := (ctA 131 (ref08_may_ct n) ctZ)
theorem ref08_May_pre_ok (n : Nat) : COk cfg0 (ref08_May_pre n) := (ctA_ok (ref08_may_ok n) ctZ_ok)
noncomputable def ref08_May_E0 (n : Nat) (R : Type) (o1 : Nat) (f1 : Nat × Nat) (a1 : List Item) (jf lf : List Nat → Nat → AT → AS → Option R) : SE R := ⟨[(0, (.row .item o1 a1 35 f1))], Try.f92.ntmps, 1, callA cfg0 kd [(0, (.row .item o1 a1 35 f1))] (ref08_May_pre n), n, [(3, ([0, 3], 0))], [], [], [], jf, lf⟩
noncomputable def ref08_May_L3F (n : Nat) (a1 : List Item) (r3 : (Int → Option ref08_May_R))  (x0 : Int) : Option ref08_May_R := bif decide (x0 < (↑(List.length a1) : Int)) then bif decide (0 ≤ x0) && decide (Int.toNat x0 < List.length a1) then Option.bind a1[Int.toNat x0]? fun z => Option.bind (ref08_may n (Item.mk z.key z.value z.over z.len z.head)) fun z_1 => bif !z_1 then ref08_May_rt false else bif decide (0 < x0) then bif decide (0 ≤ w64 (x0 - 1)) && decide (Int.toNat (w64 (x0 - 1)) < List.length a1) then Option.bind a1[Int.toNat (w64 (x0 - 1))]? fun z_2 => bif decide (0 ≤ x0) && decide (Int.toNat x0 < List.length a1) then Option.bind a1[Int.toNat x0]? fun z_3 => bif !sLt z_2.key z_3.key then ref08_May_rt false else r3 (w64 (x0 + 1)) else none else none else r3 (w64 (x0 + 1)) else none else ref08_May_rt (decide (0 < (↑(List.length a1) : Int)))
noncomputable def ref08_May_L3 (n : Nat) (a1 : List Item)  : Nat → Int → Option ref08_May_R
  | 0, _ => none
  | m + 1, x0 => ref08_May_L3F n a1  (ref08_May_L3 n a1  m)  x0
noncomputable def ref08_May_F (n : Nat) (a1 : List Item)  (l3 : (Int → Option ref08_May_R)) : Option ref08_May_R := l3 0
noncomputable def ref08_May (n : Nat) (a1 : List Item)  : Option ref08_May_R := ref08_May_F n a1  (ref08_May_L3 n a1 n)
noncomputable def ref08_May_L3q (n : Nat) (a1 : List Item) (m3 : Nat) (T : AT) (s : AS) : Option ref08_May_R := match T, s with
  | [(0, (.sl 0 5)), (3, (.i .i64 x0))], ⟨[], 1, []⟩ => ref08_May_L3 n a1  m3 x0
  | _, _ => none
noncomputable def ref08_May_jf (n : Nat) (a1 : List Item) : List Nat → Nat → AT → AS → Option ref08_May_R := fun ms key T s => none
noncomputable def ref08_May_lf (n : Nat) (a1 : List Item) : List Nat → Nat → AT → AS → Option ref08_May_R := fun ms key T s => cond (Nat.beq key 3) (match ms with | [m3] => ref08_May_L3q n a1 m3 T s | _ => none) (none)
noncomputable def ref08_May_E (n : Nat) (o1 : Nat) (f1 : Nat × Nat) (a1 : List Item) : SE ref08_May_R := ref08_May_E0 n ref08_May_R o1 f1 a1 (ref08_May_jf n a1) (ref08_May_lf n a1)
theorem ref08_May_eq (n : Nat) (o1 : Nat) (f1 : Nat × Nat) (a1 : List Item) : sxF cfg0 kd ref08_May_kr (ref08_May_E n o1 f1 a1) Try.f92 (bodyOf Try.f92) [] [.sl 0 5] ref08_May_ret = ref08_May n a1  := by kernel_rfl
theorem ref08_May_pv (n : Nat) (o1 : Nat) (f1 : Nat × Nat) (a1 : List Item) (r : ref08_May_R) : PV cfg0 kd (ref08_May_E n o1 f1 a1) r [] (bodyOf Try.f92) (retK cfg0 kd ref08_May_kr (ref08_May_E n o1 f1 a1) Try.f92.results.toList ref08_May_ret) := by
  refine PV.sn (by kernel_rfl) ?_ ?_
  ·
    refine PV.sn (by kernel_rfl) ?_ ?_
    ·
      exact PV.triv (by kernel_rfl)
    ·
      refine PV.sn (by kernel_rfl) ?_ ?_
      ·
        refine PV.bl ?_
        refine PV.lp (live := [0, 3]) (by kernel_rfl) ?_ ?_ ?_
        · intro T s h; change ref08_May_L3q n a1 0 _ _ = some r at h; unfold ref08_May_L3q at h; split at h
          · exact nomatch (show (none : Option ref08_May_R) = some r from h)
          · cases h
        · intro m3 T s h; change ref08_May_L3q n a1 (m3 + 1) _ _ = some r at h; unfold ref08_May_L3q at h; split at h
          · exact Eq.trans (by kernel_rfl) h
          · cases h
        · intro m3
          exact PV.triv (by kernel_rfl)
      ·
        exact PV.triv (by kernel_rfl)
  ·
    exact PV.triv (by kernel_rfl)
noncomputable def ref08_May_ct (n : Nat) (vs : List AV) (h : AH) : Option Ctr := match vs, h with
  | [.sl 0 5], [(0, (.row .item o1 a1 35 f1))] => some (.one ref08_May_R (ref08_May n  a1 ) [] 0 ref08_May_out)
  | _, _ => none
theorem ref08_May_ok (n : Nat) : COk1 cfg0 92 (ref08_May_ct n) := by
  intro vs h c e
  unfold ref08_May_ct at e
  split at e
  · rename_i o1 a1 f1
    cases e
    exact fun r hm => sxF_ok (E := ref08_May_E n o1 f1 a1) (nx1 := ref08_May_nx) (ref08_May_fn) rfl rfl rfl (callA_ok (ref08_May_pre_ok n)) ref08_May_ret_ok rfl (ref08_May_pv n o1 f1 a1 _) ((ref08_May_eq n o1 f1 a1 ).trans hm)
  · cases e
end
end Go.Ev
end
section
set_option linter.unusedVariables false
set_option linter.unusedSimpArgs false
set_option maxRecDepth 100000
set_option maxHeartbeats 400000
namespace Go.Ev
open Go.RowKit Go.Proofs
section
theorem ref01_Put_fn : cfg0.fn 94 = some Try.f94 := rfl
abbrev ref01_Put_R : Type := (List (UInt8))
@[reducible] def ref01_Put_rt (b0 : List (UInt8)) : Option ref01_Put_R := some b0
noncomputable def ref01_Put_out : ref01_Put_R → AV × AH
  | b0 => ((.sl 1 1), [(1, (.row .u8 0 b0 5 (0, 0)))])
noncomputable def ref01_Put_nx : ref01_Put_R → Nat
  | _ => 2
noncomputable def ref01_Put_ret (v : AV) (h : AH) (nx : Nat) : Option ref01_Put_R := match v, h, nx with
  | (.sl 1 1), [(1, (.row .u8 0 b0 5 (0, 0)))], 2 => some b0
  | _, _, _ => none
theorem ref01_Put_ret_ok (v : AV) (h : AH) (nx : Nat) (r : ref01_Put_R) (e : ref01_Put_ret v h nx = some r) : ref01_Put_out r = (v, h) ∧ nx = ref01_Put_nx r := by
  unfold ref01_Put_ret at e
  split at e
  · cases e; exact ⟨rfl, rfl⟩
  · cases e
noncomputable def ref01_Put_kr : KN := [((0, 0), (.u8, 5))]
noncomputable def ref01_Put_pre (n : Nat) : CT := ctZ
theorem ref01_Put_pre_ok (n : Nat) : COk cfg0 (ref01_Put_pre n) := ctZ_ok
noncomputable def ref01_Put_E0 (n : Nat) (R : Type) (o1 : Nat) (f1 : Nat × Nat) (a1 : List UInt8) (jf lf : List Nat → Nat → AT → AS → Option R) : SE R := ⟨[(0, (.row .u8 o1 a1 5 f1))], Try.f94.ntmps, 1, callA cfg0 kd [(0, (.row .u8 o1 a1 5 f1))] (ref01_Put_pre n), n, [(6, ([1, 2, 7, 8], 0))], [(5, [1, 2, 7])], [], [], jf, lf⟩
noncomputable def ref01_Put_L6F (n : Nat) (a1 : List UInt8) (r6 : (Nat → Int → Int → List (UInt8) → Option ref01_Put_R))  (x0 : Nat) (x1 : Int) (x2 : Int) (x3 : List (UInt8)) : Option ref01_Put_R := bif decide (x2 < x1) then bif true && Nat.ble (u64 (w64 (8 * x2))) 64 then bif Nat.ble (List.length x3 + List.length [UInt8.ofNat (x0 / 2 ^ u64 (w64 (8 * x2)))]) 100000000 then r6 x0 x1 (w64 (x2 + 1)) (x3 ++ [UInt8.ofNat (x0 / 2 ^ u64 (w64 (8 * x2)))]) else none else none else ref01_Put_rt x3
noncomputable def ref01_Put_L6 (n : Nat) (a1 : List UInt8)  : Nat → Nat → Int → Int → List (UInt8) → Option ref01_Put_R
  | 0, _, _, _, _ => none
  | m + 1, x0, x1, x2, x3 => ref01_Put_L6F n a1  (ref01_Put_L6 n a1  m)  x0 x1 x2 x3
noncomputable def ref01_Put_J5F (n : Nat) (a1 : List UInt8)  (l6 : (Nat → Int → Int → List (UInt8) → Option ref01_Put_R)) (x0 : Nat) (x1 : Int) (x2 : List (UInt8)) : Option ref01_Put_R := l6 x0 x1 0 x2
noncomputable def ref01_Put_J5 (n : Nat) (a1 : List UInt8)  (x0 : Nat) (x1 : Int) (x2 : List (UInt8)) : Option ref01_Put_R := ref01_Put_J5F n a1  (ref01_Put_L6 n a1  n) x0 x1 x2
noncomputable def ref01_Put_F (n : Nat) (a1 : List UInt8) (a2 : Nat) (a3 : Int) (j5 : (Nat → Int → List (UInt8) → Option ref01_Put_R)) : Option ref01_Put_R := bif Nat.ble ((0 : Nat) + List.length a1) 100000000 then bif decide (a3 < 1) then ref01_Put_rt ([] ++ a1) else bif decide (8 < a3) then ref01_Put_rt ([] ++ a1) else j5 a2 a3 ([] ++ a1) else none
noncomputable def ref01_Put (n : Nat) (a1 : List UInt8) (a2 : Nat) (a3 : Int) : Option ref01_Put_R := ref01_Put_F n a1 a2 a3 (ref01_Put_J5 n a1)
noncomputable def ref01_Put_L6q (n : Nat) (a1 : List UInt8) (m6 : Nat) (T : AT) (s : AS) : Option ref01_Put_R := match T, s with
  | [(1, (.n .u64 x0)), (2, (.i .i64 x1)), (7, (.sl 1 1)), (8, (.i .i64 x2))], ⟨[(1, (.row .u8 0 x3 5 (0, 0)))], 2, []⟩ => ref01_Put_L6 n a1  m6 x0 x1 x2 x3
  | _, _ => none
noncomputable def ref01_Put_J5q (n : Nat) (a1 : List UInt8)  (T : AT) (s : AS) : Option ref01_Put_R := match T, s with
  | [(1, (.n .u64 x0)), (2, (.i .i64 x1)), (7, (.sl 1 1))], ⟨[(1, (.row .u8 0 x2 5 (0, 0)))], 2, []⟩ => ref01_Put_J5 n a1  x0 x1 x2
  | _, _ => none
noncomputable def ref01_Put_jf (n : Nat) (a1 : List UInt8) : List Nat → Nat → AT → AS → Option ref01_Put_R := fun ms key T s => cond (Nat.beq key 5) (match ms with | [] => ref01_Put_J5q n a1  T s | _ => none) (none)
noncomputable def ref01_Put_lf (n : Nat) (a1 : List UInt8) : List Nat → Nat → AT → AS → Option ref01_Put_R := fun ms key T s => cond (Nat.beq key 6) (match ms with | [m6] => ref01_Put_L6q n a1 m6 T s | _ => none) (none)
noncomputable def ref01_Put_E (n : Nat) (o1 : Nat) (f1 : Nat × Nat) (a1 : List UInt8) : SE ref01_Put_R := ref01_Put_E0 n ref01_Put_R o1 f1 a1 (ref01_Put_jf n a1) (ref01_Put_lf n a1)
theorem ref01_Put_eq (n : Nat) (o1 : Nat) (f1 : Nat × Nat) (a1 : List UInt8) (a2 : Nat) (a3 : Int) : sxF cfg0 kd ref01_Put_kr (ref01_Put_E n o1 f1 a1) Try.f94 (bodyOf Try.f94) [] [.sl 0 1, .n .u64 a2, .i .i64 a3] ref01_Put_ret = ref01_Put n a1 a2 a3 := by kernel_rfl
theorem ref01_Put_pv (n : Nat) (o1 : Nat) (f1 : Nat × Nat) (a1 : List UInt8) (r : ref01_Put_R) : PV cfg0 kd (ref01_Put_E n o1 f1 a1) r [] (bodyOf Try.f94) (retK cfg0 kd ref01_Put_kr (ref01_Put_E n o1 f1 a1) Try.f94.results.toList ref01_Put_ret) := by
  refine PV.sn (by kernel_rfl) ?_ ?_
  ·
    refine PV.sn (by kernel_rfl) ?_ ?_
    ·
      refine PV.sj (live := [1, 2, 7]) (by kernel_rfl) ?_ ?_ ?_
      · intro T s h; change ref01_Put_J5q n a1  _ _ = some r at h; unfold ref01_Put_J5q at h; split at h
        · exact Eq.trans (by kernel_rfl) h
        · cases h
      ·
        refine PV.sn (by kernel_rfl) ?_ ?_
        ·
          exact PV.triv (by kernel_rfl)
        ·
          refine PV.sn (by kernel_rfl) ?_ ?_
          ·
            refine PV.bl ?_
            refine PV.lp (live := [1, 2, 7, 8]) (by kernel_rfl) ?_ ?_ ?_
            · intro T s h; change ref01_Put_L6q n a1 0 _ _ = some r at h; unfold ref01_Put_L6q at h; split at h
              · exact nomatch (show (none : Option ref01_Put_R) = some r from h)
              · cases h
            · intro m6 T s h; change ref01_Put_L6q n a1 (m6 + 1) _ _ = some r at h; unfold ref01_Put_L6q at h; split at h
              · exact Eq.trans (by kernel_rfl) h
              · cases h
            · intro m6
              exact PV.triv (by kernel_rfl)
          ·
            exact PV.triv (by kernel_rfl)
      ·
        exact PV.triv (by kernel_rfl)
    ·
      exact PV.triv (by kernel_rfl)
  ·
    exact PV.triv (by kernel_rfl)
noncomputable def ref01_Put_ct (n : Nat) (vs : List AV) (h : AH) : Option Ctr := match vs, h with
  | [.sl 0 1, .n .u64 a2, .i .i64 a3], [(0, (.row .u8 o1 a1 5 f1))] => some (.one ref01_Put_R (ref01_Put n  a1 a2 a3) [] 1 ref01_Put_out)
  | _, _ => none
theorem ref01_Put_ok (n : Nat) : COk1 cfg0 94 (ref01_Put_ct n) := by
  intro vs h c e
  unfold ref01_Put_ct at e
  split at e
  · rename_i a2 a3 o1 a1 f1
    cases e
    exact fun r hm => sxF_ok (E := ref01_Put_E n o1 f1 a1) (nx1 := ref01_Put_nx) (ref01_Put_fn) rfl rfl rfl (callA_ok (ref01_Put_pre_ok n)) ref01_Put_ret_ok rfl (ref01_Put_pv n o1 f1 a1 _) ((ref01_Put_eq n o1 f1 a1 a2 a3).trans hm)
  · cases e
end
end Go.Ev
end
section
set_option linter.unusedVariables false
set_option linter.unusedSimpArgs false
set_option maxRecDepth 100000
set_option maxHeartbeats 400000
namespace Go.Ev
open Go.RowKit Go.Proofs
section
theorem ref04_Body_fn : cfg0.fn 95 = some Try.f95 := rfl
abbrev ref04_Body_R : Type := (List UInt8) × Int
@[reducible] def ref04_Body_rt (b0 : List UInt8) (b1 : Int) : Option ref04_Body_R := some (b0, b1)
noncomputable def ref04_Body_out : ref04_Body_R → AV × AH
  | (b0, b1) => ((.tu [(.s b0), (.i .i64 b1)]), [])
noncomputable def ref04_Body_nx : ref04_Body_R → Nat
  | _ => 1
noncomputable def ref04_Body_ret (v : AV) (h : AH) (nx : Nat) : Option ref04_Body_R := match v, h, nx with
  | (.tu [(.s b0), (.i .i64 b1)]), [], 1 => some (b0, b1)
  | _, _, _ => none
theorem ref04_Body_ret_ok (v : AV) (h : AH) (nx : Nat) (r : ref04_Body_R) (e : ref04_Body_ret v h nx = some r) : ref04_Body_out r = (v, h) ∧ nx = ref04_Body_nx r := by
  unfold ref04_Body_ret at e
  split at e
  · cases e; exact ⟨rfl, rfl⟩
  · cases e
noncomputable def ref04_Body_kr : KN := []
noncomputable def ref04_Body_pre (n : Nat) : CT := (ctA 41 (ref04_Room_ct n) (ctA 78 (ref03_Good_ct n) ctZ))
theorem ref04_Body_pre_ok (n : Nat) : COk cfg0 (ref04_Body_pre n) := (ctA_ok (ref04_Room_ok n) (ctA_ok (ref03_Good_ok n) ctZ_ok))
noncomputable def ref04_Body_E0 (n : Nat) (R : Type) (o1 : Nat) (f1 : Nat × Nat) (a2 : List UInt8) (jf lf : List Nat → Nat → AT → AS → Option R) : SE R := ⟨[(0, (.row .u8 o1 a2 5 f1))], Try.f95.ntmps, 1, callA cfg0 kd [(0, (.row .u8 o1 a2 5 f1))] (ref04_Body_pre n), n, [], [], [], [], jf, lf⟩
noncomputable def ref04_Body_F (n : Nat) (a2 : List UInt8) (a1 : Int)  : Option ref04_Body_R := Option.bind (ref03_Good n a1) fun z => bif !z then ref04_Body_rt [] 2 else Option.bind (ref04_Room n a1) fun z_1 => bif decide (z_1 < (↑(List.length a2) : Int)) then ref04_Body_rt [] 3 else Option.bind (ref04_Room n a1) fun z_2 => bif decide (0 ≤ w64 (z_2 - (↑(List.length a2) : Int))) && decide (0 ≤ w64 (z_2 - (↑(List.length a2) : Int))) && (Nat.ble (Int.toNat (w64 (z_2 - (↑(List.length a2) : Int)))) (Int.toNat (w64 (z_2 - (↑(List.length a2) : Int)))) && Nat.ble (Int.toNat (w64 (z_2 - (↑(List.length a2) : Int)))) 100000000) then bif decide (List.length a2 + List.length (List.replicate (Int.toNat (w64 (z_2 - (↑(List.length a2) : Int)))) (UInt8.ofNat ((0 : Nat)))) ≤ 4611686018427387904) then ref04_Body_rt (a2 ++ List.replicate (Int.toNat (w64 (z_2 - (↑(List.length a2) : Int)))) (UInt8.ofNat ((0 : Nat)))) 0 else none else none
noncomputable def ref04_Body (n : Nat) (a2 : List UInt8) (a1 : Int) : Option ref04_Body_R := ref04_Body_F n a2 a1 
noncomputable def ref04_Body_jf (n : Nat) (a2 : List UInt8) : List Nat → Nat → AT → AS → Option ref04_Body_R := fun ms key T s => none
noncomputable def ref04_Body_lf (n : Nat) (a2 : List UInt8) : List Nat → Nat → AT → AS → Option ref04_Body_R := fun ms key T s => none
noncomputable def ref04_Body_E (n : Nat) (o1 : Nat) (f1 : Nat × Nat) (a2 : List UInt8) : SE ref04_Body_R := ref04_Body_E0 n ref04_Body_R o1 f1 a2 (ref04_Body_jf n a2) (ref04_Body_lf n a2)
theorem ref04_Body_eq (n : Nat) (o1 : Nat) (f1 : Nat × Nat) (a2 : List UInt8) (a1 : Int) : sxF cfg0 kd ref04_Body_kr (ref04_Body_E n o1 f1 a2) Try.f95 (bodyOf Try.f95) [] [.i .i64 a1, .sl 0 1] ref04_Body_ret = ref04_Body n a2 a1 := by kernel_rfl
theorem ref04_Body_pv (n : Nat) (o1 : Nat) (f1 : Nat × Nat) (a2 : List UInt8) (r : ref04_Body_R) : PV cfg0 kd (ref04_Body_E n o1 f1 a2) r [] (bodyOf Try.f95) (retK cfg0 kd ref04_Body_kr (ref04_Body_E n o1 f1 a2) Try.f95.results.toList ref04_Body_ret) := by
  exact PV.triv (by kernel_rfl)
noncomputable def ref04_Body_ct (n : Nat) (vs : List AV) (h : AH) : Option Ctr := match vs, h with
  | [.i .i64 a1, .sl 0 1], [(0, (.row .u8 o1 a2 5 f1))] => some (.one ref04_Body_R (ref04_Body n  a2 a1) [] 0 ref04_Body_out)
  | _, _ => none
theorem ref04_Body_ok (n : Nat) : COk1 cfg0 95 (ref04_Body_ct n) := by
  intro vs h c e
  unfold ref04_Body_ct at e
  split at e
  · rename_i a1 o1 a2 f1
    cases e
    exact fun r hm => sxF_ok (E := ref04_Body_E n o1 f1 a2) (nx1 := ref04_Body_nx) (ref04_Body_fn) rfl rfl rfl (callA_ok (ref04_Body_pre_ok n)) ref04_Body_ret_ok rfl (ref04_Body_pv n o1 f1 a2 _) ((ref04_Body_eq n o1 f1 a2 a1).trans hm)
  · cases e
end
end Go.Ev
end
section
set_option linter.unusedVariables false
set_option linter.unusedSimpArgs false
set_option maxRecDepth 100000
set_option maxHeartbeats 400000
namespace Go.Ev
open Go.RowKit Go.Proofs
section
theorem ref08_Page_fn : cfg0.fn 34 = some Try.f34 := rfl
abbrev ref08_Page_R : Type := Pg × Int
@[reducible] def ref08_Page_rt (b0 : Pg) (b1 : Int) : Option ref08_Page_R := some (b0, b1)
noncomputable def ref08_Page_out : ref08_Page_R → AV × AH
  | (b0, b1) => ((.tu [(.ag (RK.k .page b0)), (.i .i64 b1)]), [])
noncomputable def ref08_Page_nx : ref08_Page_R → Nat
  | _ => 1
noncomputable def ref08_Page_ret (v : AV) (h : AH) (nx : Nat) : Option ref08_Page_R := match v, h, nx with
  | (.tu [(.ag [.i .i64 b0_0, .i .i64 b0_1, .n .u32 b0_2, .n .u32 b0_3, .n .u64 b0_4, .s b0_5]), (.i .i64 b1)]), [], 1 => some (⟨b0_0, b0_1, b0_2, b0_3, b0_4, b0_5⟩, b1)
  | _, _, _ => none
theorem ref08_Page_ret_ok (v : AV) (h : AH) (nx : Nat) (r : ref08_Page_R) (e : ref08_Page_ret v h nx = some r) : ref08_Page_out r = (v, h) ∧ nx = ref08_Page_nx r := by
  unfold ref08_Page_ret at e
  split at e
  · cases e; exact ⟨rfl, rfl⟩
  · cases e
noncomputable def ref08_Page_kr : KN := []
noncomputable def ref08_Page_pre (n : Nat) : CT := (ctA 37 (ref08_Size_ct n) (ctA 41 (ref04_Room_ct n) (ctA 78 (ref03_Good_ct n) (ctA 92 (ref08_May_ct n) (ctA 93 (ref04_Number_ct n) (ctA 94 (ref01_Put_ct n) (ctA 95 (ref04_Body_ct n) ctZ)))))))
theorem ref08_Page_pre_ok (n : Nat) : COk cfg0 (ref08_Page_pre n) := (ctA_ok (ref08_Size_ok n) (ctA_ok (ref04_Room_ok n) (ctA_ok (ref03_Good_ok n) (ctA_ok (ref08_May_ok n) (ctA_ok (ref04_Number_ok n) (ctA_ok (ref01_Put_ok n) (ctA_ok (ref04_Body_ok n) ctZ_ok)))))))
noncomputable def ref08_Page_E0 (n : Nat) (R : Type) (o1 : Nat) (f1 : Nat × Nat) (a4 : List Item) (jf lf : List Nat → Nat → AT → AS → Option R) : SE R := ⟨[(0, (.row .item o1 a4 35 f1))], Try.f34.ntmps, 1, callA cfg0 kd [(0, (.row .item o1 a4 35 f1))] (ref08_Page_pre n), n, [(6, ([0, 1, 2, 3, 8, 10, 11], 0))], [(4, [0, 1, 2, 3, 8]), (11, [0, 1, 2, 3, 8, 10, 11, 12])], [], [], jf, lf⟩
noncomputable def ref08_Page_J11F (n : Nat) (a4 : List Item) (r6 : (Int → Nat → Nat → Int → List (UInt8) → Pg → Option ref08_Page_R))  (x0 : Int) (x1 : Nat) (x2 : Nat) (x3 : Int) (x4 : Nat) (x5 : List (UInt8)) (x6 : Pg) : Option ref08_Page_R := Option.bind (ref01_Put n x5 x4 1) fun z => bif decide (0 ≤ x3) && decide (Int.toNat x3 < List.length a4) then Option.bind a4[Int.toNat x3]? fun z_1 => Option.bind (ref01_Put n z (u64 (↑(List.length z_1.key) : Int)) 1) fun z_2 => bif decide (0 ≤ x3) && decide (Int.toNat x3 < List.length a4) then Option.bind a4[Int.toNat x3]? fun z_3 => bif Nat.ble (List.length z_2 + List.length z_3.key) 100000000 then bif decide (0 ≤ x3) && decide (Int.toNat x3 < List.length a4) then Option.bind a4[Int.toNat x3]? fun z_4 => bif z_4.over then bif decide (0 ≤ x3) && decide (Int.toNat x3 < List.length a4) then Option.bind a4[Int.toNat x3]? fun z_5 => Option.bind (ref01_Put n (z_2 ++ z_3.key) (u64 z_5.len) 4) fun z_6 => bif decide (0 ≤ x3) && decide (Int.toNat x3 < List.length a4) then Option.bind a4[Int.toNat x3]? fun z_7 => Option.bind (ref01_Put n z_6 (z_7.head % 18446744073709551616) 4) fun z_8 => r6 x0 x1 x2 (w64 (x3 + 1)) z_8 x6 else none else none else bif decide (0 ≤ x3) && decide (Int.toNat x3 < List.length a4) then Option.bind a4[Int.toNat x3]? fun z_5 => Option.bind (ref01_Put n (z_2 ++ z_3.key) (u64 (↑(List.length z_5.value) : Int)) 1) fun z_6 => bif decide (0 ≤ x3) && decide (Int.toNat x3 < List.length a4) then Option.bind a4[Int.toNat x3]? fun z_7 => bif Nat.ble (List.length z_6 + List.length z_7.value) 100000000 then r6 x0 x1 x2 (w64 (x3 + 1)) (z_6 ++ z_7.value) x6 else none else none else none else none else none else none else none
noncomputable def ref08_Page_J11 (n : Nat) (a4 : List Item) (r6 : (Int → Nat → Nat → Int → List (UInt8) → Pg → Option ref08_Page_R)) (x0 : Int) (x1 : Nat) (x2 : Nat) (x3 : Int) (x4 : Nat) (x5 : List (UInt8)) (x6 : Pg) : Option ref08_Page_R := ref08_Page_J11F n a4 r6  x0 x1 x2 x3 x4 x5 x6
noncomputable def ref08_Page_L6F (n : Nat) (a4 : List Item) (r6 : (Int → Nat → Nat → Int → List (UInt8) → Pg → Option ref08_Page_R)) (j11 : (Int → Nat → Nat → Int → Nat → List (UInt8) → Pg → Option ref08_Page_R)) (x0 : Int) (x1 : Nat) (x2 : Nat) (x3 : Int) (x4 : List (UInt8)) (x5 : Pg) : Option ref08_Page_R := bif decide (x3 < (↑(List.length a4) : Int)) then bif decide (0 ≤ x3) && decide (Int.toNat x3 < List.length a4) then Option.bind a4[Int.toNat x3]? fun z => bif z.over then j11 x0 x1 x2 x3 ((1 : Nat)) x4 x5 else j11 x0 x1 x2 x3 ((0 : Nat)) x4 x5 else none else Option.bind (ref04_Body n x4 x0) fun z => ref08_Page_rt (Pg.mk 4 (↑(List.length a4) : Int) x1 ((0 : Nat)) x2 z.fst) 0
noncomputable def ref08_Page_L6 (n : Nat) (a4 : List Item)  : Nat → Int → Nat → Nat → Int → List (UInt8) → Pg → Option ref08_Page_R
  | 0, _, _, _, _, _, _ => none
  | m + 1, x0, x1, x2, x3, x4, x5 => ref08_Page_L6F n a4  (ref08_Page_L6 n a4  m) (ref08_Page_J11 n a4 (ref08_Page_L6 n a4  m)) x0 x1 x2 x3 x4 x5
noncomputable def ref08_Page_J4F (n : Nat) (a4 : List Item)  (l6 : (Int → Nat → Nat → Int → List (UInt8) → Pg → Option ref08_Page_R)) (x0 : Int) (x1 : Nat) (x2 : Nat) (x3 : Pg) : Option ref08_Page_R := l6 x0 x1 x2 0 [] x3
noncomputable def ref08_Page_J4 (n : Nat) (a4 : List Item)  (x0 : Int) (x1 : Nat) (x2 : Nat) (x3 : Pg) : Option ref08_Page_R := ref08_Page_J4F n a4  (ref08_Page_L6 n a4  n) x0 x1 x2 x3
noncomputable def ref08_Page_F (n : Nat) (a4 : List Item) (a1 : Int) (a2 : Nat) (a3 : Nat) (j4 : (Int → Nat → Nat → Pg → Option ref08_Page_R)) : Option ref08_Page_R := Option.bind (ref03_Good n a1) fun z => bif !z then ref08_Page_rt (Pg.mk 0 0 ((0 : Nat)) ((0 : Nat)) ((0 : Nat)) []) 2 else Option.bind (ref08_May n a4) fun z_1 => bif !z_1 then ref08_Page_rt (Pg.mk 0 0 ((0 : Nat)) ((0 : Nat)) ((0 : Nat)) []) 2 else Option.bind (ref08_Size n a4) fun z_2 => Option.bind (ref04_Room n a1) fun z_3 => bif decide (z_3 < z_2) then ref08_Page_rt (Pg.mk 0 0 ((0 : Nat)) ((0 : Nat)) ((0 : Nat)) []) 2 else Option.bind (ref04_Number n a2) fun z_4 => bif !z_4 then ref08_Page_rt (Pg.mk 0 0 ((0 : Nat)) ((0 : Nat)) ((0 : Nat)) []) 2 else bif decide ((4611686018427387904 : Nat) < a3) then ref08_Page_rt (Pg.mk 0 0 ((0 : Nat)) ((0 : Nat)) ((0 : Nat)) []) 2 else j4 a1 a2 a3 (Pg.mk 0 0 ((0 : Nat)) ((0 : Nat)) ((0 : Nat)) [])
noncomputable def ref08_Page (n : Nat) (a4 : List Item) (a1 : Int) (a2 : Nat) (a3 : Nat) : Option ref08_Page_R := ref08_Page_F n a4 a1 a2 a3 (ref08_Page_J4 n a4)
noncomputable def ref08_Page_J11q (n : Nat) (a4 : List Item) (m6 : Nat) (T : AT) (s : AS) : Option ref08_Page_R := match T, s with
  | [(0, (.i .i64 x0)), (1, (.n .u32 x1)), (2, (.n .u64 x2)), (3, (.sl 0 5)), (8, (.ptr 1 0)), (10, (.sl 2 1)), (11, (.i .i64 x3)), (12, (.n .u64 x4))], ⟨[(2, (.row .u8 0 x5 5 (0, 0))), (1, (.cells [.i .i64 x6_0, .i .i64 x6_1, .n .u32 x6_2, .n .u32 x6_3, .n .u64 x6_4, .s x6_5] 27 (0, 0)))], 3, []⟩ => ref08_Page_J11 n a4 (ref08_Page_L6 n a4  m6) x0 x1 x2 x3 x4 x5 ⟨x6_0, x6_1, x6_2, x6_3, x6_4, x6_5⟩
  | _, _ => none
noncomputable def ref08_Page_L6q (n : Nat) (a4 : List Item) (m6 : Nat) (T : AT) (s : AS) : Option ref08_Page_R := match T, s with
  | [(0, (.i .i64 x0)), (1, (.n .u32 x1)), (2, (.n .u64 x2)), (3, (.sl 0 5)), (8, (.ptr 1 0)), (10, (.sl 2 1)), (11, (.i .i64 x3))], ⟨[(2, (.row .u8 0 x4 5 (0, 0))), (1, (.cells [.i .i64 x5_0, .i .i64 x5_1, .n .u32 x5_2, .n .u32 x5_3, .n .u64 x5_4, .s x5_5] 27 (0, 0)))], 3, []⟩ => ref08_Page_L6 n a4  m6 x0 x1 x2 x3 x4 ⟨x5_0, x5_1, x5_2, x5_3, x5_4, x5_5⟩
  | _, _ => none
noncomputable def ref08_Page_J4q (n : Nat) (a4 : List Item)  (T : AT) (s : AS) : Option ref08_Page_R := match T, s with
  | [(0, (.i .i64 x0)), (1, (.n .u32 x1)), (2, (.n .u64 x2)), (3, (.sl 0 5)), (8, (.ptr 1 0))], ⟨[(1, (.cells [.i .i64 x3_0, .i .i64 x3_1, .n .u32 x3_2, .n .u32 x3_3, .n .u64 x3_4, .s x3_5] 27 (0, 0)))], 2, []⟩ => ref08_Page_J4 n a4  x0 x1 x2 ⟨x3_0, x3_1, x3_2, x3_3, x3_4, x3_5⟩
  | _, _ => none
noncomputable def ref08_Page_jf (n : Nat) (a4 : List Item) : List Nat → Nat → AT → AS → Option ref08_Page_R := fun ms key T s => cond (Nat.beq key 11) (match ms with | [m6] => ref08_Page_J11q n a4 m6 T s | _ => none) (cond (Nat.beq key 4) (match ms with | [] => ref08_Page_J4q n a4  T s | _ => none) (none))
noncomputable def ref08_Page_lf (n : Nat) (a4 : List Item) : List Nat → Nat → AT → AS → Option ref08_Page_R := fun ms key T s => cond (Nat.beq key 6) (match ms with | [m6] => ref08_Page_L6q n a4 m6 T s | _ => none) (none)
noncomputable def ref08_Page_E (n : Nat) (o1 : Nat) (f1 : Nat × Nat) (a4 : List Item) : SE ref08_Page_R := ref08_Page_E0 n ref08_Page_R o1 f1 a4 (ref08_Page_jf n a4) (ref08_Page_lf n a4)
theorem ref08_Page_eq (n : Nat) (o1 : Nat) (f1 : Nat × Nat) (a4 : List Item) (a1 : Int) (a2 : Nat) (a3 : Nat) : sxF cfg0 kd ref08_Page_kr (ref08_Page_E n o1 f1 a4) Try.f34 (bodyOf Try.f34) [] [.i .i64 a1, .n .u32 a2, .n .u64 a3, .sl 0 5] ref08_Page_ret = ref08_Page n a4 a1 a2 a3 := by kernel_rfl
theorem ref08_Page_pv (n : Nat) (o1 : Nat) (f1 : Nat × Nat) (a4 : List Item) (r : ref08_Page_R) : PV cfg0 kd (ref08_Page_E n o1 f1 a4) r [] (bodyOf Try.f34) (retK cfg0 kd ref08_Page_kr (ref08_Page_E n o1 f1 a4) Try.f34.results.toList ref08_Page_ret) := by
  refine PV.sn (by kernel_rfl) ?_ ?_
  ·
    refine PV.sj (live := [0, 1, 2, 3, 8]) (by kernel_rfl) ?_ ?_ ?_
    · intro T s h; change ref08_Page_J4q n a4  _ _ = some r at h; unfold ref08_Page_J4q at h; split at h
      · exact Eq.trans (by kernel_rfl) h
      · cases h
    ·
      refine PV.sn (by kernel_rfl) ?_ ?_
      ·
        refine PV.sn (by kernel_rfl) ?_ ?_
        ·
          exact PV.triv (by kernel_rfl)
        ·
          refine PV.sn (by kernel_rfl) ?_ ?_
          ·
            refine PV.bl ?_
            refine PV.lp (live := [0, 1, 2, 3, 8, 10, 11]) (by kernel_rfl) ?_ ?_ ?_
            · intro T s h; change ref08_Page_L6q n a4 0 _ _ = some r at h; unfold ref08_Page_L6q at h; split at h
              · exact nomatch (show (none : Option ref08_Page_R) = some r from h)
              · cases h
            · intro m6 T s h; change ref08_Page_L6q n a4 (m6 + 1) _ _ = some r at h; unfold ref08_Page_L6q at h; split at h
              · exact Eq.trans (by kernel_rfl) h
              · cases h
            · intro m6
              refine PV.sn (by kernel_rfl) ?_ ?_
              ·
                refine PV.sn (by kernel_rfl) ?_ ?_
                ·
                  exact PV.triv (by kernel_rfl)
                ·
                  refine PV.bl ?_
                  refine PV.sn (by kernel_rfl) ?_ ?_
                  ·
                    refine PV.sj (live := [0, 1, 2, 3, 8, 10, 11, 12]) (by kernel_rfl) ?_ ?_ ?_
                    · intro T s h; change ref08_Page_J11q n a4 m6 _ _ = some r at h; unfold ref08_Page_J11q at h; split at h
                      · exact Eq.trans (by kernel_rfl) h
                      · cases h
                    ·
                      exact PV.triv (by kernel_rfl)
                    ·
                      exact PV.triv (by kernel_rfl)
                  ·
                    exact PV.triv (by kernel_rfl)
              ·
                exact PV.triv (by kernel_rfl)
          ·
            exact PV.triv (by kernel_rfl)
      ·
        exact PV.triv (by kernel_rfl)
    ·
      exact PV.triv (by kernel_rfl)
  ·
    exact PV.triv (by kernel_rfl)
noncomputable def ref08_Page_ct (n : Nat) (vs : List AV) (h : AH) : Option Ctr := match vs, h with
  | [.i .i64 a1, .n .u32 a2, .n .u64 a3, .sl 0 5], [(0, (.row .item o1 a4 35 f1))] => some (.one ref08_Page_R (ref08_Page n  a4 a1 a2 a3) [] 0 ref08_Page_out)
  | _, _ => none
theorem ref08_Page_ok (n : Nat) : COk1 cfg0 34 (ref08_Page_ct n) := by
  intro vs h c e
  unfold ref08_Page_ct at e
  split at e
  · rename_i a1 a2 a3 o1 a4 f1
    cases e
    exact fun r hm => sxF_ok (E := ref08_Page_E n o1 f1 a4) (nx1 := ref08_Page_nx) (ref08_Page_fn) rfl rfl rfl (callA_ok (ref08_Page_pre_ok n)) ref08_Page_ret_ok rfl (ref08_Page_pv n o1 f1 a4 _) ((ref08_Page_eq n o1 f1 a4 a1 a2 a3).trans hm)
  · cases e
end
end Go.Ev
end
section
set_option linter.unusedVariables false
set_option linter.unusedSimpArgs false
set_option maxRecDepth 100000
set_option maxHeartbeats 400000
namespace Go.Ev
open Go.RowKit Go.Proofs
section
theorem ref01_New_fn : cfg0.fn 96 = some Try.f96 := rfl
abbrev ref01_New_R : Type := (List UInt8)
@[reducible] def ref01_New_rt (b0 : List UInt8) : Option ref01_New_R := some b0
noncomputable def ref01_New_out : ref01_New_R → AV × AH
  | b0 => ((.ptr 0 0), [(0, (.cells [(.s b0)] 150 (0, 0)))])
noncomputable def ref01_New_nx : ref01_New_R → Nat
  | _ => 1
noncomputable def ref01_New_ret (v : AV) (h : AH) (nx : Nat) : Option ref01_New_R := match v, h, nx with
  | (.ptr 0 0), [(0, (.cells [(.s b0)] 150 (0, 0)))], 1 => some b0
  | _, _, _ => none
theorem ref01_New_ret_ok (v : AV) (h : AH) (nx : Nat) (r : ref01_New_R) (e : ref01_New_ret v h nx = some r) : ref01_New_out r = (v, h) ∧ nx = ref01_New_nx r := by
  unfold ref01_New_ret at e
  split at e
  · cases e; exact ⟨rfl, rfl⟩
  · cases e
noncomputable def ref01_New_kr : KN := []
noncomputable def ref01_New_pre (n : Nat) : CT := ctZ
theorem ref01_New_pre_ok (n : Nat) : COk cfg0 (ref01_New_pre n) := ctZ_ok
noncomputable def ref01_New_E0 (n : Nat) (R : Type)   (jf lf : List Nat → Nat → AT → AS → Option R) : SE R := ⟨[], Try.f96.ntmps, 0, callA cfg0 kd [] (ref01_New_pre n), n, [], [], [], [], jf, lf⟩
noncomputable def ref01_New_F (n : Nat) (a1 : List UInt8)  : Option ref01_New_R := ref01_New_rt a1
noncomputable def ref01_New (n : Nat) (a1 : List UInt8) : Option ref01_New_R := ref01_New_F n a1 
noncomputable def ref01_New_jf (n : Nat) : List Nat → Nat → AT → AS → Option ref01_New_R := fun ms key T s => none
noncomputable def ref01_New_lf (n : Nat) : List Nat → Nat → AT → AS → Option ref01_New_R := fun ms key T s => none
noncomputable def ref01_New_E (n : Nat)   : SE ref01_New_R := ref01_New_E0 n ref01_New_R   (ref01_New_jf n) (ref01_New_lf n)
theorem ref01_New_eq (n : Nat) (a1 : List UInt8) : sxF cfg0 kd ref01_New_kr (ref01_New_E n  ) Try.f96 (bodyOf Try.f96) [] [.s a1] ref01_New_ret = ref01_New n a1 := by kernel_rfl
theorem ref01_New_pv (n : Nat) (r : ref01_New_R) : PV cfg0 kd (ref01_New_E n  ) r [] (bodyOf Try.f96) (retK cfg0 kd ref01_New_kr (ref01_New_E n  ) Try.f96.results.toList ref01_New_ret) := by
  exact PV.triv (by kernel_rfl)
noncomputable def ref01_New_ct (n : Nat) (vs : List AV) (h : AH) : Option Ctr := match vs, h with
  | [.s a1], [] => some (.one ref01_New_R (ref01_New n   a1) [] 1 ref01_New_out)
  | _, _ => none
theorem ref01_New_ok (n : Nat) : COk1 cfg0 96 (ref01_New_ct n) := by
  intro vs h c e
  unfold ref01_New_ct at e
  split at e
  · rename_i a1
    cases e
    exact fun r hm => sxF_ok (E := ref01_New_E n  ) (nx1 := ref01_New_nx) (ref01_New_fn) rfl rfl rfl (callA_ok (ref01_New_pre_ok n)) ref01_New_ret_ok rfl (ref01_New_pv n   _) ((ref01_New_eq n   a1).trans hm)
  · cases e
end
end Go.Ev
end
section
set_option linter.unusedVariables false
set_option linter.unusedSimpArgs false
set_option maxRecDepth 100000
set_option maxHeartbeats 400000
namespace Go.Ev
open Go.RowKit Go.Proofs
section
theorem ref01_Reader_Number_fn : cfg0.fn 97 = some Try.f97 := rfl
abbrev ref01_Reader_Number_R : Type := Nat × Int × (List UInt8)
@[reducible] def ref01_Reader_Number_rt (b0 : Nat) (b1 : Int) (b2 : List UInt8) : Option ref01_Reader_Number_R := some (b0, b1, b2)
noncomputable def ref01_Reader_Number_out : ref01_Reader_Number_R → AV × AH
  | (b0, b1, b2) => ((.tu [(.n .u64 b0), (.i .i64 b1)]), [(0, (.cells [(.s b2)] 150 (0, 0)))])
noncomputable def ref01_Reader_Number_nx : ref01_Reader_Number_R → Nat
  | _ => 1
noncomputable def ref01_Reader_Number_ret (v : AV) (h : AH) (nx : Nat) : Option ref01_Reader_Number_R := match v, h, nx with
  | (.tu [(.n .u64 b0), (.i .i64 b1)]), [(0, (.cells [(.s b2)] 150 (0, 0)))], 1 => some (b0, b1, b2)
  | _, _, _ => none
theorem ref01_Reader_Number_ret_ok (v : AV) (h : AH) (nx : Nat) (r : ref01_Reader_Number_R) (e : ref01_Reader_Number_ret v h nx = some r) : ref01_Reader_Number_out r = (v, h) ∧ nx = ref01_Reader_Number_nx r := by
  unfold ref01_Reader_Number_ret at e
  split at e
  · cases e; exact ⟨rfl, rfl⟩
  · cases e
noncomputable def ref01_Reader_Number_kr : KN := []
noncomputable def ref01_Reader_Number_pre (n : Nat) : CT := ctZ
theorem ref01_Reader_Number_pre_ok (n : Nat) : COk cfg0 (ref01_Reader_Number_pre n) := ctZ_ok
noncomputable def ref01_Reader_Number_E0 (n : Nat) (R : Type)   (jf lf : List Nat → Nat → AT → AS → Option R) : SE R := ⟨[], Try.f97.ntmps, 1, callA cfg0 kd [] (ref01_Reader_Number_pre n), n, [(8, ([0, 1, 6, 7], 0))], [(4, [0, 1])], [], [], jf, lf⟩
noncomputable def ref01_Reader_Number_L8F (n : Nat) (r8 : (Int → Nat → Int → List UInt8 → Option ref01_Reader_Number_R))  (x0 : Int) (x1 : Nat) (x2 : Int) (x3 : List UInt8) : Option ref01_Reader_Number_R := bif decide (x2 < x0) then bif decide (0 ≤ x2) then Option.bind x3[Int.toNat x2]? fun z => bif true && Nat.ble (u64 (w64 (8 * x2))) 64 then r8 x0 ((x1 % 18446744073709551616 ||| UInt8.toNat z * 2 ^ u64 (w64 (8 * x2)) % 18446744073709551616 % 18446744073709551616) % 18446744073709551616) (w64 (x2 + 1)) x3 else none else none else bif decide (0 ≤ x0) && decide (Int.toNat x0 ≤ List.length x3) then ref01_Reader_Number_rt x1 0 (List.drop (Int.toNat x0) x3) else none
noncomputable def ref01_Reader_Number_L8 (n : Nat)  : Nat → Int → Nat → Int → List UInt8 → Option ref01_Reader_Number_R
  | 0, _, _, _, _ => none
  | m + 1, x0, x1, x2, x3 => ref01_Reader_Number_L8F n  (ref01_Reader_Number_L8 n  m)  x0 x1 x2 x3
noncomputable def ref01_Reader_Number_J4F (n : Nat)  (l8 : (Int → Nat → Int → List UInt8 → Option ref01_Reader_Number_R)) (x0 : Int) (x1 : List UInt8) : Option ref01_Reader_Number_R := bif decide ((↑(List.length x1) : Int) < x0) then ref01_Reader_Number_rt ((0 : Nat)) 7 x1 else l8 x0 ((0 : Nat)) 0 x1
noncomputable def ref01_Reader_Number_J4 (n : Nat)  (x0 : Int) (x1 : List UInt8) : Option ref01_Reader_Number_R := ref01_Reader_Number_J4F n  (ref01_Reader_Number_L8 n  n) x0 x1
noncomputable def ref01_Reader_Number_F (n : Nat) (a1 : Int) (a2 : List UInt8) (j4 : (Int → List UInt8 → Option ref01_Reader_Number_R)) : Option ref01_Reader_Number_R := bif decide (a1 < 1) then ref01_Reader_Number_rt ((0 : Nat)) 2 a2 else bif decide (8 < a1) then ref01_Reader_Number_rt ((0 : Nat)) 2 a2 else j4 a1 a2
noncomputable def ref01_Reader_Number (n : Nat) (a1 : Int) (a2 : List UInt8) : Option ref01_Reader_Number_R := ref01_Reader_Number_F n a1 a2 (ref01_Reader_Number_J4 n)
noncomputable def ref01_Reader_Number_L8q (n : Nat) (m8 : Nat) (T : AT) (s : AS) : Option ref01_Reader_Number_R := match T, s with
  | [(0, (.ptr 0 0)), (1, (.i .i64 x0)), (6, (.n .u64 x1)), (7, (.i .i64 x2))], ⟨[(0, (.cells [(.s x3)] 150 (0, 0)))], 1, []⟩ => ref01_Reader_Number_L8 n  m8 x0 x1 x2 x3
  | _, _ => none
noncomputable def ref01_Reader_Number_J4q (n : Nat)  (T : AT) (s : AS) : Option ref01_Reader_Number_R := match T, s with
  | [(0, (.ptr 0 0)), (1, (.i .i64 x0))], ⟨[(0, (.cells [(.s x1)] 150 (0, 0)))], 1, []⟩ => ref01_Reader_Number_J4 n  x0 x1
  | _, _ => none
noncomputable def ref01_Reader_Number_jf (n : Nat) : List Nat → Nat → AT → AS → Option ref01_Reader_Number_R := fun ms key T s => cond (Nat.beq key 4) (match ms with | [] => ref01_Reader_Number_J4q n  T s | _ => none) (none)
noncomputable def ref01_Reader_Number_lf (n : Nat) : List Nat → Nat → AT → AS → Option ref01_Reader_Number_R := fun ms key T s => cond (Nat.beq key 8) (match ms with | [m8] => ref01_Reader_Number_L8q n m8 T s | _ => none) (none)
noncomputable def ref01_Reader_Number_E (n : Nat)   : SE ref01_Reader_Number_R := ref01_Reader_Number_E0 n ref01_Reader_Number_R   (ref01_Reader_Number_jf n) (ref01_Reader_Number_lf n)
theorem ref01_Reader_Number_eq (n : Nat) (a1 : Int) (a2 : List UInt8) : sxF cfg0 kd ref01_Reader_Number_kr (ref01_Reader_Number_E n  ) Try.f97 (bodyOf Try.f97) [(0, (.cells ([.s a2]) 150 (0, 0)))] [.ptr 0 0, .i .i64 a1] ref01_Reader_Number_ret = ref01_Reader_Number n a1 a2 := by kernel_rfl
theorem ref01_Reader_Number_pv (n : Nat) (r : ref01_Reader_Number_R) : PV cfg0 kd (ref01_Reader_Number_E n  ) r [] (bodyOf Try.f97) (retK cfg0 kd ref01_Reader_Number_kr (ref01_Reader_Number_E n  ) Try.f97.results.toList ref01_Reader_Number_ret) := by
  refine PV.sn (by kernel_rfl) ?_ ?_
  ·
    refine PV.sj (live := [0, 1]) (by kernel_rfl) ?_ ?_ ?_
    · intro T s h; change ref01_Reader_Number_J4q n  _ _ = some r at h; unfold ref01_Reader_Number_J4q at h; split at h
      · exact Eq.trans (by kernel_rfl) h
      · cases h
    ·
      refine PV.sn (by kernel_rfl) ?_ ?_
      ·
        refine PV.sn (by kernel_rfl) ?_ ?_
        ·
          refine PV.sn (by kernel_rfl) ?_ ?_
          ·
            exact PV.triv (by kernel_rfl)
          ·
            refine PV.sn (by kernel_rfl) ?_ ?_
            ·
              refine PV.bl ?_
              refine PV.lp (live := [0, 1, 6, 7]) (by kernel_rfl) ?_ ?_ ?_
              · intro T s h; change ref01_Reader_Number_L8q n 0 _ _ = some r at h; unfold ref01_Reader_Number_L8q at h; split at h
                · exact nomatch (show (none : Option ref01_Reader_Number_R) = some r from h)
                · cases h
              · intro m8 T s h; change ref01_Reader_Number_L8q n (m8 + 1) _ _ = some r at h; unfold ref01_Reader_Number_L8q at h; split at h
                · exact Eq.trans (by kernel_rfl) h
                · cases h
              · intro m8
                exact PV.triv (by kernel_rfl)
            ·
              exact PV.triv (by kernel_rfl)
        ·
          exact PV.triv (by kernel_rfl)
      ·
        exact PV.triv (by kernel_rfl)
    ·
      exact PV.triv (by kernel_rfl)
  ·
    exact PV.triv (by kernel_rfl)
noncomputable def ref01_Reader_Number_ct (n : Nat) (vs : List AV) (h : AH) : Option Ctr := match vs, h with
  | [.ptr 0 0, .i .i64 a1], [(0, (.cells ([.s a2]) 150 (0, 0)))] => some (.one ref01_Reader_Number_R (ref01_Reader_Number n   a1 a2) [0] 0 ref01_Reader_Number_out)
  | _, _ => none
theorem ref01_Reader_Number_ok (n : Nat) : COk1 cfg0 97 (ref01_Reader_Number_ct n) := by
  intro vs h c e
  unfold ref01_Reader_Number_ct at e
  split at e
  · rename_i a1 a2
    cases e
    exact fun r hm => sxF_ok (E := ref01_Reader_Number_E n  ) (nx1 := ref01_Reader_Number_nx) (ref01_Reader_Number_fn) rfl rfl rfl (callA_ok (ref01_Reader_Number_pre_ok n)) ref01_Reader_Number_ret_ok rfl (ref01_Reader_Number_pv n   _) ((ref01_Reader_Number_eq n   a1 a2).trans hm)
  · cases e
end
end Go.Ev
end
section
set_option linter.unusedVariables false
set_option linter.unusedSimpArgs false
set_option maxRecDepth 100000
set_option maxHeartbeats 400000
namespace Go.Ev
open Go.RowKit Go.Proofs
section
theorem ref01_Reader_Bytes_fn : cfg0.fn 98 = some Try.f98 := rfl
abbrev ref01_Reader_Bytes_R : Type := (List UInt8) × Int × (List UInt8)
@[reducible] def ref01_Reader_Bytes_rt (b0 : List UInt8) (b1 : Int) (b2 : List UInt8) : Option ref01_Reader_Bytes_R := some (b0, b1, b2)
noncomputable def ref01_Reader_Bytes_out : ref01_Reader_Bytes_R → AV × AH
  | (b0, b1, b2) => ((.tu [(.s b0), (.i .i64 b1)]), [(0, (.cells [(.s b2)] 150 (0, 0)))])
noncomputable def ref01_Reader_Bytes_nx : ref01_Reader_Bytes_R → Nat
  | _ => 1
noncomputable def ref01_Reader_Bytes_ret (v : AV) (h : AH) (nx : Nat) : Option ref01_Reader_Bytes_R := match v, h, nx with
  | (.tu [(.s b0), (.i .i64 b1)]), [(0, (.cells [(.s b2)] 150 (0, 0)))], 1 => some (b0, b1, b2)
  | _, _, _ => none
theorem ref01_Reader_Bytes_ret_ok (v : AV) (h : AH) (nx : Nat) (r : ref01_Reader_Bytes_R) (e : ref01_Reader_Bytes_ret v h nx = some r) : ref01_Reader_Bytes_out r = (v, h) ∧ nx = ref01_Reader_Bytes_nx r := by
  unfold ref01_Reader_Bytes_ret at e
  split at e
  · cases e; exact ⟨rfl, rfl⟩
  · cases e
noncomputable def ref01_Reader_Bytes_kr : KN := []
noncomputable def ref01_Reader_Bytes_pre (n : Nat) : CT := ctZ
theorem ref01_Reader_Bytes_pre_ok (n : Nat) : COk cfg0 (ref01_Reader_Bytes_pre n) := ctZ_ok
noncomputable def ref01_Reader_Bytes_E0 (n : Nat) (R : Type)   (jf lf : List Nat → Nat → AT → AS → Option R) : SE R := ⟨[], Try.f98.ntmps, 1, callA cfg0 kd [] (ref01_Reader_Bytes_pre n), n, [], [], [], [], jf, lf⟩
noncomputable def ref01_Reader_Bytes_F (n : Nat) (a1 : Int) (a2 : List UInt8)  : Option ref01_Reader_Bytes_R := bif decide (a1 < 0) then ref01_Reader_Bytes_rt [] 2 a2 else bif decide ((↑(List.length a2) : Int) < a1) then ref01_Reader_Bytes_rt [] 7 a2 else bif decide (0 ≤ a1) && decide (Int.toNat a1 ≤ List.length a2) then bif decide (0 ≤ a1) && decide (Int.toNat a1 ≤ List.length a2) then ref01_Reader_Bytes_rt (List.take (Int.toNat a1) a2) 0 (List.drop (Int.toNat a1) a2) else none else none
noncomputable def ref01_Reader_Bytes (n : Nat) (a1 : Int) (a2 : List UInt8) : Option ref01_Reader_Bytes_R := ref01_Reader_Bytes_F n a1 a2 
noncomputable def ref01_Reader_Bytes_jf (n : Nat) : List Nat → Nat → AT → AS → Option ref01_Reader_Bytes_R := fun ms key T s => none
noncomputable def ref01_Reader_Bytes_lf (n : Nat) : List Nat → Nat → AT → AS → Option ref01_Reader_Bytes_R := fun ms key T s => none
noncomputable def ref01_Reader_Bytes_E (n : Nat)   : SE ref01_Reader_Bytes_R := ref01_Reader_Bytes_E0 n ref01_Reader_Bytes_R   (ref01_Reader_Bytes_jf n) (ref01_Reader_Bytes_lf n)
theorem ref01_Reader_Bytes_eq (n : Nat) (a1 : Int) (a2 : List UInt8) : sxF cfg0 kd ref01_Reader_Bytes_kr (ref01_Reader_Bytes_E n  ) Try.f98 (bodyOf Try.f98) [(0, (.cells ([.s a2]) 150 (0, 0)))] [.ptr 0 0, .i .i64 a1] ref01_Reader_Bytes_ret = ref01_Reader_Bytes n a1 a2 := by kernel_rfl
theorem ref01_Reader_Bytes_pv (n : Nat) (r : ref01_Reader_Bytes_R) : PV cfg0 kd (ref01_Reader_Bytes_E n  ) r [] (bodyOf Try.f98) (retK cfg0 kd ref01_Reader_Bytes_kr (ref01_Reader_Bytes_E n  ) Try.f98.results.toList ref01_Reader_Bytes_ret) := by
  exact PV.triv (by kernel_rfl)
noncomputable def ref01_Reader_Bytes_ct (n : Nat) (vs : List AV) (h : AH) : Option Ctr := match vs, h with
  | [.ptr 0 0, .i .i64 a1], [(0, (.cells ([.s a2]) 150 (0, 0)))] => some (.one ref01_Reader_Bytes_R (ref01_Reader_Bytes n   a1 a2) [0] 0 ref01_Reader_Bytes_out)
  | _, _ => none
theorem ref01_Reader_Bytes_ok (n : Nat) : COk1 cfg0 98 (ref01_Reader_Bytes_ct n) := by
  intro vs h c e
  unfold ref01_Reader_Bytes_ct at e
  split at e
  · rename_i a1 a2
    cases e
    exact fun r hm => sxF_ok (E := ref01_Reader_Bytes_E n  ) (nx1 := ref01_Reader_Bytes_nx) (ref01_Reader_Bytes_fn) rfl rfl rfl (callA_ok (ref01_Reader_Bytes_pre_ok n)) ref01_Reader_Bytes_ret_ok rfl (ref01_Reader_Bytes_pv n   _) ((ref01_Reader_Bytes_eq n   a1 a2).trans hm)
  · cases e
end
end Go.Ev
end
section
set_option linter.unusedVariables false
set_option linter.unusedSimpArgs false
set_option maxRecDepth 100000
set_option maxHeartbeats 400000
namespace Go.Ev
open Go.RowKit Go.Proofs
section
theorem ref08_Of_fn : cfg0.fn 35 = some Try.f35 := rfl
abbrev ref08_Of_R : Type := Int × (List (Item))
@[reducible] def ref08_Of_rt (b0 : Int) (b1 : List (Item)) : Option ref08_Of_R := some (b0, b1)
noncomputable def ref08_Of_out : ref08_Of_R → AV × AH
  | (b0, b1) => ((.tu [(.sl 0 5), (.i .i64 b0)]), [(0, (.row .item 0 b1 35 (0, 0)))])
noncomputable def ref08_Of_nx : ref08_Of_R → Nat
  | _ => 1
noncomputable def ref08_Of_ret (v : AV) (h : AH) (nx : Nat) : Option ref08_Of_R := match v, h, nx with
  | (.tu [(.sl 0 5), (.i .i64 b0)]), [(0, (.row .item 0 b1 35 (0, 0)))], 1 => some (b0, b1)
  | _, _, _ => none
theorem ref08_Of_ret_ok (v : AV) (h : AH) (nx : Nat) (r : ref08_Of_R) (e : ref08_Of_ret v h nx = some r) : ref08_Of_out r = (v, h) ∧ nx = ref08_Of_nx r := by
  unfold ref08_Of_ret at e
  split at e
  · cases e; exact ⟨rfl, rfl⟩
  · cases e
noncomputable def ref08_Of_kr : KN := [((0, 1), (.item, 35))]
noncomputable def ref08_Of_pre (n : Nat) : CT := (ctA 34 (ref08_Page_ct n) (ctA 96 (ref01_New_ct n) (ctA 97 (ref01_Reader_Number_ct n) (ctA 98 (ref01_Reader_Bytes_ct n) ctZ))))
theorem ref08_Of_pre_ok (n : Nat) : COk cfg0 (ref08_Of_pre n) := (ctA_ok (ref08_Page_ok n) (ctA_ok (ref01_New_ok n) (ctA_ok (ref01_Reader_Number_ok n) (ctA_ok (ref01_Reader_Bytes_ok n) ctZ_ok))))
noncomputable def ref08_Of_E0 (n : Nat) (R : Type)   (jf lf : List Nat → Nat → AT → AS → Option R) : SE R := ⟨[], Try.f35.ntmps, 0, callA cfg0 kd [] (ref08_Of_pre n), n, [(5, ([1, 4, 5, 6], 0))], [(13, [1, 4, 5, 6, 13]), (18, [1, 4, 5, 6, 13, 14, 16])], [], [], jf, lf⟩
noncomputable def ref08_Of_J18F (n : Nat) (r5 : (Int → List (Item) → List UInt8 → Pg → Option ref08_Of_R))  (x0 : Int) (x1 : Nat) (x2 : Nat) (x3 : Item) (x4 : List (Item)) (x5 : List UInt8) (x6 : Pg) : Option ref08_Of_R := bif Nat.ble (List.length x4 + List.length [Item.mk x3.key x3.value x3.over (w64 (↑x1 : Int)) (x2 % 4294967296)]) 100000000 then r5 (w64 (x0 + 1)) (x4 ++ [Item.mk x3.key x3.value x3.over (w64 (↑x1 : Int)) (x2 % 4294967296)]) x5 x6 else none
noncomputable def ref08_Of_J18 (n : Nat) (r5 : (Int → List (Item) → List UInt8 → Pg → Option ref08_Of_R)) (x0 : Int) (x1 : Nat) (x2 : Nat) (x3 : Item) (x4 : List (Item)) (x5 : List UInt8) (x6 : Pg) : Option ref08_Of_R := ref08_Of_J18F n r5  x0 x1 x2 x3 x4 x5 x6
noncomputable def ref08_Of_J13F (n : Nat) (r5 : (Int → List (Item) → List UInt8 → Pg → Option ref08_Of_R)) (j18 : (Int → Nat → Nat → Item → List (Item) → List UInt8 → Pg → Option ref08_Of_R)) (x0 : Int) (x1 : Item) (x2 : List (Item)) (x3 : List UInt8) (x4 : Pg) : Option ref08_Of_R := bif x1.over then Option.bind (ref01_Reader_Number n 4 x3) fun z => Option.bind (ref01_Reader_Number n 4 z.2.2) fun z_1 => bif decide (z.2.fst ≠ 0) then ref08_Of_rt 4 [] else bif decide (z_1.2.fst ≠ 0) then ref08_Of_rt 4 [] else bif decide ((4096 : Nat) < z.fst) then ref08_Of_rt 4 [] else j18 x0 z.fst z_1.fst x1 x2 z_1.2.2 x4 else Option.bind (ref01_Reader_Number n 1 x3) fun z => Option.bind (ref01_Reader_Bytes n (w64 (↑z.fst : Int)) z.2.2) fun z_1 => bif decide (z.2.fst ≠ 0) then ref08_Of_rt 4 [] else bif decide (z_1.2.fst ≠ 0) then ref08_Of_rt 4 [] else bif Nat.ble (List.length x2 + List.length [Item.mk x1.key z_1.fst x1.over x1.len x1.head]) 100000000 then r5 (w64 (x0 + 1)) (x2 ++ [Item.mk x1.key z_1.fst x1.over x1.len x1.head]) z_1.2.2 x4 else none
noncomputable def ref08_Of_J13 (n : Nat) (r5 : (Int → List (Item) → List UInt8 → Pg → Option ref08_Of_R)) (x0 : Int) (x1 : Item) (x2 : List (Item)) (x3 : List UInt8) (x4 : Pg) : Option ref08_Of_R := ref08_Of_J13F n r5 (ref08_Of_J18 n r5) x0 x1 x2 x3 x4
noncomputable def ref08_Of_L5F (n : Nat) (r5 : (Int → List (Item) → List UInt8 → Pg → Option ref08_Of_R)) (j13 : (Int → Item → List (Item) → List UInt8 → Pg → Option ref08_Of_R)) (x0 : Int) (x1 : List (Item)) (x2 : List UInt8) (x3 : Pg) : Option ref08_Of_R := bif decide (x0 < x3.count) then Option.bind (ref01_Reader_Number n 1 x2) fun z => Option.bind (ref01_Reader_Number n 1 z.2.2) fun z_1 => Option.bind (ref01_Reader_Bytes n (w64 (↑z_1.fst : Int)) z_1.2.2) fun z_2 => bif decide (z.2.fst ≠ 0) then ref08_Of_rt 4 [] else bif decide (z_1.2.fst ≠ 0) then ref08_Of_rt 4 [] else bif decide (z_2.2.fst ≠ 0) then ref08_Of_rt 4 [] else bif decide ((1 : Nat) < z.fst) then ref08_Of_rt 4 [] else j13 x0 (Item.mk z_2.fst [] (decide (z.fst = (1 : Nat))) 0 ((0 : Nat))) x1 z_2.2.2 x3 else Option.bind (ref08_Page n x1 (w64 ((↑(List.length x3.body) : Int) + 24)) x3.page x3.tx) fun z => bif decide (z.snd ≠ 0) then ref08_Of_rt 4 [] else bif !(decide (z.fst.kind = x3.kind) && (decide (z.fst.count = x3.count) && (decide (z.fst.page = x3.page) && (decide (z.fst.link = x3.link) && (decide (z.fst.tx = x3.tx) && (decide (z.fst.body = x3.body) && true)))))) then ref08_Of_rt 4 [] else ref08_Of_rt 0 x1
noncomputable def ref08_Of_L5 (n : Nat)  : Nat → Int → List (Item) → List UInt8 → Pg → Option ref08_Of_R
  | 0, _, _, _, _ => none
  | m + 1, x0, x1, x2, x3 => ref08_Of_L5F n  (ref08_Of_L5 n  m) (ref08_Of_J13 n (ref08_Of_L5 n  m)) x0 x1 x2 x3
noncomputable def ref08_Of_F (n : Nat) (a1 : Pg) (l5 : (Int → List (Item) → List UInt8 → Pg → Option ref08_Of_R)) : Option ref08_Of_R := l5 0 [] a1.body a1
noncomputable def ref08_Of (n : Nat) (a1 : Pg) : Option ref08_Of_R := ref08_Of_F n a1 (ref08_Of_L5 n n)
noncomputable def ref08_Of_J18q (n : Nat) (m5 : Nat) (T : AT) (s : AS) : Option ref08_Of_R := match T, s with
  | [(1, (.ptr 0 0)), (4, (.ptr 1 0)), (5, (.sl 2 5)), (6, (.i .i64 x0)), (13, (.ptr 3 0)), (14, (.n .u64 x1)), (16, (.n .u64 x2))], ⟨[(3, (.cells [.s x3_0, .s x3_1, .b x3_2, .i .i64 x3_3, .n .u32 x3_4] 35 (0, 0))), (2, (.row .item 0 x4 35 (0, 0))), (1, (.cells [(.s x5)] 150 (0, 0))), (0, (.cells [.i .i64 x6_0, .i .i64 x6_1, .n .u32 x6_2, .n .u32 x6_3, .n .u64 x6_4, .s x6_5] 27 (0, 0)))], 4, []⟩ => ref08_Of_J18 n (ref08_Of_L5 n  m5) x0 x1 x2 ⟨x3_0, x3_1, x3_2, x3_3, x3_4⟩ x4 x5 ⟨x6_0, x6_1, x6_2, x6_3, x6_4, x6_5⟩
  | _, _ => none
noncomputable def ref08_Of_J13q (n : Nat) (m5 : Nat) (T : AT) (s : AS) : Option ref08_Of_R := match T, s with
  | [(1, (.ptr 0 0)), (4, (.ptr 1 0)), (5, (.sl 2 5)), (6, (.i .i64 x0)), (13, (.ptr 3 0))], ⟨[(3, (.cells [.s x1_0, .s x1_1, .b x1_2, .i .i64 x1_3, .n .u32 x1_4] 35 (0, 0))), (2, (.row .item 0 x2 35 (0, 0))), (1, (.cells [(.s x3)] 150 (0, 0))), (0, (.cells [.i .i64 x4_0, .i .i64 x4_1, .n .u32 x4_2, .n .u32 x4_3, .n .u64 x4_4, .s x4_5] 27 (0, 0)))], 4, []⟩ => ref08_Of_J13 n (ref08_Of_L5 n  m5) x0 ⟨x1_0, x1_1, x1_2, x1_3, x1_4⟩ x2 x3 ⟨x4_0, x4_1, x4_2, x4_3, x4_4, x4_5⟩
  | _, _ => none
noncomputable def ref08_Of_L5q (n : Nat) (m5 : Nat) (T : AT) (s : AS) : Option ref08_Of_R := match T, s with
  | [(1, (.ptr 0 0)), (4, (.ptr 1 0)), (5, (.sl 2 5)), (6, (.i .i64 x0))], ⟨[(2, (.row .item 0 x1 35 (0, 0))), (1, (.cells [(.s x2)] 150 (0, 0))), (0, (.cells [.i .i64 x3_0, .i .i64 x3_1, .n .u32 x3_2, .n .u32 x3_3, .n .u64 x3_4, .s x3_5] 27 (0, 0)))], 3, []⟩ => ref08_Of_L5 n  m5 x0 x1 x2 ⟨x3_0, x3_1, x3_2, x3_3, x3_4, x3_5⟩
  | _, _ => none
noncomputable def ref08_Of_jf (n : Nat) : List Nat → Nat → AT → AS → Option ref08_Of_R := fun ms key T s => cond (Nat.beq key 18) (match ms with | [m5] => ref08_Of_J18q n m5 T s | _ => none) (cond (Nat.beq key 13) (match ms with | [m5] => ref08_Of_J13q n m5 T s | _ => none) (none))
noncomputable def ref08_Of_lf (n : Nat) : List Nat → Nat → AT → AS → Option ref08_Of_R := fun ms key T s => cond (Nat.beq key 5) (match ms with | [m5] => ref08_Of_L5q n m5 T s | _ => none) (none)
noncomputable def ref08_Of_E (n : Nat)   : SE ref08_Of_R := ref08_Of_E0 n ref08_Of_R   (ref08_Of_jf n) (ref08_Of_lf n)
theorem ref08_Of_eq (n : Nat) (a1 : Pg) : sxF cfg0 kd ref08_Of_kr (ref08_Of_E n  ) Try.f35 (bodyOf Try.f35) [] [.ag (RK.k .page a1)] ref08_Of_ret = ref08_Of n a1 := by kernel_rfl
theorem ref08_Of_pv (n : Nat) (r : ref08_Of_R) : PV cfg0 kd (ref08_Of_E n  ) r [] (bodyOf Try.f35) (retK cfg0 kd ref08_Of_kr (ref08_Of_E n  ) Try.f35.results.toList ref08_Of_ret) := by
  refine PV.sn (by kernel_rfl) ?_ ?_
  ·
    refine PV.sn (by kernel_rfl) ?_ ?_
    ·
      refine PV.sn (by kernel_rfl) ?_ ?_
      ·
        refine PV.sn (by kernel_rfl) ?_ ?_
        ·
          exact PV.triv (by kernel_rfl)
        ·
          refine PV.sn (by kernel_rfl) ?_ ?_
          ·
            refine PV.bl ?_
            refine PV.lp (live := [1, 4, 5, 6]) (by kernel_rfl) ?_ ?_ ?_
            · intro T s h; change ref08_Of_L5q n 0 _ _ = some r at h; unfold ref08_Of_L5q at h; split at h
              · exact nomatch (show (none : Option ref08_Of_R) = some r from h)
              · cases h
            · intro m5 T s h; change ref08_Of_L5q n (m5 + 1) _ _ = some r at h; unfold ref08_Of_L5q at h; split at h
              · exact Eq.trans (by kernel_rfl) h
              · cases h
            · intro m5
              refine PV.sn (by kernel_rfl) ?_ ?_
              ·
                refine PV.sn (by kernel_rfl) ?_ ?_
                ·
                  exact PV.triv (by kernel_rfl)
                ·
                  refine PV.bl ?_
                  refine PV.sn (by kernel_rfl) ?_ ?_
                  ·
                    refine PV.sn (by kernel_rfl) ?_ ?_
                    ·
                      refine PV.sn (by kernel_rfl) ?_ ?_
                      ·
                        refine PV.sn (by kernel_rfl) ?_ ?_
                        ·
                          refine PV.sj (live := [1, 4, 5, 6, 13]) (by kernel_rfl) ?_ ?_ ?_
                          · intro T s h; change ref08_Of_J13q n m5 _ _ = some r at h; unfold ref08_Of_J13q at h; split at h
                            · exact Eq.trans (by kernel_rfl) h
                            · cases h
                          ·
                            refine PV.sn (by kernel_rfl) ?_ ?_
                            ·
                              exact PV.triv (by kernel_rfl)
                            ·
                              refine PV.sn (by kernel_rfl) ?_ ?_
                              ·
                                refine PV.cn ?_ ?_
                                ·
                                  refine PV.sn (by kernel_rfl) ?_ ?_
                                  ·
                                    refine PV.sn (by kernel_rfl) ?_ ?_
                                    ·
                                      refine PV.sj (live := [1, 4, 5, 6, 13, 14, 16]) (by kernel_rfl) ?_ ?_ ?_
                                      · intro T s h; change ref08_Of_J18q n m5 _ _ = some r at h; unfold ref08_Of_J18q at h; split at h
                                        · exact Eq.trans (by kernel_rfl) h
                                        · cases h
                                      ·
                                        exact PV.triv (by kernel_rfl)
                                      ·
                                        exact PV.triv (by kernel_rfl)
                                    ·
                                      exact PV.triv (by kernel_rfl)
                                  ·
                                    exact PV.triv (by kernel_rfl)
                                ·
                                  exact PV.triv (by kernel_rfl)
                              ·
                                exact PV.triv (by kernel_rfl)
                          ·
                            exact PV.triv (by kernel_rfl)
                        ·
                          exact PV.triv (by kernel_rfl)
                      ·
                        exact PV.triv (by kernel_rfl)
                    ·
                      exact PV.triv (by kernel_rfl)
                  ·
                    exact PV.triv (by kernel_rfl)
              ·
                exact PV.triv (by kernel_rfl)
          ·
            exact PV.triv (by kernel_rfl)
      ·
        exact PV.triv (by kernel_rfl)
    ·
      exact PV.triv (by kernel_rfl)
  ·
    exact PV.triv (by kernel_rfl)
noncomputable def ref08_Of_ct (n : Nat) (vs : List AV) (h : AH) : Option Ctr := match vs, h with
  | [.ag [.i .i64 a1_0, .i .i64 a1_1, .n .u32 a1_2, .n .u32 a1_3, .n .u64 a1_4, .s a1_5]], [] => some (.one ref08_Of_R (ref08_Of n   ⟨a1_0, a1_1, a1_2, a1_3, a1_4, a1_5⟩) [] 1 ref08_Of_out)
  | _, _ => none
theorem ref08_Of_ok (n : Nat) : COk1 cfg0 35 (ref08_Of_ct n) := by
  intro vs h c e
  unfold ref08_Of_ct at e
  split at e
  · rename_i a1_0 a1_1 a1_2 a1_3 a1_4 a1_5
    cases e
    exact fun r hm => sxF_ok (E := ref08_Of_E n  ) (nx1 := ref08_Of_nx) (ref08_Of_fn) rfl rfl rfl (callA_ok (ref08_Of_pre_ok n)) ref08_Of_ret_ok rfl (ref08_Of_pv n   _) ((ref08_Of_eq n   ⟨a1_0, a1_1, a1_2, a1_3, a1_4, a1_5⟩).trans hm)
  · cases e
end
end Go.Ev
end
section
set_option linter.unusedVariables false
set_option linter.unusedSimpArgs false
set_option maxRecDepth 100000
set_option maxHeartbeats 400000
namespace Go.Ev
open Go.RowKit Go.Proofs
section
theorem ref08_Find_fn : cfg0.fn 36 = some Try.f36 := rfl
abbrev ref08_Find_R : Type := Int × Bool
@[reducible] def ref08_Find_rt (b0 : Int) (b1 : Bool) : Option ref08_Find_R := some (b0, b1)
noncomputable def ref08_Find_out : ref08_Find_R → AV × AH
  | (b0, b1) => ((.tu [(.i .i64 b0), (.b b1)]), [])
noncomputable def ref08_Find_nx : ref08_Find_R → Nat
  | _ => 1
noncomputable def ref08_Find_ret (v : AV) (h : AH) (nx : Nat) : Option ref08_Find_R := match v, h, nx with
  | (.tu [(.i .i64 b0), (.b b1)]), [], 1 => some (b0, b1)
  | _, _, _ => none
theorem ref08_Find_ret_ok (v : AV) (h : AH) (nx : Nat) (r : ref08_Find_R) (e : ref08_Find_ret v h nx = some r) : ref08_Find_out r = (v, h) ∧ nx = ref08_Find_nx r := by
  unfold ref08_Find_ret at e
  split at e
  · cases e; exact ⟨rfl, rfl⟩
  · cases e
noncomputable def ref08_Find_kr : KN := []
noncomputable def ref08_Find_pre (n : Nat) : CT := ctZ
theorem ref08_Find_pre_ok (n : Nat) : COk cfg0 (ref08_Find_pre n) := ctZ_ok
noncomputable def ref08_Find_E0 (n : Nat) (R : Type) (o1 : Nat) (f1 : Nat × Nat) (a1 : List Item) (jf lf : List Nat → Nat → AT → AS → Option R) : SE R := ⟨[(0, (.row .item o1 a1 35 f1))], Try.f36.ntmps, 1, callA cfg0 kd [(0, (.row .item o1 a1 35 f1))] (ref08_Find_pre n), n, [(3, ([0, 1, 6], 0))], [(5, [0, 1, 6])], [], [], jf, lf⟩
noncomputable def ref08_Find_J5F (n : Nat) (a1 : List Item)   (x0 : List UInt8) (x1 : Int) : Option ref08_Find_R := bif decide (x1 < (↑(List.length a1) : Int)) then bif decide (0 ≤ x1) && decide (Int.toNat x1 < List.length a1) then Option.bind a1[Int.toNat x1]? fun z => ref08_Find_rt x1 (decide (z.key = x0)) else none else ref08_Find_rt x1 false
noncomputable def ref08_Find_J5 (n : Nat) (a1 : List Item)  (x0 : List UInt8) (x1 : Int) : Option ref08_Find_R := ref08_Find_J5F n a1   x0 x1
noncomputable def ref08_Find_L3F (n : Nat) (a1 : List Item) (r3 : (List UInt8 → Int → Option ref08_Find_R)) (j5 : (List UInt8 → Int → Option ref08_Find_R)) (x0 : List UInt8) (x1 : Int) : Option ref08_Find_R := bif decide (x1 < (↑(List.length a1) : Int)) then bif decide (0 ≤ x1) && decide (Int.toNat x1 < List.length a1) then Option.bind a1[Int.toNat x1]? fun z => bif sLt z.key x0 then r3 x0 (w64 (x1 + 1)) else j5 x0 x1 else none else j5 x0 x1
noncomputable def ref08_Find_L3 (n : Nat) (a1 : List Item)  : Nat → List UInt8 → Int → Option ref08_Find_R
  | 0, _, _ => none
  | m + 1, x0, x1 => ref08_Find_L3F n a1  (ref08_Find_L3 n a1  m) (ref08_Find_J5 n a1 ) x0 x1
noncomputable def ref08_Find_F (n : Nat) (a1 : List Item) (a2 : List UInt8) (l3 : (List UInt8 → Int → Option ref08_Find_R)) : Option ref08_Find_R := l3 a2 0
noncomputable def ref08_Find (n : Nat) (a1 : List Item) (a2 : List UInt8) : Option ref08_Find_R := ref08_Find_F n a1 a2 (ref08_Find_L3 n a1 n)
noncomputable def ref08_Find_J5q (n : Nat) (a1 : List Item)  (T : AT) (s : AS) : Option ref08_Find_R := match T, s with
  | [(0, (.sl 0 5)), (1, (.s x0)), (6, (.i .i64 x1))], ⟨[], 1, []⟩ => ref08_Find_J5 n a1  x0 x1
  | _, _ => none
noncomputable def ref08_Find_L3q (n : Nat) (a1 : List Item) (m3 : Nat) (T : AT) (s : AS) : Option ref08_Find_R := match T, s with
  | [(0, (.sl 0 5)), (1, (.s x0)), (6, (.i .i64 x1))], ⟨[], 1, []⟩ => ref08_Find_L3 n a1  m3 x0 x1
  | _, _ => none
noncomputable def ref08_Find_jf (n : Nat) (a1 : List Item) : List Nat → Nat → AT → AS → Option ref08_Find_R := fun ms key T s => cond (Nat.beq key 5) (match ms with | [] => ref08_Find_J5q n a1  T s | _ => none) (none)
noncomputable def ref08_Find_lf (n : Nat) (a1 : List Item) : List Nat → Nat → AT → AS → Option ref08_Find_R := fun ms key T s => cond (Nat.beq key 3) (match ms with | [m3] => ref08_Find_L3q n a1 m3 T s | _ => none) (none)
noncomputable def ref08_Find_E (n : Nat) (o1 : Nat) (f1 : Nat × Nat) (a1 : List Item) : SE ref08_Find_R := ref08_Find_E0 n ref08_Find_R o1 f1 a1 (ref08_Find_jf n a1) (ref08_Find_lf n a1)
theorem ref08_Find_eq (n : Nat) (o1 : Nat) (f1 : Nat × Nat) (a1 : List Item) (a2 : List UInt8) : sxF cfg0 kd ref08_Find_kr (ref08_Find_E n o1 f1 a1) Try.f36 (bodyOf Try.f36) [] [.sl 0 5, .s a2] ref08_Find_ret = ref08_Find n a1 a2 := by kernel_rfl
theorem ref08_Find_pv (n : Nat) (o1 : Nat) (f1 : Nat × Nat) (a1 : List Item) (r : ref08_Find_R) : PV cfg0 kd (ref08_Find_E n o1 f1 a1) r [] (bodyOf Try.f36) (retK cfg0 kd ref08_Find_kr (ref08_Find_E n o1 f1 a1) Try.f36.results.toList ref08_Find_ret) := by
  refine PV.sn (by kernel_rfl) ?_ ?_
  ·
    refine PV.sn (by kernel_rfl) ?_ ?_
    ·
      refine PV.sj (live := [0, 1, 6]) (by kernel_rfl) ?_ ?_ ?_
      · intro T s h; change ref08_Find_J5q n a1  _ _ = some r at h; unfold ref08_Find_J5q at h; split at h
        · exact Eq.trans (by kernel_rfl) h
        · cases h
      ·
        exact PV.triv (by kernel_rfl)
      ·
        refine PV.bl ?_
        refine PV.lp (live := [0, 1, 6]) (by kernel_rfl) ?_ ?_ ?_
        · intro T s h; change ref08_Find_L3q n a1 0 _ _ = some r at h; unfold ref08_Find_L3q at h; split at h
          · exact nomatch (show (none : Option ref08_Find_R) = some r from h)
          · cases h
        · intro m3 T s h; change ref08_Find_L3q n a1 (m3 + 1) _ _ = some r at h; unfold ref08_Find_L3q at h; split at h
          · exact Eq.trans (by kernel_rfl) h
          · cases h
        · intro m3
          exact PV.triv (by kernel_rfl)
    ·
      exact PV.triv (by kernel_rfl)
  ·
    exact PV.triv (by kernel_rfl)
noncomputable def ref08_Find_ct (n : Nat) (vs : List AV) (h : AH) : Option Ctr := match vs, h with
  | [.sl 0 5, .s a2], [(0, (.row .item o1 a1 35 f1))] => some (.one ref08_Find_R (ref08_Find n  a1 a2) [] 0 ref08_Find_out)
  | _, _ => none
theorem ref08_Find_ok (n : Nat) : COk1 cfg0 36 (ref08_Find_ct n) := by
  intro vs h c e
  unfold ref08_Find_ct at e
  split at e
  · rename_i a2 o1 a1 f1
    cases e
    exact fun r hm => sxF_ok (E := ref08_Find_E n o1 f1 a1) (nx1 := ref08_Find_nx) (ref08_Find_fn) rfl rfl rfl (callA_ok (ref08_Find_pre_ok n)) ref08_Find_ret_ok rfl (ref08_Find_pv n o1 f1 a1 _) ((ref08_Find_eq n o1 f1 a1 a2).trans hm)
  · cases e
end
end Go.Ev
end
section
set_option linter.unusedVariables false
set_option linter.unusedSimpArgs false
set_option maxRecDepth 100000
set_option maxHeartbeats 400000
namespace Go.Ev
open Go.RowKit Go.Proofs
section
theorem ref08_In_fn : cfg0.fn 38 = some Try.f38 := rfl
abbrev ref08_In_R : Type := Bool
@[reducible] def ref08_In_rt (b0 : Bool) : Option ref08_In_R := some b0
noncomputable def ref08_In_out : ref08_In_R → AV × AH
  | b0 => ((.b b0), [])
noncomputable def ref08_In_nx : ref08_In_R → Nat
  | _ => 0
noncomputable def ref08_In_ret (v : AV) (h : AH) (nx : Nat) : Option ref08_In_R := match v, h, nx with
  | (.b b0), [], 0 => some b0
  | _, _, _ => none
theorem ref08_In_ret_ok (v : AV) (h : AH) (nx : Nat) (r : ref08_In_R) (e : ref08_In_ret v h nx = some r) : ref08_In_out r = (v, h) ∧ nx = ref08_In_nx r := by
  unfold ref08_In_ret at e
  split at e
  · cases e; exact ⟨rfl, rfl⟩
  · cases e
noncomputable def ref08_In_kr : KN := []
noncomputable def ref08_In_pre (n : Nat) : CT := ctZ
theorem ref08_In_pre_ok (n : Nat) : COk cfg0 (ref08_In_pre n) := ctZ_ok
noncomputable def ref08_In_E0 (n : Nat) (R : Type)   (jf lf : List Nat → Nat → AT → AS → Option R) : SE R := ⟨[], Try.f38.ntmps, 0, callA cfg0 kd [] (ref08_In_pre n), n, [], [], [], [], jf, lf⟩
noncomputable def ref08_In_F (n : Nat) (a1 : Int) (a2 : Int)  : Option ref08_In_R := bif decide (0 ≤ a2) then ref08_In_rt (decide (a2 ≤ if 255 < w64 (Int.tdiv a1 8) then 255 else w64 (Int.tdiv a1 8))) else ref08_In_rt false
noncomputable def ref08_In (n : Nat) (a1 : Int) (a2 : Int) : Option ref08_In_R := ref08_In_F n a1 a2 
noncomputable def ref08_In_jf (n : Nat) : List Nat → Nat → AT → AS → Option ref08_In_R := fun ms key T s => none
noncomputable def ref08_In_lf (n : Nat) : List Nat → Nat → AT → AS → Option ref08_In_R := fun ms key T s => none
noncomputable def ref08_In_E (n : Nat)   : SE ref08_In_R := ref08_In_E0 n ref08_In_R   (ref08_In_jf n) (ref08_In_lf n)
theorem ref08_In_eq (n : Nat) (a1 : Int) (a2 : Int) : sxF cfg0 kd ref08_In_kr (ref08_In_E n  ) Try.f38 (bodyOf Try.f38) [] [.i .i64 a1, .i .i64 a2] ref08_In_ret = ref08_In n a1 a2 := by kernel_rfl
theorem ref08_In_pv (n : Nat) (r : ref08_In_R) : PV cfg0 kd (ref08_In_E n  ) r [] (bodyOf Try.f38) (retK cfg0 kd ref08_In_kr (ref08_In_E n  ) Try.f38.results.toList ref08_In_ret) := by
  exact PV.triv (by kernel_rfl)
noncomputable def ref08_In_ct (n : Nat) (vs : List AV) (h : AH) : Option Ctr := match vs, h with
  | [.i .i64 a1, .i .i64 a2], [] => some (.one ref08_In_R (ref08_In n   a1 a2) [] 0 ref08_In_out)
  | _, _ => none
theorem ref08_In_ok (n : Nat) : COk1 cfg0 38 (ref08_In_ct n) := by
  intro vs h c e
  unfold ref08_In_ct at e
  split at e
  · rename_i a1 a2
    cases e
    exact fun r hm => sxF_ok (E := ref08_In_E n  ) (nx1 := ref08_In_nx) (ref08_In_fn) rfl rfl rfl (callA_ok (ref08_In_pre_ok n)) ref08_In_ret_ok rfl (ref08_In_pv n   _) ((ref08_In_eq n   a1 a2).trans hm)
  · cases e
end
end Go.Ev
end
section
set_option linter.unusedVariables false
set_option linter.unusedSimpArgs false
set_option maxRecDepth 100000
set_option maxHeartbeats 400000
namespace Go.Ev
open Go.RowKit Go.Proofs
section
theorem law08_LeafCalls_fn : cfg0.fn 8 = some Try.f8 := rfl
abbrev law08_LeafCalls_R : Type := Bool
@[reducible] def law08_LeafCalls_rt (b0 : Bool) : Option law08_LeafCalls_R := some b0
noncomputable def law08_LeafCalls_out : law08_LeafCalls_R → AV × AH
  | b0 => ((.b b0), [])
noncomputable def law08_LeafCalls_nx : law08_LeafCalls_R → Nat
  | _ => 1
noncomputable def law08_LeafCalls_ret (v : AV) (h : AH) (nx : Nat) : Option law08_LeafCalls_R := match v, h, nx with
  | (.b b0), [], 1 => some b0
  | _, _, _ => none
theorem law08_LeafCalls_ret_ok (v : AV) (h : AH) (nx : Nat) (r : law08_LeafCalls_R) (e : law08_LeafCalls_ret v h nx = some r) : law08_LeafCalls_out r = (v, h) ∧ nx = law08_LeafCalls_nx r := by
  unfold law08_LeafCalls_ret at e
  split at e
  · cases e; exact ⟨rfl, rfl⟩
  · cases e
noncomputable def law08_LeafCalls_kr : KN := []
noncomputable def law08_LeafCalls_pre (n : Nat) : CT := (ctA 14 (law08_lives_ct n) (ctA 15 (leaf_Page_ct n) (ctA 16 (law08_light_ct n) (ctA 17 (leaf_Find_ct n) (ctA 18 (leaf_Of_ct n) (ctA 19 (kit_Same_api_Item_ct n) (ctA 20 (leaf_Size_ct n) (ctA 33 (leaf_In_ct n) (ctA 34 (ref08_Page_ct n) (ctA 35 (ref08_Of_ct n) (ctA 36 (ref08_Find_ct n) (ctA 37 (ref08_Size_ct n) (ctA 38 (ref08_In_ct n) ctZ)))))))))))))
theorem law08_LeafCalls_pre_ok (n : Nat) : COk cfg0 (law08_LeafCalls_pre n) := (ctA_ok (law08_lives_ok n) (ctA_ok (leaf_Page_ok n) (ctA_ok (law08_light_ok n) (ctA_ok (leaf_Find_ok n) (ctA_ok (leaf_Of_ok n) (ctA_ok (kit_Same_api_Item_ok n) (ctA_ok (leaf_Size_ok n) (ctA_ok (leaf_In_ok n) (ctA_ok (ref08_Page_ok n) (ctA_ok (ref08_Of_ok n) (ctA_ok (ref08_Find_ok n) (ctA_ok (ref08_Size_ok n) (ctA_ok (ref08_In_ok n) ctZ_ok)))))))))))))
noncomputable def law08_LeafCalls_E0 (n : Nat) (R : Type) (o1 : Nat) (f1 : Nat × Nat) (a4 : List Item) (jf lf : List Nat → Nat → AT → AS → Option R) : SE R := ⟨[(0, (.row .item o1 a4 35 f1))], Try.f8.ntmps, 1, callA cfg0 kd [(0, (.row .item o1 a4 35 f1))] (law08_LeafCalls_pre n), n, [], [(6, [0, 1, 2, 3, 5, 6, 11])], [], [], jf, lf⟩
noncomputable def law08_LeafCalls_J6F (n : Nat) (a4 : List Item)   (x0 : Int) (x1 : Nat) (x2 : Nat) (x3 : List UInt8) (x4 : Int) (x5 : Pg) : Option law08_LeafCalls_R := Option.bind (leaf_Page n a4 x0 x1 x2) fun z => Option.bind (ref08_Page n a4 x0 x1 x2) fun z_1 => Option.bind (leaf_Of n (Pg.mk x5.kind x5.count x5.page x5.link x5.tx x5.body)) fun z_2 => Option.bind (ref08_Of n (Pg.mk x5.kind x5.count x5.page x5.link x5.tx x5.body)) fun z_3 => Option.bind (leaf_Find n a4 x3) fun z_4 => Option.bind (ref08_Find n a4 x3) fun z_5 => bif decide (z.fst.kind = z_1.fst.kind) && (decide (z.fst.count = z_1.fst.count) && (decide (z.fst.page = z_1.fst.page) && (decide (z.fst.link = z_1.fst.link) && (decide (z.fst.tx = z_1.fst.tx) && (decide (z.fst.body = z_1.fst.body) && true))))) then bif decide (z.snd = z_1.snd) then Option.bind (kit_Same_api_Item n z_2.2 z_3.2) fun z_6 => bif z_6 then bif decide (z_2.fst = z_3.fst) then bif decide (z_4.fst = z_5.fst) then bif z_4.snd == z_5.snd then Option.bind (leaf_Size n a4) fun z_7 => Option.bind (ref08_Size n a4) fun z_8 => bif decide (z_7 = z_8) then bif decide (x0 < 0) then law08_LeafCalls_rt true else Option.bind (leaf_In n x0 x4) fun z_9 => Option.bind (ref08_In n x0 x4) fun z_10 => law08_LeafCalls_rt (z_9 == z_10) else law08_LeafCalls_rt false else law08_LeafCalls_rt false else law08_LeafCalls_rt false else law08_LeafCalls_rt false else law08_LeafCalls_rt false else law08_LeafCalls_rt false else law08_LeafCalls_rt false
noncomputable def law08_LeafCalls_J6 (n : Nat) (a4 : List Item)  (x0 : Int) (x1 : Nat) (x2 : Nat) (x3 : List UInt8) (x4 : Int) (x5 : Pg) : Option law08_LeafCalls_R := law08_LeafCalls_J6F n a4   x0 x1 x2 x3 x4 x5
noncomputable def law08_LeafCalls_F (n : Nat) (a4 : List Item) (a1 : Int) (a2 : Nat) (a3 : Nat) (a5 : Pg) (a6 : List UInt8) (a7 : Int) (j6 : (Int → Nat → Nat → List UInt8 → Int → Pg → Option law08_LeafCalls_R)) : Option law08_LeafCalls_R := Option.bind (law08_lives n) fun z => bif !z then law08_LeafCalls_rt false else Option.bind (law08_light n a4) fun z_1 => bif !z_1 then law08_LeafCalls_rt true else bif decide (4200 < (↑(List.length a5.body) : Int)) then law08_LeafCalls_rt true else bif decide (200 < (↑(List.length a6) : Int)) then law08_LeafCalls_rt true else j6 a1 a2 a3 a6 a7 a5
noncomputable def law08_LeafCalls (n : Nat) (a4 : List Item) (a1 : Int) (a2 : Nat) (a3 : Nat) (a5 : Pg) (a6 : List UInt8) (a7 : Int) : Option law08_LeafCalls_R := law08_LeafCalls_F n a4 a1 a2 a3 a5 a6 a7 (law08_LeafCalls_J6 n a4)
noncomputable def law08_LeafCalls_J6q (n : Nat) (a4 : List Item)  (T : AT) (s : AS) : Option law08_LeafCalls_R := match T, s with
  | [(0, (.i .i64 x0)), (1, (.n .u32 x1)), (2, (.n .u64 x2)), (3, (.sl 0 5)), (5, (.s x3)), (6, (.i .i64 x4)), (11, (.ptr 1 0))], ⟨[(1, (.cells [.i .i64 x5_0, .i .i64 x5_1, .n .u32 x5_2, .n .u32 x5_3, .n .u64 x5_4, .s x5_5] 27 (0, 0)))], 2, []⟩ => law08_LeafCalls_J6 n a4  x0 x1 x2 x3 x4 ⟨x5_0, x5_1, x5_2, x5_3, x5_4, x5_5⟩
  | _, _ => none
noncomputable def law08_LeafCalls_jf (n : Nat) (a4 : List Item) : List Nat → Nat → AT → AS → Option law08_LeafCalls_R := fun ms key T s => cond (Nat.beq key 6) (match ms with | [] => law08_LeafCalls_J6q n a4  T s | _ => none) (none)
noncomputable def law08_LeafCalls_lf (n : Nat) (a4 : List Item) : List Nat → Nat → AT → AS → Option law08_LeafCalls_R := fun ms key T s => none
noncomputable def law08_LeafCalls_E (n : Nat) (o1 : Nat) (f1 : Nat × Nat) (a4 : List Item) : SE law08_LeafCalls_R := law08_LeafCalls_E0 n law08_LeafCalls_R o1 f1 a4 (law08_LeafCalls_jf n a4) (law08_LeafCalls_lf n a4)
theorem law08_LeafCalls_eq (n : Nat) (o1 : Nat) (f1 : Nat × Nat) (a4 : List Item) (a1 : Int) (a2 : Nat) (a3 : Nat) (a5 : Pg) (a6 : List UInt8) (a7 : Int) : sxF cfg0 kd law08_LeafCalls_kr (law08_LeafCalls_E n o1 f1 a4) Try.f8 (bodyOf Try.f8) [] [.i .i64 a1, .n .u32 a2, .n .u64 a3, .sl 0 5, .ag (RK.k .page a5), .s a6, .i .i64 a7] law08_LeafCalls_ret = law08_LeafCalls n a4 a1 a2 a3 a5 a6 a7 := by kernel_rfl
theorem law08_LeafCalls_pv (n : Nat) (o1 : Nat) (f1 : Nat × Nat) (a4 : List Item) (r : law08_LeafCalls_R) : PV cfg0 kd (law08_LeafCalls_E n o1 f1 a4) r [] (bodyOf Try.f8) (retK cfg0 kd law08_LeafCalls_kr (law08_LeafCalls_E n o1 f1 a4) Try.f8.results.toList law08_LeafCalls_ret) := by
  refine PV.sn (by kernel_rfl) ?_ ?_
  ·
    refine PV.sn (by kernel_rfl) ?_ ?_
    ·
      refine PV.sj (live := [0, 1, 2, 3, 5, 6, 11]) (by kernel_rfl) ?_ ?_ ?_
      · intro T s h; change law08_LeafCalls_J6q n a4  _ _ = some r at h; unfold law08_LeafCalls_J6q at h; split at h
        · exact Eq.trans (by kernel_rfl) h
        · cases h
      ·
        exact PV.triv (by kernel_rfl)
      ·
        exact PV.triv (by kernel_rfl)
    ·
      exact PV.triv (by kernel_rfl)
  ·
    exact PV.triv (by kernel_rfl)
noncomputable def law08_LeafCalls_ct (n : Nat) (vs : List AV) (h : AH) : Option Ctr := match vs, h with
  | [.i .i64 a1, .n .u32 a2, .n .u64 a3, .sl 0 5, .ag [.i .i64 a5_0, .i .i64 a5_1, .n .u32 a5_2, .n .u32 a5_3, .n .u64 a5_4, .s a5_5], .s a6, .i .i64 a7], [(0, (.row .item o1 a4 35 f1))] => some (.one law08_LeafCalls_R (law08_LeafCalls n  a4 a1 a2 a3 ⟨a5_0, a5_1, a5_2, a5_3, a5_4, a5_5⟩ a6 a7) [] 0 law08_LeafCalls_out)
  | _, _ => none
theorem law08_LeafCalls_ok (n : Nat) : COk1 cfg0 8 (law08_LeafCalls_ct n) := by
  intro vs h c e
  unfold law08_LeafCalls_ct at e
  split at e
  · rename_i a1 a2 a3 a5_0 a5_1 a5_2 a5_3 a5_4 a5_5 a6 a7 o1 a4 f1
    cases e
    exact fun r hm => sxF_ok (E := law08_LeafCalls_E n o1 f1 a4) (nx1 := law08_LeafCalls_nx) (law08_LeafCalls_fn) rfl rfl rfl (callA_ok (law08_LeafCalls_pre_ok n)) law08_LeafCalls_ret_ok rfl (law08_LeafCalls_pv n o1 f1 a4 _) ((law08_LeafCalls_eq n o1 f1 a4 a1 a2 a3 ⟨a5_0, a5_1, a5_2, a5_3, a5_4, a5_5⟩ a6 a7).trans hm)
  · cases e
end
end Go.Ev
end