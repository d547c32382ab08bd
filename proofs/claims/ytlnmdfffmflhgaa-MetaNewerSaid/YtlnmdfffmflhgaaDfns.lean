/- Words of my own, printed by a program of mine. -/
import Derived.Test.YtlnmdfffmflhgaaCTab
section
set_option linter.unusedVariables false
set_option linter.unusedSimpArgs false
set_option maxRecDepth 100000
set_option maxHeartbeats 400000
namespace Go.Ev
open Go.RowKit Go.Proofs
section
theorem octet_New_fn : cfg0.fn 42 = some Try.f42 := rfl
abbrev octet_New_R : Type := (List UInt8)
@[reducible] def octet_New_rt (b0 : List UInt8) : Option octet_New_R := some b0
noncomputable def octet_New_out : octet_New_R → AV × AH
  | b0 => ((.ptr 0 0), [(0, (.cells [(.s b0)] 94 (0, 0)))])
noncomputable def octet_New_nx : octet_New_R → Nat
  | _ => 1
noncomputable def octet_New_ret (v : AV) (h : AH) (nx : Nat) : Option octet_New_R := match v, h, nx with
  | (.ptr 0 0), [(0, (.cells [(.s b0)] 94 (0, 0)))], 1 => some b0
  | _, _, _ => none
theorem octet_New_ret_ok (v : AV) (h : AH) (nx : Nat) (r : octet_New_R) (e : octet_New_ret v h nx = some r) : octet_New_out r = (v, h) ∧ nx = octet_New_nx r := by
  unfold octet_New_ret at e
  split at e
  · cases e; exact ⟨rfl, rfl⟩
  · cases e
noncomputable def octet_New_kr : KN := []
noncomputable def octet_New_pre (n : Nat) : CT := ctZ
theorem octet_New_pre_ok (n : Nat) : COk cfg0 (octet_New_pre n) := ctZ_ok
noncomputable def octet_New_E0 (n : Nat) (R : Type)   (jf lf : List Nat → Nat → AT → AS → Option R) : SE R := ⟨[], Try.f42.ntmps, 0, callA cfg0 kd [] (octet_New_pre n), n, [], [], [], [], jf, lf⟩
noncomputable def octet_New_F (n : Nat) (a1 : List UInt8)  : Option octet_New_R := octet_New_rt a1
noncomputable def octet_New (n : Nat) (a1 : List UInt8) : Option octet_New_R := octet_New_F n a1 
noncomputable def octet_New_jf (n : Nat) : List Nat → Nat → AT → AS → Option octet_New_R := fun ms key T s => none
noncomputable def octet_New_lf (n : Nat) : List Nat → Nat → AT → AS → Option octet_New_R := fun ms key T s => none
noncomputable def octet_New_E (n : Nat)   : SE octet_New_R := octet_New_E0 n octet_New_R   (octet_New_jf n) (octet_New_lf n)
theorem octet_New_eq (n : Nat) (a1 : List UInt8) : sxF cfg0 kd octet_New_kr (octet_New_E n  ) Try.f42 (bodyOf Try.f42) [] [.s a1] octet_New_ret = octet_New n a1 := by kernel_rfl
theorem octet_New_pv (n : Nat) (r : octet_New_R) : PV cfg0 kd (octet_New_E n  ) r [] (bodyOf Try.f42) (retK cfg0 kd octet_New_kr (octet_New_E n  ) Try.f42.results.toList octet_New_ret) := by
  exact PV.triv (by kernel_rfl)
noncomputable def octet_New_ct (n : Nat) (vs : List AV) (h : AH) : Option Ctr := match vs, h with
  | [.s a1], [] => some (.one octet_New_R (octet_New n   a1) [] 1 octet_New_out)
  | _, _ => none
theorem octet_New_ok (n : Nat) : COk1 cfg0 42 (octet_New_ct n) := by
  intro vs h c e
  unfold octet_New_ct at e
  split at e
  · rename_i a1
    cases e
    exact fun r hm => sxF_ok (E := octet_New_E n  ) (nx1 := octet_New_nx) (octet_New_fn) rfl rfl rfl (callA_ok (octet_New_pre_ok n)) octet_New_ret_ok rfl (octet_New_pv n   _) ((octet_New_eq n   a1).trans hm)
  · cases e
end
end Go.Ev
end
section
set_option linter.unusedVariables false
set_option linter.unusedSimpArgs false
set_option maxRecDepth 100000
set_option maxHeartbeats 400000
namespace Go.Ev
open Go.RowKit Go.Proofs
section
theorem device_Good_fn : cfg0.fn 48 = some Try.f48 := rfl
abbrev device_Good_R : Type := Bool
@[reducible] def device_Good_rt (b0 : Bool) : Option device_Good_R := some b0
noncomputable def device_Good_out : device_Good_R → AV × AH
  | b0 => ((.b b0), [])
noncomputable def device_Good_nx : device_Good_R → Nat
  | _ => 0
noncomputable def device_Good_ret (v : AV) (h : AH) (nx : Nat) : Option device_Good_R := match v, h, nx with
  | (.b b0), [], 0 => some b0
  | _, _, _ => none
theorem device_Good_ret_ok (v : AV) (h : AH) (nx : Nat) (r : device_Good_R) (e : device_Good_ret v h nx = some r) : device_Good_out r = (v, h) ∧ nx = device_Good_nx r := by
  unfold device_Good_ret at e
  split at e
  · cases e; exact ⟨rfl, rfl⟩
  · cases e
noncomputable def device_Good_kr : KN := []
noncomputable def device_Good_pre (n : Nat) : CT := ctZ
theorem device_Good_pre_ok (n : Nat) : COk cfg0 (device_Good_pre n) := ctZ_ok
noncomputable def device_Good_E0 (n : Nat) (R : Type)   (jf lf : List Nat → Nat → AT → AS → Option R) : SE R := ⟨[], Try.f48.ntmps, 0, callA cfg0 kd [] (device_Good_pre n), n, [], [], [], [], jf, lf⟩
noncomputable def device_Good_F (n : Nat) (a1 : Int)  : Option device_Good_R := bif decide (128 ≤ a1) then bif decide (a1 ≤ 4096) then device_Good_rt (decide (Int.tmod a1 64 = 0)) else device_Good_rt false else device_Good_rt false
noncomputable def device_Good (n : Nat) (a1 : Int) : Option device_Good_R := device_Good_F n a1 
noncomputable def device_Good_jf (n : Nat) : List Nat → Nat → AT → AS → Option device_Good_R := fun ms key T s => none
noncomputable def device_Good_lf (n : Nat) : List Nat → Nat → AT → AS → Option device_Good_R := fun ms key T s => none
noncomputable def device_Good_E (n : Nat)   : SE device_Good_R := device_Good_E0 n device_Good_R   (device_Good_jf n) (device_Good_lf n)
theorem device_Good_eq (n : Nat) (a1 : Int) : sxF cfg0 kd device_Good_kr (device_Good_E n  ) Try.f48 (bodyOf Try.f48) [] [.i .i64 a1] device_Good_ret = device_Good n a1 := by kernel_rfl
theorem device_Good_pv (n : Nat) (r : device_Good_R) : PV cfg0 kd (device_Good_E n  ) r [] (bodyOf Try.f48) (retK cfg0 kd device_Good_kr (device_Good_E n  ) Try.f48.results.toList device_Good_ret) := by
  exact PV.triv (by kernel_rfl)
noncomputable def device_Good_ct (n : Nat) (vs : List AV) (h : AH) : Option Ctr := match vs, h with
  | [.i .i64 a1], [] => some (.one device_Good_R (device_Good n   a1) [] 0 device_Good_out)
  | _, _ => none
theorem device_Good_ok (n : Nat) : COk1 cfg0 48 (device_Good_ct n) := by
  intro vs h c e
  unfold device_Good_ct at e
  split at e
  · rename_i a1
    cases e
    exact fun r hm => sxF_ok (E := device_Good_E n  ) (nx1 := device_Good_nx) (device_Good_fn) rfl rfl rfl (callA_ok (device_Good_pre_ok n)) device_Good_ret_ok rfl (device_Good_pv n   _) ((device_Good_eq n   a1).trans hm)
  · cases e
end
end Go.Ev
end
section
set_option linter.unusedVariables false
set_option linter.unusedSimpArgs false
set_option maxRecDepth 100000
set_option maxHeartbeats 400000
namespace Go.Ev
open Go.RowKit Go.Proofs
section
theorem frame_Room_fn : cfg0.fn 26 = some Try.f26 := rfl
abbrev frame_Room_R : Type := Int
@[reducible] def frame_Room_rt (b0 : Int) : Option frame_Room_R := some b0
noncomputable def frame_Room_out : frame_Room_R → AV × AH
  | b0 => ((.i .i64 b0), [])
noncomputable def frame_Room_nx : frame_Room_R → Nat
  | _ => 0
noncomputable def frame_Room_ret (v : AV) (h : AH) (nx : Nat) : Option frame_Room_R := match v, h, nx with
  | (.i .i64 b0), [], 0 => some b0
  | _, _, _ => none
theorem frame_Room_ret_ok (v : AV) (h : AH) (nx : Nat) (r : frame_Room_R) (e : frame_Room_ret v h nx = some r) : frame_Room_out r = (v, h) ∧ nx = frame_Room_nx r := by
  unfold frame_Room_ret at e
  split at e
  · cases e; exact ⟨rfl, rfl⟩
  · cases e
noncomputable def frame_Room_kr : KN := []
noncomputable def frame_Room_pre (n : Nat) : CT := (ctA 48 (device_Good_ct n) ctZ)
theorem frame_Room_pre_ok (n : Nat) : COk cfg0 (frame_Room_pre n) := (ctA_ok (device_Good_ok n) ctZ_ok)
noncomputable def frame_Room_E0 (n : Nat) (R : Type)   (jf lf : List Nat → Nat → AT → AS → Option R) : SE R := ⟨[], Try.f26.ntmps, 0, callA cfg0 kd [] (frame_Room_pre n), n, [], [], [], [], jf, lf⟩
noncomputable def frame_Room_F (n : Nat) (a1 : Int)  : Option frame_Room_R := Option.bind (device_Good n a1) fun z => bif !z then frame_Room_rt 0 else frame_Room_rt (w64 (a1 - 24))
noncomputable def frame_Room (n : Nat) (a1 : Int) : Option frame_Room_R := frame_Room_F n a1 
noncomputable def frame_Room_jf (n : Nat) : List Nat → Nat → AT → AS → Option frame_Room_R := fun ms key T s => none
noncomputable def frame_Room_lf (n : Nat) : List Nat → Nat → AT → AS → Option frame_Room_R := fun ms key T s => none
noncomputable def frame_Room_E (n : Nat)   : SE frame_Room_R := frame_Room_E0 n frame_Room_R   (frame_Room_jf n) (frame_Room_lf n)
theorem frame_Room_eq (n : Nat) (a1 : Int) : sxF cfg0 kd frame_Room_kr (frame_Room_E n  ) Try.f26 (bodyOf Try.f26) [] [.i .i64 a1] frame_Room_ret = frame_Room n a1 := by kernel_rfl
theorem frame_Room_pv (n : Nat) (r : frame_Room_R) : PV cfg0 kd (frame_Room_E n  ) r [] (bodyOf Try.f26) (retK cfg0 kd frame_Room_kr (frame_Room_E n  ) Try.f26.results.toList frame_Room_ret) := by
  exact PV.triv (by kernel_rfl)
noncomputable def frame_Room_ct (n : Nat) (vs : List AV) (h : AH) : Option Ctr := match vs, h with
  | [.i .i64 a1], [] => some (.one frame_Room_R (frame_Room n   a1) [] 0 frame_Room_out)
  | _, _ => none
theorem frame_Room_ok (n : Nat) : COk1 cfg0 26 (frame_Room_ct n) := by
  intro vs h c e
  unfold frame_Room_ct at e
  split at e
  · rename_i a1
    cases e
    exact fun r hm => sxF_ok (E := frame_Room_E n  ) (nx1 := frame_Room_nx) (frame_Room_fn) rfl rfl rfl (callA_ok (frame_Room_pre_ok n)) frame_Room_ret_ok rfl (frame_Room_pv n   _) ((frame_Room_eq n   a1).trans hm)
  · cases e
end
end Go.Ev
end
section
set_option linter.unusedVariables false
set_option linter.unusedSimpArgs false
set_option maxRecDepth 100000
set_option maxHeartbeats 400000
namespace Go.Ev
open Go.RowKit Go.Proofs
section
theorem frame_may_fn : cfg0.fn 44 = some Try.f44 := rfl
abbrev frame_may_R : Type := Bool
@[reducible] def frame_may_rt (b0 : Bool) : Option frame_may_R := some b0
noncomputable def frame_may_out : frame_may_R → AV × AH
  | b0 => ((.b b0), [])
noncomputable def frame_may_nx : frame_may_R → Nat
  | _ => 0
noncomputable def frame_may_ret (v : AV) (h : AH) (nx : Nat) : Option frame_may_R := match v, h, nx with
  | (.b b0), [], 0 => some b0
  | _, _, _ => none
theorem frame_may_ret_ok (v : AV) (h : AH) (nx : Nat) (r : frame_may_R) (e : frame_may_ret v h nx = some r) : frame_may_out r = (v, h) ∧ nx = frame_may_nx r := by
  unfold frame_may_ret at e
  split at e
  · cases e; exact ⟨rfl, rfl⟩
  · cases e
noncomputable def frame_may_kr : KN := []
noncomputable def frame_may_pre (n : Nat) : CT := (ctA 26 (frame_Room_ct n) (ctA 48 (device_Good_ct n) ctZ))
theorem frame_may_pre_ok (n : Nat) : COk cfg0 (frame_may_pre n) := (ctA_ok (frame_Room_ok n) (ctA_ok (device_Good_ok n) ctZ_ok))
noncomputable def frame_may_E0 (n : Nat) (R : Type)   (jf lf : List Nat → Nat → AT → AS → Option R) : SE R := ⟨[], Try.f44.ntmps, 0, callA cfg0 kd [] (frame_may_pre n), n, [], [], [], [], jf, lf⟩
noncomputable def frame_may_F (n : Nat) (a1 : Int) (a2 : Pg)  : Option frame_may_R := Option.bind (device_Good n a1) fun z => bif z then bif decide (1 ≤ a2.kind) then bif decide (a2.kind ≤ 6) then bif decide (0 ≤ a2.count) then bif decide (a2.count ≤ 65535) then bif decide (a2.page ≤ (2147483647 : Nat)) then bif decide (a2.link ≤ (2147483647 : Nat)) then bif decide (a2.tx ≤ (4611686018427387904 : Nat)) then Option.bind (frame_Room n a1) fun z_1 => frame_may_rt (decide ((↑(List.length a2.body) : Int) = z_1)) else frame_may_rt false else frame_may_rt false else frame_may_rt false else frame_may_rt false else frame_may_rt false else frame_may_rt false else frame_may_rt false else frame_may_rt false
noncomputable def frame_may (n : Nat) (a1 : Int) (a2 : Pg) : Option frame_may_R := frame_may_F n a1 a2 
noncomputable def frame_may_jf (n : Nat) : List Nat → Nat → AT → AS → Option frame_may_R := fun ms key T s => none
noncomputable def frame_may_lf (n : Nat) : List Nat → Nat → AT → AS → Option frame_may_R := fun ms key T s => none
noncomputable def frame_may_E (n : Nat)   : SE frame_may_R := frame_may_E0 n frame_may_R   (frame_may_jf n) (frame_may_lf n)
theorem frame_may_eq (n : Nat) (a1 : Int) (a2 : Pg) : sxF cfg0 kd frame_may_kr (frame_may_E n  ) Try.f44 (bodyOf Try.f44) [] [.i .i64 a1, .ag (RK.k .page a2)] frame_may_ret = frame_may n a1 a2 := by kernel_rfl
theorem frame_may_pv (n : Nat) (r : frame_may_R) : PV cfg0 kd (frame_may_E n  ) r [] (bodyOf Try.f44) (retK cfg0 kd frame_may_kr (frame_may_E n  ) Try.f44.results.toList frame_may_ret) := by
  exact PV.triv (by kernel_rfl)
noncomputable def frame_may_ct (n : Nat) (vs : List AV) (h : AH) : Option Ctr := match vs, h with
  | [.i .i64 a1, .ag [.i .i64 a2_0, .i .i64 a2_1, .n .u32 a2_2, .n .u32 a2_3, .n .u64 a2_4, .s a2_5]], [] => some (.one frame_may_R (frame_may n   a1 ⟨a2_0, a2_1, a2_2, a2_3, a2_4, a2_5⟩) [] 0 frame_may_out)
  | _, _ => none
theorem frame_may_ok (n : Nat) : COk1 cfg0 44 (frame_may_ct n) := by
  intro vs h c e
  unfold frame_may_ct at e
  split at e
  · rename_i a1 a2_0 a2_1 a2_2 a2_3 a2_4 a2_5
    cases e
    exact fun r hm => sxF_ok (E := frame_may_E n  ) (nx1 := frame_may_nx) (frame_may_fn) rfl rfl rfl (callA_ok (frame_may_pre_ok n)) frame_may_ret_ok rfl (frame_may_pv n   _) ((frame_may_eq n   a1 ⟨a2_0, a2_1, a2_2, a2_3, a2_4, a2_5⟩).trans hm)
  · cases e
end
end Go.Ev
end
section
set_option linter.unusedVariables false
set_option linter.unusedSimpArgs false
set_option maxRecDepth 100000
set_option maxHeartbeats 400000
namespace Go.Ev
open Go.RowKit Go.Proofs
section
theorem crc_with_fn : cfg0.fn 70 = some Try.f70 := rfl
abbrev crc_with_R : Type := Nat
@[reducible] def crc_with_rt (b0 : Nat) : Option crc_with_R := some b0
noncomputable def crc_with_out : crc_with_R → AV × AH
  | b0 => ((.n .u32 b0), [])
noncomputable def crc_with_nx : crc_with_R → Nat
  | _ => 0
noncomputable def crc_with_ret (v : AV) (h : AH) (nx : Nat) : Option crc_with_R := match v, h, nx with
  | (.n .u32 b0), [], 0 => some b0
  | _, _, _ => none
theorem crc_with_ret_ok (v : AV) (h : AH) (nx : Nat) (r : crc_with_R) (e : crc_with_ret v h nx = some r) : crc_with_out r = (v, h) ∧ nx = crc_with_nx r := by
  unfold crc_with_ret at e
  split at e
  · cases e; exact ⟨rfl, rfl⟩
  · cases e
noncomputable def crc_with_kr : KN := []
noncomputable def crc_with_pre (n : Nat) : CT := ctZ
theorem crc_with_pre_ok (n : Nat) : COk cfg0 (crc_with_pre n) := ctZ_ok
noncomputable def crc_with_E0 (n : Nat) (R : Type)   (jf lf : List Nat → Nat → AT → AS → Option R) : SE R := ⟨[], Try.f70.ntmps, 0, callA cfg0 kd [] (crc_with_pre n), n, [(4, ([1, 2, 3, 11, 12], 0))], [], [], [], jf, lf⟩
noncomputable def crc_with_L4F (n : Nat) (r4 : (Nat → List UInt8 → Int → Int → List Nat → Option crc_with_R))  (x0 : Nat) (x1 : List UInt8) (x2 : Int) (x3 : Int) (x4 : List Nat) : Option crc_with_R := bif decide (x3 < x2) then bif decide (0 ≤ x3) then Option.bind x1[Int.toNat x3]? fun z => bif true && Nat.ble (Nat.succ (UInt8.toNat (UInt8.ofNat (UInt8.toNat (UInt8.ofNat x0) % 256 ^^^ UInt8.toNat z % 256)))) 256 then Option.bind x4[UInt8.toNat (UInt8.ofNat (UInt8.toNat (UInt8.ofNat x0) % 256 ^^^ UInt8.toNat z % 256))]? fun z_1 => r4 ((z_1 % 4294967296 ^^^ x0 / 2 ^ (8 : Nat) % 4294967296) % 4294967296) x1 x2 (w64 (x3 + 1)) x4 else none else none else crc_with_rt (Nat.xor (4294967296 - 1) (x0 % 4294967296) % 4294967296)
noncomputable def crc_with_L4 (n : Nat)  : Nat → Nat → List UInt8 → Int → Int → List Nat → Option crc_with_R
  | 0, _, _, _, _, _ => none
  | m + 1, x0, x1, x2, x3, x4 => crc_with_L4F n  (crc_with_L4 n  m)  x0 x1 x2 x3 x4
noncomputable def crc_with_F (n : Nat) (a1 : List Nat) (a2 : Nat) (a3 : List UInt8) (l4 : (Nat → List UInt8 → Int → Int → List Nat → Option crc_with_R)) : Option crc_with_R := l4 (Nat.xor (4294967296 - 1) (a2 % 4294967296) % 4294967296) a3 (↑(List.length a3) : Int) 0 a1
noncomputable def crc_with (n : Nat) (a1 : List Nat) (a2 : Nat) (a3 : List UInt8) : Option crc_with_R := crc_with_F n a1 a2 a3 (crc_with_L4 n n)
noncomputable def crc_with_L4q (n : Nat) (m4 : Nat) (T : AT) (s : AS) : Option crc_with_R := match T, s with
  | [(1, (.n .u32 x0)), (2, (.s x1)), (3, (.ptr 0 0)), (11, (.i .i64 x2)), (12, (.i .i64 x3))], ⟨[(0, (.row .u32 0 x4 99 (0, 0)))], 1, []⟩ => crc_with_L4 n  m4 x0 x1 x2 x3 x4
  | _, _ => none
noncomputable def crc_with_jf (n : Nat) : List Nat → Nat → AT → AS → Option crc_with_R := fun ms key T s => none
noncomputable def crc_with_lf (n : Nat) : List Nat → Nat → AT → AS → Option crc_with_R := fun ms key T s => cond (Nat.beq key 4) (match ms with | [m4] => crc_with_L4q n m4 T s | _ => none) (none)
noncomputable def crc_with_E (n : Nat)   : SE crc_with_R := crc_with_E0 n crc_with_R   (crc_with_jf n) (crc_with_lf n)
theorem crc_with_eq (n : Nat) (a1 : List Nat) (a2 : Nat) (a3 : List UInt8) : sxF cfg0 kd crc_with_kr (crc_with_E n  ) Try.f70 (bodyOf Try.f70) [] [.ar .u32 a1, .n .u32 a2, .s a3] crc_with_ret = crc_with n a1 a2 a3 := by kernel_rfl
theorem crc_with_pv (n : Nat) (r : crc_with_R) : PV cfg0 kd (crc_with_E n  ) r [] (bodyOf Try.f70) (retK cfg0 kd crc_with_kr (crc_with_E n  ) Try.f70.results.toList crc_with_ret) := by
  refine PV.sn (by kernel_rfl) ?_ ?_
  ·
    refine PV.sn (by kernel_rfl) ?_ ?_
    ·
      refine PV.sn (by kernel_rfl) ?_ ?_
      ·
        exact PV.triv (by kernel_rfl)
      ·
        refine PV.sn (by kernel_rfl) ?_ ?_
        ·
          refine PV.bl ?_
          refine PV.lp (live := [1, 2, 3, 11, 12]) (by kernel_rfl) ?_ ?_ ?_
          · intro T s h; change crc_with_L4q n 0 _ _ = some r at h; unfold crc_with_L4q at h; split at h
            · exact nomatch (show (none : Option crc_with_R) = some r from h)
            · cases h
          · intro m4 T s h; change crc_with_L4q n (m4 + 1) _ _ = some r at h; unfold crc_with_L4q at h; split at h
            · exact Eq.trans (by kernel_rfl) h
            · cases h
          · intro m4
            exact PV.triv (by kernel_rfl)
        ·
          exact PV.triv (by kernel_rfl)
    ·
      exact PV.triv (by kernel_rfl)
  ·
    exact PV.triv (by kernel_rfl)
noncomputable def crc_with_ct (n : Nat) (vs : List AV) (h : AH) : Option Ctr := match vs, h with
  | [.ar .u32 a1, .n .u32 a2, .s a3], [] => some (.one crc_with_R (crc_with n   a1 a2 a3) [] 0 crc_with_out)
  | _, _ => none
theorem crc_with_ok (n : Nat) : COk1 cfg0 70 (crc_with_ct n) := by
  intro vs h c e
  unfold crc_with_ct at e
  split at e
  · rename_i a1 a2 a3
    cases e
    exact fun r hm => sxF_ok (E := crc_with_E n  ) (nx1 := crc_with_nx) (crc_with_fn) rfl rfl rfl (callA_ok (crc_with_pre_ok n)) crc_with_ret_ok rfl (crc_with_pv n   _) ((crc_with_eq n   a1 a2 a3).trans hm)
  · cases e
end
end Go.Ev
end
section
set_option linter.unusedVariables false
set_option linter.unusedSimpArgs false
set_option maxRecDepth 100000
set_option maxHeartbeats 400000
namespace Go.Ev
open Go.RowKit Go.Proofs
section
theorem crc_Table_fn : cfg0.fn 71 = some Try.f71 := rfl
abbrev crc_Table_R : Type := (List (Nat))
@[reducible] def crc_Table_rt (b0 : List (Nat)) : Option crc_Table_R := some b0
noncomputable def crc_Table_out : crc_Table_R → AV × AH
  | b0 => ((.ar .u32 b0), [])
noncomputable def crc_Table_nx : crc_Table_R → Nat
  | _ => 0
noncomputable def crc_Table_ret (v : AV) (h : AH) (nx : Nat) : Option crc_Table_R := match v, h, nx with
  | (.ar .u32 b0), [], 0 => some b0
  | _, _, _ => none
theorem crc_Table_ret_ok (v : AV) (h : AH) (nx : Nat) (r : crc_Table_R) (e : crc_Table_ret v h nx = some r) : crc_Table_out r = (v, h) ∧ nx = crc_Table_nx r := by
  unfold crc_Table_ret at e
  split at e
  · cases e; exact ⟨rfl, rfl⟩
  · cases e
noncomputable def crc_Table_kr : KN := []
noncomputable def crc_Table_pre (n : Nat) : CT := ctZ
theorem crc_Table_pre_ok (n : Nat) : COk cfg0 (crc_Table_pre n) := ctZ_ok
noncomputable def crc_Table_E0 (n : Nat) (R : Type)   (jf lf : List Nat → Nat → AT → AS → Option R) : SE R := ⟨[], Try.f71.ntmps, 0, callA cfg0 kd [] (crc_Table_pre n), n, [(3, ([0, 3], 0)), (7, ([0, 1, 2, 3, 8], 0))], [], [], [], jf, lf⟩
noncomputable def crc_Table_L7F (n : Nat) (r3 : (Int → List (Nat) → Option crc_Table_R)) (r7 : (Int → Nat → Int → Int → List (Nat) → Option crc_Table_R))  (x0 : Int) (x1 : Nat) (x2 : Int) (x3 : Int) (x4 : List (Nat)) : Option crc_Table_R := bif decide (x3 < 8) then r7 x0 ((x1 / 2 ^ (1 : Nat) % 4294967296 ^^^ ((2197175160 : Nat) % 4294967296 &&& u32 (0 - (↑((x1 % 4294967296 &&& (1 : Nat) % 4294967296) % 4294967296) : Int)) % 4294967296) % 4294967296 % 4294967296) % 4294967296) x2 (w64 (x3 + 1)) x4 else bif decide (0 ≤ x0) && Nat.ble (Nat.succ (Int.toNat x0)) 256 then Option.bind x4[Int.toNat x0]? fun z => r3 (w64 (x2 + 1)) (List.set x4 (Int.toNat x0) x1) else none
noncomputable def crc_Table_L7 (n : Nat) (r3 : (Int → List (Nat) → Option crc_Table_R)) : Nat → Int → Nat → Int → Int → List (Nat) → Option crc_Table_R
  | 0, _, _, _, _, _ => none
  | m + 1, x0, x1, x2, x3, x4 => crc_Table_L7F n r3 (crc_Table_L7 n r3 m)  x0 x1 x2 x3 x4
noncomputable def crc_Table_L3F (n : Nat) (r3 : (Int → List (Nat) → Option crc_Table_R)) (l7 : (Int → Nat → Int → Int → List (Nat) → Option crc_Table_R)) (x0 : Int) (x1 : List (Nat)) : Option crc_Table_R := bif decide (x0 < 256) then l7 x0 (u32 x0) x0 0 x1 else bif decide (List.length x1 = 256) then bif decide (List.length x1 = (Try.t99, Try.t99.desc).fst.size) && decide (List.length x1 = List.length x1) then bif decide (List.length x1 = 256) then crc_Table_rt x1 else none else none else none
noncomputable def crc_Table_L3 (n : Nat)  : Nat → Int → List (Nat) → Option crc_Table_R
  | 0, _, _ => none
  | m + 1, x0, x1 => crc_Table_L3F n  (crc_Table_L3 n  m) (crc_Table_L7 n (crc_Table_L3 n  m) n) x0 x1
noncomputable def crc_Table_F (n : Nat)  (l3 : (Int → List (Nat) → Option crc_Table_R)) : Option crc_Table_R := l3 0 (List.replicate 256 0)
noncomputable def crc_Table (n : Nat)  : Option crc_Table_R := crc_Table_F n  (crc_Table_L3 n n)
noncomputable def crc_Table_L7q (n : Nat) (m7 : Nat) (m3 : Nat) (T : AT) (s : AS) : Option crc_Table_R := match T, s with
  | [(0, (.ptr 0 0)), (1, (.i .i64 x0)), (2, (.n .u32 x1)), (3, (.i .i64 x2)), (8, (.i .i64 x3))], ⟨[(0, (.row .u32 0 x4 99 (0, 0)))], 1, []⟩ => crc_Table_L7 n (crc_Table_L3 n  m3) m7 x0 x1 x2 x3 x4
  | _, _ => none
noncomputable def crc_Table_L3q (n : Nat) (m3 : Nat) (T : AT) (s : AS) : Option crc_Table_R := match T, s with
  | [(0, (.ptr 0 0)), (3, (.i .i64 x0))], ⟨[(0, (.row .u32 0 x1 99 (0, 0)))], 1, []⟩ => crc_Table_L3 n  m3 x0 x1
  | _, _ => none
noncomputable def crc_Table_jf (n : Nat) : List Nat → Nat → AT → AS → Option crc_Table_R := fun ms key T s => none
noncomputable def crc_Table_lf (n : Nat) : List Nat → Nat → AT → AS → Option crc_Table_R := fun ms key T s => cond (Nat.beq key 7) (match ms with | [m7, m3] => crc_Table_L7q n m7 m3 T s | _ => none) (cond (Nat.beq key 3) (match ms with | [m3] => crc_Table_L3q n m3 T s | _ => none) (none))
noncomputable def crc_Table_E (n : Nat)   : SE crc_Table_R := crc_Table_E0 n crc_Table_R   (crc_Table_jf n) (crc_Table_lf n)
theorem crc_Table_eq (n : Nat) : sxF cfg0 kd crc_Table_kr (crc_Table_E n  ) Try.f71 (bodyOf Try.f71) [] [] crc_Table_ret = crc_Table n  := by kernel_rfl
theorem crc_Table_pv (n : Nat) (r : crc_Table_R) : PV cfg0 kd (crc_Table_E n  ) r [] (bodyOf Try.f71) (retK cfg0 kd crc_Table_kr (crc_Table_E n  ) Try.f71.results.toList crc_Table_ret) := by
  refine PV.sn (by kernel_rfl) ?_ ?_
  ·
    refine PV.sn (by kernel_rfl) ?_ ?_
    ·
      exact PV.triv (by kernel_rfl)
    ·
      refine PV.sn (by kernel_rfl) ?_ ?_
      ·
        refine PV.bl ?_
        refine PV.lp (live := [0, 3]) (by kernel_rfl) ?_ ?_ ?_
        · intro T s h; change crc_Table_L3q n 0 _ _ = some r at h; unfold crc_Table_L3q at h; split at h
          · exact nomatch (show (none : Option crc_Table_R) = some r from h)
          · cases h
        · intro m3 T s h; change crc_Table_L3q n (m3 + 1) _ _ = some r at h; unfold crc_Table_L3q at h; split at h
          · exact Eq.trans (by kernel_rfl) h
          · cases h
        · intro m3
          refine PV.sn (by kernel_rfl) ?_ ?_
          ·
            refine PV.sn (by kernel_rfl) ?_ ?_
            ·
              refine PV.sn (by kernel_rfl) ?_ ?_
              ·
                exact PV.triv (by kernel_rfl)
              ·
                refine PV.bl ?_
                refine PV.sn (by kernel_rfl) ?_ ?_
                ·
                  refine PV.sn (by kernel_rfl) ?_ ?_
                  ·
                    refine PV.sn (by kernel_rfl) ?_ ?_
                    ·
                      exact PV.triv (by kernel_rfl)
                    ·
                      refine PV.sn (by kernel_rfl) ?_ ?_
                      ·
                        refine PV.bl ?_
                        refine PV.lp (live := [0, 1, 2, 3, 8]) (by kernel_rfl) ?_ ?_ ?_
                        · intro T s h; change crc_Table_L7q n 0 m3 _ _ = some r at h; unfold crc_Table_L7q at h; split at h
                          · exact nomatch (show (none : Option crc_Table_R) = some r from h)
                          · cases h
                        · intro m7 T s h; change crc_Table_L7q n (m7 + 1) m3 _ _ = some r at h; unfold crc_Table_L7q at h; split at h
                          · exact Eq.trans (by kernel_rfl) h
                          · cases h
                        · intro m7
                          exact PV.triv (by kernel_rfl)
                      ·
                        exact PV.triv (by kernel_rfl)
                  ·
                    exact PV.triv (by kernel_rfl)
                ·
                  exact PV.triv (by kernel_rfl)
            ·
              exact PV.triv (by kernel_rfl)
          ·
            exact PV.triv (by kernel_rfl)
      ·
        exact PV.triv (by kernel_rfl)
  ·
    exact PV.triv (by kernel_rfl)
noncomputable def crc_Table_ct (n : Nat) (vs : List AV) (h : AH) : Option Ctr := match vs, h with
  | [], [] => some (.one crc_Table_R (crc_Table n   ) [] 0 crc_Table_out)
  | _, _ => none
theorem crc_Table_ok (n : Nat) : COk1 cfg0 71 (crc_Table_ct n) := by
  intro vs h c e
  unfold crc_Table_ct at e
  split at e
  · cases e
    exact fun r hm => sxF_ok (E := crc_Table_E n  ) (nx1 := crc_Table_nx) (crc_Table_fn) rfl rfl rfl (callA_ok (crc_Table_pre_ok n)) crc_Table_ret_ok rfl (crc_Table_pv n   _) ((crc_Table_eq n   ).trans hm)
  · cases e
end
end Go.Ev
end
section
set_option linter.unusedVariables false
set_option linter.unusedSimpArgs false
set_option maxRecDepth 100000
set_option maxHeartbeats 400000
namespace Go.Ev
open Go.RowKit Go.Proofs
section
theorem crc_More_fn : cfg0.fn 65 = some Try.f65 := rfl
abbrev crc_More_R : Type := Nat
@[reducible] def crc_More_rt (b0 : Nat) : Option crc_More_R := some b0
noncomputable def crc_More_out : crc_More_R → AV × AH
  | b0 => ((.n .u32 b0), [])
noncomputable def crc_More_nx : crc_More_R → Nat
  | _ => 0
noncomputable def crc_More_ret (v : AV) (h : AH) (nx : Nat) : Option crc_More_R := match v, h, nx with
  | (.n .u32 b0), [], 0 => some b0
  | _, _, _ => none
theorem crc_More_ret_ok (v : AV) (h : AH) (nx : Nat) (r : crc_More_R) (e : crc_More_ret v h nx = some r) : crc_More_out r = (v, h) ∧ nx = crc_More_nx r := by
  unfold crc_More_ret at e
  split at e
  · cases e; exact ⟨rfl, rfl⟩
  · cases e
noncomputable def crc_More_kr : KN := []
noncomputable def crc_More_pre (n : Nat) : CT := (ctA 70 (crc_with_ct n) (ctA 71 (crc_Table_ct n) ctZ))
theorem crc_More_pre_ok (n : Nat) : COk cfg0 (crc_More_pre n) := (ctA_ok (crc_with_ok n) (ctA_ok (crc_Table_ok n) ctZ_ok))
noncomputable def crc_More_E0 (n : Nat) (R : Type)   (jf lf : List Nat → Nat → AT → AS → Option R) : SE R := ⟨[], Try.f65.ntmps, 0, callA cfg0 kd [] (crc_More_pre n), n, [], [], [], [], jf, lf⟩
noncomputable def crc_More_F (n : Nat) (a1 : Nat) (a2 : List UInt8)  : Option crc_More_R := Option.bind (crc_Table n) fun z => Option.bind (crc_with n z a1 a2) fun z_1 => crc_More_rt z_1
noncomputable def crc_More (n : Nat) (a1 : Nat) (a2 : List UInt8) : Option crc_More_R := crc_More_F n a1 a2 
noncomputable def crc_More_jf (n : Nat) : List Nat → Nat → AT → AS → Option crc_More_R := fun ms key T s => none
noncomputable def crc_More_lf (n : Nat) : List Nat → Nat → AT → AS → Option crc_More_R := fun ms key T s => none
noncomputable def crc_More_E (n : Nat)   : SE crc_More_R := crc_More_E0 n crc_More_R   (crc_More_jf n) (crc_More_lf n)
theorem crc_More_eq (n : Nat) (a1 : Nat) (a2 : List UInt8) : sxF cfg0 kd crc_More_kr (crc_More_E n  ) Try.f65 (bodyOf Try.f65) [] [.n .u32 a1, .s a2] crc_More_ret = crc_More n a1 a2 := by kernel_rfl
theorem crc_More_pv (n : Nat) (r : crc_More_R) : PV cfg0 kd (crc_More_E n  ) r [] (bodyOf Try.f65) (retK cfg0 kd crc_More_kr (crc_More_E n  ) Try.f65.results.toList crc_More_ret) := by
  exact PV.triv (by kernel_rfl)
noncomputable def crc_More_ct (n : Nat) (vs : List AV) (h : AH) : Option Ctr := match vs, h with
  | [.n .u32 a1, .s a2], [] => some (.one crc_More_R (crc_More n   a1 a2) [] 0 crc_More_out)
  | _, _ => none
theorem crc_More_ok (n : Nat) : COk1 cfg0 65 (crc_More_ct n) := by
  intro vs h c e
  unfold crc_More_ct at e
  split at e
  · rename_i a1 a2
    cases e
    exact fun r hm => sxF_ok (E := crc_More_E n  ) (nx1 := crc_More_nx) (crc_More_fn) rfl rfl rfl (callA_ok (crc_More_pre_ok n)) crc_More_ret_ok rfl (crc_More_pv n   _) ((crc_More_eq n   a1 a2).trans hm)
  · cases e
end
end Go.Ev
end
section
set_option linter.unusedVariables false
set_option linter.unusedSimpArgs false
set_option maxRecDepth 100000
set_option maxHeartbeats 400000
namespace Go.Ev
open Go.RowKit Go.Proofs
section
theorem crc_Of_fn : cfg0.fn 46 = some Try.f46 := rfl
abbrev crc_Of_R : Type := Nat
@[reducible] def crc_Of_rt (b0 : Nat) : Option crc_Of_R := some b0
noncomputable def crc_Of_out : crc_Of_R → AV × AH
  | b0 => ((.n .u32 b0), [])
noncomputable def crc_Of_nx : crc_Of_R → Nat
  | _ => 0
noncomputable def crc_Of_ret (v : AV) (h : AH) (nx : Nat) : Option crc_Of_R := match v, h, nx with
  | (.n .u32 b0), [], 0 => some b0
  | _, _, _ => none
theorem crc_Of_ret_ok (v : AV) (h : AH) (nx : Nat) (r : crc_Of_R) (e : crc_Of_ret v h nx = some r) : crc_Of_out r = (v, h) ∧ nx = crc_Of_nx r := by
  unfold crc_Of_ret at e
  split at e
  · cases e; exact ⟨rfl, rfl⟩
  · cases e
noncomputable def crc_Of_kr : KN := []
noncomputable def crc_Of_pre (n : Nat) : CT := (ctA 65 (crc_More_ct n) ctZ)
theorem crc_Of_pre_ok (n : Nat) : COk cfg0 (crc_Of_pre n) := (ctA_ok (crc_More_ok n) ctZ_ok)
noncomputable def crc_Of_E0 (n : Nat) (R : Type)   (jf lf : List Nat → Nat → AT → AS → Option R) : SE R := ⟨[], Try.f46.ntmps, 0, callA cfg0 kd [] (crc_Of_pre n), n, [], [], [], [], jf, lf⟩
noncomputable def crc_Of_F (n : Nat) (a1 : List UInt8)  : Option crc_Of_R := Option.bind (crc_More n ((0 : Nat)) a1) fun z => crc_Of_rt z
noncomputable def crc_Of (n : Nat) (a1 : List UInt8) : Option crc_Of_R := crc_Of_F n a1 
noncomputable def crc_Of_jf (n : Nat) : List Nat → Nat → AT → AS → Option crc_Of_R := fun ms key T s => none
noncomputable def crc_Of_lf (n : Nat) : List Nat → Nat → AT → AS → Option crc_Of_R := fun ms key T s => none
noncomputable def crc_Of_E (n : Nat)   : SE crc_Of_R := crc_Of_E0 n crc_Of_R   (crc_Of_jf n) (crc_Of_lf n)
theorem crc_Of_eq (n : Nat) (a1 : List UInt8) : sxF cfg0 kd crc_Of_kr (crc_Of_E n  ) Try.f46 (bodyOf Try.f46) [] [.s a1] crc_Of_ret = crc_Of n a1 := by kernel_rfl
theorem crc_Of_pv (n : Nat) (r : crc_Of_R) : PV cfg0 kd (crc_Of_E n  ) r [] (bodyOf Try.f46) (retK cfg0 kd crc_Of_kr (crc_Of_E n  ) Try.f46.results.toList crc_Of_ret) := by
  exact PV.triv (by kernel_rfl)
noncomputable def crc_Of_ct (n : Nat) (vs : List AV) (h : AH) : Option Ctr := match vs, h with
  | [.s a1], [] => some (.one crc_Of_R (crc_Of n   a1) [] 0 crc_Of_out)
  | _, _ => none
theorem crc_Of_ok (n : Nat) : COk1 cfg0 46 (crc_Of_ct n) := by
  intro vs h c e
  unfold crc_Of_ct at e
  split at e
  · rename_i a1
    cases e
    exact fun r hm => sxF_ok (E := crc_Of_E n  ) (nx1 := crc_Of_nx) (crc_Of_fn) rfl rfl rfl (callA_ok (crc_Of_pre_ok n)) crc_Of_ret_ok rfl (crc_Of_pv n   _) ((crc_Of_eq n   a1).trans hm)
  · cases e
end
end Go.Ev
end
section
set_option linter.unusedVariables false
set_option linter.unusedSimpArgs false
set_option maxRecDepth 100000
set_option maxHeartbeats 400000
namespace Go.Ev
open Go.RowKit Go.Proofs
section
theorem octet_Reader_take_fn : cfg0.fn 64 = some Try.f64 := rfl
abbrev octet_Reader_take_R : Type := (List UInt8) × Int × (List UInt8)
@[reducible] def octet_Reader_take_rt (b0 : List UInt8) (b1 : Int) (b2 : List UInt8) : Option octet_Reader_take_R := some (b0, b1, b2)
noncomputable def octet_Reader_take_out : octet_Reader_take_R → AV × AH
  | (b0, b1, b2) => ((.tu [(.s b0), (.i .i64 b1)]), [(0, (.cells [(.s b2)] 94 (0, 0)))])
noncomputable def octet_Reader_take_nx : octet_Reader_take_R → Nat
  | _ => 1
noncomputable def octet_Reader_take_ret (v : AV) (h : AH) (nx : Nat) : Option octet_Reader_take_R := match v, h, nx with
  | (.tu [(.s b0), (.i .i64 b1)]), [(0, (.cells [(.s b2)] 94 (0, 0)))], 1 => some (b0, b1, b2)
  | _, _, _ => none
theorem octet_Reader_take_ret_ok (v : AV) (h : AH) (nx : Nat) (r : octet_Reader_take_R) (e : octet_Reader_take_ret v h nx = some r) : octet_Reader_take_out r = (v, h) ∧ nx = octet_Reader_take_nx r := by
  unfold octet_Reader_take_ret at e
  split at e
  · cases e; exact ⟨rfl, rfl⟩
  · cases e
noncomputable def octet_Reader_take_kr : KN := []
noncomputable def octet_Reader_take_pre (n : Nat) : CT := ctZ
theorem octet_Reader_take_pre_ok (n : Nat) : COk cfg0 (octet_Reader_take_pre n) := ctZ_ok
noncomputable def octet_Reader_take_E0 (n : Nat) (R : Type)   (jf lf : List Nat → Nat → AT → AS → Option R) : SE R := ⟨[], Try.f64.ntmps, 1, callA cfg0 kd [] (octet_Reader_take_pre n), n, [], [], [], [], jf, lf⟩
noncomputable def octet_Reader_take_F (n : Nat) (a1 : Int) (a2 : List UInt8)  : Option octet_Reader_take_R := bif decide ((↑(List.length a2) : Int) < a1) then octet_Reader_take_rt [] 7 a2 else bif decide (0 ≤ a1) && decide (Int.toNat a1 ≤ List.length a2) then bif decide (0 ≤ a1) && decide (Int.toNat a1 ≤ List.length a2) then octet_Reader_take_rt (List.take (Int.toNat a1) a2) 0 (List.drop (Int.toNat a1) a2) else none else none
noncomputable def octet_Reader_take (n : Nat) (a1 : Int) (a2 : List UInt8) : Option octet_Reader_take_R := octet_Reader_take_F n a1 a2 
noncomputable def octet_Reader_take_jf (n : Nat) : List Nat → Nat → AT → AS → Option octet_Reader_take_R := fun ms key T s => none
noncomputable def octet_Reader_take_lf (n : Nat) : List Nat → Nat → AT → AS → Option octet_Reader_take_R := fun ms key T s => none
noncomputable def octet_Reader_take_E (n : Nat)   : SE octet_Reader_take_R := octet_Reader_take_E0 n octet_Reader_take_R   (octet_Reader_take_jf n) (octet_Reader_take_lf n)
theorem octet_Reader_take_eq (n : Nat) (a1 : Int) (a2 : List UInt8) : sxF cfg0 kd octet_Reader_take_kr (octet_Reader_take_E n  ) Try.f64 (bodyOf Try.f64) [(0, (.cells ([.s a2]) 94 (0, 0)))] [.ptr 0 0, .i .i64 a1] octet_Reader_take_ret = octet_Reader_take n a1 a2 := by kernel_rfl
theorem octet_Reader_take_pv (n : Nat) (r : octet_Reader_take_R) : PV cfg0 kd (octet_Reader_take_E n  ) r [] (bodyOf Try.f64) (retK cfg0 kd octet_Reader_take_kr (octet_Reader_take_E n  ) Try.f64.results.toList octet_Reader_take_ret) := by
  exact PV.triv (by kernel_rfl)
noncomputable def octet_Reader_take_ct (n : Nat) (vs : List AV) (h : AH) : Option Ctr := match vs, h with
  | [.ptr 0 0, .i .i64 a1], [(0, (.cells ([.s a2]) 94 (0, 0)))] => some (.one octet_Reader_take_R (octet_Reader_take n   a1 a2) [0] 0 octet_Reader_take_out)
  | _, _ => none
theorem octet_Reader_take_ok (n : Nat) : COk1 cfg0 64 (octet_Reader_take_ct n) := by
  intro vs h c e
  unfold octet_Reader_take_ct at e
  split at e
  · rename_i a1 a2
    cases e
    exact fun r hm => sxF_ok (E := octet_Reader_take_E n  ) (nx1 := octet_Reader_take_nx) (octet_Reader_take_fn) rfl rfl rfl (callA_ok (octet_Reader_take_pre_ok n)) octet_Reader_take_ret_ok rfl (octet_Reader_take_pv n   _) ((octet_Reader_take_eq n   a1 a2).trans hm)
  · cases e
end
end Go.Ev
end
section
set_option linter.unusedVariables false
set_option linter.unusedSimpArgs false
set_option maxRecDepth 100000
set_option maxHeartbeats 400000
namespace Go.Ev
open Go.RowKit Go.Proofs
section
theorem octet_Reader_Number_fn : cfg0.fn 43 = some Try.f43 := rfl
abbrev octet_Reader_Number_R : Type := Nat × Int × (List UInt8)
@[reducible] def octet_Reader_Number_rt (b0 : Nat) (b1 : Int) (b2 : List UInt8) : Option octet_Reader_Number_R := some (b0, b1, b2)
noncomputable def octet_Reader_Number_out : octet_Reader_Number_R → AV × AH
  | (b0, b1, b2) => ((.tu [(.n .u64 b0), (.i .i64 b1)]), [(0, (.cells [(.s b2)] 94 (0, 0)))])
noncomputable def octet_Reader_Number_nx : octet_Reader_Number_R → Nat
  | _ => 1
noncomputable def octet_Reader_Number_ret (v : AV) (h : AH) (nx : Nat) : Option octet_Reader_Number_R := match v, h, nx with
  | (.tu [(.n .u64 b0), (.i .i64 b1)]), [(0, (.cells [(.s b2)] 94 (0, 0)))], 1 => some (b0, b1, b2)
  | _, _, _ => none
theorem octet_Reader_Number_ret_ok (v : AV) (h : AH) (nx : Nat) (r : octet_Reader_Number_R) (e : octet_Reader_Number_ret v h nx = some r) : octet_Reader_Number_out r = (v, h) ∧ nx = octet_Reader_Number_nx r := by
  unfold octet_Reader_Number_ret at e
  split at e
  · cases e; exact ⟨rfl, rfl⟩
  · cases e
noncomputable def octet_Reader_Number_kr : KN := []
noncomputable def octet_Reader_Number_pre (n : Nat) : CT := (ctA 64 (octet_Reader_take_ct n) ctZ)
theorem octet_Reader_Number_pre_ok (n : Nat) : COk cfg0 (octet_Reader_Number_pre n) := (ctA_ok (octet_Reader_take_ok n) ctZ_ok)
noncomputable def octet_Reader_Number_E0 (n : Nat) (R : Type)   (jf lf : List Nat → Nat → AT → AS → Option R) : SE R := ⟨[], Try.f43.ntmps, 1, callA cfg0 kd [] (octet_Reader_Number_pre n), n, [(8, ([4, 5, 6, 25, 26], 0))], [(6, [0, 1, 4])], [], [], jf, lf⟩
noncomputable def octet_Reader_Number_L8F (n : Nat) (r8 : (Nat → Int → List UInt8 → Int → Int → List UInt8 → Option octet_Reader_Number_R))  (x0 : Nat) (x1 : Int) (x2 : List UInt8) (x3 : Int) (x4 : Int) (x5 : List UInt8) : Option octet_Reader_Number_R := bif decide (x4 < x3) then bif decide (0 ≤ x4) then Option.bind x2[Int.toNat x4]? fun z => bif decide (0 ≤ w64 (8 * x4)) && Nat.ble (Int.toNat (w64 (8 * x4))) 64 then r8 ((x0 % 18446744073709551616 ||| UInt8.toNat z * 2 ^ Int.toNat (w64 (8 * x4)) % 18446744073709551616 % 18446744073709551616) % 18446744073709551616) x1 x2 x3 (w64 (x4 + 1)) x5 else none else none else octet_Reader_Number_rt x0 x1 x5
noncomputable def octet_Reader_Number_L8 (n : Nat)  : Nat → Nat → Int → List UInt8 → Int → Int → List UInt8 → Option octet_Reader_Number_R
  | 0, _, _, _, _, _, _ => none
  | m + 1, x0, x1, x2, x3, x4, x5 => octet_Reader_Number_L8F n  (octet_Reader_Number_L8 n  m)  x0 x1 x2 x3 x4 x5
noncomputable def octet_Reader_Number_J6F (n : Nat)  (l8 : (Nat → Int → List UInt8 → Int → Int → List UInt8 → Option octet_Reader_Number_R)) (x0 : Int) (x1 : Nat) (x2 : List UInt8) : Option octet_Reader_Number_R := Option.bind (octet_Reader_take n x0 x2) fun z => l8 x1 z.2.fst z.fst (↑(List.length z.fst) : Int) 0 z.2.2
noncomputable def octet_Reader_Number_J6 (n : Nat)  (x0 : Int) (x1 : Nat) (x2 : List UInt8) : Option octet_Reader_Number_R := octet_Reader_Number_J6F n  (octet_Reader_Number_L8 n  n) x0 x1 x2
noncomputable def octet_Reader_Number_F (n : Nat) (a1 : Int) (a2 : List UInt8) (j6 : (Int → Nat → List UInt8 → Option octet_Reader_Number_R)) : Option octet_Reader_Number_R := bif decide (a1 < 1) then octet_Reader_Number_rt ((0 : Nat)) 2 a2 else bif decide (8 < a1) then octet_Reader_Number_rt ((0 : Nat)) 2 a2 else j6 a1 ((0 : Nat)) a2
noncomputable def octet_Reader_Number (n : Nat) (a1 : Int) (a2 : List UInt8) : Option octet_Reader_Number_R := octet_Reader_Number_F n a1 a2 (octet_Reader_Number_J6 n)
noncomputable def octet_Reader_Number_L8q (n : Nat) (m8 : Nat) (T : AT) (s : AS) : Option octet_Reader_Number_R := match T, s with
  | [(4, (.n .u64 x0)), (5, (.i .i64 x1)), (6, (.s x2)), (25, (.i .i64 x3)), (26, (.i .i64 x4))], ⟨[(0, (.cells [(.s x5)] 94 (0, 0)))], 1, []⟩ => octet_Reader_Number_L8 n  m8 x0 x1 x2 x3 x4 x5
  | _, _ => none
noncomputable def octet_Reader_Number_J6q (n : Nat)  (T : AT) (s : AS) : Option octet_Reader_Number_R := match T, s with
  | [(0, (.ptr 0 0)), (1, (.i .i64 x0)), (4, (.n .u64 x1))], ⟨[(0, (.cells [(.s x2)] 94 (0, 0)))], 1, []⟩ => octet_Reader_Number_J6 n  x0 x1 x2
  | _, _ => none
noncomputable def octet_Reader_Number_jf (n : Nat) : List Nat → Nat → AT → AS → Option octet_Reader_Number_R := fun ms key T s => cond (Nat.beq key 6) (match ms with | [] => octet_Reader_Number_J6q n  T s | _ => none) (none)
noncomputable def octet_Reader_Number_lf (n : Nat) : List Nat → Nat → AT → AS → Option octet_Reader_Number_R := fun ms key T s => cond (Nat.beq key 8) (match ms with | [m8] => octet_Reader_Number_L8q n m8 T s | _ => none) (none)
noncomputable def octet_Reader_Number_E (n : Nat)   : SE octet_Reader_Number_R := octet_Reader_Number_E0 n octet_Reader_Number_R   (octet_Reader_Number_jf n) (octet_Reader_Number_lf n)
theorem octet_Reader_Number_eq (n : Nat) (a1 : Int) (a2 : List UInt8) : sxF cfg0 kd octet_Reader_Number_kr (octet_Reader_Number_E n  ) Try.f43 (bodyOf Try.f43) [(0, (.cells ([.s a2]) 94 (0, 0)))] [.ptr 0 0, .i .i64 a1] octet_Reader_Number_ret = octet_Reader_Number n a1 a2 := by kernel_rfl
theorem octet_Reader_Number_pv (n : Nat) (r : octet_Reader_Number_R) : PV cfg0 kd (octet_Reader_Number_E n  ) r [] (bodyOf Try.f43) (retK cfg0 kd octet_Reader_Number_kr (octet_Reader_Number_E n  ) Try.f43.results.toList octet_Reader_Number_ret) := by
  refine PV.sn (by kernel_rfl) ?_ ?_
  ·
    refine PV.sj (live := [0, 1, 4]) (by kernel_rfl) ?_ ?_ ?_
    · intro T s h; change octet_Reader_Number_J6q n  _ _ = some r at h; unfold octet_Reader_Number_J6q at h; split at h
      · exact Eq.trans (by kernel_rfl) h
      · cases h
    ·
      refine PV.sn (by kernel_rfl) ?_ ?_
      ·
        refine PV.sn (by kernel_rfl) ?_ ?_
        ·
          exact PV.triv (by kernel_rfl)
        ·
          refine PV.sn (by kernel_rfl) ?_ ?_
          ·
            refine PV.bl ?_
            refine PV.lp (live := [4, 5, 6, 25, 26]) (by kernel_rfl) ?_ ?_ ?_
            · intro T s h; change octet_Reader_Number_L8q n 0 _ _ = some r at h; unfold octet_Reader_Number_L8q at h; split at h
              · exact nomatch (show (none : Option octet_Reader_Number_R) = some r from h)
              · cases h
            · intro m8 T s h; change octet_Reader_Number_L8q n (m8 + 1) _ _ = some r at h; unfold octet_Reader_Number_L8q at h; split at h
              · exact Eq.trans (by kernel_rfl) h
              · cases h
            · intro m8
              exact PV.triv (by kernel_rfl)
          ·
            exact PV.triv (by kernel_rfl)
      ·
        exact PV.triv (by kernel_rfl)
    ·
      exact PV.triv (by kernel_rfl)
  ·
    exact PV.triv (by kernel_rfl)
noncomputable def octet_Reader_Number_ct (n : Nat) (vs : List AV) (h : AH) : Option Ctr := match vs, h with
  | [.ptr 0 0, .i .i64 a1], [(0, (.cells ([.s a2]) 94 (0, 0)))] => some (.one octet_Reader_Number_R (octet_Reader_Number n   a1 a2) [0] 0 octet_Reader_Number_out)
  | _, _ => none
theorem octet_Reader_Number_ok (n : Nat) : COk1 cfg0 43 (octet_Reader_Number_ct n) := by
  intro vs h c e
  unfold octet_Reader_Number_ct at e
  split at e
  · rename_i a1 a2
    cases e
    exact fun r hm => sxF_ok (E := octet_Reader_Number_E n  ) (nx1 := octet_Reader_Number_nx) (octet_Reader_Number_fn) rfl rfl rfl (callA_ok (octet_Reader_Number_pre_ok n)) octet_Reader_Number_ret_ok rfl (octet_Reader_Number_pv n   _) ((octet_Reader_Number_eq n   a1 a2).trans hm)
  · cases e
end
end Go.Ev
end
section
set_option linter.unusedVariables false
set_option linter.unusedSimpArgs false
set_option maxRecDepth 100000
set_option maxHeartbeats 400000
namespace Go.Ev
open Go.RowKit Go.Proofs
section
theorem frame_widths_fn : cfg0.fn 45 = some Try.f45 := rfl
abbrev frame_widths_R : Type := Int × Int × Int × Int × Int × Int × Int
@[reducible] def frame_widths_rt (b0 : Int) (b1 : Int) (b2 : Int) (b3 : Int) (b4 : Int) (b5 : Int) (b6 : Int) : Option frame_widths_R := some (b0, b1, b2, b3, b4, b5, b6)
noncomputable def frame_widths_out : frame_widths_R → AV × AH
  | (b0, b1, b2, b3, b4, b5, b6) => ((.ag [(.i .i64 b0), (.i .i64 b1), (.i .i64 b2), (.i .i64 b3), (.i .i64 b4), (.i .i64 b5), (.i .i64 b6)]), [])
noncomputable def frame_widths_nx : frame_widths_R → Nat
  | _ => 0
noncomputable def frame_widths_ret (v : AV) (h : AH) (nx : Nat) : Option frame_widths_R := match v, h, nx with
  | (.ag [(.i .i64 b0), (.i .i64 b1), (.i .i64 b2), (.i .i64 b3), (.i .i64 b4), (.i .i64 b5), (.i .i64 b6)]), [], 0 => some (b0, b1, b2, b3, b4, b5, b6)
  | _, _, _ => none
theorem frame_widths_ret_ok (v : AV) (h : AH) (nx : Nat) (r : frame_widths_R) (e : frame_widths_ret v h nx = some r) : frame_widths_out r = (v, h) ∧ nx = frame_widths_nx r := by
  unfold frame_widths_ret at e
  split at e
  · cases e; exact ⟨rfl, rfl⟩
  · cases e
noncomputable def frame_widths_kr : KN := []
noncomputable def frame_widths_pre (n : Nat) : CT := ctZ
theorem frame_widths_pre_ok (n : Nat) : COk cfg0 (frame_widths_pre n) := ctZ_ok
noncomputable def frame_widths_E0 (n : Nat) (R : Type)   (jf lf : List Nat → Nat → AT → AS → Option R) : SE R := ⟨[], Try.f45.ntmps, 0, callA cfg0 kd [] (frame_widths_pre n), n, [], [], [], [], jf, lf⟩
noncomputable def frame_widths_F (n : Nat)   : Option frame_widths_R := frame_widths_rt 4 1 1 2 4 4 8
noncomputable def frame_widths (n : Nat)  : Option frame_widths_R := frame_widths_F n  
noncomputable def frame_widths_jf (n : Nat) : List Nat → Nat → AT → AS → Option frame_widths_R := fun ms key T s => none
noncomputable def frame_widths_lf (n : Nat) : List Nat → Nat → AT → AS → Option frame_widths_R := fun ms key T s => none
noncomputable def frame_widths_E (n : Nat)   : SE frame_widths_R := frame_widths_E0 n frame_widths_R   (frame_widths_jf n) (frame_widths_lf n)
theorem frame_widths_eq (n : Nat) : sxF cfg0 kd frame_widths_kr (frame_widths_E n  ) Try.f45 (bodyOf Try.f45) [] [] frame_widths_ret = frame_widths n  := by kernel_rfl
theorem frame_widths_pv (n : Nat) (r : frame_widths_R) : PV cfg0 kd (frame_widths_E n  ) r [] (bodyOf Try.f45) (retK cfg0 kd frame_widths_kr (frame_widths_E n  ) Try.f45.results.toList frame_widths_ret) := by
  exact PV.triv (by kernel_rfl)
noncomputable def frame_widths_ct (n : Nat) (vs : List AV) (h : AH) : Option Ctr := match vs, h with
  | [], [] => some (.one frame_widths_R (frame_widths n   ) [] 0 frame_widths_out)
  | _, _ => none
theorem frame_widths_ok (n : Nat) : COk1 cfg0 45 (frame_widths_ct n) := by
  intro vs h c e
  unfold frame_widths_ct at e
  split at e
  · cases e
    exact fun r hm => sxF_ok (E := frame_widths_E n  ) (nx1 := frame_widths_nx) (frame_widths_fn) rfl rfl rfl (callA_ok (frame_widths_pre_ok n)) frame_widths_ret_ok rfl (frame_widths_pv n   _) ((frame_widths_eq n   ).trans hm)
  · cases e
end
end Go.Ev
end
section
set_option linter.unusedVariables false
set_option linter.unusedSimpArgs false
set_option maxRecDepth 100000
set_option maxHeartbeats 400000
namespace Go.Ev
open Go.RowKit Go.Proofs
section
theorem frame_head_fn : cfg0.fn 49 = some Try.f49 := rfl
abbrev frame_head_R0 : Type := Nat × Nat × Nat × Nat × Nat × Nat × Nat × (List UInt8)
abbrev frame_head_R1 : Type := (List UInt8)
abbrev frame_head_R : Type := frame_head_R0 ⊕ frame_head_R1
@[reducible] def frame_head_rt (b0 : Nat) (b1 : Nat) (b2 : Nat) (b3 : Nat) (b4 : Nat) (b5 : Nat) (b6 : Nat) (b7 : List UInt8) : Option frame_head_R := some (.inl (b0, b1, b2, b3, b4, b5, b6, b7))
@[reducible] def frame_head_rp (b0 : List UInt8) : Option frame_head_R := some (.inr b0)
noncomputable def frame_head_out : frame_head_R → AV × AH
  | (.inl (b0, b1, b2, b3, b4, b5, b6, b7)) => ((.ag [(.n .u64 b0), (.n .u64 b1), (.n .u64 b2), (.n .u64 b3), (.n .u64 b4), (.n .u64 b5), (.n .u64 b6)]), [(0, (.cells [(.s b7)] 94 (0, 0)))])
  | (.inr b0) => ((.pk (.ifc 82 (.ag []))), [(0, (.cells [(.s b0)] 94 (0, 0)))])
noncomputable def frame_head_nx : frame_head_R → Nat
  | (.inl _) => 1
  | (.inr _) => 1
noncomputable def frame_head_ret (v : AV) (h : AH) (nx : Nat) : Option frame_head_R := match v, h, nx with
  | (.ag [(.n .u64 b0), (.n .u64 b1), (.n .u64 b2), (.n .u64 b3), (.n .u64 b4), (.n .u64 b5), (.n .u64 b6)]), [(0, (.cells [(.s b7)] 94 (0, 0)))], 1 => some (.inl (b0, b1, b2, b3, b4, b5, b6, b7))
  | (.pk (.ifc 82 (.ag []))), [(0, (.cells [(.s b0)] 94 (0, 0)))], 1 => some (.inr b0)
  | _, _, _ => none
theorem frame_head_ret_ok (v : AV) (h : AH) (nx : Nat) (r : frame_head_R) (e : frame_head_ret v h nx = some r) : frame_head_out r = (v, h) ∧ nx = frame_head_nx r := by
  unfold frame_head_ret at e
  split at e
  · cases e; exact ⟨rfl, rfl⟩
  · cases e; exact ⟨rfl, rfl⟩
  · cases e
noncomputable def frame_head_kr : KN := []
noncomputable def frame_head_pre (n : Nat) : CT := (ctA 43 (octet_Reader_Number_ct n) (ctA 45 (frame_widths_ct n) ctZ))
theorem frame_head_pre_ok (n : Nat) : COk cfg0 (frame_head_pre n) := (ctA_ok (octet_Reader_Number_ok n) (ctA_ok (frame_widths_ok n) ctZ_ok))
noncomputable def frame_head_E0 (n : Nat) (R : Type)   (jf lf : List Nat → Nat → AT → AS → Option R) : SE R := ⟨[], Try.f49.ntmps, 1, callA cfg0 kd [] (frame_head_pre n), n, [(3, ([0, 2, 7, 8], 8))], [], [], [], jf, lf⟩
noncomputable def frame_head_F (n : Nat) (a1 : List UInt8)  : Option frame_head_R := Option.bind (octet_Reader_Number n 4 a1) fun z => bif decide (z.2.fst ≠ 0) then frame_head_rp z.2.2 else Option.bind (octet_Reader_Number n 1 z.2.2) fun z_1 => bif decide (z_1.2.fst ≠ 0) then frame_head_rp z_1.2.2 else Option.bind (octet_Reader_Number n 1 z_1.2.2) fun z_2 => bif decide (z_2.2.fst ≠ 0) then frame_head_rp z_2.2.2 else Option.bind (octet_Reader_Number n 2 z_2.2.2) fun z_3 => bif decide (z_3.2.fst ≠ 0) then frame_head_rp z_3.2.2 else Option.bind (octet_Reader_Number n 4 z_3.2.2) fun z_4 => bif decide (z_4.2.fst ≠ 0) then frame_head_rp z_4.2.2 else Option.bind (octet_Reader_Number n 4 z_4.2.2) fun z_5 => bif decide (z_5.2.fst ≠ 0) then frame_head_rp z_5.2.2 else Option.bind (octet_Reader_Number n 8 z_5.2.2) fun z_6 => bif decide (z_6.2.fst ≠ 0) then frame_head_rp z_6.2.2 else frame_head_rt z.fst z_1.fst z_2.fst z_3.fst z_4.fst z_5.fst z_6.fst z_6.2.2
noncomputable def frame_head (n : Nat) (a1 : List UInt8) : Option frame_head_R := frame_head_F n a1 
noncomputable def frame_head_jf (n : Nat) : List Nat → Nat → AT → AS → Option frame_head_R := fun ms key T s => none
noncomputable def frame_head_lf (n : Nat) : List Nat → Nat → AT → AS → Option frame_head_R := fun ms key T s => none
noncomputable def frame_head_E (n : Nat)   : SE frame_head_R := frame_head_E0 n frame_head_R   (frame_head_jf n) (frame_head_lf n)
theorem frame_head_eq (n : Nat) (a1 : List UInt8) : sxF cfg0 kd frame_head_kr (frame_head_E n  ) Try.f49 (bodyOf Try.f49) [(0, (.cells ([.s a1]) 94 (0, 0)))] [.ptr 0 0] frame_head_ret = frame_head n a1 := by kernel_rfl
theorem frame_head_pv (n : Nat) (r : frame_head_R) : PV cfg0 kd (frame_head_E n  ) r [] (bodyOf Try.f49) (retK cfg0 kd frame_head_kr (frame_head_E n  ) Try.f49.results.toList frame_head_ret) := by
  exact PV.triv (by kernel_rfl)
noncomputable def frame_head_ct (n : Nat) (vs : List AV) (h : AH) : Option Ctr := match vs, h with
  | [.ptr 0 0], [(0, (.cells ([.s a1]) 94 (0, 0)))] => some (.two frame_head_R0 frame_head_R1 (frame_head n   a1) [0] 0 0 (fun x => frame_head_out (.inl x)) (fun y => frame_head_out (.inr y)))
  | _, _ => none
theorem frame_head_ok (n : Nat) : COk1 cfg0 49 (frame_head_ct n) := by
  intro vs h c e
  unfold frame_head_ct at e
  split at e
  · rename_i a1
    cases e
    exact ⟨fun x hm => sxF_ok (E := frame_head_E n  ) (nx1 := frame_head_nx) (frame_head_fn) rfl rfl rfl (callA_ok (frame_head_pre_ok n)) frame_head_ret_ok rfl (frame_head_pv n   _) ((frame_head_eq n   a1).trans hm), fun y hm => sxF_ok (E := frame_head_E n  ) (nx1 := frame_head_nx) (frame_head_fn) rfl rfl rfl (callA_ok (frame_head_pre_ok n)) frame_head_ret_ok rfl (frame_head_pv n   _) ((frame_head_eq n   a1).trans hm)⟩
  · cases e
end
end Go.Ev
end
section
set_option linter.unusedVariables false
set_option linter.unusedSimpArgs false
set_option maxRecDepth 100000
set_option maxHeartbeats 400000
namespace Go.Ev
open Go.RowKit Go.Proofs
section
theorem octet_Reader_Rest_fn : cfg0.fn 50 = some Try.f50 := rfl
abbrev octet_Reader_Rest_R : Type := (List UInt8) × (List UInt8)
@[reducible] def octet_Reader_Rest_rt (b0 : List UInt8) (b1 : List UInt8) : Option octet_Reader_Rest_R := some (b0, b1)
noncomputable def octet_Reader_Rest_out : octet_Reader_Rest_R → AV × AH
  | (b0, b1) => ((.s b0), [(0, (.cells [(.s b1)] 94 (0, 0)))])
noncomputable def octet_Reader_Rest_nx : octet_Reader_Rest_R → Nat
  | _ => 1
noncomputable def octet_Reader_Rest_ret (v : AV) (h : AH) (nx : Nat) : Option octet_Reader_Rest_R := match v, h, nx with
  | (.s b0), [(0, (.cells [(.s b1)] 94 (0, 0)))], 1 => some (b0, b1)
  | _, _, _ => none
theorem octet_Reader_Rest_ret_ok (v : AV) (h : AH) (nx : Nat) (r : octet_Reader_Rest_R) (e : octet_Reader_Rest_ret v h nx = some r) : octet_Reader_Rest_out r = (v, h) ∧ nx = octet_Reader_Rest_nx r := by
  unfold octet_Reader_Rest_ret at e
  split at e
  · cases e; exact ⟨rfl, rfl⟩
  · cases e
noncomputable def octet_Reader_Rest_kr : KN := []
noncomputable def octet_Reader_Rest_pre (n : Nat) : CT := ctZ
theorem octet_Reader_Rest_pre_ok (n : Nat) : COk cfg0 (octet_Reader_Rest_pre n) := ctZ_ok
noncomputable def octet_Reader_Rest_E0 (n : Nat) (R : Type)   (jf lf : List Nat → Nat → AT → AS → Option R) : SE R := ⟨[], Try.f50.ntmps, 1, callA cfg0 kd [] (octet_Reader_Rest_pre n), n, [], [], [], [], jf, lf⟩
noncomputable def octet_Reader_Rest_F (n : Nat) (a1 : List UInt8)  : Option octet_Reader_Rest_R := octet_Reader_Rest_rt a1 a1
noncomputable def octet_Reader_Rest (n : Nat) (a1 : List UInt8) : Option octet_Reader_Rest_R := octet_Reader_Rest_F n a1 
noncomputable def octet_Reader_Rest_jf (n : Nat) : List Nat → Nat → AT → AS → Option octet_Reader_Rest_R := fun ms key T s => none
noncomputable def octet_Reader_Rest_lf (n : Nat) : List Nat → Nat → AT → AS → Option octet_Reader_Rest_R := fun ms key T s => none
noncomputable def octet_Reader_Rest_E (n : Nat)   : SE octet_Reader_Rest_R := octet_Reader_Rest_E0 n octet_Reader_Rest_R   (octet_Reader_Rest_jf n) (octet_Reader_Rest_lf n)
theorem octet_Reader_Rest_eq (n : Nat) (a1 : List UInt8) : sxF cfg0 kd octet_Reader_Rest_kr (octet_Reader_Rest_E n  ) Try.f50 (bodyOf Try.f50) [(0, (.cells ([.s a1]) 94 (0, 0)))] [.ptr 0 0] octet_Reader_Rest_ret = octet_Reader_Rest n a1 := by kernel_rfl
theorem octet_Reader_Rest_pv (n : Nat) (r : octet_Reader_Rest_R) : PV cfg0 kd (octet_Reader_Rest_E n  ) r [] (bodyOf Try.f50) (retK cfg0 kd octet_Reader_Rest_kr (octet_Reader_Rest_E n  ) Try.f50.results.toList octet_Reader_Rest_ret) := by
  exact PV.triv (by kernel_rfl)
noncomputable def octet_Reader_Rest_ct (n : Nat) (vs : List AV) (h : AH) : Option Ctr := match vs, h with
  | [.ptr 0 0], [(0, (.cells ([.s a1]) 94 (0, 0)))] => some (.one octet_Reader_Rest_R (octet_Reader_Rest n   a1) [0] 0 octet_Reader_Rest_out)
  | _, _ => none
theorem octet_Reader_Rest_ok (n : Nat) : COk1 cfg0 50 (octet_Reader_Rest_ct n) := by
  intro vs h c e
  unfold octet_Reader_Rest_ct at e
  split at e
  · rename_i a1
    cases e
    exact fun r hm => sxF_ok (E := octet_Reader_Rest_E n  ) (nx1 := octet_Reader_Rest_nx) (octet_Reader_Rest_fn) rfl rfl rfl (callA_ok (octet_Reader_Rest_pre_ok n)) octet_Reader_Rest_ret_ok rfl (octet_Reader_Rest_pv n   _) ((octet_Reader_Rest_eq n   a1).trans hm)
  · cases e
end
end Go.Ev
end
section
set_option linter.unusedVariables false
set_option linter.unusedSimpArgs false
set_option maxRecDepth 100000
set_option maxHeartbeats 400000
namespace Go.Ev
open Go.RowKit Go.Proofs
section
theorem frame_Get_fn : cfg0.fn 19 = some Try.f19 := rfl
abbrev frame_Get_R : Type := Pg × Int
@[reducible] def frame_Get_rt (b0 : Pg) (b1 : Int) : Option frame_Get_R := some (b0, b1)
noncomputable def frame_Get_out : frame_Get_R → AV × AH
  | (b0, b1) => ((.tu [(.ag (RK.k .page b0)), (.i .i64 b1)]), [])
noncomputable def frame_Get_nx : frame_Get_R → Nat
  | _ => 0
noncomputable def frame_Get_ret (v : AV) (h : AH) (nx : Nat) : Option frame_Get_R := match v, h, nx with
  | (.tu [(.ag [.i .i64 b0_0, .i .i64 b0_1, .n .u32 b0_2, .n .u32 b0_3, .n .u64 b0_4, .s b0_5]), (.i .i64 b1)]), [], 0 => some (⟨b0_0, b0_1, b0_2, b0_3, b0_4, b0_5⟩, b1)
  | _, _, _ => none
theorem frame_Get_ret_ok (v : AV) (h : AH) (nx : Nat) (r : frame_Get_R) (e : frame_Get_ret v h nx = some r) : frame_Get_out r = (v, h) ∧ nx = frame_Get_nx r := by
  unfold frame_Get_ret at e
  split at e
  · cases e; exact ⟨rfl, rfl⟩
  · cases e
noncomputable def frame_Get_kr : KN := []
noncomputable def frame_Get_pre (n : Nat) : CT := (ctA 42 (octet_New_ct n) (ctA 44 (frame_may_ct n) (ctA 46 (crc_Of_ct n) (ctA 48 (device_Good_ct n) (ctA 49 (frame_head_ct n) (ctA 50 (octet_Reader_Rest_ct n) ctZ))))))
theorem frame_Get_pre_ok (n : Nat) : COk cfg0 (frame_Get_pre n) := (ctA_ok (octet_New_ok n) (ctA_ok (frame_may_ok n) (ctA_ok (crc_Of_ok n) (ctA_ok (device_Good_ok n) (ctA_ok (frame_head_ok n) (ctA_ok (octet_Reader_Rest_ok n) ctZ_ok))))))
noncomputable def frame_Get_dfr : Dfr
  | none, h, 2 => some (none, h, 2)
  | some 82, [(1, .cells [.i .i64 e] 29 (0, 0)), (0, .cells [.i .i64 a, .i .i64 b, .n .u32 c, .n .u32 d, .n .u64 x, .s y] 27 (0, 0))], 2 => some (none, [(2, .cells [] 82 (0, 0)), (1, .cells [.i .i64 4] 29 (0, 0)), (0, .cells [.i .i64 0, .i .i64 0, .n .u32 0, .n .u32 0, .n .u64 0, .s []] 27 (0, 0))], 3)
  | _, _, _ => none
theorem frame_Get_dfr_ok : DfrOk cfg0 [] [.fn 47 [.ptr 0 0, .ptr 1 0]] (ev cfg0 dr0 20).1 (ev cfg0 dr0 20).2 frame_Get_dfr := by
  intro u h nx u' h' nx' e
  unfold frame_Get_dfr at e
  split at e
  · cases e; exact ⟨by kernel_rfl, .refl _⟩
  · cases e; exact ⟨by kernel_rfl, .new rfl (.old rfl (.old rfl .nil))⟩
  · cases e

noncomputable def frame_Get_E0 (n : Nat) (R : Type)   (jf lf : List Nat → Nat → AT → AS → Option R) : SE R := ⟨[], Try.f19.ntmps, 2, callA cfg0 kd [] (frame_Get_pre n), n, [], [(7, [0, 1, 2, 6, 7])], [], [.fn 47 [.ptr 0 0, .ptr 1 0]], jf, lf⟩
noncomputable def frame_Get_J7F (n : Nat)   (x0 : Int) (x1 : Nat) (x2 : List UInt8) (x3 : Int) (x4 : Pg) : Option frame_Get_R := Option.bind (frame_head n x2) fun z => sumE (fun z_1 => Option.bind (frame_may n x0 (Pg.mk (w64 (↑z_1.2.1 : Int)) (w64 (↑z_1.2.2.2.1 : Int)) (z_1.2.2.2.2.1 % 4294967296) (z_1.2.2.2.2.2.1 % 4294967296) z_1.2.2.2.2.2.2.1 z_1.2.2.2.2.2.2.2)) fun z_2 => bif !z_2 then frame_Get_rt (Pg.mk 0 0 0 0 0 []) 4 else bif decide (z_1.2.2.1 ≠ (1 : Nat)) then frame_Get_rt (Pg.mk 0 0 0 0 0 []) 4 else bif decide (z_1.2.2.2.2.1 % 4294967296 ≠ x1) then frame_Get_rt (Pg.mk 0 0 0 0 0 []) 4 else bif decide (0 ≤ 4) && decide ((4 : Nat) ≤ List.length x2) then Option.bind (crc_Of n (List.drop ((4 : Nat)) x2)) fun z_3 => bif decide (z_1.1 ≠ z_3 % 18446744073709551616) then frame_Get_rt (Pg.mk 0 0 0 0 0 []) 4 else frame_Get_rt (Pg.mk (w64 (↑z_1.2.1 : Int)) (w64 (↑z_1.2.2.2.1 : Int)) (z_1.2.2.2.2.1 % 4294967296) (z_1.2.2.2.2.2.1 % 4294967296) z_1.2.2.2.2.2.2.1 z_1.2.2.2.2.2.2.2) 0 else none) (fun z_1 => frame_Get_rt (Pg.mk 0 0 0 0 0 []) 4) z
noncomputable def frame_Get_J7 (n : Nat)  (x0 : Int) (x1 : Nat) (x2 : List UInt8) (x3 : Int) (x4 : Pg) : Option frame_Get_R := frame_Get_J7F n   x0 x1 x2 x3 x4
noncomputable def frame_Get_F (n : Nat) (a1 : Int) (a2 : Nat) (a3 : List UInt8) (j7 : (Int → Nat → List UInt8 → Int → Pg → Option frame_Get_R)) : Option frame_Get_R := Option.bind (device_Good n a1) fun z => bif !z then frame_Get_rt (Pg.mk 0 0 ((0 : Nat)) ((0 : Nat)) ((0 : Nat)) []) 2 else bif decide ((↑(List.length a3) : Int) ≠ a1) then frame_Get_rt (Pg.mk 0 0 0 0 0 []) 4 else j7 a1 a2 a3 0 (Pg.mk 0 0 ((0 : Nat)) ((0 : Nat)) ((0 : Nat)) [])
noncomputable def frame_Get (n : Nat) (a1 : Int) (a2 : Nat) (a3 : List UInt8) : Option frame_Get_R := frame_Get_F n a1 a2 a3 (frame_Get_J7 n)
noncomputable def frame_Get_J7q (n : Nat)  (T : AT) (s : AS) : Option frame_Get_R := match T, s with
  | [(0, (.i .i64 x0)), (1, (.n .u32 x1)), (2, (.s x2)), (6, (.ptr 0 0)), (7, (.ptr 1 0))], ⟨[(1, (.cells [(.i .i64 x3)] 29 (0, 0))), (0, (.cells [.i .i64 x4_0, .i .i64 x4_1, .n .u32 x4_2, .n .u32 x4_3, .n .u64 x4_4, .s x4_5] 27 (0, 0)))], 2, []⟩ => frame_Get_J7 n  x0 x1 x2 x3 ⟨x4_0, x4_1, x4_2, x4_3, x4_4, x4_5⟩
  | _, _ => none
noncomputable def frame_Get_jf (n : Nat) : List Nat → Nat → AT → AS → Option frame_Get_R := fun ms key T s => cond (Nat.beq key 7) (match ms with | [] => frame_Get_J7q n  T s | _ => none) (none)
noncomputable def frame_Get_lf (n : Nat) : List Nat → Nat → AT → AS → Option frame_Get_R := fun ms key T s => none
noncomputable def frame_Get_E (n : Nat)   : SE frame_Get_R := frame_Get_E0 n frame_Get_R   (frame_Get_jf n) (frame_Get_lf n)
theorem frame_Get_eq (n : Nat) (a1 : Int) (a2 : Nat) (a3 : List UInt8) : sxFD cfg0 kd frame_Get_kr (frame_Get_E n  ) 0 Try.f19 (opsD (bodyOf Try.f19)).toList (opD1 (bodyOf Try.f19)) (opD2 (bodyOf Try.f19)) (restD (bodyOf Try.f19)) [] [.i .i64 a1, .n .u32 a2, .s a3] frame_Get_dfr frame_Get_ret = frame_Get n a1 a2 a3 := by kernel_rfl
theorem frame_Get_pv (n : Nat) (r : frame_Get_R) : PV cfg0 kd (frame_Get_E n  ) r [] (restD (bodyOf Try.f19)) (retD cfg0 kd frame_Get_kr (frame_Get_E n  ) 0 Try.f19.results.toList frame_Get_dfr frame_Get_ret) := by
  refine PV.sj (live := [0, 1, 2, 6, 7]) (by kernel_rfl) ?_ ?_ ?_
  · intro T s h; change frame_Get_J7q n  _ _ = some r at h; unfold frame_Get_J7q at h; split at h
    · exact Eq.trans (by kernel_rfl) h
    · cases h
  ·
    exact PV.triv (by kernel_rfl)
  ·
    exact PV.triv (by kernel_rfl)
noncomputable def frame_Get_ct (n : Nat) (vs : List AV) (h : AH) : Option Ctr := match vs, h with
  | [.i .i64 a1, .n .u32 a2, .s a3], [] => some (.one frame_Get_R (frame_Get n   a1 a2 a3) [] 0 frame_Get_out)
  | _, _ => none
theorem frame_Get_ok (n : Nat) : COk1 cfg0 19 (frame_Get_ct n) := by
  intro vs h c e
  unfold frame_Get_ct at e
  split at e
  · rename_i a1 a2 a3
    cases e
    exact fun r hm => sxFD_ok (E := frame_Get_E n  ) (n0 := 0) (id0 := 0) (id1 := 1) (nx1 := frame_Get_nx) (evC_ok 20) (evS_ok 20) (frame_Get_fn) rfl rfl (callA_ok (frame_Get_pre_ok n)) frame_Get_dfr_ok frame_Get_ret_ok rfl (frame_Get_pv n   _) ((frame_Get_eq n   a1 a2 a3).trans hm)
  · cases e
end
end Go.Ev
end
section
set_option linter.unusedVariables false
set_option linter.unusedSimpArgs false
set_option maxRecDepth 100000
set_option maxHeartbeats 400000
namespace Go.Ev
open Go.RowKit Go.Proofs
section
theorem frame_Pages_fn : cfg0.fn 25 = some Try.f25 := rfl
abbrev frame_Pages_R : Type := Int
@[reducible] def frame_Pages_rt (b0 : Int) : Option frame_Pages_R := some b0
noncomputable def frame_Pages_out : frame_Pages_R → AV × AH
  | b0 => ((.i .i64 b0), [])
noncomputable def frame_Pages_nx : frame_Pages_R → Nat
  | _ => 0
noncomputable def frame_Pages_ret (v : AV) (h : AH) (nx : Nat) : Option frame_Pages_R := match v, h, nx with
  | (.i .i64 b0), [], 0 => some b0
  | _, _, _ => none
theorem frame_Pages_ret_ok (v : AV) (h : AH) (nx : Nat) (r : frame_Pages_R) (e : frame_Pages_ret v h nx = some r) : frame_Pages_out r = (v, h) ∧ nx = frame_Pages_nx r := by
  unfold frame_Pages_ret at e
  split at e
  · cases e; exact ⟨rfl, rfl⟩
  · cases e
noncomputable def frame_Pages_kr : KN := []
noncomputable def frame_Pages_pre (n : Nat) : CT := (ctA 48 (device_Good_ct n) ctZ)
theorem frame_Pages_pre_ok (n : Nat) : COk cfg0 (frame_Pages_pre n) := (ctA_ok (device_Good_ok n) ctZ_ok)
noncomputable def frame_Pages_E0 (n : Nat) (R : Type)   (jf lf : List Nat → Nat → AT → AS → Option R) : SE R := ⟨[], Try.f25.ntmps, 0, callA cfg0 kd [] (frame_Pages_pre n), n, [], [], [], [], jf, lf⟩
noncomputable def frame_Pages_F (n : Nat) (a1 : Int) (a2 : List UInt8)  : Option frame_Pages_R := Option.bind (device_Good n a1) fun z => bif !z then frame_Pages_rt 0 else bif decide (a1 ≠ 0) then frame_Pages_rt (w64 (Int.tdiv (↑(List.length a2) : Int) a1)) else none
noncomputable def frame_Pages (n : Nat) (a1 : Int) (a2 : List UInt8) : Option frame_Pages_R := frame_Pages_F n a1 a2 
noncomputable def frame_Pages_jf (n : Nat) : List Nat → Nat → AT → AS → Option frame_Pages_R := fun ms key T s => none
noncomputable def frame_Pages_lf (n : Nat) : List Nat → Nat → AT → AS → Option frame_Pages_R := fun ms key T s => none
noncomputable def frame_Pages_E (n : Nat)   : SE frame_Pages_R := frame_Pages_E0 n frame_Pages_R   (frame_Pages_jf n) (frame_Pages_lf n)
theorem frame_Pages_eq (n : Nat) (a1 : Int) (a2 : List UInt8) : sxF cfg0 kd frame_Pages_kr (frame_Pages_E n  ) Try.f25 (bodyOf Try.f25) [] [.i .i64 a1, .s a2] frame_Pages_ret = frame_Pages n a1 a2 := by kernel_rfl
theorem frame_Pages_pv (n : Nat) (r : frame_Pages_R) : PV cfg0 kd (frame_Pages_E n  ) r [] (bodyOf Try.f25) (retK cfg0 kd frame_Pages_kr (frame_Pages_E n  ) Try.f25.results.toList frame_Pages_ret) := by
  exact PV.triv (by kernel_rfl)
noncomputable def frame_Pages_ct (n : Nat) (vs : List AV) (h : AH) : Option Ctr := match vs, h with
  | [.i .i64 a1, .s a2], [] => some (.one frame_Pages_R (frame_Pages n   a1 a2) [] 0 frame_Pages_out)
  | _, _ => none
theorem frame_Pages_ok (n : Nat) : COk1 cfg0 25 (frame_Pages_ct n) := by
  intro vs h c e
  unfold frame_Pages_ct at e
  split at e
  · rename_i a1 a2
    cases e
    exact fun r hm => sxF_ok (E := frame_Pages_E n  ) (nx1 := frame_Pages_nx) (frame_Pages_fn) rfl rfl rfl (callA_ok (frame_Pages_pre_ok n)) frame_Pages_ret_ok rfl (frame_Pages_pv n   _) ((frame_Pages_eq n   a1 a2).trans hm)
  · cases e
end
end Go.Ev
end
section
set_option linter.unusedVariables false
set_option linter.unusedSimpArgs false
set_option maxRecDepth 100000
set_option maxHeartbeats 400000
namespace Go.Ev
open Go.RowKit Go.Proofs
section
theorem frame_At_fn : cfg0.fn 22 = some Try.f22 := rfl
abbrev frame_At_R : Type := (List UInt8) × Bool
@[reducible] def frame_At_rt (b0 : List UInt8) (b1 : Bool) : Option frame_At_R := some (b0, b1)
noncomputable def frame_At_out : frame_At_R → AV × AH
  | (b0, b1) => ((.tu [(.s b0), (.b b1)]), [])
noncomputable def frame_At_nx : frame_At_R → Nat
  | _ => 0
noncomputable def frame_At_ret (v : AV) (h : AH) (nx : Nat) : Option frame_At_R := match v, h, nx with
  | (.tu [(.s b0), (.b b1)]), [], 0 => some (b0, b1)
  | _, _, _ => none
theorem frame_At_ret_ok (v : AV) (h : AH) (nx : Nat) (r : frame_At_R) (e : frame_At_ret v h nx = some r) : frame_At_out r = (v, h) ∧ nx = frame_At_nx r := by
  unfold frame_At_ret at e
  split at e
  · cases e; exact ⟨rfl, rfl⟩
  · cases e
noncomputable def frame_At_kr : KN := []
noncomputable def frame_At_pre (n : Nat) : CT := (ctA 25 (frame_Pages_ct n) ctZ)
theorem frame_At_pre_ok (n : Nat) : COk cfg0 (frame_At_pre n) := (ctA_ok (frame_Pages_ok n) ctZ_ok)
noncomputable def frame_At_E0 (n : Nat) (R : Type)   (jf lf : List Nat → Nat → AT → AS → Option R) : SE R := ⟨[], Try.f22.ntmps, 0, callA cfg0 kd [] (frame_At_pre n), n, [], [], [], [], jf, lf⟩
noncomputable def frame_At_F (n : Nat) (a1 : Int) (a2 : List UInt8) (a3 : Nat)  : Option frame_At_R := Option.bind (frame_Pages n a1 a2) fun z => bif decide (u64 z ≤ a3 % 18446744073709551616) then frame_At_rt [] false else bif decide (0 ≤ w64 (w64 (↑a3 : Int) * a1)) && decide (0 ≤ w64 (w64 (w64 (↑a3 : Int) * a1) + a1)) && (decide (Int.toNat (w64 (w64 (↑a3 : Int) * a1)) ≤ Int.toNat (w64 (w64 (w64 (↑a3 : Int) * a1) + a1))) && decide (Int.toNat (w64 (w64 (w64 (↑a3 : Int) * a1) + a1)) ≤ List.length a2)) then frame_At_rt (List.take (Int.toNat (w64 (w64 (w64 (↑a3 : Int) * a1) + a1)) - Int.toNat (w64 (w64 (↑a3 : Int) * a1))) (List.drop (Int.toNat (w64 (w64 (↑a3 : Int) * a1))) a2)) true else none
noncomputable def frame_At (n : Nat) (a1 : Int) (a2 : List UInt8) (a3 : Nat) : Option frame_At_R := frame_At_F n a1 a2 a3 
noncomputable def frame_At_jf (n : Nat) : List Nat → Nat → AT → AS → Option frame_At_R := fun ms key T s => none
noncomputable def frame_At_lf (n : Nat) : List Nat → Nat → AT → AS → Option frame_At_R := fun ms key T s => none
noncomputable def frame_At_E (n : Nat)   : SE frame_At_R := frame_At_E0 n frame_At_R   (frame_At_jf n) (frame_At_lf n)
theorem frame_At_eq (n : Nat) (a1 : Int) (a2 : List UInt8) (a3 : Nat) : sxF cfg0 kd frame_At_kr (frame_At_E n  ) Try.f22 (bodyOf Try.f22) [] [.i .i64 a1, .s a2, .n .u32 a3] frame_At_ret = frame_At n a1 a2 a3 := by kernel_rfl
theorem frame_At_pv (n : Nat) (r : frame_At_R) : PV cfg0 kd (frame_At_E n  ) r [] (bodyOf Try.f22) (retK cfg0 kd frame_At_kr (frame_At_E n  ) Try.f22.results.toList frame_At_ret) := by
  exact PV.triv (by kernel_rfl)
noncomputable def frame_At_ct (n : Nat) (vs : List AV) (h : AH) : Option Ctr := match vs, h with
  | [.i .i64 a1, .s a2, .n .u32 a3], [] => some (.one frame_At_R (frame_At n   a1 a2 a3) [] 0 frame_At_out)
  | _, _ => none
theorem frame_At_ok (n : Nat) : COk1 cfg0 22 (frame_At_ct n) := by
  intro vs h c e
  unfold frame_At_ct at e
  split at e
  · rename_i a1 a2 a3
    cases e
    exact fun r hm => sxF_ok (E := frame_At_E n  ) (nx1 := frame_At_nx) (frame_At_fn) rfl rfl rfl (callA_ok (frame_At_pre_ok n)) frame_At_ret_ok rfl (frame_At_pv n   _) ((frame_At_eq n   a1 a2 a3).trans hm)
  · cases e
end
end Go.Ev
end
section
set_option linter.unusedVariables false
set_option linter.unusedSimpArgs false
set_option maxRecDepth 100000
set_option maxHeartbeats 400000
namespace Go.Ev
open Go.RowKit Go.Proofs
section
theorem frame_Read_fn : cfg0.fn 24 = some Try.f24 := rfl
abbrev frame_Read_R : Type := Pg × Int
@[reducible] def frame_Read_rt (b0 : Pg) (b1 : Int) : Option frame_Read_R := some (b0, b1)
noncomputable def frame_Read_out : frame_Read_R → AV × AH
  | (b0, b1) => ((.tu [(.ag (RK.k .page b0)), (.i .i64 b1)]), [])
noncomputable def frame_Read_nx : frame_Read_R → Nat
  | _ => 0
noncomputable def frame_Read_ret (v : AV) (h : AH) (nx : Nat) : Option frame_Read_R := match v, h, nx with
  | (.tu [(.ag [.i .i64 b0_0, .i .i64 b0_1, .n .u32 b0_2, .n .u32 b0_3, .n .u64 b0_4, .s b0_5]), (.i .i64 b1)]), [], 0 => some (⟨b0_0, b0_1, b0_2, b0_3, b0_4, b0_5⟩, b1)
  | _, _, _ => none
theorem frame_Read_ret_ok (v : AV) (h : AH) (nx : Nat) (r : frame_Read_R) (e : frame_Read_ret v h nx = some r) : frame_Read_out r = (v, h) ∧ nx = frame_Read_nx r := by
  unfold frame_Read_ret at e
  split at e
  · cases e; exact ⟨rfl, rfl⟩
  · cases e
noncomputable def frame_Read_kr : KN := []
noncomputable def frame_Read_pre (n : Nat) : CT := (ctA 19 (frame_Get_ct n) (ctA 22 (frame_At_ct n) (ctA 48 (device_Good_ct n) ctZ)))
theorem frame_Read_pre_ok (n : Nat) : COk cfg0 (frame_Read_pre n) := (ctA_ok (frame_Get_ok n) (ctA_ok (frame_At_ok n) (ctA_ok (device_Good_ok n) ctZ_ok)))
noncomputable def frame_Read_E0 (n : Nat) (R : Type)   (jf lf : List Nat → Nat → AT → AS → Option R) : SE R := ⟨[], Try.f24.ntmps, 0, callA cfg0 kd [] (frame_Read_pre n), n, [], [], [], [], jf, lf⟩
noncomputable def frame_Read_F (n : Nat) (a1 : Int) (a2 : List UInt8) (a3 : Nat)  : Option frame_Read_R := Option.bind (device_Good n a1) fun z => bif !z then frame_Read_rt (Pg.mk 0 0 ((0 : Nat)) ((0 : Nat)) ((0 : Nat)) []) 2 else Option.bind (frame_At n a1 a2 a3) fun z_1 => bif !z_1.snd then frame_Read_rt (Pg.mk 0 0 ((0 : Nat)) ((0 : Nat)) ((0 : Nat)) []) 5 else Option.bind (frame_Get n a1 a3 z_1.fst) fun z_2 => frame_Read_rt z_2.fst z_2.snd
noncomputable def frame_Read (n : Nat) (a1 : Int) (a2 : List UInt8) (a3 : Nat) : Option frame_Read_R := frame_Read_F n a1 a2 a3 
noncomputable def frame_Read_jf (n : Nat) : List Nat → Nat → AT → AS → Option frame_Read_R := fun ms key T s => none
noncomputable def frame_Read_lf (n : Nat) : List Nat → Nat → AT → AS → Option frame_Read_R := fun ms key T s => none
noncomputable def frame_Read_E (n : Nat)   : SE frame_Read_R := frame_Read_E0 n frame_Read_R   (frame_Read_jf n) (frame_Read_lf n)
theorem frame_Read_eq (n : Nat) (a1 : Int) (a2 : List UInt8) (a3 : Nat) : sxF cfg0 kd frame_Read_kr (frame_Read_E n  ) Try.f24 (bodyOf Try.f24) [] [.i .i64 a1, .s a2, .n .u32 a3] frame_Read_ret = frame_Read n a1 a2 a3 := by kernel_rfl
theorem frame_Read_pv (n : Nat) (r : frame_Read_R) : PV cfg0 kd (frame_Read_E n  ) r [] (bodyOf Try.f24) (retK cfg0 kd frame_Read_kr (frame_Read_E n  ) Try.f24.results.toList frame_Read_ret) := by
  exact PV.triv (by kernel_rfl)
noncomputable def frame_Read_ct (n : Nat) (vs : List AV) (h : AH) : Option Ctr := match vs, h with
  | [.i .i64 a1, .s a2, .n .u32 a3], [] => some (.one frame_Read_R (frame_Read n   a1 a2 a3) [] 0 frame_Read_out)
  | _, _ => none
theorem frame_Read_ok (n : Nat) : COk1 cfg0 24 (frame_Read_ct n) := by
  intro vs h c e
  unfold frame_Read_ct at e
  split at e
  · rename_i a1 a2 a3
    cases e
    exact fun r hm => sxF_ok (E := frame_Read_E n  ) (nx1 := frame_Read_nx) (frame_Read_fn) rfl rfl rfl (callA_ok (frame_Read_pre_ok n)) frame_Read_ret_ok rfl (frame_Read_pv n   _) ((frame_Read_eq n   a1 a2 a3).trans hm)
  · cases e
end
end Go.Ev
end
section
set_option linter.unusedVariables false
set_option linter.unusedSimpArgs false
set_option maxRecDepth 100000
set_option maxHeartbeats 400000
namespace Go.Ev
open Go.RowKit Go.Proofs
section
theorem octet_Put_fn : cfg0.fn 40 = some Try.f40 := rfl
abbrev octet_Put_R : Type := (List (UInt8))
@[reducible] def octet_Put_rt (b0 : List (UInt8)) : Option octet_Put_R := some b0
noncomputable def octet_Put_out : octet_Put_R → AV × AH
  | b0 => ((.sl 1 1), [(1, (.row .u8 0 b0 5 (0, 0)))])
noncomputable def octet_Put_nx : octet_Put_R → Nat
  | _ => 2
noncomputable def octet_Put_ret (v : AV) (h : AH) (nx : Nat) : Option octet_Put_R := match v, h, nx with
  | (.sl 1 1), [(1, (.row .u8 0 b0 5 (0, 0)))], 2 => some b0
  | _, _, _ => none
theorem octet_Put_ret_ok (v : AV) (h : AH) (nx : Nat) (r : octet_Put_R) (e : octet_Put_ret v h nx = some r) : octet_Put_out r = (v, h) ∧ nx = octet_Put_nx r := by
  unfold octet_Put_ret at e
  split at e
  · cases e; exact ⟨rfl, rfl⟩
  · cases e
noncomputable def octet_Put_kr : KN := [((0, 0), (.u8, 5))]
noncomputable def octet_Put_pre (n : Nat) : CT := ctZ
theorem octet_Put_pre_ok (n : Nat) : COk cfg0 (octet_Put_pre n) := ctZ_ok
noncomputable def octet_Put_E0 (n : Nat) (R : Type) (o1 : Nat) (f1 : Nat × Nat) (a1 : List UInt8) (jf lf : List Nat → Nat → AT → AS → Option R) : SE R := ⟨[(0, (.row .u8 o1 a1 5 f1))], Try.f40.ntmps, 1, callA cfg0 kd [(0, (.row .u8 o1 a1 5 f1))] (octet_Put_pre n), n, [(6, ([1, 7, 22, 23], 0))], [(5, [1, 2, 7])], [], [], jf, lf⟩
noncomputable def octet_Put_L6F (n : Nat) (a1 : List UInt8) (r6 : (Nat → Int → Int → List (UInt8) → Option octet_Put_R))  (x0 : Nat) (x1 : Int) (x2 : Int) (x3 : List (UInt8)) : Option octet_Put_R := bif decide (x2 < x1) then bif decide (0 ≤ w64 (8 * x2)) && Nat.ble (Int.toNat (w64 (8 * x2))) 64 then bif Nat.ble (List.length x3 + List.length [UInt8.ofNat (x0 / 2 ^ Int.toNat (w64 (8 * x2)))]) 100000000 then r6 x0 x1 (w64 (x2 + 1)) (x3 ++ [UInt8.ofNat (x0 / 2 ^ Int.toNat (w64 (8 * x2)))]) else none else none else octet_Put_rt x3
noncomputable def octet_Put_L6 (n : Nat) (a1 : List UInt8)  : Nat → Nat → Int → Int → List (UInt8) → Option octet_Put_R
  | 0, _, _, _, _ => none
  | m + 1, x0, x1, x2, x3 => octet_Put_L6F n a1  (octet_Put_L6 n a1  m)  x0 x1 x2 x3
noncomputable def octet_Put_J5F (n : Nat) (a1 : List UInt8)  (l6 : (Nat → Int → Int → List (UInt8) → Option octet_Put_R)) (x0 : Nat) (x1 : Int) (x2 : List (UInt8)) : Option octet_Put_R := l6 x0 x1 0 x2
noncomputable def octet_Put_J5 (n : Nat) (a1 : List UInt8)  (x0 : Nat) (x1 : Int) (x2 : List (UInt8)) : Option octet_Put_R := octet_Put_J5F n a1  (octet_Put_L6 n a1  n) x0 x1 x2
noncomputable def octet_Put_F (n : Nat) (a1 : List UInt8) (a2 : Nat) (a3 : Int) (j5 : (Nat → Int → List (UInt8) → Option octet_Put_R)) : Option octet_Put_R := bif decide (0 ≤ 0) && decide (0 ≤ w64 ((↑(List.length a1) : Int) + 8)) && (Nat.ble ((0 : Nat)) (Int.toNat (w64 ((↑(List.length a1) : Int) + 8))) && Nat.ble (Int.toNat (w64 ((↑(List.length a1) : Int) + 8))) 100000000) then bif Nat.ble (List.length (List.replicate ((0 : Nat)) (UInt8.ofNat ((0 : Nat)))) + List.length a1) 100000000 then bif decide (a3 < 1) then octet_Put_rt (List.replicate ((0 : Nat)) (UInt8.ofNat ((0 : Nat))) ++ a1) else bif decide (8 < a3) then octet_Put_rt (List.replicate ((0 : Nat)) (UInt8.ofNat ((0 : Nat))) ++ a1) else j5 a2 a3 (List.replicate ((0 : Nat)) (UInt8.ofNat ((0 : Nat))) ++ a1) else none else none
noncomputable def octet_Put (n : Nat) (a1 : List UInt8) (a2 : Nat) (a3 : Int) : Option octet_Put_R := octet_Put_F n a1 a2 a3 (octet_Put_J5 n a1)
noncomputable def octet_Put_L6q (n : Nat) (a1 : List UInt8) (m6 : Nat) (T : AT) (s : AS) : Option octet_Put_R := match T, s with
  | [(1, (.n .u64 x0)), (7, (.sl 1 1)), (22, (.i .i64 x1)), (23, (.i .i64 x2))], ⟨[(1, (.row .u8 0 x3 5 (0, 0)))], 2, []⟩ => octet_Put_L6 n a1  m6 x0 x1 x2 x3
  | _, _ => none
noncomputable def octet_Put_J5q (n : Nat) (a1 : List UInt8)  (T : AT) (s : AS) : Option octet_Put_R := match T, s with
  | [(1, (.n .u64 x0)), (2, (.i .i64 x1)), (7, (.sl 1 1))], ⟨[(1, (.row .u8 0 x2 5 (0, 0)))], 2, []⟩ => octet_Put_J5 n a1  x0 x1 x2
  | _, _ => none
noncomputable def octet_Put_jf (n : Nat) (a1 : List UInt8) : List Nat → Nat → AT → AS → Option octet_Put_R := fun ms key T s => cond (Nat.beq key 5) (match ms with | [] => octet_Put_J5q n a1  T s | _ => none) (none)
noncomputable def octet_Put_lf (n : Nat) (a1 : List UInt8) : List Nat → Nat → AT → AS → Option octet_Put_R := fun ms key T s => cond (Nat.beq key 6) (match ms with | [m6] => octet_Put_L6q n a1 m6 T s | _ => none) (none)
noncomputable def octet_Put_E (n : Nat) (o1 : Nat) (f1 : Nat × Nat) (a1 : List UInt8) : SE octet_Put_R := octet_Put_E0 n octet_Put_R o1 f1 a1 (octet_Put_jf n a1) (octet_Put_lf n a1)
theorem octet_Put_eq (n : Nat) (o1 : Nat) (f1 : Nat × Nat) (a1 : List UInt8) (a2 : Nat) (a3 : Int) : sxF cfg0 kd octet_Put_kr (octet_Put_E n o1 f1 a1) Try.f40 (bodyOf Try.f40) [] [.sl 0 1, .n .u64 a2, .i .i64 a3] octet_Put_ret = octet_Put n a1 a2 a3 := by kernel_rfl
theorem octet_Put_pv (n : Nat) (o1 : Nat) (f1 : Nat × Nat) (a1 : List UInt8) (r : octet_Put_R) : PV cfg0 kd (octet_Put_E n o1 f1 a1) r [] (bodyOf Try.f40) (retK cfg0 kd octet_Put_kr (octet_Put_E n o1 f1 a1) Try.f40.results.toList octet_Put_ret) := by
  refine PV.sn (by kernel_rfl) ?_ ?_
  ·
    refine PV.sn (by kernel_rfl) ?_ ?_
    ·
      refine PV.sj (live := [1, 2, 7]) (by kernel_rfl) ?_ ?_ ?_
      · intro T s h; change octet_Put_J5q n a1  _ _ = some r at h; unfold octet_Put_J5q at h; split at h
        · exact Eq.trans (by kernel_rfl) h
        · cases h
      ·
        refine PV.sn (by kernel_rfl) ?_ ?_
        ·
          exact PV.triv (by kernel_rfl)
        ·
          refine PV.sn (by kernel_rfl) ?_ ?_
          ·
            refine PV.bl ?_
            refine PV.lp (live := [1, 7, 22, 23]) (by kernel_rfl) ?_ ?_ ?_
            · intro T s h; change octet_Put_L6q n a1 0 _ _ = some r at h; unfold octet_Put_L6q at h; split at h
              · exact nomatch (show (none : Option octet_Put_R) = some r from h)
              · cases h
            · intro m6 T s h; change octet_Put_L6q n a1 (m6 + 1) _ _ = some r at h; unfold octet_Put_L6q at h; split at h
              · exact Eq.trans (by kernel_rfl) h
              · cases h
            · intro m6
              exact PV.triv (by kernel_rfl)
          ·
            exact PV.triv (by kernel_rfl)
      ·
        exact PV.triv (by kernel_rfl)
    ·
      exact PV.triv (by kernel_rfl)
  ·
    exact PV.triv (by kernel_rfl)
noncomputable def octet_Put_ct (n : Nat) (vs : List AV) (h : AH) : Option Ctr := match vs, h with
  | [.sl 0 1, .n .u64 a2, .i .i64 a3], [(0, (.row .u8 o1 a1 5 f1))] => some (.one octet_Put_R (octet_Put n  a1 a2 a3) [] 1 octet_Put_out)
  | _, _ => none
theorem octet_Put_ok (n : Nat) : COk1 cfg0 40 (octet_Put_ct n) := by
  intro vs h c e
  unfold octet_Put_ct at e
  split at e
  · rename_i a2 a3 o1 a1 f1
    cases e
    exact fun r hm => sxF_ok (E := octet_Put_E n o1 f1 a1) (nx1 := octet_Put_nx) (octet_Put_fn) rfl rfl rfl (callA_ok (octet_Put_pre_ok n)) octet_Put_ret_ok rfl (octet_Put_pv n o1 f1 a1 _) ((octet_Put_eq n o1 f1 a1 a2 a3).trans hm)
  · cases e
end
end Go.Ev
end
section
set_option linter.unusedVariables false
set_option linter.unusedSimpArgs false
set_option maxRecDepth 100000
set_option maxHeartbeats 400000
namespace Go.Ev
open Go.RowKit Go.Proofs
section
theorem frame_Put_fn : cfg0.fn 17 = some Try.f17 := rfl
abbrev frame_Put_R : Type := (List UInt8) × Int
@[reducible] def frame_Put_rt (b0 : List UInt8) (b1 : Int) : Option frame_Put_R := some (b0, b1)
noncomputable def frame_Put_out : frame_Put_R → AV × AH
  | (b0, b1) => ((.tu [(.s b0), (.i .i64 b1)]), [])
noncomputable def frame_Put_nx : frame_Put_R → Nat
  | _ => 0
noncomputable def frame_Put_ret (v : AV) (h : AH) (nx : Nat) : Option frame_Put_R := match v, h, nx with
  | (.tu [(.s b0), (.i .i64 b1)]), [], 0 => some (b0, b1)
  | _, _, _ => none
theorem frame_Put_ret_ok (v : AV) (h : AH) (nx : Nat) (r : frame_Put_R) (e : frame_Put_ret v h nx = some r) : frame_Put_out r = (v, h) ∧ nx = frame_Put_nx r := by
  unfold frame_Put_ret at e
  split at e
  · cases e; exact ⟨rfl, rfl⟩
  · cases e
noncomputable def frame_Put_kr : KN := []
noncomputable def frame_Put_pre (n : Nat) : CT := (ctA 40 (octet_Put_ct n) (ctA 44 (frame_may_ct n) (ctA 45 (frame_widths_ct n) (ctA 46 (crc_Of_ct n) ctZ))))
theorem frame_Put_pre_ok (n : Nat) : COk cfg0 (frame_Put_pre n) := (ctA_ok (octet_Put_ok n) (ctA_ok (frame_may_ok n) (ctA_ok (frame_widths_ok n) (ctA_ok (crc_Of_ok n) ctZ_ok))))
noncomputable def frame_Put_E0 (n : Nat) (R : Type)   (jf lf : List Nat → Nat → AT → AS → Option R) : SE R := ⟨[], Try.f17.ntmps, 0, callA cfg0 kd [] (frame_Put_pre n), n, [(6, ([3, 6, 28, 29], 8))], [], [], [], jf, lf⟩
noncomputable def frame_Put_F (n : Nat) (a1 : Int) (a2 : Pg)  : Option frame_Put_R := Option.bind (frame_may n a1 (Pg.mk a2.kind a2.count a2.page a2.link a2.tx a2.body)) fun z => bif !z then frame_Put_rt [] 2 else Option.bind (octet_Put n [] ((0 : Nat)) 4) fun z_1 => Option.bind (octet_Put n z_1 (u64 a2.kind) 1) fun z_2 => Option.bind (octet_Put n z_2 ((1 : Nat)) 1) fun z_3 => Option.bind (octet_Put n z_3 (u64 a2.count) 2) fun z_4 => Option.bind (octet_Put n z_4 (a2.page % 18446744073709551616) 4) fun z_5 => Option.bind (octet_Put n z_5 (a2.link % 18446744073709551616) 4) fun z_6 => Option.bind (octet_Put n z_6 a2.tx 8) fun z_7 => bif decide (0 ≤ 4) && decide ((4 : Nat) ≤ List.length z_7) then bif decide (List.length (List.drop ((4 : Nat)) z_7) + List.length a2.body ≤ 4611686018427387904) then Option.bind (crc_Of n (List.drop ((4 : Nat)) z_7 ++ a2.body)) fun z_8 => Option.bind (octet_Put n [] (z_8 % 18446744073709551616) 4) fun z_9 => bif decide (List.length z_9 + List.length (List.drop ((4 : Nat)) z_7 ++ a2.body) ≤ 4611686018427387904) then frame_Put_rt (z_9 ++ (List.drop ((4 : Nat)) z_7 ++ a2.body)) 0 else none else none else none
noncomputable def frame_Put (n : Nat) (a1 : Int) (a2 : Pg) : Option frame_Put_R := frame_Put_F n a1 a2 
noncomputable def frame_Put_jf (n : Nat) : List Nat → Nat → AT → AS → Option frame_Put_R := fun ms key T s => none
noncomputable def frame_Put_lf (n : Nat) : List Nat → Nat → AT → AS → Option frame_Put_R := fun ms key T s => none
noncomputable def frame_Put_E (n : Nat)   : SE frame_Put_R := frame_Put_E0 n frame_Put_R   (frame_Put_jf n) (frame_Put_lf n)
theorem frame_Put_eq (n : Nat) (a1 : Int) (a2 : Pg) : sxF cfg0 kd frame_Put_kr (frame_Put_E n  ) Try.f17 (bodyOf Try.f17) [] [.i .i64 a1, .ag (RK.k .page a2)] frame_Put_ret = frame_Put n a1 a2 := by kernel_rfl
theorem frame_Put_pv (n : Nat) (r : frame_Put_R) : PV cfg0 kd (frame_Put_E n  ) r [] (bodyOf Try.f17) (retK cfg0 kd frame_Put_kr (frame_Put_E n  ) Try.f17.results.toList frame_Put_ret) := by
  exact PV.triv (by kernel_rfl)
noncomputable def frame_Put_ct (n : Nat) (vs : List AV) (h : AH) : Option Ctr := match vs, h with
  | [.i .i64 a1, .ag [.i .i64 a2_0, .i .i64 a2_1, .n .u32 a2_2, .n .u32 a2_3, .n .u64 a2_4, .s a2_5]], [] => some (.one frame_Put_R (frame_Put n   a1 ⟨a2_0, a2_1, a2_2, a2_3, a2_4, a2_5⟩) [] 0 frame_Put_out)
  | _, _ => none
theorem frame_Put_ok (n : Nat) : COk1 cfg0 17 (frame_Put_ct n) := by
  intro vs h c e
  unfold frame_Put_ct at e
  split at e
  · rename_i a1 a2_0 a2_1 a2_2 a2_3 a2_4 a2_5
    cases e
    exact fun r hm => sxF_ok (E := frame_Put_E n  ) (nx1 := frame_Put_nx) (frame_Put_fn) rfl rfl rfl (callA_ok (frame_Put_pre_ok n)) frame_Put_ret_ok rfl (frame_Put_pv n   _) ((frame_Put_eq n   a1 ⟨a2_0, a2_1, a2_2, a2_3, a2_4, a2_5⟩).trans hm)
  · cases e
end
end Go.Ev
end
section
set_option linter.unusedVariables false
set_option linter.unusedSimpArgs false
set_option maxRecDepth 100000
set_option maxHeartbeats 400000
namespace Go.Ev
open Go.RowKit Go.Proofs
section
theorem frame_Body_fn : cfg0.fn 21 = some Try.f21 := rfl
abbrev frame_Body_R : Type := (List UInt8) × Int
@[reducible] def frame_Body_rt (b0 : List UInt8) (b1 : Int) : Option frame_Body_R := some (b0, b1)
noncomputable def frame_Body_out : frame_Body_R → AV × AH
  | (b0, b1) => ((.tu [(.s b0), (.i .i64 b1)]), [])
noncomputable def frame_Body_nx : frame_Body_R → Nat
  | _ => 1
noncomputable def frame_Body_ret (v : AV) (h : AH) (nx : Nat) : Option frame_Body_R := match v, h, nx with
  | (.tu [(.s b0), (.i .i64 b1)]), [], 1 => some (b0, b1)
  | _, _, _ => none
theorem frame_Body_ret_ok (v : AV) (h : AH) (nx : Nat) (r : frame_Body_R) (e : frame_Body_ret v h nx = some r) : frame_Body_out r = (v, h) ∧ nx = frame_Body_nx r := by
  unfold frame_Body_ret at e
  split at e
  · cases e; exact ⟨rfl, rfl⟩
  · cases e
noncomputable def frame_Body_kr : KN := []
noncomputable def frame_Body_pre (n : Nat) : CT := (ctA 26 (frame_Room_ct n) (ctA 48 (device_Good_ct n) ctZ))
theorem frame_Body_pre_ok (n : Nat) : COk cfg0 (frame_Body_pre n) := (ctA_ok (frame_Room_ok n) (ctA_ok (device_Good_ok n) ctZ_ok))
noncomputable def frame_Body_E0 (n : Nat) (R : Type) (o1 : Nat) (f1 : Nat × Nat) (a2 : List UInt8) (jf lf : List Nat → Nat → AT → AS → Option R) : SE R := ⟨[(0, (.row .u8 o1 a2 5 f1))], Try.f21.ntmps, 1, callA cfg0 kd [(0, (.row .u8 o1 a2 5 f1))] (frame_Body_pre n), n, [], [], [], [], jf, lf⟩
noncomputable def frame_Body_F (n : Nat) (a2 : List UInt8) (a1 : Int)  : Option frame_Body_R := Option.bind (device_Good n a1) fun z => bif !z then frame_Body_rt [] 2 else Option.bind (frame_Room n a1) fun z_1 => bif decide (z_1 < (↑(List.length a2) : Int)) then frame_Body_rt [] 3 else Option.bind (frame_Room n a1) fun z_2 => bif decide (0 ≤ z_2) && decide (0 ≤ z_2) && (Nat.ble (Int.toNat z_2) (Int.toNat z_2) && Nat.ble (Int.toNat z_2) 100000000) then bif Nat.ble 1 (List.length (List.replicate (Int.toNat z_2) (UInt8.ofNat ((0 : Nat))))) then frame_Body_rt (List.take (Nat.min (List.length a2) (List.length (List.replicate (Int.toNat z_2) (UInt8.ofNat ((0 : Nat)))))) a2 ++ List.drop (Nat.min (List.length a2) (List.length (List.replicate (Int.toNat z_2) (UInt8.ofNat ((0 : Nat)))))) (List.replicate (Int.toNat z_2) (UInt8.ofNat ((0 : Nat))))) 0 else none else none
noncomputable def frame_Body (n : Nat) (a2 : List UInt8) (a1 : Int) : Option frame_Body_R := frame_Body_F n a2 a1 
noncomputable def frame_Body_jf (n : Nat) (a2 : List UInt8) : List Nat → Nat → AT → AS → Option frame_Body_R := fun ms key T s => none
noncomputable def frame_Body_lf (n : Nat) (a2 : List UInt8) : List Nat → Nat → AT → AS → Option frame_Body_R := fun ms key T s => none
noncomputable def frame_Body_E (n : Nat) (o1 : Nat) (f1 : Nat × Nat) (a2 : List UInt8) : SE frame_Body_R := frame_Body_E0 n frame_Body_R o1 f1 a2 (frame_Body_jf n a2) (frame_Body_lf n a2)
theorem frame_Body_eq (n : Nat) (o1 : Nat) (f1 : Nat × Nat) (a2 : List UInt8) (a1 : Int) : sxF cfg0 kd frame_Body_kr (frame_Body_E n o1 f1 a2) Try.f21 (bodyOf Try.f21) [] [.i .i64 a1, .sl 0 1] frame_Body_ret = frame_Body n a2 a1 := by kernel_rfl
theorem frame_Body_pv (n : Nat) (o1 : Nat) (f1 : Nat × Nat) (a2 : List UInt8) (r : frame_Body_R) : PV cfg0 kd (frame_Body_E n o1 f1 a2) r [] (bodyOf Try.f21) (retK cfg0 kd frame_Body_kr (frame_Body_E n o1 f1 a2) Try.f21.results.toList frame_Body_ret) := by
  exact PV.triv (by kernel_rfl)
noncomputable def frame_Body_ct (n : Nat) (vs : List AV) (h : AH) : Option Ctr := match vs, h with
  | [.i .i64 a1, .sl 0 1], [(0, (.row .u8 o1 a2 5 f1))] => some (.one frame_Body_R (frame_Body n  a2 a1) [] 0 frame_Body_out)
  | _, _ => none
theorem frame_Body_ok (n : Nat) : COk1 cfg0 21 (frame_Body_ct n) := by
  intro vs h c e
  unfold frame_Body_ct at e
  split at e
  · rename_i a1 o1 a2 f1
    cases e
    exact fun r hm => sxF_ok (E := frame_Body_E n o1 f1 a2) (nx1 := frame_Body_nx) (frame_Body_fn) rfl rfl rfl (callA_ok (frame_Body_pre_ok n)) frame_Body_ret_ok rfl (frame_Body_pv n o1 f1 a2 _) ((frame_Body_eq n o1 f1 a2 a1).trans hm)
  · cases e
end
end Go.Ev
end
section
set_option linter.unusedVariables false
set_option linter.unusedSimpArgs false
set_option maxRecDepth 100000
set_option maxHeartbeats 400000
namespace Go.Ev
open Go.RowKit Go.Proofs
section
theorem meta_Slot_fn : cfg0.fn 15 = some Try.f15 := rfl
abbrev meta_Slot_R : Type := Nat
@[reducible] def meta_Slot_rt (b0 : Nat) : Option meta_Slot_R := some b0
noncomputable def meta_Slot_out : meta_Slot_R → AV × AH
  | b0 => ((.n .u32 b0), [])
noncomputable def meta_Slot_nx : meta_Slot_R → Nat
  | _ => 0
noncomputable def meta_Slot_ret (v : AV) (h : AH) (nx : Nat) : Option meta_Slot_R := match v, h, nx with
  | (.n .u32 b0), [], 0 => some b0
  | _, _, _ => none
theorem meta_Slot_ret_ok (v : AV) (h : AH) (nx : Nat) (r : meta_Slot_R) (e : meta_Slot_ret v h nx = some r) : meta_Slot_out r = (v, h) ∧ nx = meta_Slot_nx r := by
  unfold meta_Slot_ret at e
  split at e
  · cases e; exact ⟨rfl, rfl⟩
  · cases e
noncomputable def meta_Slot_kr : KN := []
noncomputable def meta_Slot_pre (n : Nat) : CT := ctZ
theorem meta_Slot_pre_ok (n : Nat) : COk cfg0 (meta_Slot_pre n) := ctZ_ok
noncomputable def meta_Slot_E0 (n : Nat) (R : Type)   (jf lf : List Nat → Nat → AT → AS → Option R) : SE R := ⟨[], Try.f15.ntmps, 0, callA cfg0 kd [] (meta_Slot_pre n), n, [], [], [], [], jf, lf⟩
noncomputable def meta_Slot_F (n : Nat) (a1 : Nat)  : Option meta_Slot_R := meta_Slot_rt ((a1 % 18446744073709551616 &&& (1 : Nat) % 18446744073709551616) % 18446744073709551616 % 4294967296)
noncomputable def meta_Slot (n : Nat) (a1 : Nat) : Option meta_Slot_R := meta_Slot_F n a1 
noncomputable def meta_Slot_jf (n : Nat) : List Nat → Nat → AT → AS → Option meta_Slot_R := fun ms key T s => none
noncomputable def meta_Slot_lf (n : Nat) : List Nat → Nat → AT → AS → Option meta_Slot_R := fun ms key T s => none
noncomputable def meta_Slot_E (n : Nat)   : SE meta_Slot_R := meta_Slot_E0 n meta_Slot_R   (meta_Slot_jf n) (meta_Slot_lf n)
theorem meta_Slot_eq (n : Nat) (a1 : Nat) : sxF cfg0 kd meta_Slot_kr (meta_Slot_E n  ) Try.f15 (bodyOf Try.f15) [] [.n .u64 a1] meta_Slot_ret = meta_Slot n a1 := by kernel_rfl
theorem meta_Slot_pv (n : Nat) (r : meta_Slot_R) : PV cfg0 kd (meta_Slot_E n  ) r [] (bodyOf Try.f15) (retK cfg0 kd meta_Slot_kr (meta_Slot_E n  ) Try.f15.results.toList meta_Slot_ret) := by
  exact PV.triv (by kernel_rfl)
noncomputable def meta_Slot_ct (n : Nat) (vs : List AV) (h : AH) : Option Ctr := match vs, h with
  | [.n .u64 a1], [] => some (.one meta_Slot_R (meta_Slot n   a1) [] 0 meta_Slot_out)
  | _, _ => none
theorem meta_Slot_ok (n : Nat) : COk1 cfg0 15 (meta_Slot_ct n) := by
  intro vs h c e
  unfold meta_Slot_ct at e
  split at e
  · rename_i a1
    cases e
    exact fun r hm => sxF_ok (E := meta_Slot_E n  ) (nx1 := meta_Slot_nx) (meta_Slot_fn) rfl rfl rfl (callA_ok (meta_Slot_pre_ok n)) meta_Slot_ret_ok rfl (meta_Slot_pv n   _) ((meta_Slot_eq n   a1).trans hm)
  · cases e
end
end Go.Ev
end
section
set_option linter.unusedVariables false
set_option linter.unusedSimpArgs false
set_option maxRecDepth 100000
set_option maxHeartbeats 400000
namespace Go.Ev
open Go.RowKit Go.Proofs
section
theorem meta_may_1_fn : cfg0.fn 62 = some Try.f62 := rfl
abbrev meta_may_1_R : Type := Bool × Mta
@[reducible] def meta_may_1_rt (b0 : Bool) (b1 : Mta) : Option meta_may_1_R := some (b0, b1)
noncomputable def meta_may_1_out : meta_may_1_R → AV × AH
  | (b0, b1) => ((.b b0), [(0, (.cells (RK.k .mta b1) 25 (0, 0)))])
noncomputable def meta_may_1_nx : meta_may_1_R → Nat
  | _ => 1
noncomputable def meta_may_1_ret (v : AV) (h : AH) (nx : Nat) : Option meta_may_1_R := match v, h, nx with
  | (.b b0), [(0, (.cells [.n .u64 b1_0, .i .i64 b1_1, .n .u32 b1_2, .n .u32 b1_3, .n .u32 b1_4] 25 (0, 0)))], 1 => some (b0, ⟨b1_0, b1_1, b1_2, b1_3, b1_4⟩)
  | _, _, _ => none
theorem meta_may_1_ret_ok (v : AV) (h : AH) (nx : Nat) (r : meta_may_1_R) (e : meta_may_1_ret v h nx = some r) : meta_may_1_out r = (v, h) ∧ nx = meta_may_1_nx r := by
  unfold meta_may_1_ret at e
  split at e
  · cases e; exact ⟨rfl, rfl⟩
  · cases e
noncomputable def meta_may_1_kr : KN := []
noncomputable def meta_may_1_pre (n : Nat) : CT := ctZ
theorem meta_may_1_pre_ok (n : Nat) : COk cfg0 (meta_may_1_pre n) := ctZ_ok
noncomputable def meta_may_1_E0 (n : Nat) (R : Type)   (jf lf : List Nat → Nat → AT → AS → Option R) : SE R := ⟨[], Try.f62.ntmps, 1, callA cfg0 kd [] (meta_may_1_pre n), n, [], [], [], [], jf, lf⟩
noncomputable def meta_may_1_F (n : Nat) (a1 : Nat) (a2 : Mta)  : Option meta_may_1_R := bif decide (a1 < a2.pages) then meta_may_1_rt (decide (a1 ≠ (1 : Nat))) a2 else meta_may_1_rt false a2
noncomputable def meta_may_1 (n : Nat) (a1 : Nat) (a2 : Mta) : Option meta_may_1_R := meta_may_1_F n a1 a2 
noncomputable def meta_may_1_jf (n : Nat) : List Nat → Nat → AT → AS → Option meta_may_1_R := fun ms key T s => none
noncomputable def meta_may_1_lf (n : Nat) : List Nat → Nat → AT → AS → Option meta_may_1_R := fun ms key T s => none
noncomputable def meta_may_1_E (n : Nat)   : SE meta_may_1_R := meta_may_1_E0 n meta_may_1_R   (meta_may_1_jf n) (meta_may_1_lf n)
theorem meta_may_1_eq (n : Nat) (a1 : Nat) (a2 : Mta) : sxF cfg0 kd meta_may_1_kr (meta_may_1_E n  ) Try.f62 (bodyOf Try.f62) [(0, (.cells (RK.k .mta a2) 25 (0, 0)))] [.n .u32 a1, .ptr 0 0] meta_may_1_ret = meta_may_1 n a1 a2 := by kernel_rfl
theorem meta_may_1_pv (n : Nat) (r : meta_may_1_R) : PV cfg0 kd (meta_may_1_E n  ) r [] (bodyOf Try.f62) (retK cfg0 kd meta_may_1_kr (meta_may_1_E n  ) Try.f62.results.toList meta_may_1_ret) := by
  exact PV.triv (by kernel_rfl)
noncomputable def meta_may_1_ct (n : Nat) (vs : List AV) (h : AH) : Option Ctr := match vs, h with
  | [.n .u32 a1, .ptr 0 0], [(0, (.cells [.n .u64 a2_0, .i .i64 a2_1, .n .u32 a2_2, .n .u32 a2_3, .n .u32 a2_4] 25 (0, 0)))] => some (.one meta_may_1_R (meta_may_1 n   a1 ⟨a2_0, a2_1, a2_2, a2_3, a2_4⟩) [0] 0 meta_may_1_out)
  | _, _ => none
theorem meta_may_1_ok (n : Nat) : COk1 cfg0 62 (meta_may_1_ct n) := by
  intro vs h c e
  unfold meta_may_1_ct at e
  split at e
  · rename_i a1 a2_0 a2_1 a2_2 a2_3 a2_4
    cases e
    exact fun r hm => sxF_ok (E := meta_may_1_E n  ) (nx1 := meta_may_1_nx) (meta_may_1_fn) rfl rfl rfl (callA_ok (meta_may_1_pre_ok n)) meta_may_1_ret_ok rfl (meta_may_1_pv n   _) ((meta_may_1_eq n   a1 ⟨a2_0, a2_1, a2_2, a2_3, a2_4⟩).trans hm)
  · cases e
end
end Go.Ev
end
section
set_option linter.unusedVariables false
set_option linter.unusedSimpArgs false
set_option maxRecDepth 100000
set_option maxHeartbeats 400000
namespace Go.Ev
open Go.RowKit Go.Proofs
section
theorem meta_may_fn : cfg0.fn 39 = some Try.f39 := rfl
abbrev meta_may_R : Type := Bool
@[reducible] def meta_may_rt (b0 : Bool) : Option meta_may_R := some b0
noncomputable def meta_may_out : meta_may_R → AV × AH
  | b0 => ((.b b0), [])
noncomputable def meta_may_nx : meta_may_R → Nat
  | _ => 0
noncomputable def meta_may_ret (v : AV) (h : AH) (nx : Nat) : Option meta_may_R := match v, h, nx with
  | (.b b0), [], 0 => some b0
  | _, _, _ => none
theorem meta_may_ret_ok (v : AV) (h : AH) (nx : Nat) (r : meta_may_R) (e : meta_may_ret v h nx = some r) : meta_may_out r = (v, h) ∧ nx = meta_may_nx r := by
  unfold meta_may_ret at e
  split at e
  · cases e; exact ⟨rfl, rfl⟩
  · cases e
noncomputable def meta_may_kr : KN := []
noncomputable def meta_may_pre (n : Nat) : CT := (ctA 48 (device_Good_ct n) (ctA 62 (meta_may_1_ct n) ctZ))
theorem meta_may_pre_ok (n : Nat) : COk cfg0 (meta_may_pre n) := (ctA_ok (device_Good_ok n) (ctA_ok (meta_may_1_ok n) ctZ_ok))
noncomputable def meta_may_E0 (n : Nat) (R : Type)   (jf lf : List Nat → Nat → AT → AS → Option R) : SE R := ⟨[], Try.f39.ntmps, 0, callA cfg0 kd [] (meta_may_pre n), n, [], [], [], [], jf, lf⟩
noncomputable def meta_may_F (n : Nat) (a1 : Mta)  : Option meta_may_R := bif decide (a1.tx ≤ (4611686018427387904 : Nat)) then Option.bind (device_Good n a1.size) fun z => bif z then bif decide ((2 : Nat) ≤ a1.pages) then bif decide (a1.pages ≤ (2147483647 : Nat)) then Option.bind (meta_may_1 n a1.root (Mta.mk a1.tx a1.size a1.root a1.free a1.pages)) fun z_1 => bif z_1.fst then Option.bind (meta_may_1 n z_1.snd.free (Mta.mk z_1.2.tx z_1.2.size z_1.2.root z_1.2.free z_1.2.pages)) fun z_2 => meta_may_rt z_2.1 else meta_may_rt false else meta_may_rt false else meta_may_rt false else meta_may_rt false else meta_may_rt false
noncomputable def meta_may (n : Nat) (a1 : Mta) : Option meta_may_R := meta_may_F n a1 
noncomputable def meta_may_jf (n : Nat) : List Nat → Nat → AT → AS → Option meta_may_R := fun ms key T s => none
noncomputable def meta_may_lf (n : Nat) : List Nat → Nat → AT → AS → Option meta_may_R := fun ms key T s => none
noncomputable def meta_may_E (n : Nat)   : SE meta_may_R := meta_may_E0 n meta_may_R   (meta_may_jf n) (meta_may_lf n)
theorem meta_may_eq (n : Nat) (a1 : Mta) : sxF cfg0 kd meta_may_kr (meta_may_E n  ) Try.f39 (bodyOf Try.f39) [] [.ag (RK.k .mta a1)] meta_may_ret = meta_may n a1 := by kernel_rfl
theorem meta_may_pv (n : Nat) (r : meta_may_R) : PV cfg0 kd (meta_may_E n  ) r [] (bodyOf Try.f39) (retK cfg0 kd meta_may_kr (meta_may_E n  ) Try.f39.results.toList meta_may_ret) := by
  exact PV.triv (by kernel_rfl)
noncomputable def meta_may_ct (n : Nat) (vs : List AV) (h : AH) : Option Ctr := match vs, h with
  | [.ag [.n .u64 a1_0, .i .i64 a1_1, .n .u32 a1_2, .n .u32 a1_3, .n .u32 a1_4]], [] => some (.one meta_may_R (meta_may n   ⟨a1_0, a1_1, a1_2, a1_3, a1_4⟩) [] 0 meta_may_out)
  | _, _ => none
theorem meta_may_ok (n : Nat) : COk1 cfg0 39 (meta_may_ct n) := by
  intro vs h c e
  unfold meta_may_ct at e
  split at e
  · rename_i a1_0 a1_1 a1_2 a1_3 a1_4
    cases e
    exact fun r hm => sxF_ok (E := meta_may_E n  ) (nx1 := meta_may_nx) (meta_may_fn) rfl rfl rfl (callA_ok (meta_may_pre_ok n)) meta_may_ret_ok rfl (meta_may_pv n   _) ((meta_may_eq n   ⟨a1_0, a1_1, a1_2, a1_3, a1_4⟩).trans hm)
  · cases e
end
end Go.Ev
end
section
set_option linter.unusedVariables false
set_option linter.unusedSimpArgs false
set_option maxRecDepth 100000
set_option maxHeartbeats 400000
namespace Go.Ev
open Go.RowKit Go.Proofs
section
theorem meta_Page_fn : cfg0.fn 13 = some Try.f13 := rfl
abbrev meta_Page_R : Type := Pg × Int
@[reducible] def meta_Page_rt (b0 : Pg) (b1 : Int) : Option meta_Page_R := some (b0, b1)
noncomputable def meta_Page_out : meta_Page_R → AV × AH
  | (b0, b1) => ((.tu [(.ag (RK.k .page b0)), (.i .i64 b1)]), [])
noncomputable def meta_Page_nx : meta_Page_R → Nat
  | _ => 0
noncomputable def meta_Page_ret (v : AV) (h : AH) (nx : Nat) : Option meta_Page_R := match v, h, nx with
  | (.tu [(.ag [.i .i64 b0_0, .i .i64 b0_1, .n .u32 b0_2, .n .u32 b0_3, .n .u64 b0_4, .s b0_5]), (.i .i64 b1)]), [], 0 => some (⟨b0_0, b0_1, b0_2, b0_3, b0_4, b0_5⟩, b1)
  | _, _, _ => none
theorem meta_Page_ret_ok (v : AV) (h : AH) (nx : Nat) (r : meta_Page_R) (e : meta_Page_ret v h nx = some r) : meta_Page_out r = (v, h) ∧ nx = meta_Page_nx r := by
  unfold meta_Page_ret at e
  split at e
  · cases e; exact ⟨rfl, rfl⟩
  · cases e
noncomputable def meta_Page_kr : KN := []
noncomputable def meta_Page_pre (n : Nat) : CT := (ctA 15 (meta_Slot_ct n) (ctA 21 (frame_Body_ct n) (ctA 39 (meta_may_ct n) (ctA 40 (octet_Put_ct n) ctZ))))
theorem meta_Page_pre_ok (n : Nat) : COk cfg0 (meta_Page_pre n) := (ctA_ok (meta_Slot_ok n) (ctA_ok (frame_Body_ok n) (ctA_ok (meta_may_ok n) (ctA_ok (octet_Put_ok n) ctZ_ok))))
noncomputable def meta_Page_E0 (n : Nat) (R : Type)   (jf lf : List Nat → Nat → AT → AS → Option R) : SE R := ⟨[], Try.f13.ntmps, 0, callA cfg0 kd [] (meta_Page_pre n), n, [(6, ([1, 2, 4, 25, 26, 27], 0))], [], [], [], jf, lf⟩
noncomputable def meta_Page_L6F (n : Nat) (r6 : (Int → Int → List (Nat) → List UInt8 → Pg → Mta → Option meta_Page_R))  (x0 : Int) (x1 : Int) (x2 : List (Nat)) (x3 : List UInt8) (x4 : Pg) (x5 : Mta) : Option meta_Page_R := bif decide (x1 < x0) then bif decide (0 ≤ x1) && decide (Int.toNat x1 < List.length x2) then Option.bind x2[Int.toNat x1]? fun z => Option.bind (octet_Put n x3 (z % 18446744073709551616) 4) fun z_1 => r6 x0 (w64 (x1 + 1)) x2 z_1 x4 x5 else none else Option.bind (frame_Body n x3 x5.size) fun z => meta_Page_rt (Pg.mk 1 0 ((x5.tx % 18446744073709551616 &&& 1 % 18446744073709551616) % 18446744073709551616 % 4294967296) ((0 : Nat)) x5.tx z.fst) 0
noncomputable def meta_Page_L6 (n : Nat)  : Nat → Int → Int → List (Nat) → List UInt8 → Pg → Mta → Option meta_Page_R
  | 0, _, _, _, _, _, _ => none
  | m + 1, x0, x1, x2, x3, x4, x5 => meta_Page_L6F n  (meta_Page_L6 n  m)  x0 x1 x2 x3 x4 x5
noncomputable def meta_Page_F (n : Nat) (a1 : Mta) (l6 : (Int → Int → List (Nat) → List UInt8 → Pg → Mta → Option meta_Page_R)) : Option meta_Page_R := Option.bind (meta_may n (Mta.mk a1.tx a1.size a1.root a1.free a1.pages)) fun z => bif !z then meta_Page_rt (Pg.mk 0 0 ((0 : Nat)) ((0 : Nat)) ((0 : Nat)) []) 2 else Option.bind (octet_Put n [UInt8.ofNat ((99 : Nat)), UInt8.ofNat ((97 : Nat)), UInt8.ofNat ((114 : Nat)), UInt8.ofNat ((101 : Nat)), UInt8.ofNat ((101 : Nat)), UInt8.ofNat ((110 : Nat)), UInt8.ofNat ((48 : Nat)), UInt8.ofNat ((49 : Nat))] (u64 a1.size) 2) fun z_1 => l6 (↑(List.length [a1.root, a1.free, a1.pages]) : Int) 0 [a1.root, a1.free, a1.pages] z_1 (Pg.mk 0 0 ((0 : Nat)) ((0 : Nat)) ((0 : Nat)) []) a1
noncomputable def meta_Page (n : Nat) (a1 : Mta) : Option meta_Page_R := meta_Page_F n a1 (meta_Page_L6 n n)
noncomputable def meta_Page_L6q (n : Nat) (m6 : Nat) (T : AT) (s : AS) : Option meta_Page_R := match T, s with
  | [(1, (.ptr 0 0)), (2, (.ptr 1 0)), (4, (.sl 2 1)), (25, (.sl 3 1)), (26, (.i .i64 x0)), (27, (.i .i64 x1))], ⟨[(3, (.row .u32 0 x2 23 (0, 0))), (2, (.row .u8 0 x3 5 (0, 0))), (1, (.cells [.i .i64 x4_0, .i .i64 x4_1, .n .u32 x4_2, .n .u32 x4_3, .n .u64 x4_4, .s x4_5] 27 (0, 0))), (0, (.cells [.n .u64 x5_0, .i .i64 x5_1, .n .u32 x5_2, .n .u32 x5_3, .n .u32 x5_4] 25 (0, 0)))], 4, []⟩ => meta_Page_L6 n  m6 x0 x1 x2 x3 ⟨x4_0, x4_1, x4_2, x4_3, x4_4, x4_5⟩ ⟨x5_0, x5_1, x5_2, x5_3, x5_4⟩
  | _, _ => none
noncomputable def meta_Page_jf (n : Nat) : List Nat → Nat → AT → AS → Option meta_Page_R := fun ms key T s => none
noncomputable def meta_Page_lf (n : Nat) : List Nat → Nat → AT → AS → Option meta_Page_R := fun ms key T s => cond (Nat.beq key 6) (match ms with | [m6] => meta_Page_L6q n m6 T s | _ => none) (none)
noncomputable def meta_Page_E (n : Nat)   : SE meta_Page_R := meta_Page_E0 n meta_Page_R   (meta_Page_jf n) (meta_Page_lf n)
theorem meta_Page_eq (n : Nat) (a1 : Mta) : sxF cfg0 kd meta_Page_kr (meta_Page_E n  ) Try.f13 (bodyOf Try.f13) [] [.ag (RK.k .mta a1)] meta_Page_ret = meta_Page n a1 := by kernel_rfl
theorem meta_Page_pv (n : Nat) (r : meta_Page_R) : PV cfg0 kd (meta_Page_E n  ) r [] (bodyOf Try.f13) (retK cfg0 kd meta_Page_kr (meta_Page_E n  ) Try.f13.results.toList meta_Page_ret) := by
  refine PV.sn (by kernel_rfl) ?_ ?_
  ·
    refine PV.sn (by kernel_rfl) ?_ ?_
    ·
      refine PV.sn (by kernel_rfl) ?_ ?_
      ·
        refine PV.sn (by kernel_rfl) ?_ ?_
        ·
          exact PV.triv (by kernel_rfl)
        ·
          refine PV.sn (by kernel_rfl) ?_ ?_
          ·
            refine PV.bl ?_
            refine PV.lp (live := [1, 2, 4, 25, 26, 27]) (by kernel_rfl) ?_ ?_ ?_
            · intro T s h; change meta_Page_L6q n 0 _ _ = some r at h; unfold meta_Page_L6q at h; split at h
              · exact nomatch (show (none : Option meta_Page_R) = some r from h)
              · cases h
            · intro m6 T s h; change meta_Page_L6q n (m6 + 1) _ _ = some r at h; unfold meta_Page_L6q at h; split at h
              · exact Eq.trans (by kernel_rfl) h
              · cases h
            · intro m6
              exact PV.triv (by kernel_rfl)
          ·
            exact PV.triv (by kernel_rfl)
      ·
        exact PV.triv (by kernel_rfl)
    ·
      exact PV.triv (by kernel_rfl)
  ·
    exact PV.triv (by kernel_rfl)
noncomputable def meta_Page_ct (n : Nat) (vs : List AV) (h : AH) : Option Ctr := match vs, h with
  | [.ag [.n .u64 a1_0, .i .i64 a1_1, .n .u32 a1_2, .n .u32 a1_3, .n .u32 a1_4]], [] => some (.one meta_Page_R (meta_Page n   ⟨a1_0, a1_1, a1_2, a1_3, a1_4⟩) [] 0 meta_Page_out)
  | _, _ => none
theorem meta_Page_ok (n : Nat) : COk1 cfg0 13 (meta_Page_ct n) := by
  intro vs h c e
  unfold meta_Page_ct at e
  split at e
  · rename_i a1_0 a1_1 a1_2 a1_3 a1_4
    cases e
    exact fun r hm => sxF_ok (E := meta_Page_E n  ) (nx1 := meta_Page_nx) (meta_Page_fn) rfl rfl rfl (callA_ok (meta_Page_pre_ok n)) meta_Page_ret_ok rfl (meta_Page_pv n   _) ((meta_Page_eq n   ⟨a1_0, a1_1, a1_2, a1_3, a1_4⟩).trans hm)
  · cases e
end
end Go.Ev
end
section
set_option linter.unusedVariables false
set_option linter.unusedSimpArgs false
set_option maxRecDepth 100000
set_option maxHeartbeats 400000
namespace Go.Ev
open Go.RowKit Go.Proofs
section
theorem internal_stringslite_HasPrefix_fn : cfg0.fn 69 = some Try.f69 := rfl
abbrev internal_stringslite_HasPrefix_R : Type := Bool
@[reducible] def internal_stringslite_HasPrefix_rt (b0 : Bool) : Option internal_stringslite_HasPrefix_R := some b0
noncomputable def internal_stringslite_HasPrefix_out : internal_stringslite_HasPrefix_R → AV × AH
  | b0 => ((.b b0), [])
noncomputable def internal_stringslite_HasPrefix_nx : internal_stringslite_HasPrefix_R → Nat
  | _ => 0
noncomputable def internal_stringslite_HasPrefix_ret (v : AV) (h : AH) (nx : Nat) : Option internal_stringslite_HasPrefix_R := match v, h, nx with
  | (.b b0), [], 0 => some b0
  | _, _, _ => none
theorem internal_stringslite_HasPrefix_ret_ok (v : AV) (h : AH) (nx : Nat) (r : internal_stringslite_HasPrefix_R) (e : internal_stringslite_HasPrefix_ret v h nx = some r) : internal_stringslite_HasPrefix_out r = (v, h) ∧ nx = internal_stringslite_HasPrefix_nx r := by
  unfold internal_stringslite_HasPrefix_ret at e
  split at e
  · cases e; exact ⟨rfl, rfl⟩
  · cases e
noncomputable def internal_stringslite_HasPrefix_kr : KN := []
noncomputable def internal_stringslite_HasPrefix_pre (n : Nat) : CT := ctZ
theorem internal_stringslite_HasPrefix_pre_ok (n : Nat) : COk cfg0 (internal_stringslite_HasPrefix_pre n) := ctZ_ok
noncomputable def internal_stringslite_HasPrefix_E0 (n : Nat) (R : Type)   (jf lf : List Nat → Nat → AT → AS → Option R) : SE R := ⟨[], Try.f69.ntmps, 0, callA cfg0 kd [] (internal_stringslite_HasPrefix_pre n), n, [], [], [], [], jf, lf⟩
noncomputable def internal_stringslite_HasPrefix_F (n : Nat) (a1 : List UInt8) (a2 : List UInt8)  : Option internal_stringslite_HasPrefix_R := bif decide ((↑(List.length a2) : Int) ≤ (↑(List.length a1) : Int)) then bif decide (0 ≤ (↑(List.length a2) : Int)) && decide (Int.toNat (↑(List.length a2) : Int) ≤ List.length a1) then internal_stringslite_HasPrefix_rt (decide (List.take (Int.toNat (↑(List.length a2) : Int)) a1 = a2)) else none else internal_stringslite_HasPrefix_rt false
noncomputable def internal_stringslite_HasPrefix (n : Nat) (a1 : List UInt8) (a2 : List UInt8) : Option internal_stringslite_HasPrefix_R := internal_stringslite_HasPrefix_F n a1 a2 
noncomputable def internal_stringslite_HasPrefix_jf (n : Nat) : List Nat → Nat → AT → AS → Option internal_stringslite_HasPrefix_R := fun ms key T s => none
noncomputable def internal_stringslite_HasPrefix_lf (n : Nat) : List Nat → Nat → AT → AS → Option internal_stringslite_HasPrefix_R := fun ms key T s => none
noncomputable def internal_stringslite_HasPrefix_E (n : Nat)   : SE internal_stringslite_HasPrefix_R := internal_stringslite_HasPrefix_E0 n internal_stringslite_HasPrefix_R   (internal_stringslite_HasPrefix_jf n) (internal_stringslite_HasPrefix_lf n)
theorem internal_stringslite_HasPrefix_eq (n : Nat) (a1 : List UInt8) (a2 : List UInt8) : sxF cfg0 kd internal_stringslite_HasPrefix_kr (internal_stringslite_HasPrefix_E n  ) Try.f69 (bodyOf Try.f69) [] [.s a1, .s a2] internal_stringslite_HasPrefix_ret = internal_stringslite_HasPrefix n a1 a2 := by kernel_rfl
theorem internal_stringslite_HasPrefix_pv (n : Nat) (r : internal_stringslite_HasPrefix_R) : PV cfg0 kd (internal_stringslite_HasPrefix_E n  ) r [] (bodyOf Try.f69) (retK cfg0 kd internal_stringslite_HasPrefix_kr (internal_stringslite_HasPrefix_E n  ) Try.f69.results.toList internal_stringslite_HasPrefix_ret) := by
  exact PV.triv (by kernel_rfl)
noncomputable def internal_stringslite_HasPrefix_ct (n : Nat) (vs : List AV) (h : AH) : Option Ctr := match vs, h with
  | [.s a1, .s a2], [] => some (.one internal_stringslite_HasPrefix_R (internal_stringslite_HasPrefix n   a1 a2) [] 0 internal_stringslite_HasPrefix_out)
  | _, _ => none
theorem internal_stringslite_HasPrefix_ok (n : Nat) : COk1 cfg0 69 (internal_stringslite_HasPrefix_ct n) := by
  intro vs h c e
  unfold internal_stringslite_HasPrefix_ct at e
  split at e
  · rename_i a1 a2
    cases e
    exact fun r hm => sxF_ok (E := internal_stringslite_HasPrefix_E n  ) (nx1 := internal_stringslite_HasPrefix_nx) (internal_stringslite_HasPrefix_fn) rfl rfl rfl (callA_ok (internal_stringslite_HasPrefix_pre_ok n)) internal_stringslite_HasPrefix_ret_ok rfl (internal_stringslite_HasPrefix_pv n   _) ((internal_stringslite_HasPrefix_eq n   a1 a2).trans hm)
  · cases e
end
end Go.Ev
end
section
set_option linter.unusedVariables false
set_option linter.unusedSimpArgs false
set_option maxRecDepth 100000
set_option maxHeartbeats 400000
namespace Go.Ev
open Go.RowKit Go.Proofs
section
theorem internal_stringslite_CutPrefix_fn : cfg0.fn 63 = some Try.f63 := rfl
abbrev internal_stringslite_CutPrefix_R : Type := (List UInt8) × Bool
@[reducible] def internal_stringslite_CutPrefix_rt (b0 : List UInt8) (b1 : Bool) : Option internal_stringslite_CutPrefix_R := some (b0, b1)
noncomputable def internal_stringslite_CutPrefix_out : internal_stringslite_CutPrefix_R → AV × AH
  | (b0, b1) => ((.tu [(.s b0), (.b b1)]), [])
noncomputable def internal_stringslite_CutPrefix_nx : internal_stringslite_CutPrefix_R → Nat
  | _ => 0
noncomputable def internal_stringslite_CutPrefix_ret (v : AV) (h : AH) (nx : Nat) : Option internal_stringslite_CutPrefix_R := match v, h, nx with
  | (.tu [(.s b0), (.b b1)]), [], 0 => some (b0, b1)
  | _, _, _ => none
theorem internal_stringslite_CutPrefix_ret_ok (v : AV) (h : AH) (nx : Nat) (r : internal_stringslite_CutPrefix_R) (e : internal_stringslite_CutPrefix_ret v h nx = some r) : internal_stringslite_CutPrefix_out r = (v, h) ∧ nx = internal_stringslite_CutPrefix_nx r := by
  unfold internal_stringslite_CutPrefix_ret at e
  split at e
  · cases e; exact ⟨rfl, rfl⟩
  · cases e
noncomputable def internal_stringslite_CutPrefix_kr : KN := []
noncomputable def internal_stringslite_CutPrefix_pre (n : Nat) : CT := (ctA 69 (internal_stringslite_HasPrefix_ct n) ctZ)
theorem internal_stringslite_CutPrefix_pre_ok (n : Nat) : COk cfg0 (internal_stringslite_CutPrefix_pre n) := (ctA_ok (internal_stringslite_HasPrefix_ok n) ctZ_ok)
noncomputable def internal_stringslite_CutPrefix_E0 (n : Nat) (R : Type)   (jf lf : List Nat → Nat → AT → AS → Option R) : SE R := ⟨[], Try.f63.ntmps, 0, callA cfg0 kd [] (internal_stringslite_CutPrefix_pre n), n, [], [], [], [], jf, lf⟩
noncomputable def internal_stringslite_CutPrefix_F (n : Nat) (a1 : List UInt8) (a2 : List UInt8)  : Option internal_stringslite_CutPrefix_R := Option.bind (internal_stringslite_HasPrefix n a1 a2) fun z => bif !z then internal_stringslite_CutPrefix_rt a1 false else bif decide (0 ≤ (↑(List.length a2) : Int)) && decide (Int.toNat (↑(List.length a2) : Int) ≤ List.length a1) then internal_stringslite_CutPrefix_rt (List.drop (Int.toNat (↑(List.length a2) : Int)) a1) true else none
noncomputable def internal_stringslite_CutPrefix (n : Nat) (a1 : List UInt8) (a2 : List UInt8) : Option internal_stringslite_CutPrefix_R := internal_stringslite_CutPrefix_F n a1 a2 
noncomputable def internal_stringslite_CutPrefix_jf (n : Nat) : List Nat → Nat → AT → AS → Option internal_stringslite_CutPrefix_R := fun ms key T s => none
noncomputable def internal_stringslite_CutPrefix_lf (n : Nat) : List Nat → Nat → AT → AS → Option internal_stringslite_CutPrefix_R := fun ms key T s => none
noncomputable def internal_stringslite_CutPrefix_E (n : Nat)   : SE internal_stringslite_CutPrefix_R := internal_stringslite_CutPrefix_E0 n internal_stringslite_CutPrefix_R   (internal_stringslite_CutPrefix_jf n) (internal_stringslite_CutPrefix_lf n)
theorem internal_stringslite_CutPrefix_eq (n : Nat) (a1 : List UInt8) (a2 : List UInt8) : sxF cfg0 kd internal_stringslite_CutPrefix_kr (internal_stringslite_CutPrefix_E n  ) Try.f63 (bodyOf Try.f63) [] [.s a1, .s a2] internal_stringslite_CutPrefix_ret = internal_stringslite_CutPrefix n a1 a2 := by kernel_rfl
theorem internal_stringslite_CutPrefix_pv (n : Nat) (r : internal_stringslite_CutPrefix_R) : PV cfg0 kd (internal_stringslite_CutPrefix_E n  ) r [] (bodyOf Try.f63) (retK cfg0 kd internal_stringslite_CutPrefix_kr (internal_stringslite_CutPrefix_E n  ) Try.f63.results.toList internal_stringslite_CutPrefix_ret) := by
  exact PV.triv (by kernel_rfl)
noncomputable def internal_stringslite_CutPrefix_ct (n : Nat) (vs : List AV) (h : AH) : Option Ctr := match vs, h with
  | [.s a1, .s a2], [] => some (.one internal_stringslite_CutPrefix_R (internal_stringslite_CutPrefix n   a1 a2) [] 0 internal_stringslite_CutPrefix_out)
  | _, _ => none
theorem internal_stringslite_CutPrefix_ok (n : Nat) : COk1 cfg0 63 (internal_stringslite_CutPrefix_ct n) := by
  intro vs h c e
  unfold internal_stringslite_CutPrefix_ct at e
  split at e
  · rename_i a1 a2
    cases e
    exact fun r hm => sxF_ok (E := internal_stringslite_CutPrefix_E n  ) (nx1 := internal_stringslite_CutPrefix_nx) (internal_stringslite_CutPrefix_fn) rfl rfl rfl (callA_ok (internal_stringslite_CutPrefix_pre_ok n)) internal_stringslite_CutPrefix_ret_ok rfl (internal_stringslite_CutPrefix_pv n   _) ((internal_stringslite_CutPrefix_eq n   a1 a2).trans hm)
  · cases e
end
end Go.Ev
end
section
set_option linter.unusedVariables false
set_option linter.unusedSimpArgs false
set_option maxRecDepth 100000
set_option maxHeartbeats 400000
namespace Go.Ev
open Go.RowKit Go.Proofs
section
theorem strings_CutPrefix_fn : cfg0.fn 41 = some Try.f41 := rfl
abbrev strings_CutPrefix_R : Type := (List UInt8) × Bool
@[reducible] def strings_CutPrefix_rt (b0 : List UInt8) (b1 : Bool) : Option strings_CutPrefix_R := some (b0, b1)
noncomputable def strings_CutPrefix_out : strings_CutPrefix_R → AV × AH
  | (b0, b1) => ((.tu [(.s b0), (.b b1)]), [])
noncomputable def strings_CutPrefix_nx : strings_CutPrefix_R → Nat
  | _ => 0
noncomputable def strings_CutPrefix_ret (v : AV) (h : AH) (nx : Nat) : Option strings_CutPrefix_R := match v, h, nx with
  | (.tu [(.s b0), (.b b1)]), [], 0 => some (b0, b1)
  | _, _, _ => none
theorem strings_CutPrefix_ret_ok (v : AV) (h : AH) (nx : Nat) (r : strings_CutPrefix_R) (e : strings_CutPrefix_ret v h nx = some r) : strings_CutPrefix_out r = (v, h) ∧ nx = strings_CutPrefix_nx r := by
  unfold strings_CutPrefix_ret at e
  split at e
  · cases e; exact ⟨rfl, rfl⟩
  · cases e
noncomputable def strings_CutPrefix_kr : KN := []
noncomputable def strings_CutPrefix_pre (n : Nat) : CT := (ctA 63 (internal_stringslite_CutPrefix_ct n) ctZ)
theorem strings_CutPrefix_pre_ok (n : Nat) : COk cfg0 (strings_CutPrefix_pre n) := (ctA_ok (internal_stringslite_CutPrefix_ok n) ctZ_ok)
noncomputable def strings_CutPrefix_E0 (n : Nat) (R : Type)   (jf lf : List Nat → Nat → AT → AS → Option R) : SE R := ⟨[], Try.f41.ntmps, 0, callA cfg0 kd [] (strings_CutPrefix_pre n), n, [], [], [], [], jf, lf⟩
noncomputable def strings_CutPrefix_F (n : Nat) (a1 : List UInt8) (a2 : List UInt8)  : Option strings_CutPrefix_R := Option.bind (internal_stringslite_CutPrefix n a1 a2) fun z => strings_CutPrefix_rt z.fst z.snd
noncomputable def strings_CutPrefix (n : Nat) (a1 : List UInt8) (a2 : List UInt8) : Option strings_CutPrefix_R := strings_CutPrefix_F n a1 a2 
noncomputable def strings_CutPrefix_jf (n : Nat) : List Nat → Nat → AT → AS → Option strings_CutPrefix_R := fun ms key T s => none
noncomputable def strings_CutPrefix_lf (n : Nat) : List Nat → Nat → AT → AS → Option strings_CutPrefix_R := fun ms key T s => none
noncomputable def strings_CutPrefix_E (n : Nat)   : SE strings_CutPrefix_R := strings_CutPrefix_E0 n strings_CutPrefix_R   (strings_CutPrefix_jf n) (strings_CutPrefix_lf n)
theorem strings_CutPrefix_eq (n : Nat) (a1 : List UInt8) (a2 : List UInt8) : sxF cfg0 kd strings_CutPrefix_kr (strings_CutPrefix_E n  ) Try.f41 (bodyOf Try.f41) [] [.s a1, .s a2] strings_CutPrefix_ret = strings_CutPrefix n a1 a2 := by kernel_rfl
theorem strings_CutPrefix_pv (n : Nat) (r : strings_CutPrefix_R) : PV cfg0 kd (strings_CutPrefix_E n  ) r [] (bodyOf Try.f41) (retK cfg0 kd strings_CutPrefix_kr (strings_CutPrefix_E n  ) Try.f41.results.toList strings_CutPrefix_ret) := by
  exact PV.triv (by kernel_rfl)
noncomputable def strings_CutPrefix_ct (n : Nat) (vs : List AV) (h : AH) : Option Ctr := match vs, h with
  | [.s a1, .s a2], [] => some (.one strings_CutPrefix_R (strings_CutPrefix n   a1 a2) [] 0 strings_CutPrefix_out)
  | _, _ => none
theorem strings_CutPrefix_ok (n : Nat) : COk1 cfg0 41 (strings_CutPrefix_ct n) := by
  intro vs h c e
  unfold strings_CutPrefix_ct at e
  split at e
  · rename_i a1 a2
    cases e
    exact fun r hm => sxF_ok (E := strings_CutPrefix_E n  ) (nx1 := strings_CutPrefix_nx) (strings_CutPrefix_fn) rfl rfl rfl (callA_ok (strings_CutPrefix_pre_ok n)) strings_CutPrefix_ret_ok rfl (strings_CutPrefix_pv n   _) ((strings_CutPrefix_eq n   a1 a2).trans hm)
  · cases e
end
end Go.Ev
end
section
set_option linter.unusedVariables false
set_option linter.unusedSimpArgs false
set_option maxRecDepth 100000
set_option maxHeartbeats 400000
namespace Go.Ev
open Go.RowKit Go.Proofs
section
theorem meta_Of_fn : cfg0.fn 14 = some Try.f14 := rfl
abbrev meta_Of_R : Type := Mta × Int
@[reducible] def meta_Of_rt (b0 : Mta) (b1 : Int) : Option meta_Of_R := some (b0, b1)
noncomputable def meta_Of_out : meta_Of_R → AV × AH
  | (b0, b1) => ((.tu [(.ag (RK.k .mta b0)), (.i .i64 b1)]), [])
noncomputable def meta_Of_nx : meta_Of_R → Nat
  | _ => 0
noncomputable def meta_Of_ret (v : AV) (h : AH) (nx : Nat) : Option meta_Of_R := match v, h, nx with
  | (.tu [(.ag [.n .u64 b0_0, .i .i64 b0_1, .n .u32 b0_2, .n .u32 b0_3, .n .u32 b0_4]), (.i .i64 b1)]), [], 0 => some (⟨b0_0, b0_1, b0_2, b0_3, b0_4⟩, b1)
  | _, _, _ => none
theorem meta_Of_ret_ok (v : AV) (h : AH) (nx : Nat) (r : meta_Of_R) (e : meta_Of_ret v h nx = some r) : meta_Of_out r = (v, h) ∧ nx = meta_Of_nx r := by
  unfold meta_Of_ret at e
  split at e
  · cases e; exact ⟨rfl, rfl⟩
  · cases e
noncomputable def meta_Of_kr : KN := []
noncomputable def meta_Of_pre (n : Nat) : CT := (ctA 13 (meta_Page_ct n) (ctA 41 (strings_CutPrefix_ct n) (ctA 42 (octet_New_ct n) (ctA 43 (octet_Reader_Number_ct n) ctZ))))
theorem meta_Of_pre_ok (n : Nat) : COk cfg0 (meta_Of_pre n) := (ctA_ok (meta_Page_ok n) (ctA_ok (strings_CutPrefix_ok n) (ctA_ok (octet_New_ok n) (ctA_ok (octet_Reader_Number_ok n) ctZ_ok))))
noncomputable def meta_Of_E0 (n : Nat) (R : Type)   (jf lf : List Nat → Nat → AT → AS → Option R) : SE R := ⟨[], Try.f14.ntmps, 0, callA cfg0 kd [] (meta_Of_pre n), n, [], [], [], [], jf, lf⟩
noncomputable def meta_Of_F (n : Nat) (a1 : Int) (a2 : Pg)  : Option meta_Of_R := Option.bind (strings_CutPrefix n a2.body #[99, 97, 114, 101, 101, 110, 48, 49].toList) fun z => Option.bind (octet_Reader_Number n 2 z.fst) fun z_1 => Option.bind (octet_Reader_Number n 4 z_1.2.2) fun z_2 => Option.bind (octet_Reader_Number n 4 z_2.2.2) fun z_3 => Option.bind (octet_Reader_Number n 4 z_3.2.2) fun z_4 => Option.bind (meta_Page n (Mta.mk a2.tx (w64 (↑z_1.fst : Int)) (z_2.fst % 4294967296) (z_3.fst % 4294967296) (z_4.fst % 4294967296))) fun z_5 => bif !z.snd then meta_Of_rt (Mta.mk ((0 : Nat)) 0 ((0 : Nat)) ((0 : Nat)) ((0 : Nat))) 4 else bif decide (z_4.2.fst ≠ 0) then meta_Of_rt (Mta.mk ((0 : Nat)) 0 ((0 : Nat)) ((0 : Nat)) ((0 : Nat))) 4 else bif decide (z_5.snd ≠ 0) then meta_Of_rt (Mta.mk ((0 : Nat)) 0 ((0 : Nat)) ((0 : Nat)) ((0 : Nat))) 4 else bif !(decide (z_5.fst.kind = a2.kind) && (decide (z_5.fst.count = a2.count) && (decide (z_5.fst.page = a2.page) && (decide (z_5.fst.link = a2.link) && (decide (z_5.fst.tx = a2.tx) && (decide (z_5.fst.body = a2.body) && true)))))) then meta_Of_rt (Mta.mk ((0 : Nat)) 0 ((0 : Nat)) ((0 : Nat)) ((0 : Nat))) 4 else bif decide (w64 (↑z_1.fst : Int) ≠ a1) then meta_Of_rt (Mta.mk ((0 : Nat)) 0 ((0 : Nat)) ((0 : Nat)) ((0 : Nat))) 4 else meta_Of_rt (Mta.mk a2.tx (w64 (↑z_1.fst : Int)) (z_2.fst % 4294967296) (z_3.fst % 4294967296) (z_4.fst % 4294967296)) 0
noncomputable def meta_Of (n : Nat) (a1 : Int) (a2 : Pg) : Option meta_Of_R := meta_Of_F n a1 a2 
noncomputable def meta_Of_jf (n : Nat) : List Nat → Nat → AT → AS → Option meta_Of_R := fun ms key T s => none
noncomputable def meta_Of_lf (n : Nat) : List Nat → Nat → AT → AS → Option meta_Of_R := fun ms key T s => none
noncomputable def meta_Of_E (n : Nat)   : SE meta_Of_R := meta_Of_E0 n meta_Of_R   (meta_Of_jf n) (meta_Of_lf n)
theorem meta_Of_eq (n : Nat) (a1 : Int) (a2 : Pg) : sxF cfg0 kd meta_Of_kr (meta_Of_E n  ) Try.f14 (bodyOf Try.f14) [] [.i .i64 a1, .ag (RK.k .page a2)] meta_Of_ret = meta_Of n a1 a2 := by kernel_rfl
theorem meta_Of_pv (n : Nat) (r : meta_Of_R) : PV cfg0 kd (meta_Of_E n  ) r [] (bodyOf Try.f14) (retK cfg0 kd meta_Of_kr (meta_Of_E n  ) Try.f14.results.toList meta_Of_ret) := by
  exact PV.triv (by kernel_rfl)
noncomputable def meta_Of_ct (n : Nat) (vs : List AV) (h : AH) : Option Ctr := match vs, h with
  | [.i .i64 a1, .ag [.i .i64 a2_0, .i .i64 a2_1, .n .u32 a2_2, .n .u32 a2_3, .n .u64 a2_4, .s a2_5]], [] => some (.one meta_Of_R (meta_Of n   a1 ⟨a2_0, a2_1, a2_2, a2_3, a2_4, a2_5⟩) [] 0 meta_Of_out)
  | _, _ => none
theorem meta_Of_ok (n : Nat) : COk1 cfg0 14 (meta_Of_ct n) := by
  intro vs h c e
  unfold meta_Of_ct at e
  split at e
  · rename_i a1 a2_0 a2_1 a2_2 a2_3 a2_4 a2_5
    cases e
    exact fun r hm => sxF_ok (E := meta_Of_E n  ) (nx1 := meta_Of_nx) (meta_Of_fn) rfl rfl rfl (callA_ok (meta_Of_pre_ok n)) meta_Of_ret_ok rfl (meta_Of_pv n   _) ((meta_Of_eq n   a1 ⟨a2_0, a2_1, a2_2, a2_3, a2_4, a2_5⟩).trans hm)
  · cases e
end
end Go.Ev
end
section
set_option linter.unusedVariables false
set_option linter.unusedSimpArgs false
set_option maxRecDepth 100000
set_option maxHeartbeats 400000
namespace Go.Ev
open Go.RowKit Go.Proofs
section
theorem meta_Both_fn : cfg0.fn 30 = some Try.f30 := rfl
abbrev meta_Both_R : Type := Nat × Int × Nat × Nat × Nat × Nat × Int × Nat × Nat × Nat × Bool × Bool
@[reducible] def meta_Both_rt (b0 : Nat) (b1 : Int) (b2 : Nat) (b3 : Nat) (b4 : Nat) (b5 : Nat) (b6 : Int) (b7 : Nat) (b8 : Nat) (b9 : Nat) (b10 : Bool) (b11 : Bool) : Option meta_Both_R := some (b0, b1, b2, b3, b4, b5, b6, b7, b8, b9, b10, b11)
noncomputable def meta_Both_out : meta_Both_R → AV × AH
  | (b0, b1, b2, b3, b4, b5, b6, b7, b8, b9, b10, b11) => ((.tu [(.ag [(.n .u64 b0), (.i .i64 b1), (.n .u32 b2), (.n .u32 b3), (.n .u32 b4), (.n .u64 b5), (.i .i64 b6), (.n .u32 b7), (.n .u32 b8), (.n .u32 b9)]), (.ag [(.b b10), (.b b11)])]), [])
noncomputable def meta_Both_nx : meta_Both_R → Nat
  | _ => 0
noncomputable def meta_Both_ret (v : AV) (h : AH) (nx : Nat) : Option meta_Both_R := match v, h, nx with
  | (.tu [(.ag [(.n .u64 b0), (.i .i64 b1), (.n .u32 b2), (.n .u32 b3), (.n .u32 b4), (.n .u64 b5), (.i .i64 b6), (.n .u32 b7), (.n .u32 b8), (.n .u32 b9)]), (.ag [(.b b10), (.b b11)])]), [], 0 => some (b0, b1, b2, b3, b4, b5, b6, b7, b8, b9, b10, b11)
  | _, _, _ => none
theorem meta_Both_ret_ok (v : AV) (h : AH) (nx : Nat) (r : meta_Both_R) (e : meta_Both_ret v h nx = some r) : meta_Both_out r = (v, h) ∧ nx = meta_Both_nx r := by
  unfold meta_Both_ret at e
  split at e
  · cases e; exact ⟨rfl, rfl⟩
  · cases e
noncomputable def meta_Both_kr : KN := []
noncomputable def meta_Both_pre (n : Nat) : CT := (ctA 14 (meta_Of_ct n) (ctA 24 (frame_Read_ct n) ctZ))
theorem meta_Both_pre_ok (n : Nat) : COk cfg0 (meta_Both_pre n) := (ctA_ok (meta_Of_ok n) (ctA_ok (frame_Read_ok n) ctZ_ok))
noncomputable def meta_Both_E0 (n : Nat) (R : Type)   (jf lf : List Nat → Nat → AT → AS → Option R) : SE R := ⟨[], Try.f30.ntmps, 0, callA cfg0 kd [] (meta_Both_pre n), n, [(3, ([0, 1, 4, 5, 11], 0))], [], [], [], jf, lf⟩
noncomputable def meta_Both_L3F (n : Nat) (r3 : (Int → List UInt8 → Int → List (Bool) → List (Mta) → Option meta_Both_R))  (x0 : Int) (x1 : List UInt8) (x2 : Int) (x3 : List (Bool)) (x4 : List (Mta)) : Option meta_Both_R := bif decide (x2 < 2) then Option.bind (frame_Read n x0 x1 (u32 x2)) fun z => bif decide (z.snd ≠ 0) then r3 x0 x1 (w64 (x2 + 1)) x3 x4 else Option.bind (meta_Of n x0 (Pg.mk z.fst.kind z.fst.count z.fst.page z.fst.link z.fst.tx z.fst.body)) fun z_1 => bif decide (z_1.snd = 0) then bif decide (0 ≤ x2) && Nat.ble (Nat.succ (Int.toNat x2)) 2 then Option.bind x4[Int.toNat x2]? fun z_2 => bif decide (0 ≤ x2) && Nat.ble (Nat.succ (Int.toNat x2)) 2 then Option.bind x3[Int.toNat x2]? fun z_3 => r3 x0 x1 (w64 (x2 + 1)) (List.set x3 (Int.toNat x2) true) (List.set x4 (Int.toNat x2) (Mta.mk z_1.fst.tx z_1.fst.size z_1.fst.root z_1.fst.free z_1.fst.pages)) else none else none else r3 x0 x1 (w64 (x2 + 1)) x3 x4 else Option.bind x4[0]? fun z => Option.bind x4[0 + 1]? fun z_1 => bif decide (List.length x4 = 0 + 1 + 1) then Option.bind x3[0]? fun z_2 => Option.bind x3[0 + 1]? fun z_3 => bif decide (List.length x3 = 0 + 1 + 1) then meta_Both_rt z.tx z.size z.root z.free z.pages z_1.tx z_1.size z_1.root z_1.free z_1.pages z_2 z_3 else none else none
noncomputable def meta_Both_L3 (n : Nat)  : Nat → Int → List UInt8 → Int → List (Bool) → List (Mta) → Option meta_Both_R
  | 0, _, _, _, _, _ => none
  | m + 1, x0, x1, x2, x3, x4 => meta_Both_L3F n  (meta_Both_L3 n  m)  x0 x1 x2 x3 x4
noncomputable def meta_Both_F (n : Nat) (a1 : Int) (a2 : List UInt8) (l3 : (Int → List UInt8 → Int → List (Bool) → List (Mta) → Option meta_Both_R)) : Option meta_Both_R := l3 a1 a2 0 [false, false] [Mta.mk ((0 : Nat)) 0 ((0 : Nat)) ((0 : Nat)) ((0 : Nat)), Mta.mk ((0 : Nat)) 0 ((0 : Nat)) ((0 : Nat)) ((0 : Nat))]
noncomputable def meta_Both (n : Nat) (a1 : Int) (a2 : List UInt8) : Option meta_Both_R := meta_Both_F n a1 a2 (meta_Both_L3 n n)
noncomputable def meta_Both_L3q (n : Nat) (m3 : Nat) (T : AT) (s : AS) : Option meta_Both_R := match T, s with
  | [(0, (.i .i64 x0)), (1, (.s x1)), (4, (.ptr 0 0)), (5, (.ptr 1 0)), (11, (.i .i64 x2))], ⟨[(1, (.row .bl 0 x3 58 (0, 0))), (0, (.row .mta 0 x4 57 (0, 0)))], 2, []⟩ => meta_Both_L3 n  m3 x0 x1 x2 x3 x4
  | _, _ => none
noncomputable def meta_Both_jf (n : Nat) : List Nat → Nat → AT → AS → Option meta_Both_R := fun ms key T s => none
noncomputable def meta_Both_lf (n : Nat) : List Nat → Nat → AT → AS → Option meta_Both_R := fun ms key T s => cond (Nat.beq key 3) (match ms with | [m3] => meta_Both_L3q n m3 T s | _ => none) (none)
noncomputable def meta_Both_E (n : Nat)   : SE meta_Both_R := meta_Both_E0 n meta_Both_R   (meta_Both_jf n) (meta_Both_lf n)
theorem meta_Both_eq (n : Nat) (a1 : Int) (a2 : List UInt8) : sxF cfg0 kd meta_Both_kr (meta_Both_E n  ) Try.f30 (bodyOf Try.f30) [] [.i .i64 a1, .s a2] meta_Both_ret = meta_Both n a1 a2 := by kernel_rfl
theorem meta_Both_pv (n : Nat) (r : meta_Both_R) : PV cfg0 kd (meta_Both_E n  ) r [] (bodyOf Try.f30) (retK cfg0 kd meta_Both_kr (meta_Both_E n  ) Try.f30.results.toList meta_Both_ret) := by
  refine PV.sn (by kernel_rfl) ?_ ?_
  ·
    refine PV.sn (by kernel_rfl) ?_ ?_
    ·
      exact PV.triv (by kernel_rfl)
    ·
      refine PV.sn (by kernel_rfl) ?_ ?_
      ·
        refine PV.bl ?_
        refine PV.lp (live := [0, 1, 4, 5, 11]) (by kernel_rfl) ?_ ?_ ?_
        · intro T s h; change meta_Both_L3q n 0 _ _ = some r at h; unfold meta_Both_L3q at h; split at h
          · exact nomatch (show (none : Option meta_Both_R) = some r from h)
          · cases h
        · intro m3 T s h; change meta_Both_L3q n (m3 + 1) _ _ = some r at h; unfold meta_Both_L3q at h; split at h
          · exact Eq.trans (by kernel_rfl) h
          · cases h
        · intro m3
          exact PV.triv (by kernel_rfl)
      ·
        exact PV.triv (by kernel_rfl)
  ·
    exact PV.triv (by kernel_rfl)
noncomputable def meta_Both_ct (n : Nat) (vs : List AV) (h : AH) : Option Ctr := match vs, h with
  | [.i .i64 a1, .s a2], [] => some (.one meta_Both_R (meta_Both n   a1 a2) [] 0 meta_Both_out)
  | _, _ => none
theorem meta_Both_ok (n : Nat) : COk1 cfg0 30 (meta_Both_ct n) := by
  intro vs h c e
  unfold meta_Both_ct at e
  split at e
  · rename_i a1 a2
    cases e
    exact fun r hm => sxF_ok (E := meta_Both_E n  ) (nx1 := meta_Both_nx) (meta_Both_fn) rfl rfl rfl (callA_ok (meta_Both_pre_ok n)) meta_Both_ret_ok rfl (meta_Both_pv n   _) ((meta_Both_eq n   a1 a2).trans hm)
  · cases e
end
end Go.Ev
end
section
set_option linter.unusedVariables false
set_option linter.unusedSimpArgs false
set_option maxRecDepth 100000
set_option maxHeartbeats 400000
namespace Go.Ev
open Go.RowKit Go.Proofs
section
theorem meta_Newest_fn : cfg0.fn 31 = some Try.f31 := rfl
abbrev meta_Newest_R : Type := Mta × Int
@[reducible] def meta_Newest_rt (b0 : Mta) (b1 : Int) : Option meta_Newest_R := some (b0, b1)
noncomputable def meta_Newest_out : meta_Newest_R → AV × AH
  | (b0, b1) => ((.tu [(.ag (RK.k .mta b0)), (.i .i64 b1)]), [])
noncomputable def meta_Newest_nx : meta_Newest_R → Nat
  | _ => 0
noncomputable def meta_Newest_ret (v : AV) (h : AH) (nx : Nat) : Option meta_Newest_R := match v, h, nx with
  | (.tu [(.ag [.n .u64 b0_0, .i .i64 b0_1, .n .u32 b0_2, .n .u32 b0_3, .n .u32 b0_4]), (.i .i64 b1)]), [], 0 => some (⟨b0_0, b0_1, b0_2, b0_3, b0_4⟩, b1)
  | _, _, _ => none
theorem meta_Newest_ret_ok (v : AV) (h : AH) (nx : Nat) (r : meta_Newest_R) (e : meta_Newest_ret v h nx = some r) : meta_Newest_out r = (v, h) ∧ nx = meta_Newest_nx r := by
  unfold meta_Newest_ret at e
  split at e
  · cases e; exact ⟨rfl, rfl⟩
  · cases e
noncomputable def meta_Newest_kr : KN := []
noncomputable def meta_Newest_pre (n : Nat) : CT := (ctA 30 (meta_Both_ct n) (ctA 48 (device_Good_ct n) ctZ))
theorem meta_Newest_pre_ok (n : Nat) : COk cfg0 (meta_Newest_pre n) := (ctA_ok (meta_Both_ok n) (ctA_ok (device_Good_ok n) ctZ_ok))
noncomputable def meta_Newest_E0 (n : Nat) (R : Type)   (jf lf : List Nat → Nat → AT → AS → Option R) : SE R := ⟨[], Try.f31.ntmps, 0, callA cfg0 kd [] (meta_Newest_pre n), n, [], [], [], [], jf, lf⟩
noncomputable def meta_Newest_F (n : Nat) (a1 : Int) (a2 : List UInt8)  : Option meta_Newest_R := Option.bind (device_Good n a1) fun z => bif !z then meta_Newest_rt (Mta.mk ((0 : Nat)) 0 ((0 : Nat)) ((0 : Nat)) ((0 : Nat))) 2 else Option.bind (meta_Both n a1 a2) fun z_1 => bif z_1.2.2.2.2.2.2.2.2.2.2.fst == false && (z_1.2.2.2.2.2.2.2.2.2.2.snd == false && true) then meta_Newest_rt (Mta.mk ((0 : Nat)) 0 ((0 : Nat)) ((0 : Nat)) ((0 : Nat))) 5 else bif z_1.2.2.2.2.2.2.2.2.2.2.fst == true && (z_1.2.2.2.2.2.2.2.2.2.2.snd == false && true) then meta_Newest_rt (Mta.mk z_1.fst z_1.2.fst z_1.2.2.fst z_1.2.2.2.fst z_1.2.2.2.2.fst) 0 else bif z_1.2.2.2.2.2.2.2.2.2.2.fst == false && (z_1.2.2.2.2.2.2.2.2.2.2.snd == true && true) then meta_Newest_rt (Mta.mk z_1.2.2.2.2.2.fst z_1.2.2.2.2.2.2.fst z_1.2.2.2.2.2.2.2.fst z_1.2.2.2.2.2.2.2.2.fst z_1.2.2.2.2.2.2.2.2.2.fst) 0 else bif decide (z_1.fst < z_1.2.2.2.2.2.fst) then meta_Newest_rt (Mta.mk z_1.2.2.2.2.2.fst z_1.2.2.2.2.2.2.fst z_1.2.2.2.2.2.2.2.fst z_1.2.2.2.2.2.2.2.2.fst z_1.2.2.2.2.2.2.2.2.2.fst) 0 else meta_Newest_rt (Mta.mk z_1.fst z_1.2.fst z_1.2.2.fst z_1.2.2.2.fst z_1.2.2.2.2.fst) 0
noncomputable def meta_Newest (n : Nat) (a1 : Int) (a2 : List UInt8) : Option meta_Newest_R := meta_Newest_F n a1 a2 
noncomputable def meta_Newest_jf (n : Nat) : List Nat → Nat → AT → AS → Option meta_Newest_R := fun ms key T s => none
noncomputable def meta_Newest_lf (n : Nat) : List Nat → Nat → AT → AS → Option meta_Newest_R := fun ms key T s => none
noncomputable def meta_Newest_E (n : Nat)   : SE meta_Newest_R := meta_Newest_E0 n meta_Newest_R   (meta_Newest_jf n) (meta_Newest_lf n)
theorem meta_Newest_eq (n : Nat) (a1 : Int) (a2 : List UInt8) : sxF cfg0 kd meta_Newest_kr (meta_Newest_E n  ) Try.f31 (bodyOf Try.f31) [] [.i .i64 a1, .s a2] meta_Newest_ret = meta_Newest n a1 a2 := by kernel_rfl
theorem meta_Newest_pv (n : Nat) (r : meta_Newest_R) : PV cfg0 kd (meta_Newest_E n  ) r [] (bodyOf Try.f31) (retK cfg0 kd meta_Newest_kr (meta_Newest_E n  ) Try.f31.results.toList meta_Newest_ret) := by
  exact PV.triv (by kernel_rfl)
noncomputable def meta_Newest_ct (n : Nat) (vs : List AV) (h : AH) : Option Ctr := match vs, h with
  | [.i .i64 a1, .s a2], [] => some (.one meta_Newest_R (meta_Newest n   a1 a2) [] 0 meta_Newest_out)
  | _, _ => none
theorem meta_Newest_ok (n : Nat) : COk1 cfg0 31 (meta_Newest_ct n) := by
  intro vs h c e
  unfold meta_Newest_ct at e
  split at e
  · rename_i a1 a2
    cases e
    exact fun r hm => sxF_ok (E := meta_Newest_E n  ) (nx1 := meta_Newest_nx) (meta_Newest_fn) rfl rfl rfl (callA_ok (meta_Newest_pre_ok n)) meta_Newest_ret_ok rfl (meta_Newest_pv n   _) ((meta_Newest_eq n   a1 a2).trans hm)
  · cases e
end
end Go.Ev
end
section
set_option linter.unusedVariables false
set_option linter.unusedSimpArgs false
set_option maxRecDepth 100000
set_option maxHeartbeats 400000
namespace Go.Ev
open Go.RowKit Go.Proofs
section
theorem ref05_Slot_fn : cfg0.fn 36 = some Try.f36 := rfl
abbrev ref05_Slot_R : Type := Nat
@[reducible] def ref05_Slot_rt (b0 : Nat) : Option ref05_Slot_R := some b0
noncomputable def ref05_Slot_out : ref05_Slot_R → AV × AH
  | b0 => ((.n .u32 b0), [])
noncomputable def ref05_Slot_nx : ref05_Slot_R → Nat
  | _ => 0
noncomputable def ref05_Slot_ret (v : AV) (h : AH) (nx : Nat) : Option ref05_Slot_R := match v, h, nx with
  | (.n .u32 b0), [], 0 => some b0
  | _, _, _ => none
theorem ref05_Slot_ret_ok (v : AV) (h : AH) (nx : Nat) (r : ref05_Slot_R) (e : ref05_Slot_ret v h nx = some r) : ref05_Slot_out r = (v, h) ∧ nx = ref05_Slot_nx r := by
  unfold ref05_Slot_ret at e
  split at e
  · cases e; exact ⟨rfl, rfl⟩
  · cases e
noncomputable def ref05_Slot_kr : KN := []
noncomputable def ref05_Slot_pre (n : Nat) : CT := ctZ
theorem ref05_Slot_pre_ok (n : Nat) : COk cfg0 (ref05_Slot_pre n) := ctZ_ok
noncomputable def ref05_Slot_E0 (n : Nat) (R : Type)   (jf lf : List Nat → Nat → AT → AS → Option R) : SE R := ⟨[], Try.f36.ntmps, 0, callA cfg0 kd [] (ref05_Slot_pre n), n, [], [], [], [], jf, lf⟩
noncomputable def ref05_Slot_F (n : Nat) (a1 : Nat)  : Option ref05_Slot_R := ref05_Slot_rt (a1 % (2 : Nat) % 4294967296)
noncomputable def ref05_Slot (n : Nat) (a1 : Nat) : Option ref05_Slot_R := ref05_Slot_F n a1 
noncomputable def ref05_Slot_jf (n : Nat) : List Nat → Nat → AT → AS → Option ref05_Slot_R := fun ms key T s => none
noncomputable def ref05_Slot_lf (n : Nat) : List Nat → Nat → AT → AS → Option ref05_Slot_R := fun ms key T s => none
noncomputable def ref05_Slot_E (n : Nat)   : SE ref05_Slot_R := ref05_Slot_E0 n ref05_Slot_R   (ref05_Slot_jf n) (ref05_Slot_lf n)
theorem ref05_Slot_eq (n : Nat) (a1 : Nat) : sxF cfg0 kd ref05_Slot_kr (ref05_Slot_E n  ) Try.f36 (bodyOf Try.f36) [] [.n .u64 a1] ref05_Slot_ret = ref05_Slot n a1 := by kernel_rfl
theorem ref05_Slot_pv (n : Nat) (r : ref05_Slot_R) : PV cfg0 kd (ref05_Slot_E n  ) r [] (bodyOf Try.f36) (retK cfg0 kd ref05_Slot_kr (ref05_Slot_E n  ) Try.f36.results.toList ref05_Slot_ret) := by
  exact PV.triv (by kernel_rfl)
noncomputable def ref05_Slot_ct (n : Nat) (vs : List AV) (h : AH) : Option Ctr := match vs, h with
  | [.n .u64 a1], [] => some (.one ref05_Slot_R (ref05_Slot n   a1) [] 0 ref05_Slot_out)
  | _, _ => none
theorem ref05_Slot_ok (n : Nat) : COk1 cfg0 36 (ref05_Slot_ct n) := by
  intro vs h c e
  unfold ref05_Slot_ct at e
  split at e
  · rename_i a1
    cases e
    exact fun r hm => sxF_ok (E := ref05_Slot_E n  ) (nx1 := ref05_Slot_nx) (ref05_Slot_fn) rfl rfl rfl (callA_ok (ref05_Slot_pre_ok n)) ref05_Slot_ret_ok rfl (ref05_Slot_pv n   _) ((ref05_Slot_eq n   a1).trans hm)
  · cases e
end
end Go.Ev
end
section
set_option linter.unusedVariables false
set_option linter.unusedSimpArgs false
set_option maxRecDepth 100000
set_option maxHeartbeats 400000
namespace Go.Ev
open Go.RowKit Go.Proofs
section
theorem ref03_Good_fn : cfg0.fn 58 = some Try.f58 := rfl
abbrev ref03_Good_R : Type := Bool
@[reducible] def ref03_Good_rt (b0 : Bool) : Option ref03_Good_R := some b0
noncomputable def ref03_Good_out : ref03_Good_R → AV × AH
  | b0 => ((.b b0), [])
noncomputable def ref03_Good_nx : ref03_Good_R → Nat
  | _ => 0
noncomputable def ref03_Good_ret (v : AV) (h : AH) (nx : Nat) : Option ref03_Good_R := match v, h, nx with
  | (.b b0), [], 0 => some b0
  | _, _, _ => none
theorem ref03_Good_ret_ok (v : AV) (h : AH) (nx : Nat) (r : ref03_Good_R) (e : ref03_Good_ret v h nx = some r) : ref03_Good_out r = (v, h) ∧ nx = ref03_Good_nx r := by
  unfold ref03_Good_ret at e
  split at e
  · cases e; exact ⟨rfl, rfl⟩
  · cases e
noncomputable def ref03_Good_kr : KN := []
noncomputable def ref03_Good_pre (n : Nat) : CT := ctZ
theorem ref03_Good_pre_ok (n : Nat) : COk cfg0 (ref03_Good_pre n) := ctZ_ok
noncomputable def ref03_Good_E0 (n : Nat) (R : Type)   (jf lf : List Nat → Nat → AT → AS → Option R) : SE R := ⟨[], Try.f58.ntmps, 0, callA cfg0 kd [] (ref03_Good_pre n), n, [], [], [], [], jf, lf⟩
noncomputable def ref03_Good_F (n : Nat) (a1 : Int)  : Option ref03_Good_R := bif decide (128 ≤ a1) then bif decide (a1 ≤ 4096) then ref03_Good_rt (decide (Int.tmod a1 64 = 0)) else ref03_Good_rt false else ref03_Good_rt false
noncomputable def ref03_Good (n : Nat) (a1 : Int) : Option ref03_Good_R := ref03_Good_F n a1 
noncomputable def ref03_Good_jf (n : Nat) : List Nat → Nat → AT → AS → Option ref03_Good_R := fun ms key T s => none
noncomputable def ref03_Good_lf (n : Nat) : List Nat → Nat → AT → AS → Option ref03_Good_R := fun ms key T s => none
noncomputable def ref03_Good_E (n : Nat)   : SE ref03_Good_R := ref03_Good_E0 n ref03_Good_R   (ref03_Good_jf n) (ref03_Good_lf n)
theorem ref03_Good_eq (n : Nat) (a1 : Int) : sxF cfg0 kd ref03_Good_kr (ref03_Good_E n  ) Try.f58 (bodyOf Try.f58) [] [.i .i64 a1] ref03_Good_ret = ref03_Good n a1 := by kernel_rfl
theorem ref03_Good_pv (n : Nat) (r : ref03_Good_R) : PV cfg0 kd (ref03_Good_E n  ) r [] (bodyOf Try.f58) (retK cfg0 kd ref03_Good_kr (ref03_Good_E n  ) Try.f58.results.toList ref03_Good_ret) := by
  exact PV.triv (by kernel_rfl)
noncomputable def ref03_Good_ct (n : Nat) (vs : List AV) (h : AH) : Option Ctr := match vs, h with
  | [.i .i64 a1], [] => some (.one ref03_Good_R (ref03_Good n   a1) [] 0 ref03_Good_out)
  | _, _ => none
theorem ref03_Good_ok (n : Nat) : COk1 cfg0 58 (ref03_Good_ct n) := by
  intro vs h c e
  unfold ref03_Good_ct at e
  split at e
  · rename_i a1
    cases e
    exact fun r hm => sxF_ok (E := ref03_Good_E n  ) (nx1 := ref03_Good_nx) (ref03_Good_fn) rfl rfl rfl (callA_ok (ref03_Good_pre_ok n)) ref03_Good_ret_ok rfl (ref03_Good_pv n   _) ((ref03_Good_eq n   a1).trans hm)
  · cases e
end
end Go.Ev
end
section
set_option linter.unusedVariables false
set_option linter.unusedSimpArgs false
set_option maxRecDepth 100000
set_option maxHeartbeats 400000
namespace Go.Ev
open Go.RowKit Go.Proofs
section
theorem ref05_may_fn : cfg0.fn 52 = some Try.f52 := rfl
abbrev ref05_may_R : Type := Bool
@[reducible] def ref05_may_rt (b0 : Bool) : Option ref05_may_R := some b0
noncomputable def ref05_may_out : ref05_may_R → AV × AH
  | b0 => ((.b b0), [])
noncomputable def ref05_may_nx : ref05_may_R → Nat
  | _ => 0
noncomputable def ref05_may_ret (v : AV) (h : AH) (nx : Nat) : Option ref05_may_R := match v, h, nx with
  | (.b b0), [], 0 => some b0
  | _, _, _ => none
theorem ref05_may_ret_ok (v : AV) (h : AH) (nx : Nat) (r : ref05_may_R) (e : ref05_may_ret v h nx = some r) : ref05_may_out r = (v, h) ∧ nx = ref05_may_nx r := by
  unfold ref05_may_ret at e
  split at e
  · cases e; exact ⟨rfl, rfl⟩
  · cases e
noncomputable def ref05_may_kr : KN := []
noncomputable def ref05_may_pre (n : Nat) : CT := (ctA 58 (ref03_Good_ct n) ctZ)
theorem ref05_may_pre_ok (n : Nat) : COk cfg0 (ref05_may_pre n) := (ctA_ok (ref03_Good_ok n) ctZ_ok)
noncomputable def ref05_may_E0 (n : Nat) (R : Type)   (jf lf : List Nat → Nat → AT → AS → Option R) : SE R := ⟨[], Try.f52.ntmps, 0, callA cfg0 kd [] (ref05_may_pre n), n, [], [], [], [], jf, lf⟩
noncomputable def ref05_may_F (n : Nat) (a1 : Mta)  : Option ref05_may_R := bif decide (a1.tx ≤ (4611686018427387904 : Nat)) then Option.bind (ref03_Good n a1.size) fun z => bif z then bif decide ((2 : Nat) ≤ a1.pages) then bif decide (a1.pages ≤ (2147483647 : Nat)) then bif decide (a1.root < a1.pages) then bif decide (a1.root ≠ (1 : Nat)) then bif decide (a1.free < a1.pages) then ref05_may_rt (decide (a1.free ≠ (1 : Nat))) else ref05_may_rt false else ref05_may_rt false else ref05_may_rt false else ref05_may_rt false else ref05_may_rt false else ref05_may_rt false else ref05_may_rt false
noncomputable def ref05_may (n : Nat) (a1 : Mta) : Option ref05_may_R := ref05_may_F n a1 
noncomputable def ref05_may_jf (n : Nat) : List Nat → Nat → AT → AS → Option ref05_may_R := fun ms key T s => none
noncomputable def ref05_may_lf (n : Nat) : List Nat → Nat → AT → AS → Option ref05_may_R := fun ms key T s => none
noncomputable def ref05_may_E (n : Nat)   : SE ref05_may_R := ref05_may_E0 n ref05_may_R   (ref05_may_jf n) (ref05_may_lf n)
theorem ref05_may_eq (n : Nat) (a1 : Mta) : sxF cfg0 kd ref05_may_kr (ref05_may_E n  ) Try.f52 (bodyOf Try.f52) [] [.ag (RK.k .mta a1)] ref05_may_ret = ref05_may n a1 := by kernel_rfl
theorem ref05_may_pv (n : Nat) (r : ref05_may_R) : PV cfg0 kd (ref05_may_E n  ) r [] (bodyOf Try.f52) (retK cfg0 kd ref05_may_kr (ref05_may_E n  ) Try.f52.results.toList ref05_may_ret) := by
  exact PV.triv (by kernel_rfl)
noncomputable def ref05_may_ct (n : Nat) (vs : List AV) (h : AH) : Option Ctr := match vs, h with
  | [.ag [.n .u64 a1_0, .i .i64 a1_1, .n .u32 a1_2, .n .u32 a1_3, .n .u32 a1_4]], [] => some (.one ref05_may_R (ref05_may n   ⟨a1_0, a1_1, a1_2, a1_3, a1_4⟩) [] 0 ref05_may_out)
  | _, _ => none
theorem ref05_may_ok (n : Nat) : COk1 cfg0 52 (ref05_may_ct n) := by
  intro vs h c e
  unfold ref05_may_ct at e
  split at e
  · rename_i a1_0 a1_1 a1_2 a1_3 a1_4
    cases e
    exact fun r hm => sxF_ok (E := ref05_may_E n  ) (nx1 := ref05_may_nx) (ref05_may_fn) rfl rfl rfl (callA_ok (ref05_may_pre_ok n)) ref05_may_ret_ok rfl (ref05_may_pv n   _) ((ref05_may_eq n   ⟨a1_0, a1_1, a1_2, a1_3, a1_4⟩).trans hm)
  · cases e
end
end Go.Ev
end
section
set_option linter.unusedVariables false
set_option linter.unusedSimpArgs false
set_option maxRecDepth 100000
set_option maxHeartbeats 400000
namespace Go.Ev
open Go.RowKit Go.Proofs
section
theorem ref01_Put_fn : cfg0.fn 53 = some Try.f53 := rfl
abbrev ref01_Put_R : Type := (List (UInt8))
@[reducible] def ref01_Put_rt (b0 : List (UInt8)) : Option ref01_Put_R := some b0
noncomputable def ref01_Put_out : ref01_Put_R → AV × AH
  | b0 => ((.sl 1 1), [(1, (.row .u8 0 b0 5 (0, 0)))])
noncomputable def ref01_Put_nx : ref01_Put_R → Nat
  | _ => 2
noncomputable def ref01_Put_ret (v : AV) (h : AH) (nx : Nat) : Option ref01_Put_R := match v, h, nx with
  | (.sl 1 1), [(1, (.row .u8 0 b0 5 (0, 0)))], 2 => some b0
  | _, _, _ => none
theorem ref01_Put_ret_ok (v : AV) (h : AH) (nx : Nat) (r : ref01_Put_R) (e : ref01_Put_ret v h nx = some r) : ref01_Put_out r = (v, h) ∧ nx = ref01_Put_nx r := by
  unfold ref01_Put_ret at e
  split at e
  · cases e; exact ⟨rfl, rfl⟩
  · cases e
noncomputable def ref01_Put_kr : KN := [((0, 0), (.u8, 5))]
noncomputable def ref01_Put_pre (n : Nat) : CT := ctZ
theorem ref01_Put_pre_ok (n : Nat) : COk cfg0 (ref01_Put_pre n) := ctZ_ok
noncomputable def ref01_Put_E0 (n : Nat) (R : Type) (o1 : Nat) (f1 : Nat × Nat) (a1 : List UInt8) (jf lf : List Nat → Nat → AT → AS → Option R) : SE R := ⟨[(0, (.row .u8 o1 a1 5 f1))], Try.f53.ntmps, 1, callA cfg0 kd [(0, (.row .u8 o1 a1 5 f1))] (ref01_Put_pre n), n, [(6, ([1, 2, 7, 8], 0))], [(5, [1, 2, 7])], [], [], jf, lf⟩
noncomputable def ref01_Put_L6F (n : Nat) (a1 : List UInt8) (r6 : (Nat → Int → Int → List (UInt8) → Option ref01_Put_R))  (x0 : Nat) (x1 : Int) (x2 : Int) (x3 : List (UInt8)) : Option ref01_Put_R := bif decide (x2 < x1) then bif true && Nat.ble (u64 (w64 (8 * x2))) 64 then bif Nat.ble (List.length x3 + List.length [UInt8.ofNat (x0 / 2 ^ u64 (w64 (8 * x2)))]) 100000000 then r6 x0 x1 (w64 (x2 + 1)) (x3 ++ [UInt8.ofNat (x0 / 2 ^ u64 (w64 (8 * x2)))]) else none else none else ref01_Put_rt x3
noncomputable def ref01_Put_L6 (n : Nat) (a1 : List UInt8)  : Nat → Nat → Int → Int → List (UInt8) → Option ref01_Put_R
  | 0, _, _, _, _ => none
  | m + 1, x0, x1, x2, x3 => ref01_Put_L6F n a1  (ref01_Put_L6 n a1  m)  x0 x1 x2 x3
noncomputable def ref01_Put_J5F (n : Nat) (a1 : List UInt8)  (l6 : (Nat → Int → Int → List (UInt8) → Option ref01_Put_R)) (x0 : Nat) (x1 : Int) (x2 : List (UInt8)) : Option ref01_Put_R := l6 x0 x1 0 x2
noncomputable def ref01_Put_J5 (n : Nat) (a1 : List UInt8)  (x0 : Nat) (x1 : Int) (x2 : List (UInt8)) : Option ref01_Put_R := ref01_Put_J5F n a1  (ref01_Put_L6 n a1  n) x0 x1 x2
noncomputable def ref01_Put_F (n : Nat) (a1 : List UInt8) (a2 : Nat) (a3 : Int) (j5 : (Nat → Int → List (UInt8) → Option ref01_Put_R)) : Option ref01_Put_R := bif Nat.ble ((0 : Nat) + List.length a1) 100000000 then bif decide (a3 < 1) then ref01_Put_rt ([] ++ a1) else bif decide (8 < a3) then ref01_Put_rt ([] ++ a1) else j5 a2 a3 ([] ++ a1) else none
noncomputable def ref01_Put (n : Nat) (a1 : List UInt8) (a2 : Nat) (a3 : Int) : Option ref01_Put_R := ref01_Put_F n a1 a2 a3 (ref01_Put_J5 n a1)
noncomputable def ref01_Put_L6q (n : Nat) (a1 : List UInt8) (m6 : Nat) (T : AT) (s : AS) : Option ref01_Put_R := match T, s with
  | [(1, (.n .u64 x0)), (2, (.i .i64 x1)), (7, (.sl 1 1)), (8, (.i .i64 x2))], ⟨[(1, (.row .u8 0 x3 5 (0, 0)))], 2, []⟩ => ref01_Put_L6 n a1  m6 x0 x1 x2 x3
  | _, _ => none
noncomputable def ref01_Put_J5q (n : Nat) (a1 : List UInt8)  (T : AT) (s : AS) : Option ref01_Put_R := match T, s with
  | [(1, (.n .u64 x0)), (2, (.i .i64 x1)), (7, (.sl 1 1))], ⟨[(1, (.row .u8 0 x2 5 (0, 0)))], 2, []⟩ => ref01_Put_J5 n a1  x0 x1 x2
  | _, _ => none
noncomputable def ref01_Put_jf (n : Nat) (a1 : List UInt8) : List Nat → Nat → AT → AS → Option ref01_Put_R := fun ms key T s => cond (Nat.beq key 5) (match ms with | [] => ref01_Put_J5q n a1  T s | _ => none) (none)
noncomputable def ref01_Put_lf (n : Nat) (a1 : List UInt8) : List Nat → Nat → AT → AS → Option ref01_Put_R := fun ms key T s => cond (Nat.beq key 6) (match ms with | [m6] => ref01_Put_L6q n a1 m6 T s | _ => none) (none)
noncomputable def ref01_Put_E (n : Nat) (o1 : Nat) (f1 : Nat × Nat) (a1 : List UInt8) : SE ref01_Put_R := ref01_Put_E0 n ref01_Put_R o1 f1 a1 (ref01_Put_jf n a1) (ref01_Put_lf n a1)
theorem ref01_Put_eq (n : Nat) (o1 : Nat) (f1 : Nat × Nat) (a1 : List UInt8) (a2 : Nat) (a3 : Int) : sxF cfg0 kd ref01_Put_kr (ref01_Put_E n o1 f1 a1) Try.f53 (bodyOf Try.f53) [] [.sl 0 1, .n .u64 a2, .i .i64 a3] ref01_Put_ret = ref01_Put n a1 a2 a3 := by kernel_rfl
theorem ref01_Put_pv (n : Nat) (o1 : Nat) (f1 : Nat × Nat) (a1 : List UInt8) (r : ref01_Put_R) : PV cfg0 kd (ref01_Put_E n o1 f1 a1) r [] (bodyOf Try.f53) (retK cfg0 kd ref01_Put_kr (ref01_Put_E n o1 f1 a1) Try.f53.results.toList ref01_Put_ret) := by
  refine PV.sn (by kernel_rfl) ?_ ?_
  ·
    refine PV.sn (by kernel_rfl) ?_ ?_
    ·
      refine PV.sj (live := [1, 2, 7]) (by kernel_rfl) ?_ ?_ ?_
      · intro T s h; change ref01_Put_J5q n a1  _ _ = some r at h; unfold ref01_Put_J5q at h; split at h
        · exact Eq.trans (by kernel_rfl) h
        · cases h
      ·
        refine PV.sn (by kernel_rfl) ?_ ?_
        ·
          exact PV.triv (by kernel_rfl)
        ·
          refine PV.sn (by kernel_rfl) ?_ ?_
          ·
            refine PV.bl ?_
            refine PV.lp (live := [1, 2, 7, 8]) (by kernel_rfl) ?_ ?_ ?_
            · intro T s h; change ref01_Put_L6q n a1 0 _ _ = some r at h; unfold ref01_Put_L6q at h; split at h
              · exact nomatch (show (none : Option ref01_Put_R) = some r from h)
              · cases h
            · intro m6 T s h; change ref01_Put_L6q n a1 (m6 + 1) _ _ = some r at h; unfold ref01_Put_L6q at h; split at h
              · exact Eq.trans (by kernel_rfl) h
              · cases h
            · intro m6
              exact PV.triv (by kernel_rfl)
          ·
            exact PV.triv (by kernel_rfl)
      ·
        exact PV.triv (by kernel_rfl)
    ·
      exact PV.triv (by kernel_rfl)
  ·
    exact PV.triv (by kernel_rfl)
noncomputable def ref01_Put_ct (n : Nat) (vs : List AV) (h : AH) : Option Ctr := match vs, h with
  | [.sl 0 1, .n .u64 a2, .i .i64 a3], [(0, (.row .u8 o1 a1 5 f1))] => some (.one ref01_Put_R (ref01_Put n  a1 a2 a3) [] 1 ref01_Put_out)
  | _, _ => none
theorem ref01_Put_ok (n : Nat) : COk1 cfg0 53 (ref01_Put_ct n) := by
  intro vs h c e
  unfold ref01_Put_ct at e
  split at e
  · rename_i a2 a3 o1 a1 f1
    cases e
    exact fun r hm => sxF_ok (E := ref01_Put_E n o1 f1 a1) (nx1 := ref01_Put_nx) (ref01_Put_fn) rfl rfl rfl (callA_ok (ref01_Put_pre_ok n)) ref01_Put_ret_ok rfl (ref01_Put_pv n o1 f1 a1 _) ((ref01_Put_eq n o1 f1 a1 a2 a3).trans hm)
  · cases e
end
end Go.Ev
end
section
set_option linter.unusedVariables false
set_option linter.unusedSimpArgs false
set_option maxRecDepth 100000
set_option maxHeartbeats 400000
namespace Go.Ev
open Go.RowKit Go.Proofs
section
theorem ref04_Room_fn : cfg0.fn 66 = some Try.f66 := rfl
abbrev ref04_Room_R : Type := Int
@[reducible] def ref04_Room_rt (b0 : Int) : Option ref04_Room_R := some b0
noncomputable def ref04_Room_out : ref04_Room_R → AV × AH
  | b0 => ((.i .i64 b0), [])
noncomputable def ref04_Room_nx : ref04_Room_R → Nat
  | _ => 0
noncomputable def ref04_Room_ret (v : AV) (h : AH) (nx : Nat) : Option ref04_Room_R := match v, h, nx with
  | (.i .i64 b0), [], 0 => some b0
  | _, _, _ => none
theorem ref04_Room_ret_ok (v : AV) (h : AH) (nx : Nat) (r : ref04_Room_R) (e : ref04_Room_ret v h nx = some r) : ref04_Room_out r = (v, h) ∧ nx = ref04_Room_nx r := by
  unfold ref04_Room_ret at e
  split at e
  · cases e; exact ⟨rfl, rfl⟩
  · cases e
noncomputable def ref04_Room_kr : KN := []
noncomputable def ref04_Room_pre (n : Nat) : CT := (ctA 58 (ref03_Good_ct n) ctZ)
theorem ref04_Room_pre_ok (n : Nat) : COk cfg0 (ref04_Room_pre n) := (ctA_ok (ref03_Good_ok n) ctZ_ok)
noncomputable def ref04_Room_E0 (n : Nat) (R : Type)   (jf lf : List Nat → Nat → AT → AS → Option R) : SE R := ⟨[], Try.f66.ntmps, 0, callA cfg0 kd [] (ref04_Room_pre n), n, [], [], [], [], jf, lf⟩
noncomputable def ref04_Room_F (n : Nat) (a1 : Int)  : Option ref04_Room_R := Option.bind (ref03_Good n a1) fun z => bif !z then ref04_Room_rt 0 else ref04_Room_rt (w64 (a1 - 24))
noncomputable def ref04_Room (n : Nat) (a1 : Int) : Option ref04_Room_R := ref04_Room_F n a1 
noncomputable def ref04_Room_jf (n : Nat) : List Nat → Nat → AT → AS → Option ref04_Room_R := fun ms key T s => none
noncomputable def ref04_Room_lf (n : Nat) : List Nat → Nat → AT → AS → Option ref04_Room_R := fun ms key T s => none
noncomputable def ref04_Room_E (n : Nat)   : SE ref04_Room_R := ref04_Room_E0 n ref04_Room_R   (ref04_Room_jf n) (ref04_Room_lf n)
theorem ref04_Room_eq (n : Nat) (a1 : Int) : sxF cfg0 kd ref04_Room_kr (ref04_Room_E n  ) Try.f66 (bodyOf Try.f66) [] [.i .i64 a1] ref04_Room_ret = ref04_Room n a1 := by kernel_rfl
theorem ref04_Room_pv (n : Nat) (r : ref04_Room_R) : PV cfg0 kd (ref04_Room_E n  ) r [] (bodyOf Try.f66) (retK cfg0 kd ref04_Room_kr (ref04_Room_E n  ) Try.f66.results.toList ref04_Room_ret) := by
  exact PV.triv (by kernel_rfl)
noncomputable def ref04_Room_ct (n : Nat) (vs : List AV) (h : AH) : Option Ctr := match vs, h with
  | [.i .i64 a1], [] => some (.one ref04_Room_R (ref04_Room n   a1) [] 0 ref04_Room_out)
  | _, _ => none
theorem ref04_Room_ok (n : Nat) : COk1 cfg0 66 (ref04_Room_ct n) := by
  intro vs h c e
  unfold ref04_Room_ct at e
  split at e
  · rename_i a1
    cases e
    exact fun r hm => sxF_ok (E := ref04_Room_E n  ) (nx1 := ref04_Room_nx) (ref04_Room_fn) rfl rfl rfl (callA_ok (ref04_Room_pre_ok n)) ref04_Room_ret_ok rfl (ref04_Room_pv n   _) ((ref04_Room_eq n   a1).trans hm)
  · cases e
end
end Go.Ev
end
section
set_option linter.unusedVariables false
set_option linter.unusedSimpArgs false
set_option maxRecDepth 100000
set_option maxHeartbeats 400000
namespace Go.Ev
open Go.RowKit Go.Proofs
section
theorem ref04_Body_fn : cfg0.fn 54 = some Try.f54 := rfl
abbrev ref04_Body_R : Type := (List UInt8) × Int
@[reducible] def ref04_Body_rt (b0 : List UInt8) (b1 : Int) : Option ref04_Body_R := some (b0, b1)
noncomputable def ref04_Body_out : ref04_Body_R → AV × AH
  | (b0, b1) => ((.tu [(.s b0), (.i .i64 b1)]), [])
noncomputable def ref04_Body_nx : ref04_Body_R → Nat
  | _ => 1
noncomputable def ref04_Body_ret (v : AV) (h : AH) (nx : Nat) : Option ref04_Body_R := match v, h, nx with
  | (.tu [(.s b0), (.i .i64 b1)]), [], 1 => some (b0, b1)
  | _, _, _ => none
theorem ref04_Body_ret_ok (v : AV) (h : AH) (nx : Nat) (r : ref04_Body_R) (e : ref04_Body_ret v h nx = some r) : ref04_Body_out r = (v, h) ∧ nx = ref04_Body_nx r := by
  unfold ref04_Body_ret at e
  split at e
  · cases e; exact ⟨rfl, rfl⟩
  · cases e
noncomputable def ref04_Body_kr : KN := []
noncomputable def ref04_Body_pre (n : Nat) : CT := (ctA 58 (ref03_Good_ct n) (ctA 66 (ref04_Room_ct n) ctZ))
theorem ref04_Body_pre_ok (n : Nat) : COk cfg0 (ref04_Body_pre n) := (ctA_ok (ref03_Good_ok n) (ctA_ok (ref04_Room_ok n) ctZ_ok))
noncomputable def ref04_Body_E0 (n : Nat) (R : Type) (o1 : Nat) (f1 : Nat × Nat) (a2 : List UInt8) (jf lf : List Nat → Nat → AT → AS → Option R) : SE R := ⟨[(0, (.row .u8 o1 a2 5 f1))], Try.f54.ntmps, 1, callA cfg0 kd [(0, (.row .u8 o1 a2 5 f1))] (ref04_Body_pre n), n, [], [], [], [], jf, lf⟩
noncomputable def ref04_Body_F (n : Nat) (a2 : List UInt8) (a1 : Int)  : Option ref04_Body_R := Option.bind (ref03_Good n a1) fun z => bif !z then ref04_Body_rt [] 2 else Option.bind (ref04_Room n a1) fun z_1 => bif decide (z_1 < (↑(List.length a2) : Int)) then ref04_Body_rt [] 3 else Option.bind (ref04_Room n a1) fun z_2 => bif decide (0 ≤ w64 (z_2 - (↑(List.length a2) : Int))) && decide (0 ≤ w64 (z_2 - (↑(List.length a2) : Int))) && (Nat.ble (Int.toNat (w64 (z_2 - (↑(List.length a2) : Int)))) (Int.toNat (w64 (z_2 - (↑(List.length a2) : Int)))) && Nat.ble (Int.toNat (w64 (z_2 - (↑(List.length a2) : Int)))) 100000000) then bif decide (List.length a2 + List.length (List.replicate (Int.toNat (w64 (z_2 - (↑(List.length a2) : Int)))) (UInt8.ofNat ((0 : Nat)))) ≤ 4611686018427387904) then ref04_Body_rt (a2 ++ List.replicate (Int.toNat (w64 (z_2 - (↑(List.length a2) : Int)))) (UInt8.ofNat ((0 : Nat)))) 0 else none else none
noncomputable def ref04_Body (n : Nat) (a2 : List UInt8) (a1 : Int) : Option ref04_Body_R := ref04_Body_F n a2 a1 
noncomputable def ref04_Body_jf (n : Nat) (a2 : List UInt8) : List Nat → Nat → AT → AS → Option ref04_Body_R := fun ms key T s => none
noncomputable def ref04_Body_lf (n : Nat) (a2 : List UInt8) : List Nat → Nat → AT → AS → Option ref04_Body_R := fun ms key T s => none
noncomputable def ref04_Body_E (n : Nat) (o1 : Nat) (f1 : Nat × Nat) (a2 : List UInt8) : SE ref04_Body_R := ref04_Body_E0 n ref04_Body_R o1 f1 a2 (ref04_Body_jf n a2) (ref04_Body_lf n a2)
theorem ref04_Body_eq (n : Nat) (o1 : Nat) (f1 : Nat × Nat) (a2 : List UInt8) (a1 : Int) : sxF cfg0 kd ref04_Body_kr (ref04_Body_E n o1 f1 a2) Try.f54 (bodyOf Try.f54) [] [.i .i64 a1, .sl 0 1] ref04_Body_ret = ref04_Body n a2 a1 := by kernel_rfl
theorem ref04_Body_pv (n : Nat) (o1 : Nat) (f1 : Nat × Nat) (a2 : List UInt8) (r : ref04_Body_R) : PV cfg0 kd (ref04_Body_E n o1 f1 a2) r [] (bodyOf Try.f54) (retK cfg0 kd ref04_Body_kr (ref04_Body_E n o1 f1 a2) Try.f54.results.toList ref04_Body_ret) := by
  exact PV.triv (by kernel_rfl)
noncomputable def ref04_Body_ct (n : Nat) (vs : List AV) (h : AH) : Option Ctr := match vs, h with
  | [.i .i64 a1, .sl 0 1], [(0, (.row .u8 o1 a2 5 f1))] => some (.one ref04_Body_R (ref04_Body n  a2 a1) [] 0 ref04_Body_out)
  | _, _ => none
theorem ref04_Body_ok (n : Nat) : COk1 cfg0 54 (ref04_Body_ct n) := by
  intro vs h c e
  unfold ref04_Body_ct at e
  split at e
  · rename_i a1 o1 a2 f1
    cases e
    exact fun r hm => sxF_ok (E := ref04_Body_E n o1 f1 a2) (nx1 := ref04_Body_nx) (ref04_Body_fn) rfl rfl rfl (callA_ok (ref04_Body_pre_ok n)) ref04_Body_ret_ok rfl (ref04_Body_pv n o1 f1 a2 _) ((ref04_Body_eq n o1 f1 a2 a1).trans hm)
  · cases e
end
end Go.Ev
end
section
set_option linter.unusedVariables false
set_option linter.unusedSimpArgs false
set_option maxRecDepth 100000
set_option maxHeartbeats 400000
namespace Go.Ev
open Go.RowKit Go.Proofs
section
theorem ref05_Page_fn : cfg0.fn 32 = some Try.f32 := rfl
abbrev ref05_Page_R : Type := Pg × Int
@[reducible] def ref05_Page_rt (b0 : Pg) (b1 : Int) : Option ref05_Page_R := some (b0, b1)
noncomputable def ref05_Page_out : ref05_Page_R → AV × AH
  | (b0, b1) => ((.tu [(.ag (RK.k .page b0)), (.i .i64 b1)]), [])
noncomputable def ref05_Page_nx : ref05_Page_R → Nat
  | _ => 0
noncomputable def ref05_Page_ret (v : AV) (h : AH) (nx : Nat) : Option ref05_Page_R := match v, h, nx with
  | (.tu [(.ag [.i .i64 b0_0, .i .i64 b0_1, .n .u32 b0_2, .n .u32 b0_3, .n .u64 b0_4, .s b0_5]), (.i .i64 b1)]), [], 0 => some (⟨b0_0, b0_1, b0_2, b0_3, b0_4, b0_5⟩, b1)
  | _, _, _ => none
theorem ref05_Page_ret_ok (v : AV) (h : AH) (nx : Nat) (r : ref05_Page_R) (e : ref05_Page_ret v h nx = some r) : ref05_Page_out r = (v, h) ∧ nx = ref05_Page_nx r := by
  unfold ref05_Page_ret at e
  split at e
  · cases e; exact ⟨rfl, rfl⟩
  · cases e
noncomputable def ref05_Page_kr : KN := []
noncomputable def ref05_Page_pre (n : Nat) : CT := (ctA 36 (ref05_Slot_ct n) (ctA 52 (ref05_may_ct n) (ctA 53 (ref01_Put_ct n) (ctA 54 (ref04_Body_ct n) ctZ))))
theorem ref05_Page_pre_ok (n : Nat) : COk cfg0 (ref05_Page_pre n) := (ctA_ok (ref05_Slot_ok n) (ctA_ok (ref05_may_ok n) (ctA_ok (ref01_Put_ok n) (ctA_ok (ref04_Body_ok n) ctZ_ok))))
noncomputable def ref05_Page_E0 (n : Nat) (R : Type)   (jf lf : List Nat → Nat → AT → AS → Option R) : SE R := ⟨[], Try.f32.ntmps, 0, callA cfg0 kd [] (ref05_Page_pre n), n, [], [], [], [], jf, lf⟩
noncomputable def ref05_Page_F (n : Nat) (a1 : Mta)  : Option ref05_Page_R := Option.bind (ref05_may n (Mta.mk a1.tx a1.size a1.root a1.free a1.pages)) fun z => bif !z then ref05_Page_rt (Pg.mk 0 0 ((0 : Nat)) ((0 : Nat)) ((0 : Nat)) []) 2 else Option.bind (ref01_Put n ([] ++ #[99, 97, 114, 101, 101, 110, 48, 49].toList) (u64 a1.size) 2) fun z_1 => Option.bind (ref01_Put n z_1 (a1.root % 18446744073709551616) 4) fun z_2 => Option.bind (ref01_Put n z_2 (a1.free % 18446744073709551616) 4) fun z_3 => Option.bind (ref01_Put n z_3 (a1.pages % 18446744073709551616) 4) fun z_4 => Option.bind (ref04_Body n z_4 a1.size) fun z_5 => ref05_Page_rt (Pg.mk 1 0 (a1.tx % 2 % 4294967296) ((0 : Nat)) a1.tx z_5.fst) 0
noncomputable def ref05_Page (n : Nat) (a1 : Mta) : Option ref05_Page_R := ref05_Page_F n a1 
noncomputable def ref05_Page_jf (n : Nat) : List Nat → Nat → AT → AS → Option ref05_Page_R := fun ms key T s => none
noncomputable def ref05_Page_lf (n : Nat) : List Nat → Nat → AT → AS → Option ref05_Page_R := fun ms key T s => none
noncomputable def ref05_Page_E (n : Nat)   : SE ref05_Page_R := ref05_Page_E0 n ref05_Page_R   (ref05_Page_jf n) (ref05_Page_lf n)
theorem ref05_Page_eq (n : Nat) (a1 : Mta) : sxF cfg0 kd ref05_Page_kr (ref05_Page_E n  ) Try.f32 (bodyOf Try.f32) [] [.ag (RK.k .mta a1)] ref05_Page_ret = ref05_Page n a1 := by kernel_rfl
theorem ref05_Page_pv (n : Nat) (r : ref05_Page_R) : PV cfg0 kd (ref05_Page_E n  ) r [] (bodyOf Try.f32) (retK cfg0 kd ref05_Page_kr (ref05_Page_E n  ) Try.f32.results.toList ref05_Page_ret) := by
  exact PV.triv (by kernel_rfl)
noncomputable def ref05_Page_ct (n : Nat) (vs : List AV) (h : AH) : Option Ctr := match vs, h with
  | [.ag [.n .u64 a1_0, .i .i64 a1_1, .n .u32 a1_2, .n .u32 a1_3, .n .u32 a1_4]], [] => some (.one ref05_Page_R (ref05_Page n   ⟨a1_0, a1_1, a1_2, a1_3, a1_4⟩) [] 0 ref05_Page_out)
  | _, _ => none
theorem ref05_Page_ok (n : Nat) : COk1 cfg0 32 (ref05_Page_ct n) := by
  intro vs h c e
  unfold ref05_Page_ct at e
  split at e
  · rename_i a1_0 a1_1 a1_2 a1_3 a1_4
    cases e
    exact fun r hm => sxF_ok (E := ref05_Page_E n  ) (nx1 := ref05_Page_nx) (ref05_Page_fn) rfl rfl rfl (callA_ok (ref05_Page_pre_ok n)) ref05_Page_ret_ok rfl (ref05_Page_pv n   _) ((ref05_Page_eq n   ⟨a1_0, a1_1, a1_2, a1_3, a1_4⟩).trans hm)
  · cases e
end
end Go.Ev
end
section
set_option linter.unusedVariables false
set_option linter.unusedSimpArgs false
set_option maxRecDepth 100000
set_option maxHeartbeats 400000
namespace Go.Ev
open Go.RowKit Go.Proofs
section
theorem ref04_May_fn : cfg0.fn 59 = some Try.f59 := rfl
abbrev ref04_May_R : Type := Bool
@[reducible] def ref04_May_rt (b0 : Bool) : Option ref04_May_R := some b0
noncomputable def ref04_May_out : ref04_May_R → AV × AH
  | b0 => ((.b b0), [])
noncomputable def ref04_May_nx : ref04_May_R → Nat
  | _ => 0
noncomputable def ref04_May_ret (v : AV) (h : AH) (nx : Nat) : Option ref04_May_R := match v, h, nx with
  | (.b b0), [], 0 => some b0
  | _, _, _ => none
theorem ref04_May_ret_ok (v : AV) (h : AH) (nx : Nat) (r : ref04_May_R) (e : ref04_May_ret v h nx = some r) : ref04_May_out r = (v, h) ∧ nx = ref04_May_nx r := by
  unfold ref04_May_ret at e
  split at e
  · cases e; exact ⟨rfl, rfl⟩
  · cases e
noncomputable def ref04_May_kr : KN := []
noncomputable def ref04_May_pre (n : Nat) : CT := (ctA 58 (ref03_Good_ct n) (ctA 66 (ref04_Room_ct n) ctZ))
theorem ref04_May_pre_ok (n : Nat) : COk cfg0 (ref04_May_pre n) := (ctA_ok (ref03_Good_ok n) (ctA_ok (ref04_Room_ok n) ctZ_ok))
noncomputable def ref04_May_E0 (n : Nat) (R : Type)   (jf lf : List Nat → Nat → AT → AS → Option R) : SE R := ⟨[], Try.f59.ntmps, 0, callA cfg0 kd [] (ref04_May_pre n), n, [], [], [], [], jf, lf⟩
noncomputable def ref04_May_F (n : Nat) (a1 : Int) (a2 : Pg)  : Option ref04_May_R := Option.bind (ref03_Good n a1) fun z => bif z then bif decide (1 ≤ a2.kind) then bif decide (a2.kind ≤ 6) then bif decide (0 ≤ a2.count) then bif decide (a2.count ≤ 65535) then bif decide (a2.page ≤ (2147483647 : Nat)) then bif decide (a2.link ≤ (2147483647 : Nat)) then bif decide (a2.tx ≤ (4611686018427387904 : Nat)) then Option.bind (ref04_Room n a1) fun z_1 => ref04_May_rt (decide ((↑(List.length a2.body) : Int) = z_1)) else ref04_May_rt false else ref04_May_rt false else ref04_May_rt false else ref04_May_rt false else ref04_May_rt false else ref04_May_rt false else ref04_May_rt false else ref04_May_rt false
noncomputable def ref04_May (n : Nat) (a1 : Int) (a2 : Pg) : Option ref04_May_R := ref04_May_F n a1 a2 
noncomputable def ref04_May_jf (n : Nat) : List Nat → Nat → AT → AS → Option ref04_May_R := fun ms key T s => none
noncomputable def ref04_May_lf (n : Nat) : List Nat → Nat → AT → AS → Option ref04_May_R := fun ms key T s => none
noncomputable def ref04_May_E (n : Nat)   : SE ref04_May_R := ref04_May_E0 n ref04_May_R   (ref04_May_jf n) (ref04_May_lf n)
theorem ref04_May_eq (n : Nat) (a1 : Int) (a2 : Pg) : sxF cfg0 kd ref04_May_kr (ref04_May_E n  ) Try.f59 (bodyOf Try.f59) [] [.i .i64 a1, .ag (RK.k .page a2)] ref04_May_ret = ref04_May n a1 a2 := by kernel_rfl
theorem ref04_May_pv (n : Nat) (r : ref04_May_R) : PV cfg0 kd (ref04_May_E n  ) r [] (bodyOf Try.f59) (retK cfg0 kd ref04_May_kr (ref04_May_E n  ) Try.f59.results.toList ref04_May_ret) := by
  exact PV.triv (by kernel_rfl)
noncomputable def ref04_May_ct (n : Nat) (vs : List AV) (h : AH) : Option Ctr := match vs, h with
  | [.i .i64 a1, .ag [.i .i64 a2_0, .i .i64 a2_1, .n .u32 a2_2, .n .u32 a2_3, .n .u64 a2_4, .s a2_5]], [] => some (.one ref04_May_R (ref04_May n   a1 ⟨a2_0, a2_1, a2_2, a2_3, a2_4, a2_5⟩) [] 0 ref04_May_out)
  | _, _ => none
theorem ref04_May_ok (n : Nat) : COk1 cfg0 59 (ref04_May_ct n) := by
  intro vs h c e
  unfold ref04_May_ct at e
  split at e
  · rename_i a1 a2_0 a2_1 a2_2 a2_3 a2_4 a2_5
    cases e
    exact fun r hm => sxF_ok (E := ref04_May_E n  ) (nx1 := ref04_May_nx) (ref04_May_fn) rfl rfl rfl (callA_ok (ref04_May_pre_ok n)) ref04_May_ret_ok rfl (ref04_May_pv n   _) ((ref04_May_eq n   a1 ⟨a2_0, a2_1, a2_2, a2_3, a2_4, a2_5⟩).trans hm)
  · cases e
end
end Go.Ev
end
section
set_option linter.unusedVariables false
set_option linter.unusedSimpArgs false
set_option maxRecDepth 100000
set_option maxHeartbeats 400000
namespace Go.Ev
open Go.RowKit Go.Proofs
section
theorem ref04_rest_fn : cfg0.fn 60 = some Try.f60 := rfl
abbrev ref04_rest_R : Type := (List UInt8)
@[reducible] def ref04_rest_rt (b0 : List UInt8) : Option ref04_rest_R := some b0
noncomputable def ref04_rest_out : ref04_rest_R → AV × AH
  | b0 => ((.s b0), [])
noncomputable def ref04_rest_nx : ref04_rest_R → Nat
  | _ => 0
noncomputable def ref04_rest_ret (v : AV) (h : AH) (nx : Nat) : Option ref04_rest_R := match v, h, nx with
  | (.s b0), [], 0 => some b0
  | _, _, _ => none
theorem ref04_rest_ret_ok (v : AV) (h : AH) (nx : Nat) (r : ref04_rest_R) (e : ref04_rest_ret v h nx = some r) : ref04_rest_out r = (v, h) ∧ nx = ref04_rest_nx r := by
  unfold ref04_rest_ret at e
  split at e
  · cases e; exact ⟨rfl, rfl⟩
  · cases e
noncomputable def ref04_rest_kr : KN := []
noncomputable def ref04_rest_pre (n : Nat) : CT := (ctA 53 (ref01_Put_ct n) ctZ)
theorem ref04_rest_pre_ok (n : Nat) : COk cfg0 (ref04_rest_pre n) := (ctA_ok (ref01_Put_ok n) ctZ_ok)
noncomputable def ref04_rest_E0 (n : Nat) (R : Type)   (jf lf : List Nat → Nat → AT → AS → Option R) : SE R := ⟨[], Try.f60.ntmps, 0, callA cfg0 kd [] (ref04_rest_pre n), n, [], [], [], [], jf, lf⟩
noncomputable def ref04_rest_F (n : Nat) (a1 : Pg)  : Option ref04_rest_R := Option.bind (ref01_Put n [] (u64 a1.kind) 1) fun z => Option.bind (ref01_Put n z ((1 : Nat)) 1) fun z_1 => Option.bind (ref01_Put n z_1 (u64 a1.count) 2) fun z_2 => Option.bind (ref01_Put n z_2 (a1.page % 18446744073709551616) 4) fun z_3 => Option.bind (ref01_Put n z_3 (a1.link % 18446744073709551616) 4) fun z_4 => Option.bind (ref01_Put n z_4 a1.tx 8) fun z_5 => bif decide (List.length z_5 + List.length a1.body ≤ 4611686018427387904) then ref04_rest_rt (z_5 ++ a1.body) else none
noncomputable def ref04_rest (n : Nat) (a1 : Pg) : Option ref04_rest_R := ref04_rest_F n a1 
noncomputable def ref04_rest_jf (n : Nat) : List Nat → Nat → AT → AS → Option ref04_rest_R := fun ms key T s => none
noncomputable def ref04_rest_lf (n : Nat) : List Nat → Nat → AT → AS → Option ref04_rest_R := fun ms key T s => none
noncomputable def ref04_rest_E (n : Nat)   : SE ref04_rest_R := ref04_rest_E0 n ref04_rest_R   (ref04_rest_jf n) (ref04_rest_lf n)
theorem ref04_rest_eq (n : Nat) (a1 : Pg) : sxF cfg0 kd ref04_rest_kr (ref04_rest_E n  ) Try.f60 (bodyOf Try.f60) [] [.ag (RK.k .page a1)] ref04_rest_ret = ref04_rest n a1 := by kernel_rfl
theorem ref04_rest_pv (n : Nat) (r : ref04_rest_R) : PV cfg0 kd (ref04_rest_E n  ) r [] (bodyOf Try.f60) (retK cfg0 kd ref04_rest_kr (ref04_rest_E n  ) Try.f60.results.toList ref04_rest_ret) := by
  exact PV.triv (by kernel_rfl)
noncomputable def ref04_rest_ct (n : Nat) (vs : List AV) (h : AH) : Option Ctr := match vs, h with
  | [.ag [.i .i64 a1_0, .i .i64 a1_1, .n .u32 a1_2, .n .u32 a1_3, .n .u64 a1_4, .s a1_5]], [] => some (.one ref04_rest_R (ref04_rest n   ⟨a1_0, a1_1, a1_2, a1_3, a1_4, a1_5⟩) [] 0 ref04_rest_out)
  | _, _ => none
theorem ref04_rest_ok (n : Nat) : COk1 cfg0 60 (ref04_rest_ct n) := by
  intro vs h c e
  unfold ref04_rest_ct at e
  split at e
  · rename_i a1_0 a1_1 a1_2 a1_3 a1_4 a1_5
    cases e
    exact fun r hm => sxF_ok (E := ref04_rest_E n  ) (nx1 := ref04_rest_nx) (ref04_rest_fn) rfl rfl rfl (callA_ok (ref04_rest_pre_ok n)) ref04_rest_ret_ok rfl (ref04_rest_pv n   _) ((ref04_rest_eq n   ⟨a1_0, a1_1, a1_2, a1_3, a1_4, a1_5⟩).trans hm)
  · cases e
end
end Go.Ev
end
section
set_option linter.unusedVariables false
set_option linter.unusedSimpArgs false
set_option maxRecDepth 100000
set_option maxHeartbeats 400000
namespace Go.Ev
open Go.RowKit Go.Proofs
section
theorem ref02_step_fn : cfg0.fn 74 = some Try.f74 := rfl
abbrev ref02_step_R : Type := Nat
@[reducible] def ref02_step_rt (b0 : Nat) : Option ref02_step_R := some b0
noncomputable def ref02_step_out : ref02_step_R → AV × AH
  | b0 => ((.n .u32 b0), [])
noncomputable def ref02_step_nx : ref02_step_R → Nat
  | _ => 0
noncomputable def ref02_step_ret (v : AV) (h : AH) (nx : Nat) : Option ref02_step_R := match v, h, nx with
  | (.n .u32 b0), [], 0 => some b0
  | _, _, _ => none
theorem ref02_step_ret_ok (v : AV) (h : AH) (nx : Nat) (r : ref02_step_R) (e : ref02_step_ret v h nx = some r) : ref02_step_out r = (v, h) ∧ nx = ref02_step_nx r := by
  unfold ref02_step_ret at e
  split at e
  · cases e; exact ⟨rfl, rfl⟩
  · cases e
noncomputable def ref02_step_kr : KN := []
noncomputable def ref02_step_pre (n : Nat) : CT := ctZ
theorem ref02_step_pre_ok (n : Nat) : COk cfg0 (ref02_step_pre n) := ctZ_ok
noncomputable def ref02_step_E0 (n : Nat) (R : Type)   (jf lf : List Nat → Nat → AT → AS → Option R) : SE R := ⟨[], Try.f74.ntmps, 0, callA cfg0 kd [] (ref02_step_pre n), n, [(3, ([0, 3], 0))], [], [], [], jf, lf⟩
noncomputable def ref02_step_L3F (n : Nat) (r3 : (Nat → Int → Option ref02_step_R))  (x0 : Nat) (x1 : Int) : Option ref02_step_R := bif decide (x1 < 8) then bif decide ((x0 % 4294967296 &&& (1 : Nat) % 4294967296) % 4294967296 = (1 : Nat)) then r3 ((x0 / 2 ^ (1 : Nat) % 4294967296 ^^^ (2197175160 : Nat) % 4294967296) % 4294967296) (w64 (x1 + 1)) else r3 (x0 / 2 ^ (1 : Nat)) (w64 (x1 + 1)) else ref02_step_rt x0
noncomputable def ref02_step_L3 (n : Nat)  : Nat → Nat → Int → Option ref02_step_R
  | 0, _, _ => none
  | m + 1, x0, x1 => ref02_step_L3F n  (ref02_step_L3 n  m)  x0 x1
noncomputable def ref02_step_F (n : Nat) (a1 : Nat) (l3 : (Nat → Int → Option ref02_step_R)) : Option ref02_step_R := l3 a1 0
noncomputable def ref02_step (n : Nat) (a1 : Nat) : Option ref02_step_R := ref02_step_F n a1 (ref02_step_L3 n n)
noncomputable def ref02_step_L3q (n : Nat) (m3 : Nat) (T : AT) (s : AS) : Option ref02_step_R := match T, s with
  | [(0, (.n .u32 x0)), (3, (.i .i64 x1))], ⟨[], 0, []⟩ => ref02_step_L3 n  m3 x0 x1
  | _, _ => none
noncomputable def ref02_step_jf (n : Nat) : List Nat → Nat → AT → AS → Option ref02_step_R := fun ms key T s => none
noncomputable def ref02_step_lf (n : Nat) : List Nat → Nat → AT → AS → Option ref02_step_R := fun ms key T s => cond (Nat.beq key 3) (match ms with | [m3] => ref02_step_L3q n m3 T s | _ => none) (none)
noncomputable def ref02_step_E (n : Nat)   : SE ref02_step_R := ref02_step_E0 n ref02_step_R   (ref02_step_jf n) (ref02_step_lf n)
theorem ref02_step_eq (n : Nat) (a1 : Nat) : sxF cfg0 kd ref02_step_kr (ref02_step_E n  ) Try.f74 (bodyOf Try.f74) [] [.n .u32 a1] ref02_step_ret = ref02_step n a1 := by kernel_rfl
theorem ref02_step_pv (n : Nat) (r : ref02_step_R) : PV cfg0 kd (ref02_step_E n  ) r [] (bodyOf Try.f74) (retK cfg0 kd ref02_step_kr (ref02_step_E n  ) Try.f74.results.toList ref02_step_ret) := by
  refine PV.sn (by kernel_rfl) ?_ ?_
  ·
    refine PV.sn (by kernel_rfl) ?_ ?_
    ·
      exact PV.triv (by kernel_rfl)
    ·
      refine PV.sn (by kernel_rfl) ?_ ?_
      ·
        refine PV.bl ?_
        refine PV.lp (live := [0, 3]) (by kernel_rfl) ?_ ?_ ?_
        · intro T s h; change ref02_step_L3q n 0 _ _ = some r at h; unfold ref02_step_L3q at h; split at h
          · exact nomatch (show (none : Option ref02_step_R) = some r from h)
          · cases h
        · intro m3 T s h; change ref02_step_L3q n (m3 + 1) _ _ = some r at h; unfold ref02_step_L3q at h; split at h
          · exact Eq.trans (by kernel_rfl) h
          · cases h
        · intro m3
          exact PV.triv (by kernel_rfl)
      ·
        exact PV.triv (by kernel_rfl)
  ·
    exact PV.triv (by kernel_rfl)
noncomputable def ref02_step_ct (n : Nat) (vs : List AV) (h : AH) : Option Ctr := match vs, h with
  | [.n .u32 a1], [] => some (.one ref02_step_R (ref02_step n   a1) [] 0 ref02_step_out)
  | _, _ => none
theorem ref02_step_ok (n : Nat) : COk1 cfg0 74 (ref02_step_ct n) := by
  intro vs h c e
  unfold ref02_step_ct at e
  split at e
  · rename_i a1
    cases e
    exact fun r hm => sxF_ok (E := ref02_step_E n  ) (nx1 := ref02_step_nx) (ref02_step_fn) rfl rfl rfl (callA_ok (ref02_step_pre_ok n)) ref02_step_ret_ok rfl (ref02_step_pv n   _) ((ref02_step_eq n   a1).trans hm)
  · cases e
end
end Go.Ev
end
section
set_option linter.unusedVariables false
set_option linter.unusedSimpArgs false
set_option maxRecDepth 100000
set_option maxHeartbeats 400000
namespace Go.Ev
open Go.RowKit Go.Proofs
section
theorem ref02_Table_fn : cfg0.fn 73 = some Try.f73 := rfl
abbrev ref02_Table_R : Type := (List (Nat))
@[reducible] def ref02_Table_rt (b0 : List (Nat)) : Option ref02_Table_R := some b0
noncomputable def ref02_Table_out : ref02_Table_R → AV × AH
  | b0 => ((.ar .u32 b0), [])
noncomputable def ref02_Table_nx : ref02_Table_R → Nat
  | _ => 0
noncomputable def ref02_Table_ret (v : AV) (h : AH) (nx : Nat) : Option ref02_Table_R := match v, h, nx with
  | (.ar .u32 b0), [], 0 => some b0
  | _, _, _ => none
theorem ref02_Table_ret_ok (v : AV) (h : AH) (nx : Nat) (r : ref02_Table_R) (e : ref02_Table_ret v h nx = some r) : ref02_Table_out r = (v, h) ∧ nx = ref02_Table_nx r := by
  unfold ref02_Table_ret at e
  split at e
  · cases e; exact ⟨rfl, rfl⟩
  · cases e
noncomputable def ref02_Table_kr : KN := []
noncomputable def ref02_Table_pre (n : Nat) : CT := (ctA 74 (ref02_step_ct n) ctZ)
theorem ref02_Table_pre_ok (n : Nat) : COk cfg0 (ref02_Table_pre n) := (ctA_ok (ref02_step_ok n) ctZ_ok)
noncomputable def ref02_Table_E0 (n : Nat) (R : Type)   (jf lf : List Nat → Nat → AT → AS → Option R) : SE R := ⟨[], Try.f73.ntmps, 0, callA cfg0 kd [] (ref02_Table_pre n), n, [(4, ([0, 1, 2], 0))], [], [], [], jf, lf⟩
noncomputable def ref02_Table_L4F (n : Nat) (r4 : (Int → List (Nat) → List (Nat) → Option ref02_Table_R))  (x0 : Int) (x1 : List (Nat)) (x2 : List (Nat)) : Option ref02_Table_R := bif decide (x0 < 256) then Option.bind (ref02_step n (u32 x0)) fun z => bif decide (0 ≤ x0) && Nat.ble (Nat.succ (Int.toNat x0)) 256 then Option.bind x1[Int.toNat x0]? fun z_1 => r4 (w64 (x0 + 1)) (List.set x1 (Int.toNat x0) z) x2 else none else bif decide (List.length x1 = 256) then bif decide (List.length x1 = (Try.t99, Try.t99.desc).fst.size) && decide (List.length x1 = List.length x2) then bif decide (List.length x1 = 256) then ref02_Table_rt x1 else none else none else none
noncomputable def ref02_Table_L4 (n : Nat)  : Nat → Int → List (Nat) → List (Nat) → Option ref02_Table_R
  | 0, _, _, _ => none
  | m + 1, x0, x1, x2 => ref02_Table_L4F n  (ref02_Table_L4 n  m)  x0 x1 x2
noncomputable def ref02_Table_F (n : Nat)  (l4 : (Int → List (Nat) → List (Nat) → Option ref02_Table_R)) : Option ref02_Table_R := l4 0 (List.replicate 256 0) (List.replicate 256 0)
noncomputable def ref02_Table (n : Nat)  : Option ref02_Table_R := ref02_Table_F n  (ref02_Table_L4 n n)
noncomputable def ref02_Table_L4q (n : Nat) (m4 : Nat) (T : AT) (s : AS) : Option ref02_Table_R := match T, s with
  | [(0, (.ptr 0 0)), (1, (.ptr 1 0)), (2, (.i .i64 x0))], ⟨[(1, (.row .u32 0 x1 99 (0, 0))), (0, (.row .u32 0 x2 99 (0, 0)))], 2, []⟩ => ref02_Table_L4 n  m4 x0 x1 x2
  | _, _ => none
noncomputable def ref02_Table_jf (n : Nat) : List Nat → Nat → AT → AS → Option ref02_Table_R := fun ms key T s => none
noncomputable def ref02_Table_lf (n : Nat) : List Nat → Nat → AT → AS → Option ref02_Table_R := fun ms key T s => cond (Nat.beq key 4) (match ms with | [m4] => ref02_Table_L4q n m4 T s | _ => none) (none)
noncomputable def ref02_Table_E (n : Nat)   : SE ref02_Table_R := ref02_Table_E0 n ref02_Table_R   (ref02_Table_jf n) (ref02_Table_lf n)
theorem ref02_Table_eq (n : Nat) : sxF cfg0 kd ref02_Table_kr (ref02_Table_E n  ) Try.f73 (bodyOf Try.f73) [] [] ref02_Table_ret = ref02_Table n  := by kernel_rfl
theorem ref02_Table_pv (n : Nat) (r : ref02_Table_R) : PV cfg0 kd (ref02_Table_E n  ) r [] (bodyOf Try.f73) (retK cfg0 kd ref02_Table_kr (ref02_Table_E n  ) Try.f73.results.toList ref02_Table_ret) := by
  refine PV.sn (by kernel_rfl) ?_ ?_
  ·
    refine PV.sn (by kernel_rfl) ?_ ?_
    ·
      refine PV.sn (by kernel_rfl) ?_ ?_
      ·
        exact PV.triv (by kernel_rfl)
      ·
        refine PV.sn (by kernel_rfl) ?_ ?_
        ·
          refine PV.bl ?_
          refine PV.lp (live := [0, 1, 2]) (by kernel_rfl) ?_ ?_ ?_
          · intro T s h; change ref02_Table_L4q n 0 _ _ = some r at h; unfold ref02_Table_L4q at h; split at h
            · exact nomatch (show (none : Option ref02_Table_R) = some r from h)
            · cases h
          · intro m4 T s h; change ref02_Table_L4q n (m4 + 1) _ _ = some r at h; unfold ref02_Table_L4q at h; split at h
            · exact Eq.trans (by kernel_rfl) h
            · cases h
          · intro m4
            exact PV.triv (by kernel_rfl)
        ·
          exact PV.triv (by kernel_rfl)
    ·
      exact PV.triv (by kernel_rfl)
  ·
    exact PV.triv (by kernel_rfl)
noncomputable def ref02_Table_ct (n : Nat) (vs : List AV) (h : AH) : Option Ctr := match vs, h with
  | [], [] => some (.one ref02_Table_R (ref02_Table n   ) [] 0 ref02_Table_out)
  | _, _ => none
theorem ref02_Table_ok (n : Nat) : COk1 cfg0 73 (ref02_Table_ct n) := by
  intro vs h c e
  unfold ref02_Table_ct at e
  split at e
  · cases e
    exact fun r hm => sxF_ok (E := ref02_Table_E n  ) (nx1 := ref02_Table_nx) (ref02_Table_fn) rfl rfl rfl (callA_ok (ref02_Table_pre_ok n)) ref02_Table_ret_ok rfl (ref02_Table_pv n   _) ((ref02_Table_eq n   ).trans hm)
  · cases e
end
end Go.Ev
end
section
set_option linter.unusedVariables false
set_option linter.unusedSimpArgs false
set_option maxRecDepth 100000
set_option maxHeartbeats 400000
namespace Go.Ev
open Go.RowKit Go.Proofs
section
theorem ref02_More_fn : cfg0.fn 68 = some Try.f68 := rfl
abbrev ref02_More_R : Type := Nat
@[reducible] def ref02_More_rt (b0 : Nat) : Option ref02_More_R := some b0
noncomputable def ref02_More_out : ref02_More_R → AV × AH
  | b0 => ((.n .u32 b0), [])
noncomputable def ref02_More_nx : ref02_More_R → Nat
  | _ => 0
noncomputable def ref02_More_ret (v : AV) (h : AH) (nx : Nat) : Option ref02_More_R := match v, h, nx with
  | (.n .u32 b0), [], 0 => some b0
  | _, _, _ => none
theorem ref02_More_ret_ok (v : AV) (h : AH) (nx : Nat) (r : ref02_More_R) (e : ref02_More_ret v h nx = some r) : ref02_More_out r = (v, h) ∧ nx = ref02_More_nx r := by
  unfold ref02_More_ret at e
  split at e
  · cases e; exact ⟨rfl, rfl⟩
  · cases e
noncomputable def ref02_More_kr : KN := []
noncomputable def ref02_More_pre (n : Nat) : CT := (ctA 73 (ref02_Table_ct n) ctZ)
theorem ref02_More_pre_ok (n : Nat) : COk cfg0 (ref02_More_pre n) := (ctA_ok (ref02_Table_ok n) ctZ_ok)
noncomputable def ref02_More_E0 (n : Nat) (R : Type)   (jf lf : List Nat → Nat → AT → AS → Option R) : SE R := ⟨[], Try.f68.ntmps, 0, callA cfg0 kd [] (ref02_More_pre n), n, [(5, ([1, 5, 6, 7], 0))], [], [], [], jf, lf⟩
noncomputable def ref02_More_L5F (n : Nat) (r5 : (List UInt8 → Nat → Int → List Nat → Option ref02_More_R))  (x0 : List UInt8) (x1 : Nat) (x2 : Int) (x3 : List Nat) : Option ref02_More_R := bif decide (x2 < (↑(List.length x0) : Int)) then bif decide (0 ≤ x2) then Option.bind x0[Int.toNat x2]? fun z => bif true && Nat.ble (Nat.succ (UInt8.toNat (UInt8.ofNat (UInt8.toNat (UInt8.ofNat x1) % 256 ^^^ UInt8.toNat z % 256)))) 256 then Option.bind x3[UInt8.toNat (UInt8.ofNat (UInt8.toNat (UInt8.ofNat x1) % 256 ^^^ UInt8.toNat z % 256))]? fun z_1 => r5 x0 ((x1 / 2 ^ (8 : Nat) % 4294967296 ^^^ z_1 % 4294967296) % 4294967296) (w64 (x2 + 1)) x3 else none else none else ref02_More_rt (Nat.xor (4294967296 - 1) (x1 % 4294967296) % 4294967296)
noncomputable def ref02_More_L5 (n : Nat)  : Nat → List UInt8 → Nat → Int → List Nat → Option ref02_More_R
  | 0, _, _, _, _ => none
  | m + 1, x0, x1, x2, x3 => ref02_More_L5F n  (ref02_More_L5 n  m)  x0 x1 x2 x3
noncomputable def ref02_More_F (n : Nat) (a1 : Nat) (a2 : List UInt8) (l5 : (List UInt8 → Nat → Int → List Nat → Option ref02_More_R)) : Option ref02_More_R := Option.bind (ref02_Table n) fun z => bif decide (List.length z = (Try.t99, Try.t99.desc).fst.size) && decide (List.length z = List.length (List.replicate 256 0)) then l5 a2 (Nat.xor (4294967296 - 1) (a1 % 4294967296) % 4294967296) 0 z else none
noncomputable def ref02_More (n : Nat) (a1 : Nat) (a2 : List UInt8) : Option ref02_More_R := ref02_More_F n a1 a2 (ref02_More_L5 n n)
noncomputable def ref02_More_L5q (n : Nat) (m5 : Nat) (T : AT) (s : AS) : Option ref02_More_R := match T, s with
  | [(1, (.s x0)), (5, (.ptr 0 0)), (6, (.n .u32 x1)), (7, (.i .i64 x2))], ⟨[(0, (.row .u32 0 x3 99 (0, 0)))], 1, []⟩ => ref02_More_L5 n  m5 x0 x1 x2 x3
  | _, _ => none
noncomputable def ref02_More_jf (n : Nat) : List Nat → Nat → AT → AS → Option ref02_More_R := fun ms key T s => none
noncomputable def ref02_More_lf (n : Nat) : List Nat → Nat → AT → AS → Option ref02_More_R := fun ms key T s => cond (Nat.beq key 5) (match ms with | [m5] => ref02_More_L5q n m5 T s | _ => none) (none)
noncomputable def ref02_More_E (n : Nat)   : SE ref02_More_R := ref02_More_E0 n ref02_More_R   (ref02_More_jf n) (ref02_More_lf n)
theorem ref02_More_eq (n : Nat) (a1 : Nat) (a2 : List UInt8) : sxF cfg0 kd ref02_More_kr (ref02_More_E n  ) Try.f68 (bodyOf Try.f68) [] [.n .u32 a1, .s a2] ref02_More_ret = ref02_More n a1 a2 := by kernel_rfl
theorem ref02_More_pv (n : Nat) (r : ref02_More_R) : PV cfg0 kd (ref02_More_E n  ) r [] (bodyOf Try.f68) (retK cfg0 kd ref02_More_kr (ref02_More_E n  ) Try.f68.results.toList ref02_More_ret) := by
  refine PV.sn (by kernel_rfl) ?_ ?_
  ·
    refine PV.sn (by kernel_rfl) ?_ ?_
    ·
      refine PV.sn (by kernel_rfl) ?_ ?_
      ·
        refine PV.sn (by kernel_rfl) ?_ ?_
        ·
          exact PV.triv (by kernel_rfl)
        ·
          refine PV.sn (by kernel_rfl) ?_ ?_
          ·
            refine PV.bl ?_
            refine PV.lp (live := [1, 5, 6, 7]) (by kernel_rfl) ?_ ?_ ?_
            · intro T s h; change ref02_More_L5q n 0 _ _ = some r at h; unfold ref02_More_L5q at h; split at h
              · exact nomatch (show (none : Option ref02_More_R) = some r from h)
              · cases h
            · intro m5 T s h; change ref02_More_L5q n (m5 + 1) _ _ = some r at h; unfold ref02_More_L5q at h; split at h
              · exact Eq.trans (by kernel_rfl) h
              · cases h
            · intro m5
              exact PV.triv (by kernel_rfl)
          ·
            exact PV.triv (by kernel_rfl)
      ·
        exact PV.triv (by kernel_rfl)
    ·
      exact PV.triv (by kernel_rfl)
  ·
    exact PV.triv (by kernel_rfl)
noncomputable def ref02_More_ct (n : Nat) (vs : List AV) (h : AH) : Option Ctr := match vs, h with
  | [.n .u32 a1, .s a2], [] => some (.one ref02_More_R (ref02_More n   a1 a2) [] 0 ref02_More_out)
  | _, _ => none
theorem ref02_More_ok (n : Nat) : COk1 cfg0 68 (ref02_More_ct n) := by
  intro vs h c e
  unfold ref02_More_ct at e
  split at e
  · rename_i a1 a2
    cases e
    exact fun r hm => sxF_ok (E := ref02_More_E n  ) (nx1 := ref02_More_nx) (ref02_More_fn) rfl rfl rfl (callA_ok (ref02_More_pre_ok n)) ref02_More_ret_ok rfl (ref02_More_pv n   _) ((ref02_More_eq n   a1 a2).trans hm)
  · cases e
end
end Go.Ev
end
section
set_option linter.unusedVariables false
set_option linter.unusedSimpArgs false
set_option maxRecDepth 100000
set_option maxHeartbeats 400000
namespace Go.Ev
open Go.RowKit Go.Proofs
section
theorem ref02_Of_fn : cfg0.fn 61 = some Try.f61 := rfl
abbrev ref02_Of_R : Type := Nat
@[reducible] def ref02_Of_rt (b0 : Nat) : Option ref02_Of_R := some b0
noncomputable def ref02_Of_out : ref02_Of_R → AV × AH
  | b0 => ((.n .u32 b0), [])
noncomputable def ref02_Of_nx : ref02_Of_R → Nat
  | _ => 0
noncomputable def ref02_Of_ret (v : AV) (h : AH) (nx : Nat) : Option ref02_Of_R := match v, h, nx with
  | (.n .u32 b0), [], 0 => some b0
  | _, _, _ => none
theorem ref02_Of_ret_ok (v : AV) (h : AH) (nx : Nat) (r : ref02_Of_R) (e : ref02_Of_ret v h nx = some r) : ref02_Of_out r = (v, h) ∧ nx = ref02_Of_nx r := by
  unfold ref02_Of_ret at e
  split at e
  · cases e; exact ⟨rfl, rfl⟩
  · cases e
noncomputable def ref02_Of_kr : KN := []
noncomputable def ref02_Of_pre (n : Nat) : CT := (ctA 68 (ref02_More_ct n) ctZ)
theorem ref02_Of_pre_ok (n : Nat) : COk cfg0 (ref02_Of_pre n) := (ctA_ok (ref02_More_ok n) ctZ_ok)
noncomputable def ref02_Of_E0 (n : Nat) (R : Type)   (jf lf : List Nat → Nat → AT → AS → Option R) : SE R := ⟨[], Try.f61.ntmps, 0, callA cfg0 kd [] (ref02_Of_pre n), n, [], [], [], [], jf, lf⟩
noncomputable def ref02_Of_F (n : Nat) (a1 : List UInt8)  : Option ref02_Of_R := Option.bind (ref02_More n ((0 : Nat)) a1) fun z => ref02_Of_rt z
noncomputable def ref02_Of (n : Nat) (a1 : List UInt8) : Option ref02_Of_R := ref02_Of_F n a1 
noncomputable def ref02_Of_jf (n : Nat) : List Nat → Nat → AT → AS → Option ref02_Of_R := fun ms key T s => none
noncomputable def ref02_Of_lf (n : Nat) : List Nat → Nat → AT → AS → Option ref02_Of_R := fun ms key T s => none
noncomputable def ref02_Of_E (n : Nat)   : SE ref02_Of_R := ref02_Of_E0 n ref02_Of_R   (ref02_Of_jf n) (ref02_Of_lf n)
theorem ref02_Of_eq (n : Nat) (a1 : List UInt8) : sxF cfg0 kd ref02_Of_kr (ref02_Of_E n  ) Try.f61 (bodyOf Try.f61) [] [.s a1] ref02_Of_ret = ref02_Of n a1 := by kernel_rfl
theorem ref02_Of_pv (n : Nat) (r : ref02_Of_R) : PV cfg0 kd (ref02_Of_E n  ) r [] (bodyOf Try.f61) (retK cfg0 kd ref02_Of_kr (ref02_Of_E n  ) Try.f61.results.toList ref02_Of_ret) := by
  exact PV.triv (by kernel_rfl)
noncomputable def ref02_Of_ct (n : Nat) (vs : List AV) (h : AH) : Option Ctr := match vs, h with
  | [.s a1], [] => some (.one ref02_Of_R (ref02_Of n   a1) [] 0 ref02_Of_out)
  | _, _ => none
theorem ref02_Of_ok (n : Nat) : COk1 cfg0 61 (ref02_Of_ct n) := by
  intro vs h c e
  unfold ref02_Of_ct at e
  split at e
  · rename_i a1
    cases e
    exact fun r hm => sxF_ok (E := ref02_Of_E n  ) (nx1 := ref02_Of_nx) (ref02_Of_fn) rfl rfl rfl (callA_ok (ref02_Of_pre_ok n)) ref02_Of_ret_ok rfl (ref02_Of_pv n   _) ((ref02_Of_eq n   a1).trans hm)
  · cases e
end
end Go.Ev
end
section
set_option linter.unusedVariables false
set_option linter.unusedSimpArgs false
set_option maxRecDepth 100000
set_option maxHeartbeats 400000
namespace Go.Ev
open Go.RowKit Go.Proofs
section
theorem ref04_Put_fn : cfg0.fn 51 = some Try.f51 := rfl
abbrev ref04_Put_R : Type := (List UInt8) × Int
@[reducible] def ref04_Put_rt (b0 : List UInt8) (b1 : Int) : Option ref04_Put_R := some (b0, b1)
noncomputable def ref04_Put_out : ref04_Put_R → AV × AH
  | (b0, b1) => ((.tu [(.s b0), (.i .i64 b1)]), [])
noncomputable def ref04_Put_nx : ref04_Put_R → Nat
  | _ => 0
noncomputable def ref04_Put_ret (v : AV) (h : AH) (nx : Nat) : Option ref04_Put_R := match v, h, nx with
  | (.tu [(.s b0), (.i .i64 b1)]), [], 0 => some (b0, b1)
  | _, _, _ => none
theorem ref04_Put_ret_ok (v : AV) (h : AH) (nx : Nat) (r : ref04_Put_R) (e : ref04_Put_ret v h nx = some r) : ref04_Put_out r = (v, h) ∧ nx = ref04_Put_nx r := by
  unfold ref04_Put_ret at e
  split at e
  · cases e; exact ⟨rfl, rfl⟩
  · cases e
noncomputable def ref04_Put_kr : KN := []
noncomputable def ref04_Put_pre (n : Nat) : CT := (ctA 53 (ref01_Put_ct n) (ctA 59 (ref04_May_ct n) (ctA 60 (ref04_rest_ct n) (ctA 61 (ref02_Of_ct n) ctZ))))
theorem ref04_Put_pre_ok (n : Nat) : COk cfg0 (ref04_Put_pre n) := (ctA_ok (ref01_Put_ok n) (ctA_ok (ref04_May_ok n) (ctA_ok (ref04_rest_ok n) (ctA_ok (ref02_Of_ok n) ctZ_ok))))
noncomputable def ref04_Put_E0 (n : Nat) (R : Type)   (jf lf : List Nat → Nat → AT → AS → Option R) : SE R := ⟨[], Try.f51.ntmps, 0, callA cfg0 kd [] (ref04_Put_pre n), n, [], [], [], [], jf, lf⟩
noncomputable def ref04_Put_F (n : Nat) (a1 : Int) (a2 : Pg)  : Option ref04_Put_R := Option.bind (ref04_May n a1 (Pg.mk a2.kind a2.count a2.page a2.link a2.tx a2.body)) fun z => bif !z then ref04_Put_rt [] 2 else Option.bind (ref04_rest n (Pg.mk a2.kind a2.count a2.page a2.link a2.tx a2.body)) fun z_1 => Option.bind (ref02_Of n z_1) fun z_2 => Option.bind (ref01_Put n [] (z_2 % 18446744073709551616) 4) fun z_3 => bif decide (List.length z_3 + List.length z_1 ≤ 4611686018427387904) then ref04_Put_rt (z_3 ++ z_1) 0 else none
noncomputable def ref04_Put (n : Nat) (a1 : Int) (a2 : Pg) : Option ref04_Put_R := ref04_Put_F n a1 a2 
noncomputable def ref04_Put_jf (n : Nat) : List Nat → Nat → AT → AS → Option ref04_Put_R := fun ms key T s => none
noncomputable def ref04_Put_lf (n : Nat) : List Nat → Nat → AT → AS → Option ref04_Put_R := fun ms key T s => none
noncomputable def ref04_Put_E (n : Nat)   : SE ref04_Put_R := ref04_Put_E0 n ref04_Put_R   (ref04_Put_jf n) (ref04_Put_lf n)
theorem ref04_Put_eq (n : Nat) (a1 : Int) (a2 : Pg) : sxF cfg0 kd ref04_Put_kr (ref04_Put_E n  ) Try.f51 (bodyOf Try.f51) [] [.i .i64 a1, .ag (RK.k .page a2)] ref04_Put_ret = ref04_Put n a1 a2 := by kernel_rfl
theorem ref04_Put_pv (n : Nat) (r : ref04_Put_R) : PV cfg0 kd (ref04_Put_E n  ) r [] (bodyOf Try.f51) (retK cfg0 kd ref04_Put_kr (ref04_Put_E n  ) Try.f51.results.toList ref04_Put_ret) := by
  exact PV.triv (by kernel_rfl)
noncomputable def ref04_Put_ct (n : Nat) (vs : List AV) (h : AH) : Option Ctr := match vs, h with
  | [.i .i64 a1, .ag [.i .i64 a2_0, .i .i64 a2_1, .n .u32 a2_2, .n .u32 a2_3, .n .u64 a2_4, .s a2_5]], [] => some (.one ref04_Put_R (ref04_Put n   a1 ⟨a2_0, a2_1, a2_2, a2_3, a2_4, a2_5⟩) [] 0 ref04_Put_out)
  | _, _ => none
theorem ref04_Put_ok (n : Nat) : COk1 cfg0 51 (ref04_Put_ct n) := by
  intro vs h c e
  unfold ref04_Put_ct at e
  split at e
  · rename_i a1 a2_0 a2_1 a2_2 a2_3 a2_4 a2_5
    cases e
    exact fun r hm => sxF_ok (E := ref04_Put_E n  ) (nx1 := ref04_Put_nx) (ref04_Put_fn) rfl rfl rfl (callA_ok (ref04_Put_pre_ok n)) ref04_Put_ret_ok rfl (ref04_Put_pv n   _) ((ref04_Put_eq n   a1 ⟨a2_0, a2_1, a2_2, a2_3, a2_4, a2_5⟩).trans hm)
  · cases e
end
end Go.Ev
end
section
set_option linter.unusedVariables false
set_option linter.unusedSimpArgs false
set_option maxRecDepth 100000
set_option maxHeartbeats 400000
namespace Go.Ev
open Go.RowKit Go.Proofs
section
theorem law05_block_fn : cfg0.fn 29 = some Try.f29 := rfl
abbrev law05_block_R : Type := (List UInt8)
@[reducible] def law05_block_rt (b0 : List UInt8) : Option law05_block_R := some b0
noncomputable def law05_block_out : law05_block_R → AV × AH
  | b0 => ((.s b0), [])
noncomputable def law05_block_nx : law05_block_R → Nat
  | _ => 0
noncomputable def law05_block_ret (v : AV) (h : AH) (nx : Nat) : Option law05_block_R := match v, h, nx with
  | (.s b0), [], 0 => some b0
  | _, _, _ => none
theorem law05_block_ret_ok (v : AV) (h : AH) (nx : Nat) (r : law05_block_R) (e : law05_block_ret v h nx = some r) : law05_block_out r = (v, h) ∧ nx = law05_block_nx r := by
  unfold law05_block_ret at e
  split at e
  · cases e; exact ⟨rfl, rfl⟩
  · cases e
noncomputable def law05_block_kr : KN := []
noncomputable def law05_block_pre (n : Nat) : CT := (ctA 32 (ref05_Page_ct n) (ctA 51 (ref04_Put_ct n) ctZ))
theorem law05_block_pre_ok (n : Nat) : COk cfg0 (law05_block_pre n) := (ctA_ok (ref05_Page_ok n) (ctA_ok (ref04_Put_ok n) ctZ_ok))
noncomputable def law05_block_E0 (n : Nat) (R : Type)   (jf lf : List Nat → Nat → AT → AS → Option R) : SE R := ⟨[], Try.f29.ntmps, 0, callA cfg0 kd [] (law05_block_pre n), n, [], [], [], [], jf, lf⟩
noncomputable def law05_block_F (n : Nat) (a1 : Mta)  : Option law05_block_R := Option.bind (ref05_Page n (Mta.mk a1.tx a1.size a1.root a1.free a1.pages)) fun z => Option.bind (ref04_Put n a1.size (Pg.mk z.fst.kind z.fst.count z.fst.page z.fst.link z.fst.tx z.fst.body)) fun z_1 => law05_block_rt z_1.fst
noncomputable def law05_block (n : Nat) (a1 : Mta) : Option law05_block_R := law05_block_F n a1 
noncomputable def law05_block_jf (n : Nat) : List Nat → Nat → AT → AS → Option law05_block_R := fun ms key T s => none
noncomputable def law05_block_lf (n : Nat) : List Nat → Nat → AT → AS → Option law05_block_R := fun ms key T s => none
noncomputable def law05_block_E (n : Nat)   : SE law05_block_R := law05_block_E0 n law05_block_R   (law05_block_jf n) (law05_block_lf n)
theorem law05_block_eq (n : Nat) (a1 : Mta) : sxF cfg0 kd law05_block_kr (law05_block_E n  ) Try.f29 (bodyOf Try.f29) [] [.ag (RK.k .mta a1)] law05_block_ret = law05_block n a1 := by kernel_rfl
theorem law05_block_pv (n : Nat) (r : law05_block_R) : PV cfg0 kd (law05_block_E n  ) r [] (bodyOf Try.f29) (retK cfg0 kd law05_block_kr (law05_block_E n  ) Try.f29.results.toList law05_block_ret) := by
  exact PV.triv (by kernel_rfl)
noncomputable def law05_block_ct (n : Nat) (vs : List AV) (h : AH) : Option Ctr := match vs, h with
  | [.ag [.n .u64 a1_0, .i .i64 a1_1, .n .u32 a1_2, .n .u32 a1_3, .n .u32 a1_4]], [] => some (.one law05_block_R (law05_block n   ⟨a1_0, a1_1, a1_2, a1_3, a1_4⟩) [] 0 law05_block_out)
  | _, _ => none
theorem law05_block_ok (n : Nat) : COk1 cfg0 29 (law05_block_ct n) := by
  intro vs h c e
  unfold law05_block_ct at e
  split at e
  · rename_i a1_0 a1_1 a1_2 a1_3 a1_4
    cases e
    exact fun r hm => sxF_ok (E := law05_block_E n  ) (nx1 := law05_block_nx) (law05_block_fn) rfl rfl rfl (callA_ok (law05_block_pre_ok n)) law05_block_ret_ok rfl (law05_block_pv n   _) ((law05_block_eq n   ⟨a1_0, a1_1, a1_2, a1_3, a1_4⟩).trans hm)
  · cases e
end
end Go.Ev
end
section
set_option linter.unusedVariables false
set_option linter.unusedSimpArgs false
set_option maxRecDepth 100000
set_option maxHeartbeats 400000
namespace Go.Ev
open Go.RowKit Go.Proofs
section
theorem ref01_Reader_Number_fn : cfg0.fn 56 = some Try.f56 := rfl
abbrev ref01_Reader_Number_R : Type := Nat × Int × (List UInt8)
@[reducible] def ref01_Reader_Number_rt (b0 : Nat) (b1 : Int) (b2 : List UInt8) : Option ref01_Reader_Number_R := some (b0, b1, b2)
noncomputable def ref01_Reader_Number_out : ref01_Reader_Number_R → AV × AH
  | (b0, b1, b2) => ((.tu [(.n .u64 b0), (.i .i64 b1)]), [(0, (.cells [(.s b2)] 90 (0, 0)))])
noncomputable def ref01_Reader_Number_nx : ref01_Reader_Number_R → Nat
  | _ => 1
noncomputable def ref01_Reader_Number_ret (v : AV) (h : AH) (nx : Nat) : Option ref01_Reader_Number_R := match v, h, nx with
  | (.tu [(.n .u64 b0), (.i .i64 b1)]), [(0, (.cells [(.s b2)] 90 (0, 0)))], 1 => some (b0, b1, b2)
  | _, _, _ => none
theorem ref01_Reader_Number_ret_ok (v : AV) (h : AH) (nx : Nat) (r : ref01_Reader_Number_R) (e : ref01_Reader_Number_ret v h nx = some r) : ref01_Reader_Number_out r = (v, h) ∧ nx = ref01_Reader_Number_nx r := by
  unfold ref01_Reader_Number_ret at e
  split at e
  · cases e; exact ⟨rfl, rfl⟩
  · cases e
noncomputable def ref01_Reader_Number_kr : KN := []
noncomputable def ref01_Reader_Number_pre (n : Nat) : CT := ctZ
theorem ref01_Reader_Number_pre_ok (n : Nat) : COk cfg0 (ref01_Reader_Number_pre n) := ctZ_ok
noncomputable def ref01_Reader_Number_E0 (n : Nat) (R : Type)   (jf lf : List Nat → Nat → AT → AS → Option R) : SE R := ⟨[], Try.f56.ntmps, 1, callA cfg0 kd [] (ref01_Reader_Number_pre n), n, [(8, ([0, 1, 6, 7], 0))], [(4, [0, 1])], [], [], jf, lf⟩
noncomputable def ref01_Reader_Number_L8F (n : Nat) (r8 : (Int → Nat → Int → List UInt8 → Option ref01_Reader_Number_R))  (x0 : Int) (x1 : Nat) (x2 : Int) (x3 : List UInt8) : Option ref01_Reader_Number_R := bif decide (x2 < x0) then bif decide (0 ≤ x2) then Option.bind x3[Int.toNat x2]? fun z => bif true && Nat.ble (u64 (w64 (8 * x2))) 64 then r8 x0 ((x1 % 18446744073709551616 ||| UInt8.toNat z * 2 ^ u64 (w64 (8 * x2)) % 18446744073709551616 % 18446744073709551616) % 18446744073709551616) (w64 (x2 + 1)) x3 else none else none else bif decide (0 ≤ x0) && decide (Int.toNat x0 ≤ List.length x3) then ref01_Reader_Number_rt x1 0 (List.drop (Int.toNat x0) x3) else none
noncomputable def ref01_Reader_Number_L8 (n : Nat)  : Nat → Int → Nat → Int → List UInt8 → Option ref01_Reader_Number_R
  | 0, _, _, _, _ => none
  | m + 1, x0, x1, x2, x3 => ref01_Reader_Number_L8F n  (ref01_Reader_Number_L8 n  m)  x0 x1 x2 x3
noncomputable def ref01_Reader_Number_J4F (n : Nat)  (l8 : (Int → Nat → Int → List UInt8 → Option ref01_Reader_Number_R)) (x0 : Int) (x1 : List UInt8) : Option ref01_Reader_Number_R := bif decide ((↑(List.length x1) : Int) < x0) then ref01_Reader_Number_rt ((0 : Nat)) 7 x1 else l8 x0 ((0 : Nat)) 0 x1
noncomputable def ref01_Reader_Number_J4 (n : Nat)  (x0 : Int) (x1 : List UInt8) : Option ref01_Reader_Number_R := ref01_Reader_Number_J4F n  (ref01_Reader_Number_L8 n  n) x0 x1
noncomputable def ref01_Reader_Number_F (n : Nat) (a1 : Int) (a2 : List UInt8) (j4 : (Int → List UInt8 → Option ref01_Reader_Number_R)) : Option ref01_Reader_Number_R := bif decide (a1 < 1) then ref01_Reader_Number_rt ((0 : Nat)) 2 a2 else bif decide (8 < a1) then ref01_Reader_Number_rt ((0 : Nat)) 2 a2 else j4 a1 a2
noncomputable def ref01_Reader_Number (n : Nat) (a1 : Int) (a2 : List UInt8) : Option ref01_Reader_Number_R := ref01_Reader_Number_F n a1 a2 (ref01_Reader_Number_J4 n)
noncomputable def ref01_Reader_Number_L8q (n : Nat) (m8 : Nat) (T : AT) (s : AS) : Option ref01_Reader_Number_R := match T, s with
  | [(0, (.ptr 0 0)), (1, (.i .i64 x0)), (6, (.n .u64 x1)), (7, (.i .i64 x2))], ⟨[(0, (.cells [(.s x3)] 90 (0, 0)))], 1, []⟩ => ref01_Reader_Number_L8 n  m8 x0 x1 x2 x3
  | _, _ => none
noncomputable def ref01_Reader_Number_J4q (n : Nat)  (T : AT) (s : AS) : Option ref01_Reader_Number_R := match T, s with
  | [(0, (.ptr 0 0)), (1, (.i .i64 x0))], ⟨[(0, (.cells [(.s x1)] 90 (0, 0)))], 1, []⟩ => ref01_Reader_Number_J4 n  x0 x1
  | _, _ => none
noncomputable def ref01_Reader_Number_jf (n : Nat) : List Nat → Nat → AT → AS → Option ref01_Reader_Number_R := fun ms key T s => cond (Nat.beq key 4) (match ms with | [] => ref01_Reader_Number_J4q n  T s | _ => none) (none)
noncomputable def ref01_Reader_Number_lf (n : Nat) : List Nat → Nat → AT → AS → Option ref01_Reader_Number_R := fun ms key T s => cond (Nat.beq key 8) (match ms with | [m8] => ref01_Reader_Number_L8q n m8 T s | _ => none) (none)
noncomputable def ref01_Reader_Number_E (n : Nat)   : SE ref01_Reader_Number_R := ref01_Reader_Number_E0 n ref01_Reader_Number_R   (ref01_Reader_Number_jf n) (ref01_Reader_Number_lf n)
theorem ref01_Reader_Number_eq (n : Nat) (a1 : Int) (a2 : List UInt8) : sxF cfg0 kd ref01_Reader_Number_kr (ref01_Reader_Number_E n  ) Try.f56 (bodyOf Try.f56) [(0, (.cells ([.s a2]) 90 (0, 0)))] [.ptr 0 0, .i .i64 a1] ref01_Reader_Number_ret = ref01_Reader_Number n a1 a2 := by kernel_rfl
theorem ref01_Reader_Number_pv (n : Nat) (r : ref01_Reader_Number_R) : PV cfg0 kd (ref01_Reader_Number_E n  ) r [] (bodyOf Try.f56) (retK cfg0 kd ref01_Reader_Number_kr (ref01_Reader_Number_E n  ) Try.f56.results.toList ref01_Reader_Number_ret) := by
  refine PV.sn (by kernel_rfl) ?_ ?_
  ·
    refine PV.sj (live := [0, 1]) (by kernel_rfl) ?_ ?_ ?_
    · intro T s h; change ref01_Reader_Number_J4q n  _ _ = some r at h; unfold ref01_Reader_Number_J4q at h; split at h
      · exact Eq.trans (by kernel_rfl) h
      · cases h
    ·
      refine PV.sn (by kernel_rfl) ?_ ?_
      ·
        refine PV.sn (by kernel_rfl) ?_ ?_
        ·
          refine PV.sn (by kernel_rfl) ?_ ?_
          ·
            exact PV.triv (by kernel_rfl)
          ·
            refine PV.sn (by kernel_rfl) ?_ ?_
            ·
              refine PV.bl ?_
              refine PV.lp (live := [0, 1, 6, 7]) (by kernel_rfl) ?_ ?_ ?_
              · intro T s h; change ref01_Reader_Number_L8q n 0 _ _ = some r at h; unfold ref01_Reader_Number_L8q at h; split at h
                · exact nomatch (show (none : Option ref01_Reader_Number_R) = some r from h)
                · cases h
              · intro m8 T s h; change ref01_Reader_Number_L8q n (m8 + 1) _ _ = some r at h; unfold ref01_Reader_Number_L8q at h; split at h
                · exact Eq.trans (by kernel_rfl) h
                · cases h
              · intro m8
                exact PV.triv (by kernel_rfl)
            ·
              exact PV.triv (by kernel_rfl)
        ·
          exact PV.triv (by kernel_rfl)
      ·
        exact PV.triv (by kernel_rfl)
    ·
      exact PV.triv (by kernel_rfl)
  ·
    exact PV.triv (by kernel_rfl)
noncomputable def ref01_Reader_Number_ct (n : Nat) (vs : List AV) (h : AH) : Option Ctr := match vs, h with
  | [.ptr 0 0, .i .i64 a1], [(0, (.cells ([.s a2]) 90 (0, 0)))] => some (.one ref01_Reader_Number_R (ref01_Reader_Number n   a1 a2) [0] 0 ref01_Reader_Number_out)
  | _, _ => none
theorem ref01_Reader_Number_ok (n : Nat) : COk1 cfg0 56 (ref01_Reader_Number_ct n) := by
  intro vs h c e
  unfold ref01_Reader_Number_ct at e
  split at e
  · rename_i a1 a2
    cases e
    exact fun r hm => sxF_ok (E := ref01_Reader_Number_E n  ) (nx1 := ref01_Reader_Number_nx) (ref01_Reader_Number_fn) rfl rfl rfl (callA_ok (ref01_Reader_Number_pre_ok n)) ref01_Reader_Number_ret_ok rfl (ref01_Reader_Number_pv n   _) ((ref01_Reader_Number_eq n   a1 a2).trans hm)
  · cases e
end
end Go.Ev
end
section
set_option linter.unusedVariables false
set_option linter.unusedSimpArgs false
set_option maxRecDepth 100000
set_option maxHeartbeats 400000
namespace Go.Ev
open Go.RowKit Go.Proofs
section
theorem ref01_New_fn : cfg0.fn 55 = some Try.f55 := rfl
abbrev ref01_New_R : Type := (List UInt8)
@[reducible] def ref01_New_rt (b0 : List UInt8) : Option ref01_New_R := some b0
noncomputable def ref01_New_out : ref01_New_R → AV × AH
  | b0 => ((.ptr 0 0), [(0, (.cells [(.s b0)] 90 (0, 0)))])
noncomputable def ref01_New_nx : ref01_New_R → Nat
  | _ => 1
noncomputable def ref01_New_ret (v : AV) (h : AH) (nx : Nat) : Option ref01_New_R := match v, h, nx with
  | (.ptr 0 0), [(0, (.cells [(.s b0)] 90 (0, 0)))], 1 => some b0
  | _, _, _ => none
theorem ref01_New_ret_ok (v : AV) (h : AH) (nx : Nat) (r : ref01_New_R) (e : ref01_New_ret v h nx = some r) : ref01_New_out r = (v, h) ∧ nx = ref01_New_nx r := by
  unfold ref01_New_ret at e
  split at e
  · cases e; exact ⟨rfl, rfl⟩
  · cases e
noncomputable def ref01_New_kr : KN := []
noncomputable def ref01_New_pre (n : Nat) : CT := ctZ
theorem ref01_New_pre_ok (n : Nat) : COk cfg0 (ref01_New_pre n) := ctZ_ok
noncomputable def ref01_New_E0 (n : Nat) (R : Type)   (jf lf : List Nat → Nat → AT → AS → Option R) : SE R := ⟨[], Try.f55.ntmps, 0, callA cfg0 kd [] (ref01_New_pre n), n, [], [], [], [], jf, lf⟩
noncomputable def ref01_New_F (n : Nat) (a1 : List UInt8)  : Option ref01_New_R := ref01_New_rt a1
noncomputable def ref01_New (n : Nat) (a1 : List UInt8) : Option ref01_New_R := ref01_New_F n a1 
noncomputable def ref01_New_jf (n : Nat) : List Nat → Nat → AT → AS → Option ref01_New_R := fun ms key T s => none
noncomputable def ref01_New_lf (n : Nat) : List Nat → Nat → AT → AS → Option ref01_New_R := fun ms key T s => none
noncomputable def ref01_New_E (n : Nat)   : SE ref01_New_R := ref01_New_E0 n ref01_New_R   (ref01_New_jf n) (ref01_New_lf n)
theorem ref01_New_eq (n : Nat) (a1 : List UInt8) : sxF cfg0 kd ref01_New_kr (ref01_New_E n  ) Try.f55 (bodyOf Try.f55) [] [.s a1] ref01_New_ret = ref01_New n a1 := by kernel_rfl
theorem ref01_New_pv (n : Nat) (r : ref01_New_R) : PV cfg0 kd (ref01_New_E n  ) r [] (bodyOf Try.f55) (retK cfg0 kd ref01_New_kr (ref01_New_E n  ) Try.f55.results.toList ref01_New_ret) := by
  exact PV.triv (by kernel_rfl)
noncomputable def ref01_New_ct (n : Nat) (vs : List AV) (h : AH) : Option Ctr := match vs, h with
  | [.s a1], [] => some (.one ref01_New_R (ref01_New n   a1) [] 1 ref01_New_out)
  | _, _ => none
theorem ref01_New_ok (n : Nat) : COk1 cfg0 55 (ref01_New_ct n) := by
  intro vs h c e
  unfold ref01_New_ct at e
  split at e
  · rename_i a1
    cases e
    exact fun r hm => sxF_ok (E := ref01_New_E n  ) (nx1 := ref01_New_nx) (ref01_New_fn) rfl rfl rfl (callA_ok (ref01_New_pre_ok n)) ref01_New_ret_ok rfl (ref01_New_pv n   _) ((ref01_New_eq n   a1).trans hm)
  · cases e
end
end Go.Ev
end
section
set_option linter.unusedVariables false
set_option linter.unusedSimpArgs false
set_option maxRecDepth 100000
set_option maxHeartbeats 400000
namespace Go.Ev
open Go.RowKit Go.Proofs
section
theorem ref04_Get_fn : cfg0.fn 38 = some Try.f38 := rfl
abbrev ref04_Get_R : Type := Pg × Int
@[reducible] def ref04_Get_rt (b0 : Pg) (b1 : Int) : Option ref04_Get_R := some (b0, b1)
noncomputable def ref04_Get_out : ref04_Get_R → AV × AH
  | (b0, b1) => ((.tu [(.ag (RK.k .page b0)), (.i .i64 b1)]), [])
noncomputable def ref04_Get_nx : ref04_Get_R → Nat
  | _ => 0
noncomputable def ref04_Get_ret (v : AV) (h : AH) (nx : Nat) : Option ref04_Get_R := match v, h, nx with
  | (.tu [(.ag [.i .i64 b0_0, .i .i64 b0_1, .n .u32 b0_2, .n .u32 b0_3, .n .u64 b0_4, .s b0_5]), (.i .i64 b1)]), [], 0 => some (⟨b0_0, b0_1, b0_2, b0_3, b0_4, b0_5⟩, b1)
  | _, _, _ => none
theorem ref04_Get_ret_ok (v : AV) (h : AH) (nx : Nat) (r : ref04_Get_R) (e : ref04_Get_ret v h nx = some r) : ref04_Get_out r = (v, h) ∧ nx = ref04_Get_nx r := by
  unfold ref04_Get_ret at e
  split at e
  · cases e; exact ⟨rfl, rfl⟩
  · cases e
noncomputable def ref04_Get_kr : KN := []
noncomputable def ref04_Get_pre (n : Nat) : CT := (ctA 55 (ref01_New_ct n) (ctA 56 (ref01_Reader_Number_ct n) (ctA 58 (ref03_Good_ct n) (ctA 59 (ref04_May_ct n) (ctA 60 (ref04_rest_ct n) (ctA 61 (ref02_Of_ct n) ctZ))))))
theorem ref04_Get_pre_ok (n : Nat) : COk cfg0 (ref04_Get_pre n) := (ctA_ok (ref01_New_ok n) (ctA_ok (ref01_Reader_Number_ok n) (ctA_ok (ref03_Good_ok n) (ctA_ok (ref04_May_ok n) (ctA_ok (ref04_rest_ok n) (ctA_ok (ref02_Of_ok n) ctZ_ok))))))
noncomputable def ref04_Get_E0 (n : Nat) (R : Type)   (jf lf : List Nat → Nat → AT → AS → Option R) : SE R := ⟨[], Try.f38.ntmps, 0, callA cfg0 kd [] (ref04_Get_pre n), n, [], [], [], [], jf, lf⟩
noncomputable def ref04_Get_F (n : Nat) (a1 : Int) (a2 : Nat) (a3 : List UInt8)  : Option ref04_Get_R := Option.bind (ref03_Good n a1) fun z => bif !z then ref04_Get_rt (Pg.mk 0 0 ((0 : Nat)) ((0 : Nat)) ((0 : Nat)) []) 2 else bif decide ((↑(List.length a3) : Int) ≠ a1) then ref04_Get_rt (Pg.mk 0 0 ((0 : Nat)) ((0 : Nat)) ((0 : Nat)) []) 4 else Option.bind (ref01_Reader_Number n 4 a3) fun z_1 => Option.bind (ref01_Reader_Number n 1 z_1.2.2) fun z_2 => Option.bind (ref01_Reader_Number n 1 z_2.2.2) fun z_3 => Option.bind (ref01_Reader_Number n 2 z_3.2.2) fun z_4 => Option.bind (ref01_Reader_Number n 4 z_4.2.2) fun z_5 => Option.bind (ref01_Reader_Number n 4 z_5.2.2) fun z_6 => Option.bind (ref01_Reader_Number n 8 z_6.2.2) fun z_7 => Option.bind (ref04_May n a1 (Pg.mk (w64 (↑z_2.fst : Int)) (w64 (↑z_4.fst : Int)) (z_5.fst % 4294967296) (z_6.fst % 4294967296) z_7.fst z_7.2.2)) fun z_8 => bif !z_8 then ref04_Get_rt (Pg.mk 0 0 ((0 : Nat)) ((0 : Nat)) ((0 : Nat)) []) 4 else bif decide (z_5.fst % 4294967296 ≠ a2) then ref04_Get_rt (Pg.mk 0 0 ((0 : Nat)) ((0 : Nat)) ((0 : Nat)) []) 4 else Option.bind (ref04_rest n (Pg.mk (w64 (↑z_2.fst : Int)) (w64 (↑z_4.fst : Int)) (z_5.fst % 4294967296) (z_6.fst % 4294967296) z_7.fst z_7.2.2)) fun z_9 => bif decide (0 ≤ 4) && decide ((4 : Nat) ≤ List.length a3) then bif decide (z_9 ≠ List.drop ((4 : Nat)) a3) then ref04_Get_rt (Pg.mk 0 0 ((0 : Nat)) ((0 : Nat)) ((0 : Nat)) []) 4 else bif decide (0 ≤ 4) && decide ((4 : Nat) ≤ List.length a3) then Option.bind (ref02_Of n (List.drop ((4 : Nat)) a3)) fun z_10 => bif decide (z_10 % 18446744073709551616 ≠ z_1.fst) then ref04_Get_rt (Pg.mk 0 0 ((0 : Nat)) ((0 : Nat)) ((0 : Nat)) []) 4 else ref04_Get_rt (Pg.mk (w64 (↑z_2.fst : Int)) (w64 (↑z_4.fst : Int)) (z_5.fst % 4294967296) (z_6.fst % 4294967296) z_7.fst z_7.2.2) 0 else none else none
noncomputable def ref04_Get (n : Nat) (a1 : Int) (a2 : Nat) (a3 : List UInt8) : Option ref04_Get_R := ref04_Get_F n a1 a2 a3 
noncomputable def ref04_Get_jf (n : Nat) : List Nat → Nat → AT → AS → Option ref04_Get_R := fun ms key T s => none
noncomputable def ref04_Get_lf (n : Nat) : List Nat → Nat → AT → AS → Option ref04_Get_R := fun ms key T s => none
noncomputable def ref04_Get_E (n : Nat)   : SE ref04_Get_R := ref04_Get_E0 n ref04_Get_R   (ref04_Get_jf n) (ref04_Get_lf n)
theorem ref04_Get_eq (n : Nat) (a1 : Int) (a2 : Nat) (a3 : List UInt8) : sxF cfg0 kd ref04_Get_kr (ref04_Get_E n  ) Try.f38 (bodyOf Try.f38) [] [.i .i64 a1, .n .u32 a2, .s a3] ref04_Get_ret = ref04_Get n a1 a2 a3 := by kernel_rfl
theorem ref04_Get_pv (n : Nat) (r : ref04_Get_R) : PV cfg0 kd (ref04_Get_E n  ) r [] (bodyOf Try.f38) (retK cfg0 kd ref04_Get_kr (ref04_Get_E n  ) Try.f38.results.toList ref04_Get_ret) := by
  exact PV.triv (by kernel_rfl)
noncomputable def ref04_Get_ct (n : Nat) (vs : List AV) (h : AH) : Option Ctr := match vs, h with
  | [.i .i64 a1, .n .u32 a2, .s a3], [] => some (.one ref04_Get_R (ref04_Get n   a1 a2 a3) [] 0 ref04_Get_out)
  | _, _ => none
theorem ref04_Get_ok (n : Nat) : COk1 cfg0 38 (ref04_Get_ct n) := by
  intro vs h c e
  unfold ref04_Get_ct at e
  split at e
  · rename_i a1 a2 a3
    cases e
    exact fun r hm => sxF_ok (E := ref04_Get_E n  ) (nx1 := ref04_Get_nx) (ref04_Get_fn) rfl rfl rfl (callA_ok (ref04_Get_pre_ok n)) ref04_Get_ret_ok rfl (ref04_Get_pv n   _) ((ref04_Get_eq n   a1 a2 a3).trans hm)
  · cases e
end
end Go.Ev
end
section
set_option linter.unusedVariables false
set_option linter.unusedSimpArgs false
set_option maxRecDepth 100000
set_option maxHeartbeats 400000
namespace Go.Ev
open Go.RowKit Go.Proofs
section
theorem ref04_Pages_fn : cfg0.fn 72 = some Try.f72 := rfl
abbrev ref04_Pages_R : Type := Int
@[reducible] def ref04_Pages_rt (b0 : Int) : Option ref04_Pages_R := some b0
noncomputable def ref04_Pages_out : ref04_Pages_R → AV × AH
  | b0 => ((.i .i64 b0), [])
noncomputable def ref04_Pages_nx : ref04_Pages_R → Nat
  | _ => 0
noncomputable def ref04_Pages_ret (v : AV) (h : AH) (nx : Nat) : Option ref04_Pages_R := match v, h, nx with
  | (.i .i64 b0), [], 0 => some b0
  | _, _, _ => none
theorem ref04_Pages_ret_ok (v : AV) (h : AH) (nx : Nat) (r : ref04_Pages_R) (e : ref04_Pages_ret v h nx = some r) : ref04_Pages_out r = (v, h) ∧ nx = ref04_Pages_nx r := by
  unfold ref04_Pages_ret at e
  split at e
  · cases e; exact ⟨rfl, rfl⟩
  · cases e
noncomputable def ref04_Pages_kr : KN := []
noncomputable def ref04_Pages_pre (n : Nat) : CT := (ctA 58 (ref03_Good_ct n) ctZ)
theorem ref04_Pages_pre_ok (n : Nat) : COk cfg0 (ref04_Pages_pre n) := (ctA_ok (ref03_Good_ok n) ctZ_ok)
noncomputable def ref04_Pages_E0 (n : Nat) (R : Type)   (jf lf : List Nat → Nat → AT → AS → Option R) : SE R := ⟨[], Try.f72.ntmps, 0, callA cfg0 kd [] (ref04_Pages_pre n), n, [], [], [], [], jf, lf⟩
noncomputable def ref04_Pages_F (n : Nat) (a1 : Int) (a2 : List UInt8)  : Option ref04_Pages_R := Option.bind (ref03_Good n a1) fun z => bif !z then ref04_Pages_rt 0 else bif decide (a1 ≠ 0) then ref04_Pages_rt (w64 (Int.tdiv (↑(List.length a2) : Int) a1)) else none
noncomputable def ref04_Pages (n : Nat) (a1 : Int) (a2 : List UInt8) : Option ref04_Pages_R := ref04_Pages_F n a1 a2 
noncomputable def ref04_Pages_jf (n : Nat) : List Nat → Nat → AT → AS → Option ref04_Pages_R := fun ms key T s => none
noncomputable def ref04_Pages_lf (n : Nat) : List Nat → Nat → AT → AS → Option ref04_Pages_R := fun ms key T s => none
noncomputable def ref04_Pages_E (n : Nat)   : SE ref04_Pages_R := ref04_Pages_E0 n ref04_Pages_R   (ref04_Pages_jf n) (ref04_Pages_lf n)
theorem ref04_Pages_eq (n : Nat) (a1 : Int) (a2 : List UInt8) : sxF cfg0 kd ref04_Pages_kr (ref04_Pages_E n  ) Try.f72 (bodyOf Try.f72) [] [.i .i64 a1, .s a2] ref04_Pages_ret = ref04_Pages n a1 a2 := by kernel_rfl
theorem ref04_Pages_pv (n : Nat) (r : ref04_Pages_R) : PV cfg0 kd (ref04_Pages_E n  ) r [] (bodyOf Try.f72) (retK cfg0 kd ref04_Pages_kr (ref04_Pages_E n  ) Try.f72.results.toList ref04_Pages_ret) := by
  exact PV.triv (by kernel_rfl)
noncomputable def ref04_Pages_ct (n : Nat) (vs : List AV) (h : AH) : Option Ctr := match vs, h with
  | [.i .i64 a1, .s a2], [] => some (.one ref04_Pages_R (ref04_Pages n   a1 a2) [] 0 ref04_Pages_out)
  | _, _ => none
theorem ref04_Pages_ok (n : Nat) : COk1 cfg0 72 (ref04_Pages_ct n) := by
  intro vs h c e
  unfold ref04_Pages_ct at e
  split at e
  · rename_i a1 a2
    cases e
    exact fun r hm => sxF_ok (E := ref04_Pages_E n  ) (nx1 := ref04_Pages_nx) (ref04_Pages_fn) rfl rfl rfl (callA_ok (ref04_Pages_pre_ok n)) ref04_Pages_ret_ok rfl (ref04_Pages_pv n   _) ((ref04_Pages_eq n   a1 a2).trans hm)
  · cases e
end
end Go.Ev
end
section
set_option linter.unusedVariables false
set_option linter.unusedSimpArgs false
set_option maxRecDepth 100000
set_option maxHeartbeats 400000
namespace Go.Ev
open Go.RowKit Go.Proofs
section
theorem ref04_At_fn : cfg0.fn 67 = some Try.f67 := rfl
abbrev ref04_At_R : Type := (List UInt8) × Bool
@[reducible] def ref04_At_rt (b0 : List UInt8) (b1 : Bool) : Option ref04_At_R := some (b0, b1)
noncomputable def ref04_At_out : ref04_At_R → AV × AH
  | (b0, b1) => ((.tu [(.s b0), (.b b1)]), [])
noncomputable def ref04_At_nx : ref04_At_R → Nat
  | _ => 0
noncomputable def ref04_At_ret (v : AV) (h : AH) (nx : Nat) : Option ref04_At_R := match v, h, nx with
  | (.tu [(.s b0), (.b b1)]), [], 0 => some (b0, b1)
  | _, _, _ => none
theorem ref04_At_ret_ok (v : AV) (h : AH) (nx : Nat) (r : ref04_At_R) (e : ref04_At_ret v h nx = some r) : ref04_At_out r = (v, h) ∧ nx = ref04_At_nx r := by
  unfold ref04_At_ret at e
  split at e
  · cases e; exact ⟨rfl, rfl⟩
  · cases e
noncomputable def ref04_At_kr : KN := []
noncomputable def ref04_At_pre (n : Nat) : CT := (ctA 72 (ref04_Pages_ct n) ctZ)
theorem ref04_At_pre_ok (n : Nat) : COk cfg0 (ref04_At_pre n) := (ctA_ok (ref04_Pages_ok n) ctZ_ok)
noncomputable def ref04_At_E0 (n : Nat) (R : Type)   (jf lf : List Nat → Nat → AT → AS → Option R) : SE R := ⟨[], Try.f67.ntmps, 0, callA cfg0 kd [] (ref04_At_pre n), n, [], [], [], [], jf, lf⟩
noncomputable def ref04_At_F (n : Nat) (a1 : Int) (a2 : List UInt8) (a3 : Nat)  : Option ref04_At_R := Option.bind (ref04_Pages n a1 a2) fun z => bif decide (z ≤ w64 (↑a3 : Int)) then ref04_At_rt [] false else bif decide (0 ≤ w64 (w64 (↑a3 : Int) * a1)) && decide (0 ≤ w64 (w64 (w64 (↑a3 : Int) * a1) + a1)) && (decide (Int.toNat (w64 (w64 (↑a3 : Int) * a1)) ≤ Int.toNat (w64 (w64 (w64 (↑a3 : Int) * a1) + a1))) && decide (Int.toNat (w64 (w64 (w64 (↑a3 : Int) * a1) + a1)) ≤ List.length a2)) then ref04_At_rt (List.take (Int.toNat (w64 (w64 (w64 (↑a3 : Int) * a1) + a1)) - Int.toNat (w64 (w64 (↑a3 : Int) * a1))) (List.drop (Int.toNat (w64 (w64 (↑a3 : Int) * a1))) a2)) true else none
noncomputable def ref04_At (n : Nat) (a1 : Int) (a2 : List UInt8) (a3 : Nat) : Option ref04_At_R := ref04_At_F n a1 a2 a3 
noncomputable def ref04_At_jf (n : Nat) : List Nat → Nat → AT → AS → Option ref04_At_R := fun ms key T s => none
noncomputable def ref04_At_lf (n : Nat) : List Nat → Nat → AT → AS → Option ref04_At_R := fun ms key T s => none
noncomputable def ref04_At_E (n : Nat)   : SE ref04_At_R := ref04_At_E0 n ref04_At_R   (ref04_At_jf n) (ref04_At_lf n)
theorem ref04_At_eq (n : Nat) (a1 : Int) (a2 : List UInt8) (a3 : Nat) : sxF cfg0 kd ref04_At_kr (ref04_At_E n  ) Try.f67 (bodyOf Try.f67) [] [.i .i64 a1, .s a2, .n .u32 a3] ref04_At_ret = ref04_At n a1 a2 a3 := by kernel_rfl
theorem ref04_At_pv (n : Nat) (r : ref04_At_R) : PV cfg0 kd (ref04_At_E n  ) r [] (bodyOf Try.f67) (retK cfg0 kd ref04_At_kr (ref04_At_E n  ) Try.f67.results.toList ref04_At_ret) := by
  exact PV.triv (by kernel_rfl)
noncomputable def ref04_At_ct (n : Nat) (vs : List AV) (h : AH) : Option Ctr := match vs, h with
  | [.i .i64 a1, .s a2, .n .u32 a3], [] => some (.one ref04_At_R (ref04_At n   a1 a2 a3) [] 0 ref04_At_out)
  | _, _ => none
theorem ref04_At_ok (n : Nat) : COk1 cfg0 67 (ref04_At_ct n) := by
  intro vs h c e
  unfold ref04_At_ct at e
  split at e
  · rename_i a1 a2 a3
    cases e
    exact fun r hm => sxF_ok (E := ref04_At_E n  ) (nx1 := ref04_At_nx) (ref04_At_fn) rfl rfl rfl (callA_ok (ref04_At_pre_ok n)) ref04_At_ret_ok rfl (ref04_At_pv n   _) ((ref04_At_eq n   a1 a2 a3).trans hm)
  · cases e
end
end Go.Ev
end
section
set_option linter.unusedVariables false
set_option linter.unusedSimpArgs false
set_option maxRecDepth 100000
set_option maxHeartbeats 400000
namespace Go.Ev
open Go.RowKit Go.Proofs
section
theorem ref04_Read_fn : cfg0.fn 57 = some Try.f57 := rfl
abbrev ref04_Read_R : Type := Pg × Int
@[reducible] def ref04_Read_rt (b0 : Pg) (b1 : Int) : Option ref04_Read_R := some (b0, b1)
noncomputable def ref04_Read_out : ref04_Read_R → AV × AH
  | (b0, b1) => ((.tu [(.ag (RK.k .page b0)), (.i .i64 b1)]), [])
noncomputable def ref04_Read_nx : ref04_Read_R → Nat
  | _ => 0
noncomputable def ref04_Read_ret (v : AV) (h : AH) (nx : Nat) : Option ref04_Read_R := match v, h, nx with
  | (.tu [(.ag [.i .i64 b0_0, .i .i64 b0_1, .n .u32 b0_2, .n .u32 b0_3, .n .u64 b0_4, .s b0_5]), (.i .i64 b1)]), [], 0 => some (⟨b0_0, b0_1, b0_2, b0_3, b0_4, b0_5⟩, b1)
  | _, _, _ => none
theorem ref04_Read_ret_ok (v : AV) (h : AH) (nx : Nat) (r : ref04_Read_R) (e : ref04_Read_ret v h nx = some r) : ref04_Read_out r = (v, h) ∧ nx = ref04_Read_nx r := by
  unfold ref04_Read_ret at e
  split at e
  · cases e; exact ⟨rfl, rfl⟩
  · cases e
noncomputable def ref04_Read_kr : KN := []
noncomputable def ref04_Read_pre (n : Nat) : CT := (ctA 38 (ref04_Get_ct n) (ctA 58 (ref03_Good_ct n) (ctA 67 (ref04_At_ct n) ctZ)))
theorem ref04_Read_pre_ok (n : Nat) : COk cfg0 (ref04_Read_pre n) := (ctA_ok (ref04_Get_ok n) (ctA_ok (ref03_Good_ok n) (ctA_ok (ref04_At_ok n) ctZ_ok)))
noncomputable def ref04_Read_E0 (n : Nat) (R : Type)   (jf lf : List Nat → Nat → AT → AS → Option R) : SE R := ⟨[], Try.f57.ntmps, 0, callA cfg0 kd [] (ref04_Read_pre n), n, [], [], [], [], jf, lf⟩
noncomputable def ref04_Read_F (n : Nat) (a1 : Int) (a2 : List UInt8) (a3 : Nat)  : Option ref04_Read_R := Option.bind (ref03_Good n a1) fun z => bif !z then ref04_Read_rt (Pg.mk 0 0 ((0 : Nat)) ((0 : Nat)) ((0 : Nat)) []) 2 else Option.bind (ref04_At n a1 a2 a3) fun z_1 => bif !z_1.snd then ref04_Read_rt (Pg.mk 0 0 ((0 : Nat)) ((0 : Nat)) ((0 : Nat)) []) 5 else Option.bind (ref04_Get n a1 a3 z_1.fst) fun z_2 => ref04_Read_rt z_2.fst z_2.snd
noncomputable def ref04_Read (n : Nat) (a1 : Int) (a2 : List UInt8) (a3 : Nat) : Option ref04_Read_R := ref04_Read_F n a1 a2 a3 
noncomputable def ref04_Read_jf (n : Nat) : List Nat → Nat → AT → AS → Option ref04_Read_R := fun ms key T s => none
noncomputable def ref04_Read_lf (n : Nat) : List Nat → Nat → AT → AS → Option ref04_Read_R := fun ms key T s => none
noncomputable def ref04_Read_E (n : Nat)   : SE ref04_Read_R := ref04_Read_E0 n ref04_Read_R   (ref04_Read_jf n) (ref04_Read_lf n)
theorem ref04_Read_eq (n : Nat) (a1 : Int) (a2 : List UInt8) (a3 : Nat) : sxF cfg0 kd ref04_Read_kr (ref04_Read_E n  ) Try.f57 (bodyOf Try.f57) [] [.i .i64 a1, .s a2, .n .u32 a3] ref04_Read_ret = ref04_Read n a1 a2 a3 := by kernel_rfl
theorem ref04_Read_pv (n : Nat) (r : ref04_Read_R) : PV cfg0 kd (ref04_Read_E n  ) r [] (bodyOf Try.f57) (retK cfg0 kd ref04_Read_kr (ref04_Read_E n  ) Try.f57.results.toList ref04_Read_ret) := by
  exact PV.triv (by kernel_rfl)
noncomputable def ref04_Read_ct (n : Nat) (vs : List AV) (h : AH) : Option Ctr := match vs, h with
  | [.i .i64 a1, .s a2, .n .u32 a3], [] => some (.one ref04_Read_R (ref04_Read n   a1 a2 a3) [] 0 ref04_Read_out)
  | _, _ => none
theorem ref04_Read_ok (n : Nat) : COk1 cfg0 57 (ref04_Read_ct n) := by
  intro vs h c e
  unfold ref04_Read_ct at e
  split at e
  · rename_i a1 a2 a3
    cases e
    exact fun r hm => sxF_ok (E := ref04_Read_E n  ) (nx1 := ref04_Read_nx) (ref04_Read_fn) rfl rfl rfl (callA_ok (ref04_Read_pre_ok n)) ref04_Read_ret_ok rfl (ref04_Read_pv n   _) ((ref04_Read_eq n   a1 a2 a3).trans hm)
  · cases e
end
end Go.Ev
end
section
set_option linter.unusedVariables false
set_option linter.unusedSimpArgs false
set_option maxRecDepth 100000
set_option maxHeartbeats 400000
namespace Go.Ev
open Go.RowKit Go.Proofs
section
theorem ref05_Of_fn : cfg0.fn 33 = some Try.f33 := rfl
abbrev ref05_Of_R : Type := Mta × Int
@[reducible] def ref05_Of_rt (b0 : Mta) (b1 : Int) : Option ref05_Of_R := some (b0, b1)
noncomputable def ref05_Of_out : ref05_Of_R → AV × AH
  | (b0, b1) => ((.tu [(.ag (RK.k .mta b0)), (.i .i64 b1)]), [])
noncomputable def ref05_Of_nx : ref05_Of_R → Nat
  | _ => 0
noncomputable def ref05_Of_ret (v : AV) (h : AH) (nx : Nat) : Option ref05_Of_R := match v, h, nx with
  | (.tu [(.ag [.n .u64 b0_0, .i .i64 b0_1, .n .u32 b0_2, .n .u32 b0_3, .n .u32 b0_4]), (.i .i64 b1)]), [], 0 => some (⟨b0_0, b0_1, b0_2, b0_3, b0_4⟩, b1)
  | _, _, _ => none
theorem ref05_Of_ret_ok (v : AV) (h : AH) (nx : Nat) (r : ref05_Of_R) (e : ref05_Of_ret v h nx = some r) : ref05_Of_out r = (v, h) ∧ nx = ref05_Of_nx r := by
  unfold ref05_Of_ret at e
  split at e
  · cases e; exact ⟨rfl, rfl⟩
  · cases e
noncomputable def ref05_Of_kr : KN := []
noncomputable def ref05_Of_pre (n : Nat) : CT := (ctA 32 (ref05_Page_ct n) (ctA 55 (ref01_New_ct n) (ctA 56 (ref01_Reader_Number_ct n) ctZ)))
theorem ref05_Of_pre_ok (n : Nat) : COk cfg0 (ref05_Of_pre n) := (ctA_ok (ref05_Page_ok n) (ctA_ok (ref01_New_ok n) (ctA_ok (ref01_Reader_Number_ok n) ctZ_ok)))
noncomputable def ref05_Of_E0 (n : Nat) (R : Type)   (jf lf : List Nat → Nat → AT → AS → Option R) : SE R := ⟨[], Try.f33.ntmps, 0, callA cfg0 kd [] (ref05_Of_pre n), n, [], [], [], [], jf, lf⟩
noncomputable def ref05_Of_F (n : Nat) (a1 : Int) (a2 : Pg)  : Option ref05_Of_R := bif decide ((↑(List.length a2.body) : Int) < 22) then ref05_Of_rt (Mta.mk ((0 : Nat)) 0 ((0 : Nat)) ((0 : Nat)) ((0 : Nat))) 4 else bif decide (0 ≤ 8) && decide ((8 : Nat) ≤ List.length a2.body) then Option.bind (ref01_Reader_Number n 2 (List.drop ((8 : Nat)) a2.body)) fun z => Option.bind (ref01_Reader_Number n 4 z.2.2) fun z_1 => Option.bind (ref01_Reader_Number n 4 z_1.2.2) fun z_2 => Option.bind (ref01_Reader_Number n 4 z_2.2.2) fun z_3 => Option.bind (ref05_Page n (Mta.mk a2.tx (w64 (↑z.fst : Int)) (z_1.fst % 4294967296) (z_2.fst % 4294967296) (z_3.fst % 4294967296))) fun z_4 => bif decide (z_4.snd ≠ 0) then ref05_Of_rt (Mta.mk ((0 : Nat)) 0 ((0 : Nat)) ((0 : Nat)) ((0 : Nat))) 4 else bif !(decide (z_4.fst.kind = a2.kind) && (decide (z_4.fst.count = a2.count) && (decide (z_4.fst.page = a2.page) && (decide (z_4.fst.link = a2.link) && (decide (z_4.fst.tx = a2.tx) && (decide (z_4.fst.body = a2.body) && true)))))) then ref05_Of_rt (Mta.mk ((0 : Nat)) 0 ((0 : Nat)) ((0 : Nat)) ((0 : Nat))) 4 else bif decide (w64 (↑z.fst : Int) ≠ a1) then ref05_Of_rt (Mta.mk ((0 : Nat)) 0 ((0 : Nat)) ((0 : Nat)) ((0 : Nat))) 4 else ref05_Of_rt (Mta.mk a2.tx (w64 (↑z.fst : Int)) (z_1.fst % 4294967296) (z_2.fst % 4294967296) (z_3.fst % 4294967296)) 0 else none
noncomputable def ref05_Of (n : Nat) (a1 : Int) (a2 : Pg) : Option ref05_Of_R := ref05_Of_F n a1 a2 
noncomputable def ref05_Of_jf (n : Nat) : List Nat → Nat → AT → AS → Option ref05_Of_R := fun ms key T s => none
noncomputable def ref05_Of_lf (n : Nat) : List Nat → Nat → AT → AS → Option ref05_Of_R := fun ms key T s => none
noncomputable def ref05_Of_E (n : Nat)   : SE ref05_Of_R := ref05_Of_E0 n ref05_Of_R   (ref05_Of_jf n) (ref05_Of_lf n)
theorem ref05_Of_eq (n : Nat) (a1 : Int) (a2 : Pg) : sxF cfg0 kd ref05_Of_kr (ref05_Of_E n  ) Try.f33 (bodyOf Try.f33) [] [.i .i64 a1, .ag (RK.k .page a2)] ref05_Of_ret = ref05_Of n a1 a2 := by kernel_rfl
theorem ref05_Of_pv (n : Nat) (r : ref05_Of_R) : PV cfg0 kd (ref05_Of_E n  ) r [] (bodyOf Try.f33) (retK cfg0 kd ref05_Of_kr (ref05_Of_E n  ) Try.f33.results.toList ref05_Of_ret) := by
  exact PV.triv (by kernel_rfl)
noncomputable def ref05_Of_ct (n : Nat) (vs : List AV) (h : AH) : Option Ctr := match vs, h with
  | [.i .i64 a1, .ag [.i .i64 a2_0, .i .i64 a2_1, .n .u32 a2_2, .n .u32 a2_3, .n .u64 a2_4, .s a2_5]], [] => some (.one ref05_Of_R (ref05_Of n   a1 ⟨a2_0, a2_1, a2_2, a2_3, a2_4, a2_5⟩) [] 0 ref05_Of_out)
  | _, _ => none
theorem ref05_Of_ok (n : Nat) : COk1 cfg0 33 (ref05_Of_ct n) := by
  intro vs h c e
  unfold ref05_Of_ct at e
  split at e
  · rename_i a1 a2_0 a2_1 a2_2 a2_3 a2_4 a2_5
    cases e
    exact fun r hm => sxF_ok (E := ref05_Of_E n  ) (nx1 := ref05_Of_nx) (ref05_Of_fn) rfl rfl rfl (callA_ok (ref05_Of_pre_ok n)) ref05_Of_ret_ok rfl (ref05_Of_pv n   _) ((ref05_Of_eq n   a1 ⟨a2_0, a2_1, a2_2, a2_3, a2_4, a2_5⟩).trans hm)
  · cases e
end
end Go.Ev
end
section
set_option linter.unusedVariables false
set_option linter.unusedSimpArgs false
set_option maxRecDepth 100000
set_option maxHeartbeats 400000
namespace Go.Ev
open Go.RowKit Go.Proofs
section
theorem ref05_Both_fn : cfg0.fn 34 = some Try.f34 := rfl
abbrev ref05_Both_R : Type := Nat × Int × Nat × Nat × Nat × Nat × Int × Nat × Nat × Nat × Bool × Bool
@[reducible] def ref05_Both_rt (b0 : Nat) (b1 : Int) (b2 : Nat) (b3 : Nat) (b4 : Nat) (b5 : Nat) (b6 : Int) (b7 : Nat) (b8 : Nat) (b9 : Nat) (b10 : Bool) (b11 : Bool) : Option ref05_Both_R := some (b0, b1, b2, b3, b4, b5, b6, b7, b8, b9, b10, b11)
noncomputable def ref05_Both_out : ref05_Both_R → AV × AH
  | (b0, b1, b2, b3, b4, b5, b6, b7, b8, b9, b10, b11) => ((.tu [(.ag [(.n .u64 b0), (.i .i64 b1), (.n .u32 b2), (.n .u32 b3), (.n .u32 b4), (.n .u64 b5), (.i .i64 b6), (.n .u32 b7), (.n .u32 b8), (.n .u32 b9)]), (.ag [(.b b10), (.b b11)])]), [])
noncomputable def ref05_Both_nx : ref05_Both_R → Nat
  | _ => 0
noncomputable def ref05_Both_ret (v : AV) (h : AH) (nx : Nat) : Option ref05_Both_R := match v, h, nx with
  | (.tu [(.ag [(.n .u64 b0), (.i .i64 b1), (.n .u32 b2), (.n .u32 b3), (.n .u32 b4), (.n .u64 b5), (.i .i64 b6), (.n .u32 b7), (.n .u32 b8), (.n .u32 b9)]), (.ag [(.b b10), (.b b11)])]), [], 0 => some (b0, b1, b2, b3, b4, b5, b6, b7, b8, b9, b10, b11)
  | _, _, _ => none
theorem ref05_Both_ret_ok (v : AV) (h : AH) (nx : Nat) (r : ref05_Both_R) (e : ref05_Both_ret v h nx = some r) : ref05_Both_out r = (v, h) ∧ nx = ref05_Both_nx r := by
  unfold ref05_Both_ret at e
  split at e
  · cases e; exact ⟨rfl, rfl⟩
  · cases e
noncomputable def ref05_Both_kr : KN := []
noncomputable def ref05_Both_pre (n : Nat) : CT := (ctA 33 (ref05_Of_ct n) (ctA 57 (ref04_Read_ct n) ctZ))
theorem ref05_Both_pre_ok (n : Nat) : COk cfg0 (ref05_Both_pre n) := (ctA_ok (ref05_Of_ok n) (ctA_ok (ref04_Read_ok n) ctZ_ok))
noncomputable def ref05_Both_E0 (n : Nat) (R : Type)   (jf lf : List Nat → Nat → AT → AS → Option R) : SE R := ⟨[], Try.f34.ntmps, 0, callA cfg0 kd [] (ref05_Both_pre n), n, [(5, ([0, 1, 4, 5, 6, 7, 8], 0))], [], [], [], jf, lf⟩
noncomputable def ref05_Both_L5F (n : Nat) (r5 : (Int → List UInt8 → Int → List (Bool) → List (Mta) → List (Bool) → List (Mta) → Option ref05_Both_R))  (x0 : Int) (x1 : List UInt8) (x2 : Int) (x3 : List (Bool)) (x4 : List (Mta)) (x5 : List (Bool)) (x6 : List (Mta)) : Option ref05_Both_R := bif decide (x2 < 2) then Option.bind (ref04_Read n x0 x1 (u32 x2)) fun z => bif decide (z.snd ≠ 0) then r5 x0 x1 (w64 (x2 + 1)) x3 x4 x5 x6 else Option.bind (ref05_Of n x0 (Pg.mk z.fst.kind z.fst.count z.fst.page z.fst.link z.fst.tx z.fst.body)) fun z_1 => bif decide (z_1.snd = 0) then bif decide (0 ≤ x2) && Nat.ble (Nat.succ (Int.toNat x2)) 2 then Option.bind x4[Int.toNat x2]? fun z_2 => bif decide (0 ≤ x2) && Nat.ble (Nat.succ (Int.toNat x2)) 2 then Option.bind x3[Int.toNat x2]? fun z_3 => r5 x0 x1 (w64 (x2 + 1)) (List.set x3 (Int.toNat x2) true) (List.set x4 (Int.toNat x2) (Mta.mk z_1.fst.tx z_1.fst.size z_1.fst.root z_1.fst.free z_1.fst.pages)) x5 x6 else none else none else r5 x0 x1 (w64 (x2 + 1)) x3 x4 x5 x6 else Option.bind x4[0]? fun z => Option.bind x4[0 + 1]? fun z_1 => bif decide (List.length x4 = 0 + 1 + 1) then Option.bind x3[0]? fun z_2 => Option.bind x3[0 + 1]? fun z_3 => bif decide (List.length x3 = 0 + 1 + 1) then bif decide (List.length x6 = 2) then bif decide (List.length x5 = 2) then ref05_Both_rt z.tx z.size z.root z.free z.pages z_1.tx z_1.size z_1.root z_1.free z_1.pages z_2 z_3 else none else none else none else none
noncomputable def ref05_Both_L5 (n : Nat)  : Nat → Int → List UInt8 → Int → List (Bool) → List (Mta) → List (Bool) → List (Mta) → Option ref05_Both_R
  | 0, _, _, _, _, _, _, _ => none
  | m + 1, x0, x1, x2, x3, x4, x5, x6 => ref05_Both_L5F n  (ref05_Both_L5 n  m)  x0 x1 x2 x3 x4 x5 x6
noncomputable def ref05_Both_F (n : Nat) (a1 : Int) (a2 : List UInt8) (l5 : (Int → List UInt8 → Int → List (Bool) → List (Mta) → List (Bool) → List (Mta) → Option ref05_Both_R)) : Option ref05_Both_R := l5 a1 a2 0 [false, false] [Mta.mk ((0 : Nat)) 0 ((0 : Nat)) ((0 : Nat)) ((0 : Nat)), Mta.mk ((0 : Nat)) 0 ((0 : Nat)) ((0 : Nat)) ((0 : Nat))] [false, false] [Mta.mk ((0 : Nat)) 0 ((0 : Nat)) ((0 : Nat)) ((0 : Nat)), Mta.mk ((0 : Nat)) 0 ((0 : Nat)) ((0 : Nat)) ((0 : Nat))]
noncomputable def ref05_Both (n : Nat) (a1 : Int) (a2 : List UInt8) : Option ref05_Both_R := ref05_Both_F n a1 a2 (ref05_Both_L5 n n)
noncomputable def ref05_Both_L5q (n : Nat) (m5 : Nat) (T : AT) (s : AS) : Option ref05_Both_R := match T, s with
  | [(0, (.i .i64 x0)), (1, (.s x1)), (4, (.ptr 0 0)), (5, (.ptr 1 0)), (6, (.ptr 2 0)), (7, (.ptr 3 0)), (8, (.i .i64 x2))], ⟨[(3, (.row .bl 0 x3 58 (0, 0))), (2, (.row .mta 0 x4 57 (0, 0))), (1, (.row .bl 0 x5 58 (0, 0))), (0, (.row .mta 0 x6 57 (0, 0)))], 4, []⟩ => ref05_Both_L5 n  m5 x0 x1 x2 x3 x4 x5 x6
  | _, _ => none
noncomputable def ref05_Both_jf (n : Nat) : List Nat → Nat → AT → AS → Option ref05_Both_R := fun ms key T s => none
noncomputable def ref05_Both_lf (n : Nat) : List Nat → Nat → AT → AS → Option ref05_Both_R := fun ms key T s => cond (Nat.beq key 5) (match ms with | [m5] => ref05_Both_L5q n m5 T s | _ => none) (none)
noncomputable def ref05_Both_E (n : Nat)   : SE ref05_Both_R := ref05_Both_E0 n ref05_Both_R   (ref05_Both_jf n) (ref05_Both_lf n)
theorem ref05_Both_eq (n : Nat) (a1 : Int) (a2 : List UInt8) : sxF cfg0 kd ref05_Both_kr (ref05_Both_E n  ) Try.f34 (bodyOf Try.f34) [] [.i .i64 a1, .s a2] ref05_Both_ret = ref05_Both n a1 a2 := by kernel_rfl
theorem ref05_Both_pv (n : Nat) (r : ref05_Both_R) : PV cfg0 kd (ref05_Both_E n  ) r [] (bodyOf Try.f34) (retK cfg0 kd ref05_Both_kr (ref05_Both_E n  ) Try.f34.results.toList ref05_Both_ret) := by
  refine PV.sn (by kernel_rfl) ?_ ?_
  ·
    refine PV.sn (by kernel_rfl) ?_ ?_
    ·
      refine PV.sn (by kernel_rfl) ?_ ?_
      ·
        refine PV.sn (by kernel_rfl) ?_ ?_
        ·
          exact PV.triv (by kernel_rfl)
        ·
          refine PV.sn (by kernel_rfl) ?_ ?_
          ·
            refine PV.bl ?_
            refine PV.lp (live := [0, 1, 4, 5, 6, 7, 8]) (by kernel_rfl) ?_ ?_ ?_
            · intro T s h; change ref05_Both_L5q n 0 _ _ = some r at h; unfold ref05_Both_L5q at h; split at h
              · exact nomatch (show (none : Option ref05_Both_R) = some r from h)
              · cases h
            · intro m5 T s h; change ref05_Both_L5q n (m5 + 1) _ _ = some r at h; unfold ref05_Both_L5q at h; split at h
              · exact Eq.trans (by kernel_rfl) h
              · cases h
            · intro m5
              exact PV.triv (by kernel_rfl)
          ·
            exact PV.triv (by kernel_rfl)
      ·
        exact PV.triv (by kernel_rfl)
    ·
      exact PV.triv (by kernel_rfl)
  ·
    exact PV.triv (by kernel_rfl)
noncomputable def ref05_Both_ct (n : Nat) (vs : List AV) (h : AH) : Option Ctr := match vs, h with
  | [.i .i64 a1, .s a2], [] => some (.one ref05_Both_R (ref05_Both n   a1 a2) [] 0 ref05_Both_out)
  | _, _ => none
theorem ref05_Both_ok (n : Nat) : COk1 cfg0 34 (ref05_Both_ct n) := by
  intro vs h c e
  unfold ref05_Both_ct at e
  split at e
  · rename_i a1 a2
    cases e
    exact fun r hm => sxF_ok (E := ref05_Both_E n  ) (nx1 := ref05_Both_nx) (ref05_Both_fn) rfl rfl rfl (callA_ok (ref05_Both_pre_ok n)) ref05_Both_ret_ok rfl (ref05_Both_pv n   _) ((ref05_Both_eq n   a1 a2).trans hm)
  · cases e
end
end Go.Ev
end
section
set_option linter.unusedVariables false
set_option linter.unusedSimpArgs false
set_option maxRecDepth 100000
set_option maxHeartbeats 400000
namespace Go.Ev
open Go.RowKit Go.Proofs
section
theorem ref05_Newest_fn : cfg0.fn 35 = some Try.f35 := rfl
abbrev ref05_Newest_R : Type := Mta × Int
@[reducible] def ref05_Newest_rt (b0 : Mta) (b1 : Int) : Option ref05_Newest_R := some (b0, b1)
noncomputable def ref05_Newest_out : ref05_Newest_R → AV × AH
  | (b0, b1) => ((.tu [(.ag (RK.k .mta b0)), (.i .i64 b1)]), [])
noncomputable def ref05_Newest_nx : ref05_Newest_R → Nat
  | _ => 0
noncomputable def ref05_Newest_ret (v : AV) (h : AH) (nx : Nat) : Option ref05_Newest_R := match v, h, nx with
  | (.tu [(.ag [.n .u64 b0_0, .i .i64 b0_1, .n .u32 b0_2, .n .u32 b0_3, .n .u32 b0_4]), (.i .i64 b1)]), [], 0 => some (⟨b0_0, b0_1, b0_2, b0_3, b0_4⟩, b1)
  | _, _, _ => none
theorem ref05_Newest_ret_ok (v : AV) (h : AH) (nx : Nat) (r : ref05_Newest_R) (e : ref05_Newest_ret v h nx = some r) : ref05_Newest_out r = (v, h) ∧ nx = ref05_Newest_nx r := by
  unfold ref05_Newest_ret at e
  split at e
  · cases e; exact ⟨rfl, rfl⟩
  · cases e
noncomputable def ref05_Newest_kr : KN := []
noncomputable def ref05_Newest_pre (n : Nat) : CT := (ctA 34 (ref05_Both_ct n) (ctA 58 (ref03_Good_ct n) ctZ))
theorem ref05_Newest_pre_ok (n : Nat) : COk cfg0 (ref05_Newest_pre n) := (ctA_ok (ref05_Both_ok n) (ctA_ok (ref03_Good_ok n) ctZ_ok))
noncomputable def ref05_Newest_E0 (n : Nat) (R : Type)   (jf lf : List Nat → Nat → AT → AS → Option R) : SE R := ⟨[], Try.f35.ntmps, 0, callA cfg0 kd [] (ref05_Newest_pre n), n, [], [], [], [], jf, lf⟩
noncomputable def ref05_Newest_F (n : Nat) (a1 : Int) (a2 : List UInt8)  : Option ref05_Newest_R := Option.bind (ref03_Good n a1) fun z => bif !z then ref05_Newest_rt (Mta.mk ((0 : Nat)) 0 ((0 : Nat)) ((0 : Nat)) ((0 : Nat))) 2 else Option.bind (ref05_Both n a1 a2) fun z_1 => bif !z_1.2.2.2.2.2.2.2.2.2.2.fst then bif !z_1.2.2.2.2.2.2.2.2.2.2.snd then ref05_Newest_rt (Mta.mk ((0 : Nat)) 0 ((0 : Nat)) ((0 : Nat)) ((0 : Nat))) 5 else bif !z_1.2.2.2.2.2.2.2.2.2.2.fst then ref05_Newest_rt (Mta.mk z_1.2.2.2.2.2.fst z_1.2.2.2.2.2.2.fst z_1.2.2.2.2.2.2.2.fst z_1.2.2.2.2.2.2.2.2.fst z_1.2.2.2.2.2.2.2.2.2.fst) 0 else bif z_1.2.2.2.2.2.2.2.2.2.2.snd then bif decide (z_1.fst < z_1.2.2.2.2.2.fst) then ref05_Newest_rt (Mta.mk z_1.2.2.2.2.2.fst z_1.2.2.2.2.2.2.fst z_1.2.2.2.2.2.2.2.fst z_1.2.2.2.2.2.2.2.2.fst z_1.2.2.2.2.2.2.2.2.2.fst) 0 else ref05_Newest_rt (Mta.mk z_1.fst z_1.2.fst z_1.2.2.fst z_1.2.2.2.fst z_1.2.2.2.2.fst) 0 else ref05_Newest_rt (Mta.mk z_1.fst z_1.2.fst z_1.2.2.fst z_1.2.2.2.fst z_1.2.2.2.2.fst) 0 else bif !z_1.2.2.2.2.2.2.2.2.2.2.fst then ref05_Newest_rt (Mta.mk z_1.2.2.2.2.2.fst z_1.2.2.2.2.2.2.fst z_1.2.2.2.2.2.2.2.fst z_1.2.2.2.2.2.2.2.2.fst z_1.2.2.2.2.2.2.2.2.2.fst) 0 else bif z_1.2.2.2.2.2.2.2.2.2.2.snd then bif decide (z_1.fst < z_1.2.2.2.2.2.fst) then ref05_Newest_rt (Mta.mk z_1.2.2.2.2.2.fst z_1.2.2.2.2.2.2.fst z_1.2.2.2.2.2.2.2.fst z_1.2.2.2.2.2.2.2.2.fst z_1.2.2.2.2.2.2.2.2.2.fst) 0 else ref05_Newest_rt (Mta.mk z_1.fst z_1.2.fst z_1.2.2.fst z_1.2.2.2.fst z_1.2.2.2.2.fst) 0 else ref05_Newest_rt (Mta.mk z_1.fst z_1.2.fst z_1.2.2.fst z_1.2.2.2.fst z_1.2.2.2.2.fst) 0
noncomputable def ref05_Newest (n : Nat) (a1 : Int) (a2 : List UInt8) : Option ref05_Newest_R := ref05_Newest_F n a1 a2 
noncomputable def ref05_Newest_jf (n : Nat) : List Nat → Nat → AT → AS → Option ref05_Newest_R := fun ms key T s => none
noncomputable def ref05_Newest_lf (n : Nat) : List Nat → Nat → AT → AS → Option ref05_Newest_R := fun ms key T s => none
noncomputable def ref05_Newest_E (n : Nat)   : SE ref05_Newest_R := ref05_Newest_E0 n ref05_Newest_R   (ref05_Newest_jf n) (ref05_Newest_lf n)
theorem ref05_Newest_eq (n : Nat) (a1 : Int) (a2 : List UInt8) : sxF cfg0 kd ref05_Newest_kr (ref05_Newest_E n  ) Try.f35 (bodyOf Try.f35) [] [.i .i64 a1, .s a2] ref05_Newest_ret = ref05_Newest n a1 a2 := by kernel_rfl
theorem ref05_Newest_pv (n : Nat) (r : ref05_Newest_R) : PV cfg0 kd (ref05_Newest_E n  ) r [] (bodyOf Try.f35) (retK cfg0 kd ref05_Newest_kr (ref05_Newest_E n  ) Try.f35.results.toList ref05_Newest_ret) := by
  exact PV.triv (by kernel_rfl)
noncomputable def ref05_Newest_ct (n : Nat) (vs : List AV) (h : AH) : Option Ctr := match vs, h with
  | [.i .i64 a1, .s a2], [] => some (.one ref05_Newest_R (ref05_Newest n   a1 a2) [] 0 ref05_Newest_out)
  | _, _ => none
theorem ref05_Newest_ok (n : Nat) : COk1 cfg0 35 (ref05_Newest_ct n) := by
  intro vs h c e
  unfold ref05_Newest_ct at e
  split at e
  · rename_i a1 a2
    cases e
    exact fun r hm => sxF_ok (E := ref05_Newest_E n  ) (nx1 := ref05_Newest_nx) (ref05_Newest_fn) rfl rfl rfl (callA_ok (ref05_Newest_pre_ok n)) ref05_Newest_ret_ok rfl (ref05_Newest_pv n   _) ((ref05_Newest_eq n   a1 a2).trans hm)
  · cases e
end
end Go.Ev
end
section
set_option linter.unusedVariables false
set_option linter.unusedSimpArgs false
set_option maxRecDepth 100000
set_option maxHeartbeats 400000
namespace Go.Ev
open Go.RowKit Go.Proofs
section
theorem kit_Times_fn : cfg0.fn 23 = some Try.f23 := rfl
abbrev kit_Times_R : Type := (List UInt8)
@[reducible] def kit_Times_rt (b0 : List UInt8) : Option kit_Times_R := some b0
noncomputable def kit_Times_out : kit_Times_R → AV × AH
  | b0 => ((.s b0), [])
noncomputable def kit_Times_nx : kit_Times_R → Nat
  | _ => 0
noncomputable def kit_Times_ret (v : AV) (h : AH) (nx : Nat) : Option kit_Times_R := match v, h, nx with
  | (.s b0), [], 0 => some b0
  | _, _, _ => none
theorem kit_Times_ret_ok (v : AV) (h : AH) (nx : Nat) (r : kit_Times_R) (e : kit_Times_ret v h nx = some r) : kit_Times_out r = (v, h) ∧ nx = kit_Times_nx r := by
  unfold kit_Times_ret at e
  split at e
  · cases e; exact ⟨rfl, rfl⟩
  · cases e
noncomputable def kit_Times_kr : KN := []
noncomputable def kit_Times_pre (n : Nat) : CT := ctZ
theorem kit_Times_pre_ok (n : Nat) : COk cfg0 (kit_Times_pre n) := ctZ_ok
noncomputable def kit_Times_E0 (n : Nat) (R : Type)   (jf lf : List Nat → Nat → AT → AS → Option R) : SE R := ⟨[], Try.f23.ntmps, 0, callA cfg0 kd [] (kit_Times_pre n), n, [(3, ([0, 1, 5], 0))], [], [], [], jf, lf⟩
noncomputable def kit_Times_L3F (n : Nat) (r3 : (List UInt8 → Int → List UInt8 → Option kit_Times_R))  (x0 : List UInt8) (x1 : Int) (x2 : List UInt8) : Option kit_Times_R := bif decide (0 < x1) then bif decide (Int.tmod x1 2 = 1) then bif decide (List.length x2 + List.length x0 ≤ 4611686018427387904) then bif decide (List.length x0 + List.length x0 ≤ 4611686018427387904) then r3 (x0 ++ x0) (w64 (Int.tdiv x1 2)) (x2 ++ x0) else none else none else bif decide (List.length x0 + List.length x0 ≤ 4611686018427387904) then r3 (x0 ++ x0) (w64 (Int.tdiv x1 2)) x2 else none else kit_Times_rt x2
noncomputable def kit_Times_L3 (n : Nat)  : Nat → List UInt8 → Int → List UInt8 → Option kit_Times_R
  | 0, _, _, _ => none
  | m + 1, x0, x1, x2 => kit_Times_L3F n  (kit_Times_L3 n  m)  x0 x1 x2
noncomputable def kit_Times_F (n : Nat) (a1 : List UInt8) (a2 : Int) (l3 : (List UInt8 → Int → List UInt8 → Option kit_Times_R)) : Option kit_Times_R := l3 a1 a2 []
noncomputable def kit_Times (n : Nat) (a1 : List UInt8) (a2 : Int) : Option kit_Times_R := kit_Times_F n a1 a2 (kit_Times_L3 n n)
noncomputable def kit_Times_L3q (n : Nat) (m3 : Nat) (T : AT) (s : AS) : Option kit_Times_R := match T, s with
  | [(0, (.s x0)), (1, (.i .i64 x1)), (5, (.s x2))], ⟨[], 0, []⟩ => kit_Times_L3 n  m3 x0 x1 x2
  | _, _ => none
noncomputable def kit_Times_jf (n : Nat) : List Nat → Nat → AT → AS → Option kit_Times_R := fun ms key T s => none
noncomputable def kit_Times_lf (n : Nat) : List Nat → Nat → AT → AS → Option kit_Times_R := fun ms key T s => cond (Nat.beq key 3) (match ms with | [m3] => kit_Times_L3q n m3 T s | _ => none) (none)
noncomputable def kit_Times_E (n : Nat)   : SE kit_Times_R := kit_Times_E0 n kit_Times_R   (kit_Times_jf n) (kit_Times_lf n)
theorem kit_Times_eq (n : Nat) (a1 : List UInt8) (a2 : Int) : sxF cfg0 kd kit_Times_kr (kit_Times_E n  ) Try.f23 (bodyOf Try.f23) [] [.s a1, .i .i64 a2] kit_Times_ret = kit_Times n a1 a2 := by kernel_rfl
theorem kit_Times_pv (n : Nat) (r : kit_Times_R) : PV cfg0 kd (kit_Times_E n  ) r [] (bodyOf Try.f23) (retK cfg0 kd kit_Times_kr (kit_Times_E n  ) Try.f23.results.toList kit_Times_ret) := by
  refine PV.sn (by kernel_rfl) ?_ ?_
  ·
    refine PV.sn (by kernel_rfl) ?_ ?_
    ·
      refine PV.sn (by kernel_rfl) ?_ ?_
      ·
        exact PV.triv (by kernel_rfl)
      ·
        refine PV.bl ?_
        refine PV.lp (live := [0, 1, 5]) (by kernel_rfl) ?_ ?_ ?_
        · intro T s h; change kit_Times_L3q n 0 _ _ = some r at h; unfold kit_Times_L3q at h; split at h
          · exact nomatch (show (none : Option kit_Times_R) = some r from h)
          · cases h
        · intro m3 T s h; change kit_Times_L3q n (m3 + 1) _ _ = some r at h; unfold kit_Times_L3q at h; split at h
          · exact Eq.trans (by kernel_rfl) h
          · cases h
        · intro m3
          exact PV.triv (by kernel_rfl)
    ·
      exact PV.triv (by kernel_rfl)
  ·
    exact PV.triv (by kernel_rfl)
noncomputable def kit_Times_ct (n : Nat) (vs : List AV) (h : AH) : Option Ctr := match vs, h with
  | [.s a1, .i .i64 a2], [] => some (.one kit_Times_R (kit_Times n   a1 a2) [] 0 kit_Times_out)
  | _, _ => none
theorem kit_Times_ok (n : Nat) : COk1 cfg0 23 (kit_Times_ct n) := by
  intro vs h c e
  unfold kit_Times_ct at e
  split at e
  · rename_i a1 a2
    cases e
    exact fun r hm => sxF_ok (E := kit_Times_E n  ) (nx1 := kit_Times_nx) (kit_Times_fn) rfl rfl rfl (callA_ok (kit_Times_pre_ok n)) kit_Times_ret_ok rfl (kit_Times_pv n   _) ((kit_Times_eq n   a1 a2).trans hm)
  · cases e
end
end Go.Ev
end
section
set_option linter.unusedVariables false
set_option linter.unusedSimpArgs false
set_option maxRecDepth 100000
set_option maxHeartbeats 400000
namespace Go.Ev
open Go.RowKit Go.Proofs
section
theorem kit_Pick_fn : cfg0.fn 18 = some Try.f18 := rfl
abbrev kit_Pick_R : Type := Int
@[reducible] def kit_Pick_rt (b0 : Int) : Option kit_Pick_R := some b0
noncomputable def kit_Pick_out : kit_Pick_R → AV × AH
  | b0 => ((.i .i64 b0), [])
noncomputable def kit_Pick_nx : kit_Pick_R → Nat
  | _ => 0
noncomputable def kit_Pick_ret (v : AV) (h : AH) (nx : Nat) : Option kit_Pick_R := match v, h, nx with
  | (.i .i64 b0), [], 0 => some b0
  | _, _, _ => none
theorem kit_Pick_ret_ok (v : AV) (h : AH) (nx : Nat) (r : kit_Pick_R) (e : kit_Pick_ret v h nx = some r) : kit_Pick_out r = (v, h) ∧ nx = kit_Pick_nx r := by
  unfold kit_Pick_ret at e
  split at e
  · cases e; exact ⟨rfl, rfl⟩
  · cases e
noncomputable def kit_Pick_kr : KN := []
noncomputable def kit_Pick_pre (n : Nat) : CT := ctZ
theorem kit_Pick_pre_ok (n : Nat) : COk cfg0 (kit_Pick_pre n) := ctZ_ok
noncomputable def kit_Pick_E0 (n : Nat) (R : Type)   (jf lf : List Nat → Nat → AT → AS → Option R) : SE R := ⟨[], Try.f18.ntmps, 0, callA cfg0 kd [] (kit_Pick_pre n), n, [], [], [], [], jf, lf⟩
noncomputable def kit_Pick_F (n : Nat) (a1 : Int) (a2 : Int)  : Option kit_Pick_R := bif decide (a2 < 1) then kit_Pick_rt 0 else bif decide (a2 ≠ 0) then bif decide (Int.tmod a1 a2 < 0) then kit_Pick_rt (w64 (Int.tmod a1 a2 + a2)) else kit_Pick_rt (Int.tmod a1 a2) else none
noncomputable def kit_Pick (n : Nat) (a1 : Int) (a2 : Int) : Option kit_Pick_R := kit_Pick_F n a1 a2 
noncomputable def kit_Pick_jf (n : Nat) : List Nat → Nat → AT → AS → Option kit_Pick_R := fun ms key T s => none
noncomputable def kit_Pick_lf (n : Nat) : List Nat → Nat → AT → AS → Option kit_Pick_R := fun ms key T s => none
noncomputable def kit_Pick_E (n : Nat)   : SE kit_Pick_R := kit_Pick_E0 n kit_Pick_R   (kit_Pick_jf n) (kit_Pick_lf n)
theorem kit_Pick_eq (n : Nat) (a1 : Int) (a2 : Int) : sxF cfg0 kd kit_Pick_kr (kit_Pick_E n  ) Try.f18 (bodyOf Try.f18) [] [.i .i64 a1, .i .i64 a2] kit_Pick_ret = kit_Pick n a1 a2 := by kernel_rfl
theorem kit_Pick_pv (n : Nat) (r : kit_Pick_R) : PV cfg0 kd (kit_Pick_E n  ) r [] (bodyOf Try.f18) (retK cfg0 kd kit_Pick_kr (kit_Pick_E n  ) Try.f18.results.toList kit_Pick_ret) := by
  exact PV.triv (by kernel_rfl)
noncomputable def kit_Pick_ct (n : Nat) (vs : List AV) (h : AH) : Option Ctr := match vs, h with
  | [.i .i64 a1, .i .i64 a2], [] => some (.one kit_Pick_R (kit_Pick n   a1 a2) [] 0 kit_Pick_out)
  | _, _ => none
theorem kit_Pick_ok (n : Nat) : COk1 cfg0 18 (kit_Pick_ct n) := by
  intro vs h c e
  unfold kit_Pick_ct at e
  split at e
  · rename_i a1 a2
    cases e
    exact fun r hm => sxF_ok (E := kit_Pick_E n  ) (nx1 := kit_Pick_nx) (kit_Pick_fn) rfl rfl rfl (callA_ok (kit_Pick_pre_ok n)) kit_Pick_ret_ok rfl (kit_Pick_pv n   _) ((kit_Pick_eq n   a1 a2).trans hm)
  · cases e
end
end Go.Ev
end
section
set_option linter.unusedVariables false
set_option linter.unusedSimpArgs false
set_option maxRecDepth 100000
set_option maxHeartbeats 400000
namespace Go.Ev
open Go.RowKit Go.Proofs
section
theorem kit_Turned_fn : cfg0.fn 37 = some Try.f37 := rfl
abbrev kit_Turned_R : Type := (List UInt8)
@[reducible] def kit_Turned_rt (b0 : List UInt8) : Option kit_Turned_R := some b0
noncomputable def kit_Turned_out : kit_Turned_R → AV × AH
  | b0 => ((.s b0), [])
noncomputable def kit_Turned_nx : kit_Turned_R → Nat
  | _ => 0
noncomputable def kit_Turned_ret (v : AV) (h : AH) (nx : Nat) : Option kit_Turned_R := match v, h, nx with
  | (.s b0), [], 0 => some b0
  | _, _, _ => none
theorem kit_Turned_ret_ok (v : AV) (h : AH) (nx : Nat) (r : kit_Turned_R) (e : kit_Turned_ret v h nx = some r) : kit_Turned_out r = (v, h) ∧ nx = kit_Turned_nx r := by
  unfold kit_Turned_ret at e
  split at e
  · cases e; exact ⟨rfl, rfl⟩
  · cases e
noncomputable def kit_Turned_kr : KN := []
noncomputable def kit_Turned_pre (n : Nat) : CT := (ctA 18 (kit_Pick_ct n) ctZ)
theorem kit_Turned_pre_ok (n : Nat) : COk cfg0 (kit_Turned_pre n) := (ctA_ok (kit_Pick_ok n) ctZ_ok)
noncomputable def kit_Turned_E0 (n : Nat) (R : Type)   (jf lf : List Nat → Nat → AT → AS → Option R) : SE R := ⟨[], Try.f37.ntmps, 0, callA cfg0 kd [] (kit_Turned_pre n), n, [(7, ([1, 2, 7, 8], 0))], [], [], [], jf, lf⟩
noncomputable def kit_Turned_L7F (n : Nat) (r7 : (Int → Nat → Int → List UInt8 → Option kit_Turned_R))  (x0 : Int) (x1 : Nat) (x2 : Int) (x3 : List UInt8) : Option kit_Turned_R := bif decide (x2 < 4) then bif decide (0 ≤ w64 (x0 + x2)) && decide (Int.toNat (w64 (x0 + x2)) < List.length x3) then Option.bind x3[Int.toNat (w64 (x0 + x2))]? fun z => bif true && Nat.ble (u64 (w64 (8 * x2))) 32 then bif decide (0 ≤ w64 (x0 + x2)) && decide (Int.toNat (w64 (x0 + x2)) < List.length x3) then Option.bind x3[Int.toNat (w64 (x0 + x2))]? fun z_1 => r7 x0 x1 (w64 (x2 + 1)) (List.set x3 (Int.toNat (w64 (x0 + x2))) (UInt8.ofNat (UInt8.toNat z % 256 ^^^ UInt8.toNat (UInt8.ofNat (x1 / 2 ^ u64 (w64 (8 * x2)))) % 256))) else none else none else none else kit_Turned_rt x3
noncomputable def kit_Turned_L7 (n : Nat)  : Nat → Int → Nat → Int → List UInt8 → Option kit_Turned_R
  | 0, _, _, _, _ => none
  | m + 1, x0, x1, x2, x3 => kit_Turned_L7F n  (kit_Turned_L7 n  m)  x0 x1 x2 x3
noncomputable def kit_Turned_F (n : Nat) (a1 : List UInt8) (a2 : Int) (a3 : Nat) (l7 : (Int → Nat → Int → List UInt8 → Option kit_Turned_R)) : Option kit_Turned_R := bif decide ((↑(List.length a1) : Int) < 8) then kit_Turned_rt a1 else Option.bind (kit_Pick n a2 (w64 ((↑(List.length a1) : Int) - 7))) fun z => l7 (w64 (4 + z)) a3 0 a1
noncomputable def kit_Turned (n : Nat) (a1 : List UInt8) (a2 : Int) (a3 : Nat) : Option kit_Turned_R := kit_Turned_F n a1 a2 a3 (kit_Turned_L7 n n)
noncomputable def kit_Turned_L7q (n : Nat) (m7 : Nat) (T : AT) (s : AS) : Option kit_Turned_R := match T, s with
  | [(1, (.i .i64 x0)), (2, (.n .u32 x1)), (7, (.sl 0 1)), (8, (.i .i64 x2))], ⟨[(0, (.row .u8 0 x3 5 (0, 0)))], 1, []⟩ => kit_Turned_L7 n  m7 x0 x1 x2 x3
  | _, _ => none
noncomputable def kit_Turned_jf (n : Nat) : List Nat → Nat → AT → AS → Option kit_Turned_R := fun ms key T s => none
noncomputable def kit_Turned_lf (n : Nat) : List Nat → Nat → AT → AS → Option kit_Turned_R := fun ms key T s => cond (Nat.beq key 7) (match ms with | [m7] => kit_Turned_L7q n m7 T s | _ => none) (none)
noncomputable def kit_Turned_E (n : Nat)   : SE kit_Turned_R := kit_Turned_E0 n kit_Turned_R   (kit_Turned_jf n) (kit_Turned_lf n)
theorem kit_Turned_eq (n : Nat) (a1 : List UInt8) (a2 : Int) (a3 : Nat) : sxF cfg0 kd kit_Turned_kr (kit_Turned_E n  ) Try.f37 (bodyOf Try.f37) [] [.s a1, .i .i64 a2, .n .u32 a3] kit_Turned_ret = kit_Turned n a1 a2 a3 := by kernel_rfl
theorem kit_Turned_pv (n : Nat) (r : kit_Turned_R) : PV cfg0 kd (kit_Turned_E n  ) r [] (bodyOf Try.f37) (retK cfg0 kd kit_Turned_kr (kit_Turned_E n  ) Try.f37.results.toList kit_Turned_ret) := by
  refine PV.sn (by kernel_rfl) ?_ ?_
  ·
    refine PV.sn (by kernel_rfl) ?_ ?_
    ·
      refine PV.sn (by kernel_rfl) ?_ ?_
      ·
        refine PV.sn (by kernel_rfl) ?_ ?_
        ·
          refine PV.sn (by kernel_rfl) ?_ ?_
          ·
            exact PV.triv (by kernel_rfl)
          ·
            refine PV.sn (by kernel_rfl) ?_ ?_
            ·
              refine PV.bl ?_
              refine PV.lp (live := [1, 2, 7, 8]) (by kernel_rfl) ?_ ?_ ?_
              · intro T s h; change kit_Turned_L7q n 0 _ _ = some r at h; unfold kit_Turned_L7q at h; split at h
                · exact nomatch (show (none : Option kit_Turned_R) = some r from h)
                · cases h
              · intro m7 T s h; change kit_Turned_L7q n (m7 + 1) _ _ = some r at h; unfold kit_Turned_L7q at h; split at h
                · exact Eq.trans (by kernel_rfl) h
                · cases h
              · intro m7
                exact PV.triv (by kernel_rfl)
            ·
              exact PV.triv (by kernel_rfl)
        ·
          exact PV.triv (by kernel_rfl)
      ·
        exact PV.triv (by kernel_rfl)
    ·
      exact PV.triv (by kernel_rfl)
  ·
    exact PV.triv (by kernel_rfl)
noncomputable def kit_Turned_ct (n : Nat) (vs : List AV) (h : AH) : Option Ctr := match vs, h with
  | [.s a1, .i .i64 a2, .n .u32 a3], [] => some (.one kit_Turned_R (kit_Turned n   a1 a2 a3) [] 0 kit_Turned_out)
  | _, _ => none
theorem kit_Turned_ok (n : Nat) : COk1 cfg0 37 (kit_Turned_ct n) := by
  intro vs h c e
  unfold kit_Turned_ct at e
  split at e
  · rename_i a1 a2 a3
    cases e
    exact fun r hm => sxF_ok (E := kit_Turned_E n  ) (nx1 := kit_Turned_nx) (kit_Turned_fn) rfl rfl rfl (callA_ok (kit_Turned_pre_ok n)) kit_Turned_ret_ok rfl (kit_Turned_pv n   _) ((kit_Turned_eq n   a1 a2 a3).trans hm)
  · cases e
end
end Go.Ev
end
section
set_option linter.unusedVariables false
set_option linter.unusedSimpArgs false
set_option maxRecDepth 100000
set_option maxHeartbeats 400000
namespace Go.Ev
open Go.RowKit Go.Proofs
section
theorem law05_one_fn : cfg0.fn 28 = some Try.f28 := rfl
abbrev law05_one_R : Type := Mta
@[reducible] def law05_one_rt (b0 : Mta) : Option law05_one_R := some b0
noncomputable def law05_one_out : law05_one_R → AV × AH
  | b0 => ((.ag (RK.k .mta b0)), [])
noncomputable def law05_one_nx : law05_one_R → Nat
  | _ => 0
noncomputable def law05_one_ret (v : AV) (h : AH) (nx : Nat) : Option law05_one_R := match v, h, nx with
  | (.ag [.n .u64 b0_0, .i .i64 b0_1, .n .u32 b0_2, .n .u32 b0_3, .n .u32 b0_4]), [], 0 => some ⟨b0_0, b0_1, b0_2, b0_3, b0_4⟩
  | _, _, _ => none
theorem law05_one_ret_ok (v : AV) (h : AH) (nx : Nat) (r : law05_one_R) (e : law05_one_ret v h nx = some r) : law05_one_out r = (v, h) ∧ nx = law05_one_nx r := by
  unfold law05_one_ret at e
  split at e
  · cases e; exact ⟨rfl, rfl⟩
  · cases e
noncomputable def law05_one_kr : KN := []
noncomputable def law05_one_pre (n : Nat) : CT := ctZ
theorem law05_one_pre_ok (n : Nat) : COk cfg0 (law05_one_pre n) := ctZ_ok
noncomputable def law05_one_E0 (n : Nat) (R : Type)   (jf lf : List Nat → Nat → AT → AS → Option R) : SE R := ⟨[], Try.f28.ntmps, 0, callA cfg0 kd [] (law05_one_pre n), n, [], [], [], [], jf, lf⟩
noncomputable def law05_one_F (n : Nat) (a1 : Nat)  : Option law05_one_R := law05_one_rt (Mta.mk a1 128 ((2 : Nat)) ((3 : Nat)) ((9 : Nat)))
noncomputable def law05_one (n : Nat) (a1 : Nat) : Option law05_one_R := law05_one_F n a1 
noncomputable def law05_one_jf (n : Nat) : List Nat → Nat → AT → AS → Option law05_one_R := fun ms key T s => none
noncomputable def law05_one_lf (n : Nat) : List Nat → Nat → AT → AS → Option law05_one_R := fun ms key T s => none
noncomputable def law05_one_E (n : Nat)   : SE law05_one_R := law05_one_E0 n law05_one_R   (law05_one_jf n) (law05_one_lf n)
theorem law05_one_eq (n : Nat) (a1 : Nat) : sxF cfg0 kd law05_one_kr (law05_one_E n  ) Try.f28 (bodyOf Try.f28) [] [.n .u64 a1] law05_one_ret = law05_one n a1 := by kernel_rfl
theorem law05_one_pv (n : Nat) (r : law05_one_R) : PV cfg0 kd (law05_one_E n  ) r [] (bodyOf Try.f28) (retK cfg0 kd law05_one_kr (law05_one_E n  ) Try.f28.results.toList law05_one_ret) := by
  exact PV.triv (by kernel_rfl)
noncomputable def law05_one_ct (n : Nat) (vs : List AV) (h : AH) : Option Ctr := match vs, h with
  | [.n .u64 a1], [] => some (.one law05_one_R (law05_one n   a1) [] 0 law05_one_out)
  | _, _ => none
theorem law05_one_ok (n : Nat) : COk1 cfg0 28 (law05_one_ct n) := by
  intro vs h c e
  unfold law05_one_ct at e
  split at e
  · rename_i a1
    cases e
    exact fun r hm => sxF_ok (E := law05_one_E n  ) (nx1 := law05_one_nx) (law05_one_fn) rfl rfl rfl (callA_ok (law05_one_pre_ok n)) law05_one_ret_ok rfl (law05_one_pv n   _) ((law05_one_eq n   a1).trans hm)
  · cases e
end
end Go.Ev
end
section
set_option linter.unusedVariables false
set_option linter.unusedSimpArgs false
set_option maxRecDepth 100000
set_option maxHeartbeats 400000
namespace Go.Ev
open Go.RowKit Go.Proofs
section
theorem law05_lives_fn : cfg0.fn 12 = some Try.f12 := rfl
abbrev law05_lives_R : Type := Bool
@[reducible] def law05_lives_rt (b0 : Bool) : Option law05_lives_R := some b0
noncomputable def law05_lives_out : law05_lives_R → AV × AH
  | b0 => ((.b b0), [])
noncomputable def law05_lives_nx : law05_lives_R → Nat
  | _ => 0
noncomputable def law05_lives_ret (v : AV) (h : AH) (nx : Nat) : Option law05_lives_R := match v, h, nx with
  | (.b b0), [], 0 => some b0
  | _, _, _ => none
theorem law05_lives_ret_ok (v : AV) (h : AH) (nx : Nat) (r : law05_lives_R) (e : law05_lives_ret v h nx = some r) : law05_lives_out r = (v, h) ∧ nx = law05_lives_nx r := by
  unfold law05_lives_ret at e
  split at e
  · cases e; exact ⟨rfl, rfl⟩
  · cases e
noncomputable def law05_lives_kr : KN := []
noncomputable def law05_lives_pre (n : Nat) : CT := (ctA 13 (meta_Page_ct n) (ctA 14 (meta_Of_ct n) (ctA 15 (meta_Slot_ct n) (ctA 28 (law05_one_ct n) ctZ))))
theorem law05_lives_pre_ok (n : Nat) : COk cfg0 (law05_lives_pre n) := (ctA_ok (meta_Page_ok n) (ctA_ok (meta_Of_ok n) (ctA_ok (meta_Slot_ok n) (ctA_ok (law05_one_ok n) ctZ_ok))))
noncomputable def law05_lives_E0 (n : Nat) (R : Type)   (jf lf : List Nat → Nat → AT → AS → Option R) : SE R := ⟨[], Try.f12.ntmps, 0, callA cfg0 kd [] (law05_lives_pre n), n, [], [], [], [], jf, lf⟩
noncomputable def law05_lives_F (n : Nat)   : Option law05_lives_R := Option.bind (meta_Page n (Mta.mk ((7 : Nat)) 128 2 3 9)) fun z => Option.bind (meta_Of n 128 (Pg.mk z.fst.kind z.fst.count z.fst.page z.fst.link z.fst.tx z.fst.body)) fun z_1 => bif decide (z.snd = 0) then bif decide (z.fst.page = (1 : Nat)) then bif decide (z_1.snd = 0) then law05_lives_rt (decide (z_1.fst.tx = (7 : Nat)) && (decide (z_1.fst.size = 128) && (decide (z_1.fst.root = 2) && (decide (z_1.fst.free = 3) && (decide (z_1.fst.pages = 9) && true))))) else law05_lives_rt false else law05_lives_rt false else law05_lives_rt false
noncomputable def law05_lives (n : Nat)  : Option law05_lives_R := law05_lives_F n  
noncomputable def law05_lives_jf (n : Nat) : List Nat → Nat → AT → AS → Option law05_lives_R := fun ms key T s => none
noncomputable def law05_lives_lf (n : Nat) : List Nat → Nat → AT → AS → Option law05_lives_R := fun ms key T s => none
noncomputable def law05_lives_E (n : Nat)   : SE law05_lives_R := law05_lives_E0 n law05_lives_R   (law05_lives_jf n) (law05_lives_lf n)
theorem law05_lives_eq (n : Nat) : sxF cfg0 kd law05_lives_kr (law05_lives_E n  ) Try.f12 (bodyOf Try.f12) [] [] law05_lives_ret = law05_lives n  := by kernel_rfl
theorem law05_lives_pv (n : Nat) (r : law05_lives_R) : PV cfg0 kd (law05_lives_E n  ) r [] (bodyOf Try.f12) (retK cfg0 kd law05_lives_kr (law05_lives_E n  ) Try.f12.results.toList law05_lives_ret) := by
  exact PV.triv (by kernel_rfl)
noncomputable def law05_lives_ct (n : Nat) (vs : List AV) (h : AH) : Option Ctr := match vs, h with
  | [], [] => some (.one law05_lives_R (law05_lives n   ) [] 0 law05_lives_out)
  | _, _ => none
theorem law05_lives_ok (n : Nat) : COk1 cfg0 12 (law05_lives_ct n) := by
  intro vs h c e
  unfold law05_lives_ct at e
  split at e
  · cases e
    exact fun r hm => sxF_ok (E := law05_lives_E n  ) (nx1 := law05_lives_nx) (law05_lives_fn) rfl rfl rfl (callA_ok (law05_lives_pre_ok n)) law05_lives_ret_ok rfl (law05_lives_pv n   _) ((law05_lives_eq n   ).trans hm)
  · cases e
end
end Go.Ev
end
section
set_option linter.unusedVariables false
set_option linter.unusedSimpArgs false
set_option maxRecDepth 100000
set_option maxHeartbeats 400000
namespace Go.Ev
open Go.RowKit Go.Proofs
section
theorem law05_MetaNewer_fn : cfg0.fn 9 = some Try.f9 := rfl
abbrev law05_MetaNewer_R : Type := Bool
@[reducible] def law05_MetaNewer_rt (b0 : Bool) : Option law05_MetaNewer_R := some b0
noncomputable def law05_MetaNewer_out : law05_MetaNewer_R → AV × AH
  | b0 => ((.b b0), [])
noncomputable def law05_MetaNewer_nx : law05_MetaNewer_R → Nat
  | _ => 0
noncomputable def law05_MetaNewer_ret (v : AV) (h : AH) (nx : Nat) : Option law05_MetaNewer_R := match v, h, nx with
  | (.b b0), [], 0 => some b0
  | _, _, _ => none
theorem law05_MetaNewer_ret_ok (v : AV) (h : AH) (nx : Nat) (r : law05_MetaNewer_R) (e : law05_MetaNewer_ret v h nx = some r) : law05_MetaNewer_out r = (v, h) ∧ nx = law05_MetaNewer_nx r := by
  unfold law05_MetaNewer_ret at e
  split at e
  · cases e; exact ⟨rfl, rfl⟩
  · cases e
noncomputable def law05_MetaNewer_kr : KN := []
noncomputable def law05_MetaNewer_pre (n : Nat) : CT := (ctA 12 (law05_lives_ct n) (ctA 13 (meta_Page_ct n) (ctA 15 (meta_Slot_ct n) (ctA 18 (kit_Pick_ct n) (ctA 29 (law05_block_ct n) (ctA 31 (meta_Newest_ct n) (ctA 37 (kit_Turned_ct n) ctZ)))))))
theorem law05_MetaNewer_pre_ok (n : Nat) : COk cfg0 (law05_MetaNewer_pre n) := (ctA_ok (law05_lives_ok n) (ctA_ok (meta_Page_ok n) (ctA_ok (meta_Slot_ok n) (ctA_ok (kit_Pick_ok n) (ctA_ok (law05_block_ok n) (ctA_ok (meta_Newest_ok n) (ctA_ok (kit_Turned_ok n) ctZ_ok)))))))
noncomputable def law05_MetaNewer_E0 (n : Nat) (R : Type)   (jf lf : List Nat → Nat → AT → AS → Option R) : SE R := ⟨[], Try.f9.ntmps, 0, callA cfg0 kd [] (law05_MetaNewer_pre n), n, [], [(11, [3, 4, 5, 6, 13]), (20, [3, 4, 5, 13, 18, 19, 20, 21, 22, 23])], [], [], jf, lf⟩
noncomputable def law05_MetaNewer_J20F (n : Nat)   (x0 : Int) (x1 : Int) (x2 : Nat) (x3 : Int) (x4 : Int) (x5 : Mta) (x6 : Mta) (x7 : Mta) (x8 : List (List UInt8)) (x9 : Mta) : Option law05_MetaNewer_R := bif decide (0 ≤ w64 (1 - x0)) && Nat.ble (Nat.succ (Int.toNat (w64 (1 - x0)))) 2 then Option.bind x8[Int.toNat (w64 (1 - x0))]? fun z => Option.bind (kit_Turned n z x1 x2) fun z_1 => bif decide (0 ≤ w64 (1 - x0)) && Nat.ble (Nat.succ (Int.toNat (w64 (1 - x0)))) 2 then Option.bind x8[Int.toNat (w64 (1 - x0))]? fun z_2 => Option.bind (List.set x8 (Int.toNat (w64 (1 - x0))) z_1)[(0 : Nat)]? fun z_3 => Option.bind (List.set x8 (Int.toNat (w64 (1 - x0))) z_1)[(1 : Nat)]? fun z_4 => bif decide (List.length z_3 + List.length z_4 ≤ 4611686018427387904) then Option.bind (meta_Newest n 128 (z_3 ++ z_4)) fun z_5 => bif decide (x3 = 0) then bif decide (x7.tx = x9.tx) && (decide (x7.size = x9.size) && (decide (x7.root = x9.root) && (decide (x7.free = x9.free) && (decide (x7.pages = x9.pages) && true)))) then bif decide (x4 = 0) then bif decide (x6.tx = x5.tx) && (decide (x6.size = x5.size) && (decide (x6.root = x5.root) && (decide (x6.free = x5.free) && (decide (x6.pages = x5.pages) && true)))) then law05_MetaNewer_rt (decide (z_5.snd = 5)) else law05_MetaNewer_rt false else law05_MetaNewer_rt false else law05_MetaNewer_rt false else law05_MetaNewer_rt false else none else none else none
noncomputable def law05_MetaNewer_J20 (n : Nat)  (x0 : Int) (x1 : Int) (x2 : Nat) (x3 : Int) (x4 : Int) (x5 : Mta) (x6 : Mta) (x7 : Mta) (x8 : List (List UInt8)) (x9 : Mta) : Option law05_MetaNewer_R := law05_MetaNewer_J20F n   x0 x1 x2 x3 x4 x5 x6 x7 x8 x9
noncomputable def law05_MetaNewer_J11F (n : Nat)  (j20 : (Int → Int → Nat → Int → Int → Mta → Mta → Mta → List (List UInt8) → Mta → Option law05_MetaNewer_R)) (x0 : Int) (x1 : Int) (x2 : Nat) (x3 : Mta) (x4 : Mta) : Option law05_MetaNewer_R := Option.bind (law05_block n (Mta.mk x4.tx x4.size x4.root x4.free x4.pages)) fun z => Option.bind (law05_block n (Mta.mk x3.tx x3.size x3.root x3.free x3.pages)) fun z_1 => bif true && Nat.ble (Nat.succ ((x4.tx % 18446744073709551616 &&& 1 % 18446744073709551616) % 18446744073709551616 % 4294967296)) 2 then Option.bind ([[], []] : List (List UInt8))[(x4.tx % 18446744073709551616 &&& 1 % 18446744073709551616) % 18446744073709551616 % 4294967296]? fun z_2 => bif true && Nat.ble (Nat.succ ((x3.tx % 18446744073709551616 &&& 1 % 18446744073709551616) % 18446744073709551616 % 4294967296)) 2 then Option.bind (List.set ([[], []] : List (List UInt8)) ((x4.tx % 18446744073709551616 &&& 1 % 18446744073709551616) % 18446744073709551616 % 4294967296) z)[(x3.tx % 18446744073709551616 &&& 1 % 18446744073709551616) % 18446744073709551616 % 4294967296]? fun z_3 => Option.bind (List.set (List.set ([[], []] : List (List UInt8)) ((x4.tx % 18446744073709551616 &&& 1 % 18446744073709551616) % 18446744073709551616 % 4294967296) z) ((x3.tx % 18446744073709551616 &&& 1 % 18446744073709551616) % 18446744073709551616 % 4294967296) z_1)[(0 : Nat)]? fun z_4 => Option.bind (List.set (List.set ([[], []] : List (List UInt8)) ((x4.tx % 18446744073709551616 &&& 1 % 18446744073709551616) % 18446744073709551616 % 4294967296) z) ((x3.tx % 18446744073709551616 &&& 1 % 18446744073709551616) % 18446744073709551616 % 4294967296) z_1)[(1 : Nat)]? fun z_5 => bif decide (List.length z_4 + List.length z_5 ≤ 4611686018427387904) then Option.bind (meta_Newest n 128 (z_4 ++ z_5)) fun z_6 => Option.bind (kit_Pick n x0 2) fun z_7 => bif decide (0 ≤ z_7) && Nat.ble (Nat.succ (Int.toNat z_7)) 2 then Option.bind (List.set (List.set ([[], []] : List (List UInt8)) ((x4.tx % 18446744073709551616 &&& 1 % 18446744073709551616) % 18446744073709551616 % 4294967296) z) ((x3.tx % 18446744073709551616 &&& 1 % 18446744073709551616) % 18446744073709551616 % 4294967296) z_1)[Int.toNat z_7]? fun z_8 => Option.bind (kit_Turned n z_8 x1 x2) fun z_9 => bif decide (0 ≤ z_7) && Nat.ble (Nat.succ (Int.toNat z_7)) 2 then Option.bind (List.set (List.set ([[], []] : List (List UInt8)) ((x4.tx % 18446744073709551616 &&& 1 % 18446744073709551616) % 18446744073709551616 % 4294967296) z) ((x3.tx % 18446744073709551616 &&& 1 % 18446744073709551616) % 18446744073709551616 % 4294967296) z_1)[Int.toNat z_7]? fun z_10 => Option.bind (List.set (List.set (List.set ([[], []] : List (List UInt8)) ((x4.tx % 18446744073709551616 &&& 1 % 18446744073709551616) % 18446744073709551616 % 4294967296) z) ((x3.tx % 18446744073709551616 &&& 1 % 18446744073709551616) % 18446744073709551616 % 4294967296) z_1) (Int.toNat z_7) z_9)[(0 : Nat)]? fun z_11 => Option.bind (List.set (List.set (List.set ([[], []] : List (List UInt8)) ((x4.tx % 18446744073709551616 &&& 1 % 18446744073709551616) % 18446744073709551616 % 4294967296) z) ((x3.tx % 18446744073709551616 &&& 1 % 18446744073709551616) % 18446744073709551616 % 4294967296) z_1) (Int.toNat z_7) z_9)[(1 : Nat)]? fun z_12 => bif decide (List.length z_11 + List.length z_12 ≤ 4611686018427387904) then Option.bind (meta_Newest n 128 (z_11 ++ z_12)) fun z_13 => bif decide ((x3.tx % 18446744073709551616 &&& 1 % 18446744073709551616) % 18446744073709551616 % 4294967296 ≠ u32 z_7) then j20 z_7 x1 x2 z_6.snd z_13.snd x3 z_13.fst z_6.fst (List.set (List.set (List.set ([[], []] : List (List UInt8)) ((x4.tx % 18446744073709551616 &&& 1 % 18446744073709551616) % 18446744073709551616 % 4294967296) z) ((x3.tx % 18446744073709551616 &&& 1 % 18446744073709551616) % 18446744073709551616 % 4294967296) z_1) (Int.toNat z_7) z_9) x3 else j20 z_7 x1 x2 z_6.snd z_13.snd x4 z_13.fst z_6.fst (List.set (List.set (List.set ([[], []] : List (List UInt8)) ((x4.tx % 18446744073709551616 &&& 1 % 18446744073709551616) % 18446744073709551616 % 4294967296) z) ((x3.tx % 18446744073709551616 &&& 1 % 18446744073709551616) % 18446744073709551616 % 4294967296) z_1) (Int.toNat z_7) z_9) x3 else none else none else none else none else none else none
noncomputable def law05_MetaNewer_J11 (n : Nat)  (x0 : Int) (x1 : Int) (x2 : Nat) (x3 : Mta) (x4 : Mta) : Option law05_MetaNewer_R := law05_MetaNewer_J11F n  (law05_MetaNewer_J20 n ) x0 x1 x2 x3 x4
noncomputable def law05_MetaNewer_F (n : Nat) (a1 : Mta) (a2 : Nat) (a3 : Nat) (a4 : Int) (a5 : Int) (a6 : Nat) (j11 : (Int → Int → Nat → Mta → Mta → Option law05_MetaNewer_R)) : Option law05_MetaNewer_R := Option.bind (law05_lives n) fun z => bif !z then law05_MetaNewer_rt false else Option.bind (meta_Page n (Mta.mk a1.tx 128 a1.root a1.free a1.pages)) fun z_1 => Option.bind (meta_Page n (Mta.mk ((a1.tx + (1 : Nat)) % 18446744073709551616) 128 a2 a3 a1.pages)) fun z_2 => bif decide (z_1.snd ≠ 0) then law05_MetaNewer_rt true else bif decide (z_2.snd ≠ 0) then law05_MetaNewer_rt true else bif decide (a6 = (0 : Nat)) then law05_MetaNewer_rt true else j11 a4 a5 a6 (Mta.mk ((a1.tx + (1 : Nat)) % 18446744073709551616) 128 a2 a3 a1.pages) (Mta.mk a1.tx 128 a1.root a1.free a1.pages)
noncomputable def law05_MetaNewer (n : Nat) (a1 : Mta) (a2 : Nat) (a3 : Nat) (a4 : Int) (a5 : Int) (a6 : Nat) : Option law05_MetaNewer_R := law05_MetaNewer_F n a1 a2 a3 a4 a5 a6 (law05_MetaNewer_J11 n)
noncomputable def law05_MetaNewer_J20q (n : Nat)  (T : AT) (s : AS) : Option law05_MetaNewer_R := match T, s with
  | [(3, (.i .i64 x0)), (4, (.i .i64 x1)), (5, (.n .u32 x2)), (13, (.ptr 0 0)), (18, (.ptr 1 0)), (19, (.ptr 2 0)), (20, (.i .i64 x3)), (21, (.ptr 3 0)), (22, (.i .i64 x4)), (23, (.ptr 4 0))], ⟨[(4, (.cells [.n .u64 x5_0, .i .i64 x5_1, .n .u32 x5_2, .n .u32 x5_3, .n .u32 x5_4] 25 (0, 0))), (3, (.cells [.n .u64 x6_0, .i .i64 x6_1, .n .u32 x6_2, .n .u32 x6_3, .n .u32 x6_4] 25 (0, 0))), (2, (.cells [.n .u64 x7_0, .i .i64 x7_1, .n .u32 x7_2, .n .u32 x7_3, .n .u32 x7_4] 25 (0, 0))), (1, (.row .st 0 x8 63 (0, 0))), (0, (.cells [.n .u64 x9_0, .i .i64 x9_1, .n .u32 x9_2, .n .u32 x9_3, .n .u32 x9_4] 25 (0, 0)))], 5, []⟩ => law05_MetaNewer_J20 n  x0 x1 x2 x3 x4 ⟨x5_0, x5_1, x5_2, x5_3, x5_4⟩ ⟨x6_0, x6_1, x6_2, x6_3, x6_4⟩ ⟨x7_0, x7_1, x7_2, x7_3, x7_4⟩ x8 ⟨x9_0, x9_1, x9_2, x9_3, x9_4⟩
  | _, _ => none
noncomputable def law05_MetaNewer_J11q (n : Nat)  (T : AT) (s : AS) : Option law05_MetaNewer_R := match T, s with
  | [(3, (.i .i64 x0)), (4, (.i .i64 x1)), (5, (.n .u32 x2)), (6, (.ptr 0 0)), (13, (.ptr 1 0))], ⟨[(1, (.cells [.n .u64 x3_0, .i .i64 x3_1, .n .u32 x3_2, .n .u32 x3_3, .n .u32 x3_4] 25 (0, 0))), (0, (.cells [.n .u64 x4_0, .i .i64 x4_1, .n .u32 x4_2, .n .u32 x4_3, .n .u32 x4_4] 25 (0, 0)))], 2, []⟩ => law05_MetaNewer_J11 n  x0 x1 x2 ⟨x3_0, x3_1, x3_2, x3_3, x3_4⟩ ⟨x4_0, x4_1, x4_2, x4_3, x4_4⟩
  | _, _ => none
noncomputable def law05_MetaNewer_jf (n : Nat) : List Nat → Nat → AT → AS → Option law05_MetaNewer_R := fun ms key T s => cond (Nat.beq key 20) (match ms with | [] => law05_MetaNewer_J20q n  T s | _ => none) (cond (Nat.beq key 11) (match ms with | [] => law05_MetaNewer_J11q n  T s | _ => none) (none))
noncomputable def law05_MetaNewer_lf (n : Nat) : List Nat → Nat → AT → AS → Option law05_MetaNewer_R := fun ms key T s => none
noncomputable def law05_MetaNewer_E (n : Nat)   : SE law05_MetaNewer_R := law05_MetaNewer_E0 n law05_MetaNewer_R   (law05_MetaNewer_jf n) (law05_MetaNewer_lf n)
theorem law05_MetaNewer_eq (n : Nat) (a1 : Mta) (a2 : Nat) (a3 : Nat) (a4 : Int) (a5 : Int) (a6 : Nat) : sxF cfg0 kd law05_MetaNewer_kr (law05_MetaNewer_E n  ) Try.f9 (bodyOf Try.f9) [] [.ag (RK.k .mta a1), .n .u32 a2, .n .u32 a3, .i .i64 a4, .i .i64 a5, .n .u32 a6] law05_MetaNewer_ret = law05_MetaNewer n a1 a2 a3 a4 a5 a6 := by kernel_rfl
theorem law05_MetaNewer_pv (n : Nat) (r : law05_MetaNewer_R) : PV cfg0 kd (law05_MetaNewer_E n  ) r [] (bodyOf Try.f9) (retK cfg0 kd law05_MetaNewer_kr (law05_MetaNewer_E n  ) Try.f9.results.toList law05_MetaNewer_ret) := by
  refine PV.sn (by kernel_rfl) ?_ ?_
  ·
    refine PV.sn (by kernel_rfl) ?_ ?_
    ·
      refine PV.sn (by kernel_rfl) ?_ ?_
      ·
        refine PV.sn (by kernel_rfl) ?_ ?_
        ·
          refine PV.sn (by kernel_rfl) ?_ ?_
          ·
            refine PV.sn (by kernel_rfl) ?_ ?_
            ·
              refine PV.sn (by kernel_rfl) ?_ ?_
              ·
                refine PV.sj (live := [3, 4, 5, 6, 13]) (by kernel_rfl) ?_ ?_ ?_
                · intro T s h; change law05_MetaNewer_J11q n  _ _ = some r at h; unfold law05_MetaNewer_J11q at h; split at h
                  · exact Eq.trans (by kernel_rfl) h
                  · cases h
                ·
                  refine PV.sn (by kernel_rfl) ?_ ?_
                  ·
                    refine PV.sn (by kernel_rfl) ?_ ?_
                    ·
                      refine PV.sn (by kernel_rfl) ?_ ?_
                      ·
                        refine PV.sn (by kernel_rfl) ?_ ?_
                        ·
                          refine PV.sn (by kernel_rfl) ?_ ?_
                          ·
                            refine PV.sn (by kernel_rfl) ?_ ?_
                            ·
                              refine PV.sn (by kernel_rfl) ?_ ?_
                              ·
                                refine PV.sj (live := [3, 4, 5, 13, 18, 19, 20, 21, 22, 23]) (by kernel_rfl) ?_ ?_ ?_
                                · intro T s h; change law05_MetaNewer_J20q n  _ _ = some r at h; unfold law05_MetaNewer_J20q at h; split at h
                                  · exact Eq.trans (by kernel_rfl) h
                                  · cases h
                                ·
                                  exact PV.triv (by kernel_rfl)
                                ·
                                  exact PV.triv (by kernel_rfl)
                              ·
                                exact PV.triv (by kernel_rfl)
                            ·
                              exact PV.triv (by kernel_rfl)
                          ·
                            exact PV.triv (by kernel_rfl)
                        ·
                          exact PV.triv (by kernel_rfl)
                      ·
                        exact PV.triv (by kernel_rfl)
                    ·
                      exact PV.triv (by kernel_rfl)
                  ·
                    exact PV.triv (by kernel_rfl)
                ·
                  exact PV.triv (by kernel_rfl)
              ·
                exact PV.triv (by kernel_rfl)
            ·
              exact PV.triv (by kernel_rfl)
          ·
            exact PV.triv (by kernel_rfl)
        ·
          exact PV.triv (by kernel_rfl)
      ·
        exact PV.triv (by kernel_rfl)
    ·
      exact PV.triv (by kernel_rfl)
  ·
    exact PV.triv (by kernel_rfl)
noncomputable def law05_MetaNewer_ct (n : Nat) (vs : List AV) (h : AH) : Option Ctr := match vs, h with
  | [.ag [.n .u64 a1_0, .i .i64 a1_1, .n .u32 a1_2, .n .u32 a1_3, .n .u32 a1_4], .n .u32 a2, .n .u32 a3, .i .i64 a4, .i .i64 a5, .n .u32 a6], [] => some (.one law05_MetaNewer_R (law05_MetaNewer n   ⟨a1_0, a1_1, a1_2, a1_3, a1_4⟩ a2 a3 a4 a5 a6) [] 0 law05_MetaNewer_out)
  | _, _ => none
theorem law05_MetaNewer_ok (n : Nat) : COk1 cfg0 9 (law05_MetaNewer_ct n) := by
  intro vs h c e
  unfold law05_MetaNewer_ct at e
  split at e
  · rename_i a1_0 a1_1 a1_2 a1_3 a1_4 a2 a3 a4 a5 a6
    cases e
    exact fun r hm => sxF_ok (E := law05_MetaNewer_E n  ) (nx1 := law05_MetaNewer_nx) (law05_MetaNewer_fn) rfl rfl rfl (callA_ok (law05_MetaNewer_pre_ok n)) law05_MetaNewer_ret_ok rfl (law05_MetaNewer_pv n   _) ((law05_MetaNewer_eq n   ⟨a1_0, a1_1, a1_2, a1_3, a1_4⟩ a2 a3 a4 a5 a6).trans hm)
  · cases e
end
end Go.Ev
end