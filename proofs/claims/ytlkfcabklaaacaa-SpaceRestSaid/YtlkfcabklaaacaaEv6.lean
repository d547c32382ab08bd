/- Words of my own: the operations of the evaluator that look at no memory, proved right. -/
import Derived.Test.YtlkfcabklaaacaaEv5
set_option linter.unusedVariables false
set_option linter.unusedSimpArgs false
namespace Go.Ev
open Go.RowKit
section
variable {C : Cfg} {B : Nat} {W0 : World} {N : Nat} {T : Tm} {s : St}
theorem VR.bool_inv {ν : Ren} {b : Bool} {u : Value} (h : VR ν (.bool b) u) : u = .bool b := VR.eq_of_flat rfl h
theorem VR.int_inv {ν : Ren} {k : IntKind} {n : Int} {u : Value} (h : VR ν (.int k n) u) : u = .int k n := VR.eq_of_flat rfl h
theorem VR.string_inv {ν : Ren} {b : ByteArray} {u : Value} (h : VR ν (.string b) u) : u = .string b := VR.eq_of_flat rfl h
theorem VR.ptr_inv {ν : Ren} {a q : Nat} {u : Value} (h : VR ν (.pointer (some ⟨a, q, none⟩)) u) : ∃ g S, u = .pointer (some ⟨g, q, none⟩) ∧ ν a = some (g, S) := by
  cases h with
  | flat h => simp [Ev.flat] at h
  | ptr h => exact ⟨_, _, rfl, h⟩
theorem VR.slice_inv {ν : Ren} {a q z n c : Nat} {u : Value} (h : VR ν (.slice (some ⟨a, q, some z⟩) n c) u) : (n = 0 ∧ u = .slice none 0 0) ∨ ∃ g S q' c', u = .slice (some ⟨g, q', none⟩) n c' ∧ ν a = some (g, S) ∧ n ≤ c' ∧ q + c' * z ≤ S ∧ (q' = q ∨ c' = 0) := by
  cases h with
  | flat h => simp [Ev.flat] at h
  | slice h hn hz ho => exact .inr ⟨_, _, _, _, rfl, h, hn, hz, ho⟩
  | nilS => exact .inl ⟨rfl, rfl⟩
/-- A pure step, by what it comes to. -/
theorem OpOk.of {o : Oper} {v : Value} (h : ∀ (ν : Ren) (a : Act) (w : World), TR N ν T a → ∃ u, (execOp a.eval o).run C.P w = .ok (.value u) w ∧ VR ν v u) : OpOk C B W0 N o T s v s := .pure h
theorem underlying_run {t : TypeId} {ti : TypeInfo × TypeDesc} (hC : C.Ok) (h : C.ty t = some ti) (w : World) : (underlying t).run C.P w = .ok ti.2 w := by
  simp only [underlying, Sem.run_bind, run_program, Result.andThen_ok, (hC.ty t ti h).2]
  rfl
theorem typeInfo_run {t : TypeId} {ti : TypeInfo × TypeDesc} (hC : C.Ok) (h : C.ty t = some ti) (w : World) : (typeInfo t).run C.P w = .ok ti.1 w := by
  simp only [typeInfo, Sem.run_bind, run_program, Result.andThen_ok, (hC.ty t ti h).1]
  rfl
theorem sizeOf_run {t : TypeId} {ti : TypeInfo × TypeDesc} (hC : C.Ok) (h : C.ty t = some ti) (w : World) : (sizeOf t).run C.P w = .ok ti.1.size w := by
  simp only [sizeOf, Sem.run_bind, typeInfo_run hC h, Result.andThen_ok]
  rfl
theorem isAgg_run {t : TypeId} {ti : TypeInfo × TypeDesc} (hC : C.Ok) (h : C.ty t = some ti) (w : World) : (isAgg t).run C.P w = .ok (isAggD ti.2) w := by
  simp only [isAgg, Sem.run_bind, underlying_run hC h, Result.andThen_ok]
  cases ti.2 <;> rfl
theorem apart_ok {ν : Ren} {t : TypeId} {ti : TypeInfo × TypeDesc} (hC : C.Ok) (h : C.ty t = some ti) {l l' : Array Value} {off : Nat} {v : Value} {ns : List Bool} (hv : VRs ν l.toList l'.toList) (ha : apart ti l.toList off = some (v, ns)) (w : World) :
    ∃ u, (part t l' off).run C.P w = .ok u w ∧ VR ν v u := by
  unfold apart at ha
  simp only [part, Sem.run_bind, isAgg_run hC h, Result.andThen_ok, sizeOf_run hC h]
  cases hg : isAggD ti.2 <;> rw [hg] at ha
  · obtain ⟨v', h1, h2⟩ := Option.bind_eq_some_iff.1 ha
    obtain ⟨rfl, rfl⟩ := Prod.mk.inj (Option.some.inj h2)
    rw [nth_eq] at h1
    obtain ⟨u, k1, k2⟩ := hv.get h1
    have : l'[off]? = some u := by rw [← Array.getElem?_toList]; exact k1
    simp only [this]
    exact ⟨u, rfl, k2⟩
  · obtain ⟨rfl, rfl⟩ := Prod.mk.inj (Option.some.inj ha)
    refine ⟨.agg (l'.extract off (off + ti.1.size)), ?_, ?_⟩
    · simp only [if_true, Sem.run_bind, sizeOf_run hC h, Result.andThen_ok]; rfl
    · refine VR.agg_iff.2 ⟨_, rfl, ?_⟩
      rw [tak_eq, dro_eq, Array.toList_extract, List.extract_eq_take_drop]
      rw [show off + ti.1.size - off = ti.1.size by omega]
      exact (hv.drop off).take ti.1.size
/-- Comparing with nil. -/
theorem nilCmp_run (hC : C.Ok) {t : TypeId} {ti : TypeInfo × TypeDesc} (hti : C.ty t = some ti) {ν : Ren} {v u v' u' : Value} {b : Bool} (hb : nilCmp ti.2 v u = some b) (hv : VR ν v v') (hu : VR ν u u') (d : Nat) (w : World) :
    (Op.equalIn (d + 1) t v' u').run C.P w = .ok b w := by
  unfold nilCmp at hb
  have hr := underlying_run hC hti w
  split at hb
  · rename_i hd
    obtain rfl := Option.some.inj hb
    cases hv with
    | flat h => simp [flat] at h
    | ptr h =>
      obtain rfl := VR.eq_of_flat rfl hu
      rw [Op.equalIn]
      simp only [Sem.run_bind, hr, Result.andThen_ok, hd]
      rfl
    | stat =>
      obtain rfl := VR.eq_of_flat rfl hu
      rw [Op.equalIn]
      simp only [Sem.run_bind, hr, Result.andThen_ok, hd]
      rfl
  · rename_i hd
    obtain rfl := Option.some.inj hb
    cases hu with
    | flat h => simp [flat] at h
    | ptr h =>
      obtain rfl := VR.eq_of_flat rfl hv
      rw [Op.equalIn]
      simp only [Sem.run_bind, hr, Result.andThen_ok, hd]
      rfl
    | stat =>
      obtain rfl := VR.eq_of_flat rfl hv
      rw [Op.equalIn]
      simp only [Sem.run_bind, hr, Result.andThen_ok, hd]
      rfl
  · rename_i hd
    obtain rfl := Option.some.inj hb
    cases hv with
    | flat h => simp [flat] at h
    | slice h1 h2 h3 h4 =>
      obtain rfl := VR.eq_of_flat rfl hu
      rw [Op.equalIn]
      simp only [Sem.run_bind, hr, Result.andThen_ok, hd]
      rfl
  · rename_i hd
    obtain rfl := Option.some.inj hb
    cases hv with
    | flat h => simp [flat] at h
    | map h1 =>
      obtain rfl := VR.eq_of_flat rfl hu
      rw [Op.equalIn]
      simp only [Sem.run_bind, hr, Result.andThen_ok, hd]
      rfl
  · rename_i hd
    obtain rfl := Option.some.inj hb
    obtain rfl := VR.eq_of_flat rfl hu
    have : ∃ f a c, v' = .func f a c := by
      cases hv with
      | flat h => simp [flat] at h
      | fn hs h => exact ⟨_, _, _, rfl⟩
      | yield h => exact ⟨_, _, _, rfl⟩
    obtain ⟨f, a, c, rfl⟩ := this
    rw [Op.equalIn]
    simp only [Sem.run_bind, hr, Result.andThen_ok, hd]
    rfl
  · cases hb
theorem nilCmp_guard {t : TypeId} {op : BinOp} {x y : Operand} {d : TypeDesc} {ν : Ren} {v u v' u' : Value} {b : Bool} (hb : nilCmp d v u = some b) (hv : VR ν v v') (hu : VR ν u u') (w : World) :
    (eqGuard op t x y v' u').run C.P w = .ok () w ∧ (∀ op, binOp op t v' u' = match op with | .eql => (do pure (.bool (← Op.equal t v' u'))) | .neq => (do pure (.bool (!(← Op.equal t v' u')))) | op => binOp op t v' u') := by
  unfold nilCmp at hb
  split at hb <;> first | (cases hb; done) | skip
  all_goals
    (cases hv <;> first | (rename_i h; simp [flat] at h; done) | skip)
    all_goals
      (cases hu <;> first | (rename_i h; simp [flat] at h; done) | skip)
      all_goals
        refine ⟨by unfold eqGuard; cases op <;> rfl, fun op => by cases op <;> rfl⟩
theorem aBin_ok (hC : C.Ok) {o : Oper} {op : BinOp} {t yt : TypeId} {x y : Operand} {v u r : Value} {ns : List Bool} (ho : o.op = .binOp op t x y yt) (hx : ev1 T x = some v) (hy : ev1 T y = some u) (h : aBin C T o op t v u = some (r, ns)) : OpOk C B W0 N o T s r s := by
  have hns : ∀ cs b, o.op ≠ .select cs b := fun cs b e => by rw [ho] at e; cases e
  have any : ∀ {r ns}, ((anyOp C T o).bind fun v => some (v, ([] : List Bool))) = some (r, ns) → OpOk C B W0 N o T s r s := fun h => by
    obtain ⟨v', h1, h2⟩ := Option.bind_eq_some_iff.1 h
    obtain ⟨rfl, rfl⟩ := Prod.mk.inj (Option.some.inj h2)
    exact anyOp_ok hns h1
  obtain ⟨dst, op', type, pos, after, guard⟩ := o
  obtain rfl : op' = _ := ho
  unfold aBin at h
  split at h
  · rename_i k a k' b
    have sh : ∀ {v'}, shOp op k a b = some v' → OpOk C B W0 N ⟨dst, .binOp op t x y yt, type, pos, after, guard⟩ T s v' s := fun {v'} hv' => by
      obtain ⟨_, n, rfl⟩ := shOp_ok (C := C) (k' := k') hv' t default
      refine .of fun ν a' w tr => ⟨.int k n, ?_, .flat rfl⟩
      have e1 := VR.int_inv (ev1_ok tr hx)
      have e2 := VR.int_inv (ev1_ok tr hy)
      have e3 : (eqGuard op t x y (.int k a) (.int k' b)).run C.P w = .ok () w := by
        unfold eqGuard
        cases op <;> rfl
      simp only [execOp, e1, e2, Sem.run_bind, e3, Result.andThen_ok, (shOp_ok (C := C) (k' := k') hv' t w).1]
      rfl
    split at h
    · rename_i hk
      have hk := of_decide_eq_true hk
      subst hk
      split at h
      · rename_i v' hv'
        obtain ⟨rfl, rfl⟩ := Prod.mk.inj (Option.some.inj h)
        refine .of fun ν a' w tr => ⟨v', ?_, ?_⟩
        · have e1 := VR.int_inv (ev1_ok tr hx)
          have e2 := VR.int_inv (ev1_ok tr hy)
          have e3 : (eqGuard op t x y (.int k a) (.int k b)).run C.P w = .ok () w := by
            unfold eqGuard
            cases op <;> rfl
          simp only [execOp, e1, e2, Sem.run_bind, e3, Result.andThen_ok, intOp_ok hv' t w]
          rfl
        · refine .flat ?_
          cases op <;> simp only [intOp] at hv' <;> first
            | (obtain rfl := Option.some.inj hv'; rfl)
            | (cases hh : eqI b 0 <;> rw [hh] at hv' <;> first | (obtain rfl := Option.some.inj hv'; rfl) | cases hv')
            | (have hb2 := bit2_ok hv'; rw [hb2]; rfl)
            | cases hv'
      · split at h
        · rename_i v' hv'
          obtain ⟨rfl, rfl⟩ := Prod.mk.inj (Option.some.inj h)
          exact sh hv'
        · exact any h
    · obtain ⟨v', hv', h2⟩ := Option.bind_eq_some_iff.1 h
      obtain ⟨rfl, rfl⟩ := Prod.mk.inj (Option.some.inj h2)
      exact sh hv'
  · rename_i a b
    obtain ⟨v', hv', h2⟩ := Option.bind_eq_some_iff.1 h
    obtain ⟨rfl, rfl⟩ := Prod.mk.inj (Option.some.inj h2)
    refine .of fun ν a' w tr => ⟨v', ?_, ?_⟩
    · have e1 := VR.string_inv (ev1_ok tr hx)
      have e2 := VR.string_inv (ev1_ok tr hy)
      have e3 : (eqGuard op t x y (.string a) (.string b)).run C.P w = .ok () w := by
        unfold eqGuard
        cases op <;> rfl
      simp only [execOp, e1, e2, Sem.run_bind, e3, Result.andThen_ok, strOp_ok hv' t w]
      rfl
    · refine .flat ?_
      cases op <;> simp only [strOp] at hv' <;> first
        | (obtain rfl := Option.some.inj hv'; rfl)
        | (cases hh : Nat.ble (Nat.add (len a.data.toList) (len b.data.toList)) 9223372036854775807 <;> rw [hh] at hv' <;> first | (obtain rfl := Option.some.inj hv'; rfl) | cases hv')
        | cases hv'
  · split at h
    · exact any h
    · split at h
      · cases h
      · rename_i ti hti
        have key : ∀ (ν : Ren) (v' u' : Value) (b : Bool), nilCmp ti.2 v u = some b → VR ν v v' → VR ν u u' → (∀ w, (eqGuard op t x y v' u').run C.P w = .ok () w) ∧ (∀ w, (binOp .eql t v' u').run C.P w = .ok (.bool b) w) ∧ (∀ w, (binOp .neq t v' u').run C.P w = .ok (.bool (!b)) w) := by
          intro ν v' u' b hb hv hu
          have e : ∀ w, (Op.equal t v' u').run C.P w = .ok b w := nilCmp_run hC hti hb hv hu 9999
          refine ⟨fun w => (nilCmp_guard hb hv hu w).1, fun w => ?_, fun w => ?_⟩
          · rw [(nilCmp_guard (C := C) (op := op) (x := x) (y := y) hb hv hu w).2]
            simp only [Sem.run_bind, e, Result.andThen_ok]; rfl
          · rw [(nilCmp_guard (C := C) (op := op) (x := x) (y := y) hb hv hu w).2]
            simp only [Sem.run_bind, e, Result.andThen_ok]; rfl
        split at h
        · rename_i b hb
          obtain ⟨rfl, rfl⟩ := Prod.mk.inj (Option.some.inj h)
          refine .of fun ν a' w tr => ⟨.bool b, ?_, .flat rfl⟩
          obtain ⟨k2, k3, k4⟩ := key ν _ _ b hb (ev1_ok tr hx) (ev1_ok tr hy)
          simp only [execOp, Sem.run_bind, k2, Result.andThen_ok, k3]
          rfl
        · rename_i b hb
          obtain ⟨rfl, rfl⟩ := Prod.mk.inj (Option.some.inj h)
          refine .of fun ν a' w tr => ⟨.bool (!b), ?_, .flat rfl⟩
          obtain ⟨k2, k3, k4⟩ := key ν _ _ b hb (ev1_ok tr hx) (ev1_ok tr hy)
          simp only [execOp, Sem.run_bind, k2, Result.andThen_ok, k4]
          rfl
        · cases h
end
end Go.Ev
