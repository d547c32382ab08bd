/- Words of my own: rows in the evaluator: build, make, append, copy, strings and bytes, proved right. -/
import Derived.Test.YtlkfcabklaaacaaEv8
import Derived.Deep.AppendSrc
import Derived.Deep.Upon
import Derived.Laws.BytesString
set_option linter.unusedVariables false
set_option linter.unusedSimpArgs false
namespace Go.Ev
open Go.RowKit
section
variable {C : Cfg} {B : Nat} {W0 : World} {N : Nat} {T : Tm} {s : St}
theorem s4 {α β γ δ : Type} {a a' : α} {b b' : β} {c c' : γ} {d d' : δ} (h : some (a, b, c, d) = some (a', b', c', d')) : a = a' ∧ b = b' ∧ c = c' ∧ d = d' := by
  cases h
  exact ⟨rfl, rfl, rfl, rfl⟩
theorem s3 {α β γ : Type} {a a' : α} {b b' : β} {c c' : γ} (h : some (a, b, c) = some (a', b', c')) : a = a' ∧ b = b' ∧ c = c' := by
  cases h
  exact ⟨rfl, rfl, rfl⟩
theorem growBy_le (need : Nat) : ∀ (r c : Nat), c ≤ need + (need + 768) / 4 → Builtin.growBy need r c ≤ need + (need + 768) / 4
  | 0, c, h => h
  | r + 1, c, h => by
    unfold Builtin.growBy
    split
    · exact h
    · rename_i hc
      exact growBy_le need r _ (by omega)
theorem nextslicecap_le {need c : Nat} (h : c < need) : Builtin.nextslicecap need c ≤ 2 * need + 768 := by
  unfold Builtin.nextslicecap
  split
  · omega
  · split
    · omega
    · exact Nat.le_trans (growBy_le need 4 c (by omega)) (by omega)
/-- What is appended: how many elements, and their cells. -/
noncomputable def aSrc (C : Cfg) (s : St) (size : Nat) (xt : TypeId) (x : Value) : Option (Nat × List Value × List Bool × St) :=
  match x, C.ty xt with
  | .slice none 0 c, some (_, .slice _) => some (0, [], [], s)
  | .slice (some ⟨b, r, some z⟩) k c, some (_, .slice _) => match aget s.h b with
    | some (.cells cb _ _) => some (k, tak (dro cb.toList r) (Nat.mul k z), [Nat.beq z size, Nat.beq (len (tak (dro cb.toList r) (Nat.mul k z))) (Nat.mul k z), ones (tak (dro cb.toList r) (Nat.mul k z))], rdS s b)
    | _ => none
  | .string t, some (_, .string) => some (len t.data.toList, List.rec (motive := fun _ => List Value) [] (fun b _ ih => .int .u8 (Int.ofNat b.toNat) :: ih) t.data.toList, [Nat.beq size 1], s)
  | _, _ => none
theorem bytes_rec (l : List UInt8) : List.rec (motive := fun _ => List Value) [] (fun b _ ih => Value.int .u8 (Int.ofNat b.toNat) :: ih) l = l.map fun b => Value.int .u8 b.toNat := by
  induction l with
  | nil => rfl
  | cons b l ih => exact congrArg (_ :: ·) ih
theorem aSrc_ext {size : Nat} {xt : TypeId} {x : Value} {k : Nat} {news : List Value} {ns : List Bool} {s1 : St} (h : aSrc C s size xt x = some (k, news, ns, s1)) : s1.h = s.h ∧ s1.nx = s.nx ∧ s1.wr = s.wr ∧ (∀ i ∈ s.rd, i ∈ s1.rd) := by
  unfold aSrc at h
  split at h
  · obtain ⟨rfl, rfl, rfl, rfl⟩ := s4 h
    exact ⟨rfl, rfl, rfl, fun _ h => h⟩
  · split at h
    · obtain ⟨rfl, rfl, rfl, rfl⟩ := s4 h
      exact ⟨rfl, rfl, rfl, (rdS_ext s _).rd⟩
    · cases h
  · obtain ⟨rfl, rfl, rfl, rfl⟩ := s4 h
    exact ⟨rfl, rfl, rfl, fun _ h => h⟩
  · cases h
theorem aSrc_ok (hC : C.Ok) {size : Nat} {xt : TypeId} {x x' : Value} {k : Nat} {news : List Value} {ns : List Bool} {s1 s' : St} (h : aSrc C s size xt x = some (k, news, ns, s1)) (hn : ∀ b ∈ ns, b = true) {ν : Ren} {m : Nat → Option Obj} {w : World} (p : Pre B W0 ν m s s' w) (hs : ∀ i ∈ s1.rd, i ∈ s'.rd) (hx : VR ν x x') :
    ∃ news', VRs ν news news' ∧ Src C.P size xt x' k news' w := by
  unfold aSrc at h
  split at h
  · rename_i c ti e ht
    obtain ⟨rfl, rfl, rfl, rfl⟩ := s4 h
    obtain rfl := VR.eq_of_flat rfl hx
    exact ⟨[], .nil, .ofNil w (hC.ty _ _ ht).2 c⟩
  · rename_i b r z k0 c ti e ht
    split at h
    · rename_i cb ct cf hb
      obtain ⟨rfl, rfl, rfl, rfl⟩ := s4 h
      obtain ⟨rfl, rfl⟩ | ⟨g, S, q', c', rfl, hν, h1, h2, h3⟩ := VR.slice_inv hx
      · have n1 := Nat.eq_of_beq_eq_true (hn _ (by simp : Nat.beq z size ∈ _))
        refine ⟨[], ?_, .ofNil w (hC.ty _ _ ht).2 0⟩
        rw [tak_eq, show Nat.mul 0 z = 0 from Nat.zero_mul z, List.take_zero]
        exact .nil
      obtain ⟨cc, t', f', vs, rest, k1, k2, k3, k4, k5, k6, k7⟩ := rd_row p (.inl (hs b ((lg_iff _ _ _).2 (.inl rfl)))) hb hν
      have n1 := Nat.eq_of_beq_eq_true (hn _ (by simp : Nat.beq z size ∈ _))
      have n2 := Nat.eq_of_beq_eq_true (hn (Nat.beq (len (tak (dro cb.toList r) (Nat.mul k0 z))) (Nat.mul k0 z)) (by simp))
      have n3 := hn (ones (tak (dro cb.toList r) (Nat.mul k0 z))) (by simp)
      subst n1
      rw [len_eq] at n2
      rw [tak_eq, dro_eq] at n2 n3 ⊢
      have n2 : ((cb.toList.drop r).take (k0 * z)).length = k0 * z := n2
      have hv := (k3.drop r).take (k0 * z)
      have l1 : ((vs.drop r).take (k0 * z)).length = k0 * z := by rw [← hv.length]; exact n2
      refine ⟨(vs.drop r).take (k0 * z), hv, .ofSlice w (hC.ty _ _ ht).2 _ _ _ _ l1 (fun j u hj => ?_) (ones_ok n3 hv)⟩
      have hj' : j < k0 * z := by rw [← l1]; exact (List.getElem?_eq_some_iff.1 hj).1
      have hc0 : q' = r := by
        rcases h3 with h3 | h3
        · exact h3
        · have : k0 = 0 := by omega
          rw [this, Nat.zero_mul] at hj'
          omega
      subst hc0
      rw [add_none, cell_of k1, ← Array.getElem?_toList, k2]
      rw [List.getElem?_take, if_pos hj', List.getElem?_drop] at hj
      rw [List.getElem?_append_left (List.getElem?_eq_some_iff.1 hj).1]
      exact hj
    · cases h
  · rename_i t ti ht
    obtain ⟨rfl, rfl, rfl, rfl⟩ := s4 h
    obtain rfl := VR.string_inv hx
    have n1 := Nat.eq_of_beq_eq_true (hn _ (List.mem_singleton.2 rfl))
    subst n1
    refine ⟨byteCells t, ?_, ?_⟩
    · rw [bytes_rec]
      exact VRs.flats (by unfold flats; rw [List.all_map]; exact List.all_eq_true.2 fun _ _ => rfl)
    · rw [len_eq, show t.data.toList.length = t.size from rfl]
      exact .ofString w (hC.ty _ _ ht).2 t
  · cases h
noncomputable def adel {α : Type} (l : List (Nat × α)) (i : Nat) : List (Nat × α) := List.rec (motive := fun _ => List (Nat × α)) [] (fun p _ ih => Bool.rec (motive := fun _ => List (Nat × α)) (p :: ih) ih (Nat.beq i p.1)) l
theorem adel_cons {α : Type} (p : Nat × α) (l : List (Nat × α)) (i : Nat) : adel (p :: l) i = if i = p.1 then adel l i else p :: adel l i := by
  show Bool.rec (motive := fun _ => List (Nat × α)) (p :: adel l i) (adel l i) (Nat.beq i p.1) = _
  rw [beq_dec]
  by_cases h : i = p.1 <;> simp [h]
theorem aget_adel {α : Type} (l : List (Nat × α)) (i j : Nat) : aget (adel l i) j = if j = i then none else aget l j := by
  induction l with
  | nil => rw [show adel ([] : List (Nat × α)) i = [] from rfl, aget_nil]; split <;> rfl
  | cons p l ih =>
    rw [adel_cons]
    by_cases h : i = p.1
    · rw [if_pos h, ih, aget_cons]
      by_cases hj : j = i
      · rw [if_pos hj, if_pos hj]
      · rw [if_neg hj, if_neg hj, if_neg (by rw [← h]; exact hj)]
    · rw [if_neg h, aget_cons, ih, aget_cons]
      by_cases hj : j = p.1
      · rw [if_pos hj, if_pos hj, if_neg (by rw [hj]; exact Ne.symm h)]
      · rw [if_neg hj, if_neg hj]
/-- A row that goes over into another name. -/
noncomputable def mvS (s : St) (a : Nat) (o : Obj) : St := { s with h := (s.nx, o) :: adel s.h a, nx := Nat.succ s.nx, wr := lg s.wr a }
theorem mvS_ext (s : St) (a : Nat) (o : Obj) : Ext s (mvS s a o) := ⟨fun _ h => h, fun i h => (lg_iff _ _ _).2 (.inr h), Nat.le_succ _, fun id h1 h2 => by
  show aget ((s.nx, o) :: adel s.h a) id = _
  rw [aget_cons, if_neg (fun e => h2 ⟨Nat.le_of_eq e.symm, by rw [e]; exact Nat.lt_succ_self _⟩), aget_adel, if_neg (fun e => h1 ((lg_iff _ _ _).2 (.inl e)))], fun h id ob hid => by
  have hid : aget ((s.nx, o) :: adel s.h a) id = some ob := hid
  rw [aget_cons, aget_adel] at hid
  by_cases e : id = s.nx
  · rw [e]; exact Nat.lt_succ_self _
  · rw [if_neg e] at hid
    by_cases ea : id = a
    · rw [if_pos ea] at hid; cases hid
    · rw [if_neg ea] at hid
      exact Nat.lt_succ_of_lt (h id ob hid)⟩
theorem mvS_post {ν : Ren} {m : Nat → Option Obj} {w w' : World} {a : Nat} {o o' : Obj} {ν' : Ren} (p : Pre B W0 ν m s (mvS s a o') w) (ho : aget s.h a = some o) (hle : ν.le ν') (hnew : ∀ i, i ≠ s.nx → ν' i = ν i)
    (r : RelH B W0 ν' (fun i => if i = s.nx then some o' else if i = a then none else m i) w') : Post B W0 ν m s (mvS s a o') ν' w' := by
  have hx : m s.nx = none := (p.fresh s.nx (Nat.le_refl _) (Nat.lt_succ_self _)).2
  refine ⟨hle, fun i hi => ?_, r.of_le fun id o1 hid => ?_⟩
  · by_cases e : i = s.nx
    · rw [e]; exact ⟨Nat.le_refl _, Nat.lt_succ_self _⟩
    · exact absurd (hnew i e) hi
  · unfold Upd at hid
    try dsimp only
    have e2 : ∀ id, aget (mvS s a o').h id = if id = s.nx then some o' else if id = a then none else aget s.h id := fun id => by
      show aget ((s.nx, o') :: adel s.h a) id = _
      rw [aget_cons, aget_adel]
    by_cases e : id = s.nx
    · rw [if_pos e]
      split at hid
      · rw [e2, if_pos e] at hid; exact hid
      · rename_i hh
        exact absurd (.inr ⟨Nat.le_of_eq e.symm, by rw [e]; exact Nat.lt_succ_self _⟩) hh
    · rw [if_neg e]
      split at hid
      · rename_i hh
        rw [e2, if_neg e] at hid
        by_cases ea : id = a
        · rw [if_pos ea] at hid; cases hid
        · rw [if_neg ea] at hid ⊢
          rw [← hid]
          refine p.agree id ?_
          rcases hh with hh | hh
          · exact .inr hh
          · have : s.nx ≤ id ∧ id < Nat.succ s.nx := hh
            omega
      · rename_i hh
        rw [if_neg]
        · exact hid
        · intro ea
          exact hh (.inl ((lg_iff _ _ _).2 (.inl ea)))
noncomputable def aAppend (C : Cfg) (T : Tm) (s : St) (t xt : TypeId) (x y : Operand) : Option (Value × List Bool × St) :=
  match C.ty t, ev1 T x, ev1 T y with
  | some (_, .slice e), some v, some u => match C.ty e with
    | some ei => match aSrc C s ei.1.size xt u with
      | some (k, news, ns, s1) => match k, v with
        | 0, .slice none n c => some (.slice none n c, Nat.ble n c :: ns, s1)
        | 0, .slice (some ⟨a, q, some z⟩) n c => some (.slice (some ⟨a, q, some z⟩) n c, ns, s1)
        | Nat.succ k', .slice none 0 0 => some (.slice (some ⟨s1.nx, 0, some ei.1.size⟩) (Nat.succ k') 0, Nat.ble (Nat.mul (Nat.add (Nat.mul 2 (Nat.succ k')) 768) ei.1.bytes) 281474976710656 :: Nat.ble (Nat.succ k') 9223372036854775807 :: (match ei.1.zero with | some z => Nat.beq (len z.cells.toList) ei.1.size | none => false) :: ns, newB s1 (.cells ⟨news⟩ e (0, 0)))
        | Nat.succ k', .slice (some ⟨a, q, some z⟩) n c => match aget s1.h a with
          | some (.cells c0 ct cf) => some (.slice (some ⟨s1.nx, 0, some z⟩) (Nat.add n (Nat.succ k')) 0,
              Nat.ble (Nat.mul (Nat.add (Nat.mul 2 (Nat.add n (Nat.succ k'))) 768) ei.1.bytes) 281474976710656 :: Nat.ble (Nat.add n (Nat.succ k')) 9223372036854775807 :: (match ei.1.zero with | some z => Nat.beq (len z.cells.toList) ei.1.size | none => false) :: Nat.beq q 0 :: Nat.beq z ei.1.size :: Nat.beq (len c0.toList) (Nat.mul n z) :: ones c0.toList :: Nat.beq ct e :: not (ro (.cells c0 ct cf)) :: ns,
              mvS s1 a (.cells ⟨app c0.toList news⟩ e (0, 0)))
          | _ => none
        | _, _ => none
      | none => none
    | none => none
  | _, _, _ => none
theorem resolve_builtin {P : Program} {ρ : Operand → Value} {b : Builtin} {args : Array Operand} {tys : Array TypeId} {ty : TypeId} (w : World) : (resolve ρ ⟨.builtin b, args, tys⟩ ty).run P w = .ok { target := .builtin b tys ty (args.map fun | .const _ => true | _ => false), args := args.map ρ } w := rfl
theorem aAppend_ok (hC : C.Ok) (hB : B ≤ W0.heap.size) {o : Oper} {t xt : TypeId} {x y : Operand} (ho : o.op = .call ⟨.builtin .append, #[x, y], #[t, xt]⟩) {v : Value} {ns : List Bool} {s' : St} (h : aAppend C T s t xt x y = some (v, ns, s')) (hn : ∀ b ∈ ns, b = true) : OpOk C B W0 N o T s v s' := by
  obtain ⟨dst, op, type, pos, after, guard⟩ := o
  obtain rfl : op = _ := ho
  unfold aAppend at h
  split at h
  rotate_left
  · cases h
  rename_i ti e v0 u0 ht hx hy
  split at h
  rotate_left
  · cases h
  rename_i ei he
  split at h
  rotate_left
  · cases h
  rename_i k news ns1 s1 hsrc
  obtain ⟨eh, enx, ewr, erd⟩ := aSrc_ext hsrc
  have ext1 : Ext s s1 := ⟨erd, fun i hi => by rw [ewr]; exact hi, by rw [enx]; exact Nat.le_refl _, fun id _ _ => by rw [eh], fun h id ob hid => by rw [eh] at hid; rw [enx]; exact h id ob hid⟩
  -- what the step before says
  have first : ∀ {ν : Ren} {m : Nat → Option Obj} {w : World} {s2 : St}, Pre B W0 ν m s s2 w → Pre B W0 ν m s1 s2 w := fun p =>
    ⟨fun id hid => by rw [eh]; exact p.agree id hid, fun id h1 h2 => p.fresh id (by rw [← enx]; exact h1) h2, fun id ob hid => by rw [eh] at hid; rw [enx]; exact p.wf id ob hid, p.rel⟩
  have last : ∀ {ν ν' : Ren} {m : Nat → Option Obj} {w' : World} {s2 : St}, Post B W0 ν m s1 s2 ν' w' → Post B W0 ν m s s2 ν' w' := fun q =>
    ⟨q.le, fun id hid => by have := q.new id hid; rw [enx] at this; exact this, by have := q.rel; unfold Upd at this ⊢; rw [enx] at this; exact this⟩
  have e1 : (C.P.underlying t) = some (.slice e) := (hC.ty _ _ ht).2
  have e2 := (hC.ty _ _ he).1
  have run : ∀ {a : Act} {w w' : World} {r : Value}, (Builtin.append_ #[t, xt] type #[a.eval x, a.eval y]).run C.P w = .ok r w' → (execOp a.eval ⟨dst, .call ⟨.builtin .append, #[x, y], #[t, xt]⟩, type, pos, after, guard⟩).run C.P w = .ok (.value r) w' := fun {a w w' r} hr => by
    simp only [execOp, Sem.run_bind, resolve_builtin, Result.andThen_ok, invoke, builtin]
    rw [show (#[x, y].map a.eval) = #[a.eval x, a.eval y] by simp]
    rw [hr]
    rfl
  have noth : ∀ {ν : Ren} {m : Nat → Option Obj} {w : World} {a : Act} {base : Option Addr} {sl sc : Nat}, (∀ b ∈ ns1, b = true) → k = 0 → TR N ν T a → Pre B W0 ν m s s1 w → a.eval x = .slice base sl sc → sl ≤ sc → VR ν v0 (a.eval x) →
      ∃ n w' u ν', (execOp a.eval ⟨dst, .call ⟨.builtin .append, #[x, y], #[t, xt]⟩, type, pos, after, guard⟩).run C.P w = .ok n w' ∧ (n = .value u ∨ (n = .skip ∧ u = undef)) ∧ VR ν' v0 u ∧ Post B W0 ν m s s1 ν' w' := by
    intro ν m w a base sl sc hn1 hk tr p ex hle hxv
    obtain ⟨news', hv, src⟩ := aSrc_ok hC hsrc hn1 p (fun i hi => hi) (ev1_ok tr hy)
    subst hk
    have hz : news' = [] := by
      have := src.newsLen
      rw [Nat.zero_mul] at this
      exact List.eq_nil_of_length_eq_zero this
    subst hz
    refine ⟨.value (a.eval x), w, a.eval x, ν, run ?_, .inl rfl, hxv, last (.same (first p) rfl rfl rfl p.rel)⟩
    rw [ex]
    exact run_append_nothing w t xt type e ei.1 e1 e2 base sl sc hle _ src
  split at h
  · -- nothing is appended onto nil
    obtain ⟨rfl, rfl, rfl⟩ := s3 h
    refine ⟨ext1, fun ν m a w tr p => ?_⟩
    have hxv := ev1_ok tr hx
    exact noth (fun b hb => hn b (List.mem_cons_of_mem _ hb)) rfl tr p (VR.eq_of_flat rfl hxv) (ble_iff.1 (hn _ List.mem_cons_self)) hxv
  · obtain ⟨rfl, rfl, rfl⟩ := s3 h
    refine ⟨ext1, fun ν m a w tr p => ?_⟩
    have hxv := ev1_ok tr hx
    obtain ⟨rfl, ex⟩ | ⟨g, S, q', c', ex, hν, h1, h2, h3⟩ := VR.slice_inv hxv
    · exact noth hn rfl tr p ex (Nat.le_refl _) hxv
    exact noth hn rfl tr p ex h1 hxv
  · -- onto nil
    rename_i k'
    obtain ⟨rfl, rfl, rfl⟩ := s3 h
    refine ⟨ext1.trans (newB_ext _ _), fun ν m a w tr p => ?_⟩
    have n1 := ble_iff.1 (hn _ (by simp : Nat.ble (Nat.mul (Nat.add (Nat.mul 2 (Nat.succ k')) 768) ei.1.bytes) 281474976710656 ∈ _))
    have n2 := ble_iff.1 (hn (Nat.ble (Nat.succ k') 9223372036854775807) (by simp))
    have n3 := hn (match ei.1.zero with | some z => Nat.beq (len z.cells.toList) ei.1.size | none => false) (by simp)
    obtain ⟨news', hv, src⟩ := aSrc_ok hC hsrc (fun b hb => hn b (by simp [hb])) p (fun i hi => hi) (ev1_ok tr hy)
    cases hz : ei.1.zero with
    | none => rw [hz] at n3; cases n3
    | some z =>
      have hb : Builtin.nextslicecap (0 + Nat.succ k') 0 * ei.1.bytes ≤ 281474976710656 := by
        refine Nat.le_trans (Nat.mul_le_mul_right _ (nextslicecap_le (by omega))) ?_
        rw [Nat.zero_add]
        exact n1
      have hr := run_append_grow_src w t xt type e ei.1 z e1 e2 hz none 0 0 [] (run_firstCells_none w.drew ei.1.size 0 0 0) (a.eval y) (Nat.succ k') news' src (by omega) (by omega) hb
      have hcap : Nat.succ k' ≤ grownCap w (0 + Nat.succ k') 0 e := by
        unfold grownCap
        simp only [Question.cut]
        omega
      generalize hG : grownCap w (0 + Nat.succ k') 0 e = G at hr hcap
      generalize hZ : Builtin.zeroCells z.cells (G - (0 + Nat.succ k')) = Z at hr
      have hf : ν s1.nx = none := ((first p).fresh s1.nx (Nat.le_refl _) (Nat.lt_succ_self _)).1
      rw [hz] at n3
      have n4 : z.cells.size = ei.1.size := by
        have := Nat.eq_of_beq_eq_true n3
        rw [len_eq] at this
        simpa using this
      have hZs : Z.size = (G - (0 + Nat.succ k')) * ei.1.size := by rw [← hZ]; unfold Builtin.zeroCells; simp [n4]
      have hle : ν.le (fun i => if i = s1.nx then some (w.drew.heap.size, (([] ++ news').toArray ++ Z).size) else ν i) := fun i q hq => by
        try dsimp only
        rw [if_neg (fun e => by subst e; rw [hf] at hq; cases hq)]; exact hq
      have hor : OR (fun i => if i = s1.nx then some (w.drew.heap.size, (([] ++ news').toArray ++ Z).size) else ν i) (.cells ⟨news⟩ e (0, 0)) (.cells (([] ++ news').toArray ++ Z) e (0, 0)) (([] ++ news').toArray ++ Z).size :=
        .cells news' Z.toList (by simp) (hv.mono hle) (fun _ => ⟨.inl rfl, rfl⟩)
      have q := newB_post (w1 := w.drew) hB (first p) p.rel.drew hor
      have hr' : (Builtin.append_ #[t, xt] type #[a.eval x, a.eval y]).run C.P w = .ok (.slice (some ⟨w.heap.size, 0, none⟩) (0 + Nat.succ k') G) (w.drew.alloc (.cells (([] ++ news').toArray ++ Z) e)) := by
        rw [VR.eq_of_flat rfl (ev1_ok tr hx)]
        exact hr
      refine ⟨_, _, _, _, run hr', .inl rfl, ?_, last q⟩
      rw [Nat.zero_add]
      refine .slice (if_pos rfl) (by omega) ?_ (.inl rfl)
      have l1 := src.newsLen
      simp only [List.nil_append, Array.size_append, List.size_toArray, hZs, l1]
      rw [← Nat.add_mul, Nat.zero_add, Nat.zero_add]
      exact Nat.le_of_eq (by rw [show Nat.succ k' + (G - Nat.succ k') = G by omega])
  · -- onto a row
    rename_i k' a0 q0 z0 n0 c0'
    split at h
    rotate_left
    · cases h
    rename_i c0 ct cf hc0
    obtain ⟨rfl, rfl, rfl⟩ := s3 h
    refine ⟨ext1.trans (mvS_ext _ _ _), fun ν m a w tr p => ?_⟩
    have n1 := ble_iff.1 (hn _ (by simp : Nat.ble (Nat.mul (Nat.add (Nat.mul 2 (Nat.add n0 (Nat.succ k'))) 768) ei.1.bytes) 281474976710656 ∈ _))
    have n2 := ble_iff.1 (hn (Nat.ble (Nat.add n0 (Nat.succ k')) 9223372036854775807) (by simp))
    have n3 := hn (match ei.1.zero with | some z => Nat.beq (len z.cells.toList) ei.1.size | none => false) (by simp)
    have n5 := Nat.eq_of_beq_eq_true (hn (Nat.beq q0 0) (by simp))
    have n6 := Nat.eq_of_beq_eq_true (hn (Nat.beq z0 ei.1.size) (by simp))
    have n7 := Nat.eq_of_beq_eq_true (hn (Nat.beq (len c0.toList) (Nat.mul n0 z0)) (by simp))
    have n8 := hn (ones c0.toList) (by simp)
    have n9 := Nat.eq_of_beq_eq_true (hn (Nat.beq ct e) (by simp))
    have n10 : ro (.cells c0 ct cf) = false := by
      have := hn (not (ro (.cells c0 ct cf))) (by simp)
      revert this; cases ro (.cells c0 ct cf) <;> intro h <;> first | rfl | cases h
    obtain ⟨news', hv, src⟩ := aSrc_ok hC hsrc (fun b hb => hn b (by simp [hb])) p (fun i hi => hi) (ev1_ok tr hy)
    subst n5
    subst n6
    subst n9
    rw [len_eq] at n7
    have n7 : c0.toList.length = n0 * ei.1.size := n7
    cases hz : ei.1.zero with
    | none => rw [hz] at n3; cases n3
    | some z =>
    rw [hz] at n3
    have n4 : z.cells.size = ei.1.size := by
      have := Nat.eq_of_beq_eq_true n3
      rw [len_eq] at this
      simpa using this
    have p1 := first p
    have hf : ν s1.nx = none := (p1.fresh s1.nx (Nat.le_refl _) (Nat.lt_succ_self _)).1
    obtain ⟨rfl, ex⟩ | ⟨g, S, q', c', ex, hν, h1, h2, h3⟩ := VR.slice_inv (ev1_ok tr hx)
    · -- nothing so far
      have c00 : c0.toList = [] := by
        refine List.length_eq_zero_iff.1 ?_
        rw [n7, Nat.zero_mul]
      have n1 : (2 * (0 + Nat.succ k') + 768) * ei.1.bytes ≤ 281474976710656 := n1
      have hb : Builtin.nextslicecap (0 + Nat.succ k') 0 * ei.1.bytes ≤ 281474976710656 :=
        Nat.le_trans (Nat.mul_le_mul_right _ (nextslicecap_le (by omega))) n1
      have hr := run_append_grow_src w t xt type ct ei.1 z e1 e2 hz none 0 0 [] (run_firstCells_none w.drew ei.1.size 0 0 0) (a.eval y) (Nat.succ k') news' src (by omega) (by have : 0 + Nat.succ k' ≤ 9223372036854775807 := n2; omega) hb
      have hcap : Nat.succ k' ≤ grownCap w (0 + Nat.succ k') 0 ct := by
        unfold grownCap
        simp only [Question.cut]
        omega
      generalize hG : grownCap w (0 + Nat.succ k') 0 ct = G at hr hcap
      generalize hZ : Builtin.zeroCells z.cells (G - (0 + Nat.succ k')) = Z at hr
      have hZs : Z.size = (G - (0 + Nat.succ k')) * ei.1.size := by rw [← hZ]; unfold Builtin.zeroCells; simp [n4]
      have hle : ν.le (fun i => if i = s1.nx then some (w.drew.heap.size, (([] ++ news').toArray ++ Z).size) else ν i) := fun i q hq => by
        try dsimp only
        rw [if_neg (fun e => by subst e; rw [hf] at hq; cases hq)]; exact hq
      have hor : OR (fun i => if i = s1.nx then some (w.drew.heap.size, (([] ++ news').toArray ++ Z).size) else ν i) (.cells ⟨app c0.toList news⟩ ct (0, 0)) (.cells (([] ++ news').toArray ++ Z) ct (0, 0)) (([] ++ news').toArray ++ Z).size := by
        refine .cells news' Z.toList (by simp) ?_ (fun _ => ⟨.inl rfl, rfl⟩)
        rw [show (⟨app c0.toList news⟩ : Array Value).toList = c0.toList ++ news from app_eq _ _, c00]
        exact hv.mono hle
      rw [← ex] at hr
      refine ⟨_, _, _, _, run hr, .inl rfl, ?_, last (mvS_post p1 hc0 hle (fun i hi => if_neg hi) ((p.rel.drew.push hB hf hor).of_le fun i o1 hi => ?_))⟩
      · refine .slice (if_pos rfl) (by show 0 + Nat.succ k' ≤ G; omega) ?_ (.inl rfl)
        have l1 := src.newsLen
        simp only [List.nil_append, Array.size_append, List.size_toArray, hZs, l1]
        rw [← Nat.add_mul, Nat.zero_add]
        exact Nat.le_of_eq (by rw [show Nat.succ k' + (G - (0 + Nat.succ k')) = G by omega])
      · try dsimp only at hi ⊢
        by_cases e1 : i = s1.nx
        · rw [if_pos e1] at hi ⊢; exact hi
        · rw [if_neg e1] at hi ⊢
          by_cases ea : i = a0
          · rw [if_pos ea] at hi; cases hi
          · rw [if_neg ea] at hi; exact hi
    obtain ⟨cc, t', f', vs, rest, k1, k2, k3, k4, k5, k6, k7⟩ := rd_row p1 (.inr ((lg_iff _ _ _).2 (.inl rfl))) hc0 hν
    replace k5 := k5 n10
    replace k7 := k7 n10
    subst k7
    have l1 := k3.length
    have l2 := src.newsLen
    have hm : m a0 = some (.cells c0 t' cf) := (p1.agree a0 (.inr ((lg_iff _ _ _).2 (.inl rfl)))).trans hc0
    have hmx : m s1.nx = none := (p1.fresh s1.nx (Nat.le_refl _) (Nat.lt_succ_self _)).2
    by_cases hcap : n0 + Nat.succ k' ≤ c'
    · -- in place
      have hq : q' = 0 := by rcases h3 with h | h <;> omega
      subst hq
      have hS : n0 * ei.1.size + Nat.succ k' * ei.1.size ≤ cc.size := by
        rw [← Nat.add_mul, ← k4]
        exact Nat.le_trans (Nat.mul_le_mul_right _ hcap) (by omega)
      obtain ⟨w', r1, r2, r3, r4⟩ := storeCells_run (P := C.P) (g := g) (o := n0 * ei.1.size) (t := t') (f := f') news' 0 cc w k1 (by rw [l2]; exact hS) k5.free src.one
      have hr : (Builtin.append_ #[t, xt] type #[a.eval x, a.eval y]).run C.P w = .ok (.slice (some ⟨g, 0, none⟩) (n0 + Nat.succ k') c') w' := by
        rw [ex]
        have radd : (storeCells (Addr.add ⟨g, 0, none⟩ (n0 * ei.1.size)) news').run C.P w = .ok () w' := by
          rw [add_none, Nat.zero_add]; exact r1
        rcases src.kind with ⟨e', hk⟩ | hk <;> simp [Builtin.append_, run_underlying e1, run_underlying hk, sizeOf, typeInfo, e2, src.len, hcap, src.cells, radd]
      have hle : ν.le (fun i => if i = s1.nx then some (g, S) else ν i) := fun i q hq => by
        try dsimp only
        rw [if_neg (fun e => by subst e; rw [hf] at hq; cases hq)]; exact hq
      have hcc : Ev.splice cc.toList (n0 * ei.1.size + 0) news' = (vs ++ news') ++ rest.drop news'.length := by
        rw [Nat.add_zero, splice_eq, k2]
        have : n0 * ei.1.size = vs.length := by rw [← n7, l1]
        rw [this, List.take_left, List.drop_append]
        simp
      have hsz : S = (⟨Ev.splice cc.toList (n0 * ei.1.size + 0) news'⟩ : Array Value).size := by
        show S = (Ev.splice cc.toList (n0 * ei.1.size + 0) news').length
        rw [hcc, k4]
        have h5 : cc.size = vs.length + rest.length := by rw [← Array.length_toList, k2, List.length_append]
        simp
        rw [l2]
        omega
      have hor : OR (fun i => if i = s1.nx then some (g, S) else ν i) (.cells ⟨app c0.toList news⟩ t' (0, 0)) (.cells ⟨Ev.splice cc.toList (n0 * ei.1.size + 0) news'⟩ t' f') S := by
        have hor1 := OR.cells (ν := fun i => if i = s1.nx then some (g, S) else ν i) (c := ⟨app c0.toList news⟩) (t := t') (f := (0, 0)) (c' := ⟨Ev.splice cc.toList (n0 * ei.1.size + 0) news'⟩) (f' := f') (vs ++ news') _ hcc (by
          rw [show (⟨app c0.toList news⟩ : Array Value).toList = c0.toList ++ news from app_eq _ _]
          exact (k3.mono hle).app (hv.mono hle)) (fun _ => ⟨k5.le (Nat.le_of_eq (hsz.symm.trans k4)), rfl⟩)
        rw [← hsz] at hor1
        exact hor1
      refine ⟨_, w', _, _, run hr, .inl rfl, .slice (S := S) (if_pos rfl) hcap (by omega) (.inl rfl), last (mvS_post p1 hc0 hle (fun i hi => if_neg hi) ?_)⟩
      refine ⟨fun i o1 g2 S2 hi hgi => ?_, fun i j o1 o2 g1 S1 S2 hi hj h1 h2 => ?_, r4 _ _ p.rel.below (k6 n10)⟩
      · try dsimp only at hi hgi ⊢
        by_cases ex1 : i = s1.nx
        · rw [if_pos ex1] at hi hgi
          obtain rfl := Option.some.inj hi
          obtain ⟨rfl, rfl⟩ := Prod.mk.inj (Option.some.inj hgi)
          exact ⟨_, r2, hor, fun _ => k6 n10⟩
        · rw [if_neg ex1] at hi hgi
          by_cases ea : i = a0
          · rw [if_pos ea] at hi; cases hi
          · rw [if_neg ea] at hi
            obtain ⟨ob2, j2, j3, j4⟩ := p.rel.objs i o1 g2 S2 hi hgi
            have : g2 ≠ g := fun e => (p.rel.inj i a0 _ _ g S2 S hi hm (e ▸ hgi) hν).elim ea fun hh => by rw [n10] at hh; cases hh.2
            exact ⟨ob2, by rw [r3 g2 this]; exact j2, j3.mono hle, j4⟩
      · try dsimp only at hi hj h1 h2
        have old : ∀ (i : Nat) (o : Obj) (S1 : Nat), i ≠ a0 → m i = some o → ν i = some (g, S1) → False := fun i o S1 hia hi h1 => (p.rel.inj i a0 _ _ g S1 S hi hm h1 hν).elim hia fun hh => by rw [n10] at hh; cases hh.2
        by_cases ei1 : i = s1.nx
        · by_cases ej1 : j = s1.nx
          · exact .inl (by rw [ei1, ej1])
          · rw [if_pos ei1] at h1
            rw [if_neg ej1] at hj h2
            by_cases ea : j = a0
            · rw [if_pos ea] at hj; cases hj
            · rw [if_neg ea] at hj
              obtain ⟨rfl, rfl⟩ := Prod.mk.inj (Option.some.inj h1)
              exact (old j _ _ ea hj h2).elim
        · rw [if_neg ei1] at hi h1
          by_cases ea : i = a0
          · rw [if_pos ea] at hi; cases hi
          rw [if_neg ea] at hi
          by_cases ej1 : j = s1.nx
          · rw [if_pos ej1] at h2
            obtain ⟨rfl, rfl⟩ := Prod.mk.inj (Option.some.inj h2)
            exact (old i _ _ ea hi h1).elim
          · rw [if_neg ej1] at hj h2
            by_cases eb : j = a0
            · rw [if_pos eb] at hj; cases hj
            rw [if_neg eb] at hj
            exact p.rel.inj i j _ _ g1 S1 S2 hi hj h1 h2
    · -- a new row
      have hb : Builtin.nextslicecap (n0 + Nat.succ k') c' * ei.1.bytes ≤ 281474976710656 := by
        refine Nat.le_trans (Nat.mul_le_mul_right _ (nextslicecap_le (by omega))) ?_
        exact n1
      have hold : (Builtin.firstCells ei.1.size n0 (.slice (some ⟨g, q', none⟩) n0 c')).run C.P w.drew = .ok vs.toArray w.drew := by
        have hvl : vs.length = n0 * ei.1.size := by rw [← l1, n7]
        refine run_firstCells_some w.drew ei.1.size n0 ⟨g, q', none⟩ n0 c' vs hvl (fun j u hj => ?_)
        have hj' := (List.getElem?_eq_some_iff.1 hj).1
        have hq : q' = 0 := by
          rcases h3 with h | h
          · exact h
          · have : n0 = 0 := by omega
            rw [hvl, this, Nat.zero_mul] at hj'
            omega
        subst hq
        rw [add_none, Nat.zero_add]
        show w.cell? _ = _
        rw [cell_of k1, ← Array.getElem?_toList, k2, List.getElem?_append_left hj']
        exact hj
      have hr := run_append_grow_src w t xt type t' ei.1 z e1 e2 hz (some ⟨g, q', none⟩) n0 c' vs hold (a.eval y) (Nat.succ k') news' src (by omega) (by have : n0 + Nat.succ k' ≤ 9223372036854775807 := n2; omega) hb
      have hcap2 : n0 + Nat.succ k' ≤ grownCap w (n0 + Nat.succ k') c' t' := by
        unfold grownCap
        simp only [Question.cut]
        omega
      generalize hG : grownCap w (n0 + Nat.succ k') c' t' = G at hr hcap2
      generalize hZ : Builtin.zeroCells z.cells (G - (n0 + Nat.succ k')) = Z at hr
      have hZs : Z.size = (G - (n0 + Nat.succ k')) * ei.1.size := by rw [← hZ]; unfold Builtin.zeroCells; simp [n4]
      have hle : ν.le (fun i => if i = s1.nx then some (w.drew.heap.size, ((vs ++ news').toArray ++ Z).size) else ν i) := fun i q hq => by
        try dsimp only
        rw [if_neg (fun e => by subst e; rw [hf] at hq; cases hq)]; exact hq
      have hor : OR (fun i => if i = s1.nx then some (w.drew.heap.size, ((vs ++ news').toArray ++ Z).size) else ν i) (.cells ⟨app c0.toList news⟩ t' (0, 0)) (.cells ((vs ++ news').toArray ++ Z) t' (0, 0)) ((vs ++ news').toArray ++ Z).size := by
        refine .cells (vs ++ news') Z.toList (by simp) ?_ (fun _ => ⟨.inl rfl, rfl⟩)
        rw [show (⟨app c0.toList news⟩ : Array Value).toList = c0.toList ++ news from app_eq _ _]
        exact (k3.mono hle).app (hv.mono hle)
      rw [← ex] at hr
      refine ⟨_, _, _, _, run hr, .inl rfl, ?_, last (mvS_post p1 hc0 hle (fun i hi => if_neg hi) ((p.rel.drew.push hB hf hor).of_le fun i o1 hi => ?_))⟩
      · refine .slice (if_pos rfl) hcap2 ?_ (.inl rfl)
        simp only [Array.size_append, List.size_toArray, List.length_append, hZs, l2]
        rw [← l1, n7, Nat.zero_add, ← Nat.add_mul, ← Nat.add_mul]
        exact Nat.le_of_eq (by rw [show n0 + Nat.succ k' + (G - (n0 + Nat.succ k')) = G by omega])
      · try dsimp only at hi ⊢
        by_cases e1 : i = s1.nx
        · rw [if_pos e1] at hi ⊢; exact hi
        · rw [if_neg e1] at hi ⊢
          by_cases ea : i = a0
          · rw [if_pos ea] at hi; cases hi
          · rw [if_neg ea] at hi; exact hi
  · cases h
end
end Go.Ev
