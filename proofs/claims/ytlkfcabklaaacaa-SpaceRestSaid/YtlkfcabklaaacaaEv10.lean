/- Words of my own: structs and rows that are built, made, copied, turned into strings, proved right. -/
import Derived.Test.YtlkfcabklaaacaaEv9
set_option linter.unusedVariables false
set_option linter.unusedSimpArgs false
namespace Go.Ev
open Go.RowKit
section
variable {C : Cfg} {B : Nat} {W0 : World} {N : Nat} {T : Tm} {s : St}
/-- The parts of what is built, put into its cells. -/
noncomputable def afill (place : Nat → Option (Nat × Nat)) (l : List (Nat × Value)) : List Value → Option (List Value) :=
  List.rec (motive := fun _ => List Value → Option (List Value)) (fun c => some c) (fun p _ ih c => match place p.1 with
    | none => none
    | some q => Bool.rec (motive := fun _ => Option (List Value)) none (Bool.rec (motive := fun _ => Option (List Value)) none (ih (Ev.splice c q.1 p.2.cells.toList)) (Nat.ble (Nat.add q.1 q.2) (len c))) (and (nj p.2) (Nat.beq (len p.2.cells.toList) q.2))) l
theorem foldl_set (vs : List Value) (off : Nat) : ∀ (j : Nat) (c : Array Value), off + j + vs.length ≤ c.size → ((vs.zipIdx j).foldl (fun cs (x : Value × Nat) => cs.setIfInBounds (off + x.2) x.1) c).toList = Ev.splice c.toList (off + j) vs := by
  induction vs with
  | nil => intro j c h; simp [splice_eq]
  | cons v vs ih =>
    intro j c h
    simp only [List.length_cons] at h
    rw [List.zipIdx_cons, List.foldl_cons, ih (j + 1) _ (by simp; omega), splice_cons _ _ _ _ (by simp; omega)]
    simp [Nat.add_assoc]
theorem afill_ok {ν : Ren} {place : Nat → Option (Nat × Nat)} : ∀ {l : List (Nat × Value)} {l' : List (Nat × Value)} {c r : List Value} {c' : Array Value}, afill place l c = some r → l.map (·.1) = l'.map (·.1) → VRs ν (l.map (·.2)) (l'.map (·.2)) → VRs ν c c'.toList → ∃ r', Instr.fill place c' l' = some r' ∧ VRs ν r r'.toList
  | [], l', c, r, c', h, h1, h2, h3 => by
    obtain rfl := Option.some.inj h
    have : l' = [] := by simpa using h1.symm
    subst this
    exact ⟨c', rfl, h3⟩
  | p :: l, l', c, r, c', h, h1, h2, h3 => by
    cases l' with
    | nil => simp at h1
    | cons p' l' =>
      simp only [List.map_cons, List.cons.injEq] at h1
      simp only [List.map_cons] at h2
      cases h2 with
      | cons hv ht =>
        change (match place p.1 with
          | none => none
          | some q => Bool.rec (motive := fun _ => Option (List Value)) none (Bool.rec (motive := fun _ => Option (List Value)) none (afill place l (Ev.splice c q.1 p.2.cells.toList)) (Nat.ble (Nat.add q.1 q.2) (len c))) (and (nj p.2) (Nat.beq (len p.2.cells.toList) q.2))) = some r at h
        split at h
        · cases h
        rename_i q hq
        cases b0 : and (nj p.2) (Nat.beq (len p.2.cells.toList) q.2) <;> rw [b0] at h
        · cases h
        have b1 : Nat.beq (len p.2.cells.toList) q.2 = true := (Bool.and_eq_true_iff.1 b0).2
        have b3 : nj p.2 = true := (Bool.and_eq_true_iff.1 b0).1
        cases b2 : Nat.ble (Nat.add q.1 q.2) (len c) <;> rw [b2] at h
        · cases h
        have e1 := Nat.eq_of_beq_eq_true b1
        have e2 : q.1 + q.2 ≤ len c := ble_iff.1 b2
        rw [len_eq] at e1 e2
        have hc := hv.cells (fun e => by rw [e] at b3; cases b3)
        have l1 := hc.length
        have l2 := h3.length
        have e3 : p'.2.cells.size = q.2 := by rw [← e1, l1]; simp
        have e4 : q.1 + p'.2.cells.size ≤ c'.size := by rw [e3]; simp at l2; omega
        obtain ⟨r', k1, k2⟩ := afill_ok (c' := (p'.2.cells.zipIdx.foldl (fun cs (x : Value × Nat) => cs.setIfInBounds (q.1 + x.2) x.1) c')) h h1.2 ht (by
          rw [← Array.foldl_toList, Array.toList_zipIdx, foldl_set _ _ 0 _ (by simp; omega)]
          exact h3.splice q.1 hc)
        refine ⟨r', ?_, k2⟩
        obtain ⟨i', v'⟩ := p'
        obtain ⟨off, size⟩ := q
        simp only at h1 e3 e4 k1
        rw [h1.1] at hq
        simp only [Instr.fill, hq]
        rw [if_neg (by simp only [Bool.or_eq_true, decide_eq_true_eq]; omega)]
        exact k1
noncomputable def evps (T : Tm) (l : List (Nat × Operand)) : Option (List (Nat × Value)) := List.rec (motive := fun _ => Option (List (Nat × Value))) (some []) (fun x _ ih => (ev1 T x.2).bind fun v => ih.bind fun vs => some ((x.1, v) :: vs)) l
theorem evps_ok {ν : Ren} {a : Act} (t : TR N ν T a) : ∀ {l : List (Nat × Operand)} {vs : List (Nat × Value)}, evps T l = some vs → vs.map (·.1) = (l.map fun p => (p.1, a.eval p.2)).map (·.1) ∧ VRs ν (vs.map (·.2)) ((l.map fun p => (p.1, a.eval p.2)).map (·.2))
  | [], vs, h => by cases h; exact ⟨rfl, .nil⟩
  | x :: l, vs, h => by
    change ((ev1 T x.2).bind fun v => (evps T l).bind fun vs => some ((x.1, v) :: vs)) = some vs at h
    obtain ⟨v, h1, h⟩ := bd h
    obtain ⟨vs', h2, h⟩ := bd h
    obtain rfl := Option.some.inj h
    obtain ⟨k1, k2⟩ := evps_ok t h2
    exact ⟨by simp only [List.map_cons]; rw [k1], .cons (ev1_ok t h1) k2⟩
noncomputable def placeS (C : Cfg) (fs : Array Field) (i : Nat) : Option (Nat × Nat) := (nth fs.toList i).bind fun f => (C.ty f.type).bind fun fi => some (f.offset, fi.1.size)
noncomputable def tyAll (C : Cfg) (fs : List Field) : Bool := List.rec (motive := fun _ => Bool) true (fun f _ ih => match C.ty f.type with | some _ => ih | none => false) fs
theorem places_run (hC : C.Ok) (w : World) : ∀ {fs : List Field}, tyAll C fs = true → (fs.mapM fun f => do pure (f.offset, ← sizeOf f.type) : Sem (List (Nat × Nat))).run C.P w = .ok (fs.map fun f => (f.offset, ((C.ty f.type).map (·.1.size)).getD 0)) w
  | [], _ => rfl
  | f :: fs, h => by
    change (match C.ty f.type with | some _ => tyAll C fs | none => false) = true at h
    split at h
    · rename_i fi hf
      have ih := places_run hC w h
      rw [List.mapM_cons]
      simp only [Sem.run_bind, sizeOf_run hC hf, Result.andThen_ok, Sem.run_pure, ih, List.map_cons, hf]
      rfl
    · cases h
noncomputable def aBuild (C : Cfg) (T : Tm) (t : TypeId) (parts : Array (Nat × Operand)) : Option (Value × List Bool) :=
  match C.ty t, evps T parts.toList with
  | some ti, some ps => match ti.1.zero with
    | none => none
    | some z => match ti.2 with
      | .struct fs => (afill (placeS C fs) ps z.cells.toList).bind fun r => some (.agg ⟨r⟩, [flats z.cells.toList, tyAll C fs.toList])
      | .array _ e => match C.ty e with
        | some ei => (afill (fun i => some (Nat.mul i ei.1.size, ei.1.size)) ps z.cells.toList).bind fun r => some (.agg ⟨r⟩, [flats z.cells.toList])
        | none => none
      | _ => none
  | _, _ => none
theorem aBuild_ok (hC : C.Ok) {o : Oper} {t : TypeId} {parts : Array (Nat × Operand)} (ho : o.op = .build t parts) {v : Value} {ns : List Bool} (h : aBuild C T t parts = some (v, ns)) (hn : ∀ b ∈ ns, b = true) : OpOk C B W0 N o T s v s := by
  obtain ⟨dst, op, type, pos, after, guard⟩ := o
  obtain rfl : op = _ := ho
  unfold aBuild at h
  split at h
  rotate_left
  · cases h
  rename_i ti ps ht hp
  split at h
  · cases h
  rename_i z hz
  split at h
  · rename_i fs hd
    obtain ⟨r, h1, h⟩ := bd h
    obtain ⟨rfl, rfl⟩ := Prod.mk.inj (Option.some.inj h)
    refine .of fun ν a w tr => ?_
    have n1 := hn (flats z.cells.toList) (by simp)
    have n2 := hn (tyAll C fs.toList) (by simp)
    obtain ⟨e1, e2⟩ := evps_ok tr hp
    have e3 : (parts.toList.map fun p => (p.1, a.eval p.2)) = (parts.map fun (i, x) => (i, a.eval x)).toList := by rw [Array.toList_map]
    rw [e3] at e1 e2
    have hplace : ∀ i, placeS C fs i = ((fs.toList.map fun f => (f.offset, ((C.ty f.type).map (·.1.size)).getD 0)).toArray)[i]? := by
      intro i
      unfold placeS
      rw [nth_eq]
      simp only [List.getElem?_toArray, List.getElem?_map]
      cases hf : fs.toList[i]? with
      | none => rfl
      | some f =>
        have hfm : f ∈ fs.toList := List.mem_of_getElem? hf
        have : ∀ (l : List Field), tyAll C l = true → f ∈ l → ∃ fi, C.ty f.type = some fi := by
          intro l
          induction l with
          | nil => intro _ h; cases h
          | cons g l ih =>
            intro h hm
            change (match C.ty g.type with | some _ => tyAll C l | none => false) = true at h
            split at h
            · rename_i gi hg
              rcases List.mem_cons.1 hm with rfl | hm
              · exact ⟨gi, hg⟩
              · exact ih h hm
            · cases h
        obtain ⟨fi, hfi⟩ := this _ n2 hfm
        simp [hfi]
    rw [show placeS C fs = fun i => ((fs.toList.map fun f => (f.offset, ((C.ty f.type).map (·.1.size)).getD 0)).toArray)[i]? from funext hplace] at h1
    obtain ⟨r', k1, k2⟩ := afill_ok (c' := z.cells) h1 e1 e2 (VRs.flats n1)
    refine ⟨.agg r', ?_, VR.agg_iff.2 ⟨r', rfl, k2⟩⟩
    have hm : (fs.mapM fun f => do pure (f.offset, ← sizeOf f.type) : Sem (Array (Nat × Nat))).run C.P w = .ok (fs.toList.map fun f => (f.offset, ((C.ty f.type).map (·.1.size)).getD 0)).toArray w := by
      rw [Array.mapM_eq_mapM_toList]
      simp only [Sem.run_map, places_run hC w n2, Result.andThen_ok]
    simp only [execOp, Instr.build, Sem.run_bind, zeroValue, typeInfo_run hC ht, Result.andThen_ok, hz, Sem.run_pure, underlying_run hC ht, hd, hm, k1]
  · rename_i n e hd
    split at h
    rotate_left
    · cases h
    rename_i ei he
    obtain ⟨r, h1, h⟩ := bd h
    obtain ⟨rfl, rfl⟩ := Prod.mk.inj (Option.some.inj h)
    refine .of fun ν a w tr => ?_
    have n1 := hn (flats z.cells.toList) (by simp)
    obtain ⟨e1, e2⟩ := evps_ok tr hp
    have e3 : (parts.toList.map fun p => (p.1, a.eval p.2)) = (parts.map fun (i, x) => (i, a.eval x)).toList := by rw [Array.toList_map]
    rw [e3] at e1 e2
    obtain ⟨r', k1, k2⟩ := afill_ok (c' := z.cells) h1 e1 e2 (VRs.flats n1)
    refine ⟨.agg r', ?_, VR.agg_iff.2 ⟨r', rfl, k2⟩⟩
    have k1 : Instr.fill (fun i => some (i * ei.1.size, ei.1.size)) z.cells (parts.map fun (i, x) => (i, a.eval x)).toList = some r' := k1
    simp only [execOp, Instr.build, Sem.run_bind, zeroValue, typeInfo_run hC ht, Result.andThen_ok, hz, Sem.run_pure, underlying_run hC ht, hd, sizeOf_run hC he, k1]
  · cases h
noncomputable def zrow (n : Nat) (zs : List Value) : List Value := (List.range n).map fun i => (nth zs (Nat.mod i (len zs))).getD undef
theorem zrow_eq (n : Nat) (z : Array Value) (h : n = 0 ∨ 0 < z.size) : zrow n z.toList = ((Array.range n).map (z[· % z.size]!)).toList := by
  unfold zrow
  rw [Array.toList_map, Array.toList_range]
  refine List.map_congr_left fun i hi => ?_
  have hi : i < n := List.mem_range.1 hi
  have hz : 0 < z.size := by omega
  have hm : i % z.size < z.size := Nat.mod_lt _ hz
  rw [nth_eq, len_eq, show Nat.mod i z.toList.length = i % z.size from rfl]
  rw [Array.getElem?_toList, Array.getElem?_eq_getElem hm, getElem!_pos z _ hm]
  rfl
theorem flats_zrow (n : Nat) (z : Array Value) (h : n = 0 ∨ 0 < z.size) (hf : flats z.toList = true) : flats (zrow n z.toList) = true := by
  unfold zrow flats
  rw [List.all_map]
  refine List.all_eq_true.2 fun i hi => ?_
  have hi : i < n := List.mem_range.1 hi
  have hz : 0 < z.size := by omega
  have hm : i % z.size < z.size := Nat.mod_lt _ hz
  show flat ((nth z.toList (i % len z.toList)).getD undef) = true
  rw [nth_eq, len_eq, show z.toList.length = z.size from rfl, Array.getElem?_toList, Array.getElem?_eq_getElem hm]
  exact List.all_eq_true.1 hf _ (by simp)
noncomputable def aBuildSlice (C : Cfg) (T : Tm) (s : St) (t : TypeId) (n : Nat) (parts : Array (Nat × Operand)) : Option (Value × List Bool × St) :=
  match C.ty t, evps T parts.toList with
  | some (_, .slice e), some ps => match C.ty e with
    | some ei => match ei.1.zero with
      | some z => (afill (fun i => some (Nat.mul i ei.1.size, ei.1.size)) ps (zrow (Nat.mul n ei.1.size) z.cells.toList)).bind fun r =>
        some (.slice (some ⟨s.nx, 0, some ei.1.size⟩) n 0, [flats z.cells.toList, Nat.ble 1 (len z.cells.toList), Nat.ble (Nat.mul n ei.1.size) 16777216, Nat.beq (len r) (Nat.mul n ei.1.size)], newB s (.cells ⟨r⟩ e (0, 0)))
      | none => none
    | none => none
  | _, _ => none
theorem row_post {ν : Ren} {m : Nat → Option Obj} {w w1 : World} {c c' : Array Value} {t : TypeId} (hB : B ≤ W0.heap.size) (p : Pre B W0 ν m s (newB s (.cells c t (0, 0))) w) (r : RelH B W0 ν m w1) {vs rest : List Value} (h : VRs ν c.toList vs) (hc : c'.toList = vs ++ rest) {f' : Nat × Nat} (hf : FzOk c'.size f') :
    ∃ ν', ν' s.nx = some (w1.heap.size, c'.size) ∧ Post B W0 ν m s (newB s (.cells c t (0, 0))) ν' (w1.alloc (.cells c' t f')) := by
  have hf0 : ν s.nx = none := (p.fresh s.nx (Nat.le_refl _) (Nat.lt_succ_self _)).1
  have hle : ν.le (fun i => if i = s.nx then some (w1.heap.size, c'.size) else ν i) := fun i q hq => by
    try dsimp only
    rw [if_neg (fun e => by subst e; rw [hf0] at hq; cases hq)]; exact hq
  exact ⟨_, if_pos rfl, newB_post hB p r (.cells vs rest hc (h.mono hle) (fun _ => ⟨hf, rfl⟩))⟩
theorem aBuildSlice_ok (hC : C.Ok) (hB : B ≤ W0.heap.size) {o : Oper} {t : TypeId} {n : Nat} {parts : Array (Nat × Operand)} (ho : o.op = .buildSlice t n parts) {v : Value} {ns : List Bool} {s' : St} (h : aBuildSlice C T s t n parts = some (v, ns, s')) (hn : ∀ b ∈ ns, b = true) : OpOk C B W0 N o T s v s' := by
  obtain ⟨dst, op, type, pos, after, guard⟩ := o
  obtain rfl : op = _ := ho
  unfold aBuildSlice at h
  split at h
  rotate_left
  · cases h
  rename_i ti e ps ht hp
  split at h
  rotate_left
  · cases h
  rename_i ei he
  split at h
  rotate_left
  · cases h
  rename_i z hz
  obtain ⟨r, h1, h⟩ := bd h
  obtain ⟨rfl, rfl, rfl⟩ := s3 h
  refine ⟨newB_ext _ _, fun ν m a w tr p => ?_⟩
  have n1 := hn (flats z.cells.toList) (by simp)
  have n2 := ble_iff.1 (hn (Nat.ble 1 (len z.cells.toList)) (by simp))
  have n3 : n * ei.1.size ≤ 16777216 := ble_iff.1 (hn (Nat.ble (Nat.mul n ei.1.size) 16777216) (by simp))
  have n4 := Nat.eq_of_beq_eq_true (hn (Nat.beq (len r) (Nat.mul n ei.1.size)) (by simp))
  rw [len_eq] at n2 n4
  have hzs : 0 < z.cells.size := (by simpa using n2 : 1 ≤ z.cells.size)
  obtain ⟨e1, e2⟩ := evps_ok tr hp
  have e3 : (parts.toList.map fun p => (p.1, a.eval p.2)) = (parts.map fun (i, x) => (i, a.eval x)).toList := by rw [Array.toList_map]
  rw [e3] at e1 e2
  obtain ⟨r', k1, k2⟩ := afill_ok (c' := (Array.range (n * ei.1.size)).map (z.cells[· % z.cells.size]!)) h1 e1 e2 (by
    rw [← zrow_eq _ _ (.inr hzs)]
    exact VRs.flats (flats_zrow _ _ (.inr hzs) n1))
  have k1 : Instr.fill (fun i => some (i * ei.1.size, ei.1.size)) ((Array.range (n * ei.1.size)).map (z.cells[· % z.cells.size]!)) (parts.map fun (i, x) => (i, a.eval x)).toList = some r' := k1
  obtain ⟨ν', j1, j2⟩ := row_post (c := ⟨r⟩) (c' := r') (f' := (0, 0)) hB p p.rel k2 (rest := []) (by simp) (.inl rfl)
  have hl : r'.size = n * ei.1.size := by
    have := k2.length
    rw [n4] at this
    exact this.symm
  refine ⟨.value (.slice (some ⟨w.heap.size, 0, none⟩) n n), _, _, ν', ?_, .inl rfl, .slice j1 (Nat.le_refl _) (by omega) (.inl rfl), j2⟩
  have hrun : (newRow e r').run C.P w = .ok ⟨w.heap.size, 0, none⟩ (w.alloc (.cells r' e (0, 0))) := rfl
  have n3' : ¬ (n * ei.1.size > 2 ^ 24) := by omega
  simp only [execOp, Instr.buildSlice, Sem.run_bind, underlying_run hC ht, Result.andThen_ok, sizeOf_run hC he, if_neg n3']
  by_cases h0 : n * ei.1.size = 0
  · have e0 : (Array.range (n * ei.1.size)).map ((#[] : Array Value)[· % (#[] : Array Value).size]!) = (Array.range (n * ei.1.size)).map (z.cells[· % z.cells.size]!) := by rw [h0]; simp
    rw [← e0] at k1
    simp only [if_pos h0, Sem.run_pure, Result.andThen_ok, k1, Sem.run_bind, hrun]
  · simp only [if_neg h0, Sem.run_bind, zeroValue, typeInfo_run hC he, Result.andThen_ok, hz, Sem.run_pure, k1, hrun]
noncomputable def aMakeSlice (C : Cfg) (T : Tm) (s : St) (t : TypeId) (x y : Operand) : Option (Value × List Bool × St) :=
  match C.ty t, ev1 T x, ev1 T y with
  | some (_, .slice e), some (.int _ l), some (.int _ c) => match C.ty e with
    | some ei => match ei.1.zero with
      | some z => some (.slice (some ⟨s.nx, 0, some ei.1.size⟩) (toNatF l) 0,
          [flats z.cells.toList, Nat.ble 1 (len z.cells.toList), leI 0 l, leI l c, Nat.ble (Nat.mul ei.1.bytes (toNatF c)) 281474976710656, leI c 9223372036854775807],
          newB s (.cells ⟨zrow (Nat.mul (toNatF l) ei.1.size) z.cells.toList⟩ e (0, 0)))
      | none => none
    | none => none
  | _, _, _ => none
theorem aMakeSlice_ok (hC : C.Ok) (hB : B ≤ W0.heap.size) {o : Oper} {t : TypeId} {x y : Operand} (ho : o.op = .makeSlice t x y) {v : Value} {ns : List Bool} {s' : St} (h : aMakeSlice C T s t x y = some (v, ns, s')) (hn : ∀ b ∈ ns, b = true) : OpOk C B W0 N o T s v s' := by
  obtain ⟨dst, op, type, pos, after, guard⟩ := o
  obtain rfl : op = _ := ho
  unfold aMakeSlice at h
  split at h
  rotate_left
  · cases h
  rename_i ti e kl l kc c ht hx hy
  split at h
  rotate_left
  · cases h
  rename_i ei he
  split at h
  rotate_left
  · cases h
  rename_i z hz
  obtain ⟨rfl, rfl, rfl⟩ := s3 h
  refine ⟨newB_ext _ _, fun ν m a w tr p => ?_⟩
  have n1 := hn (flats z.cells.toList) (by repeat (first | exact List.mem_cons_self | apply List.mem_cons_of_mem))
  have n2 := ble_iff.1 (hn (Nat.ble 1 (len z.cells.toList)) (by repeat (first | exact List.mem_cons_self | apply List.mem_cons_of_mem)))
  have n3 : 0 ≤ l := of_decide_eq_true ((leI_eq 0 l).symm.trans (hn (leI 0 l) (by repeat (first | exact List.mem_cons_self | apply List.mem_cons_of_mem))))
  have n4 : l ≤ c := of_decide_eq_true ((leI_eq l c).symm.trans (hn (leI l c) (by repeat (first | exact List.mem_cons_self | apply List.mem_cons_of_mem))))
  have n5 := ble_iff.1 (hn (Nat.ble (Nat.mul ei.1.bytes (toNatF c)) 281474976710656) (by repeat (first | exact List.mem_cons_self | apply List.mem_cons_of_mem)))
  have n6 : c ≤ 9223372036854775807 := of_decide_eq_true ((leI_eq c 9223372036854775807).symm.trans (hn (leI c 9223372036854775807) (by repeat (first | exact List.mem_cons_self | apply List.mem_cons_of_mem))))
  simp only [toNatF_eq] at n5 p ⊢
  rw [len_eq] at n2
  have hzs : 0 < z.cells.size := (by simpa using n2 : 1 ≤ z.cells.size)
  have w1 : IntKind.i64.wrap l = l := IntWalk.i64_in _ ⟨by omega, by omega⟩
  have w2 : IntKind.i64.wrap c = c := IntWalk.i64_in _ ⟨by omega, by omega⟩
  have hb : ei.1.bytes * c ≤ 281474976710656 := by
    have : ((ei.1.bytes * c.toNat : Nat) : Int) ≤ 281474976710656 := Int.ofNat_le.2 n5
    rw [Int.natCast_mul, Int.toNat_of_nonneg (by omega)] at this
    exact this
  have hz1 := zrow_eq (c.toNat * ei.1.size) z.cells (.inr hzs)
  have hpre : zrow (c.toNat * ei.1.size) z.cells.toList = zrow (l.toNat * ei.1.size) z.cells.toList ++ (zrow (c.toNat * ei.1.size) z.cells.toList).drop (l.toNat * ei.1.size) := by
    have : zrow (l.toNat * ei.1.size) z.cells.toList = (zrow (c.toNat * ei.1.size) z.cells.toList).take (l.toNat * ei.1.size) := by
      unfold zrow
      rw [← List.map_take, List.take_range, Nat.min_eq_left (Nat.mul_le_mul_right _ (by omega))]
    rw [this, List.take_append_drop]
  obtain ⟨ν', j1, j2⟩ := row_post (c := ⟨zrow (Nat.mul l.toNat ei.1.size) z.cells.toList⟩) (c' := (Array.range (c.toNat * ei.1.size)).map (z.cells[· % z.cells.size]!)) (f' := (0, 0)) hB p p.rel
    (VRs.flats (flats_zrow _ _ (.inr hzs) n1)) (by rw [← hz1]; exact hpre) (.inl rfl)
  refine ⟨.value (.slice (some ⟨w.heap.size, 0, none⟩) l.toNat c.toNat), _, _, ν', ?_, .inl rfl, .slice j1 (by omega) (by simp) (.inl rfl), j2⟩
  have hrun : (newRow e ((Array.range (c.toNat * ei.1.size)).map (z.cells[· % z.cells.size]!))).run C.P w = .ok ⟨w.heap.size, 0, none⟩ (w.alloc (.cells ((Array.range (c.toNat * ei.1.size)).map (z.cells[· % z.cells.size]!)) e (0, 0))) := rfl
  have hcond : ¬ ((c < 0 || (ei.1.bytes : Int) * c > 2 ^ 48) || l < 0 || l > c) = true := by
    simp only [Bool.or_eq_true, decide_eq_true_eq, gt_iff_lt, not_or, Int.not_lt]
    exact ⟨⟨⟨by omega, by simpa using hb⟩, by omega⟩, by omega⟩
  simp only [execOp, Instr.makeSlice, Sem.run_bind, underlying_run hC ht, Result.andThen_ok, VR.int_inv (ev1_ok tr hx), VR.int_inv (ev1_ok tr hy), asInt, asIntOf, Sem.run_pure, typeInfo_run hC he, w1, w2, sizeOf_run hC he]
  rw [if_neg hcond]
  simp only [Sem.run_bind, run_askRoom, Result.andThen_ok]
  by_cases h0 : c.toNat * ei.1.size = 0
  · have e0 : (Array.range (c.toNat * ei.1.size)).map ((#[] : Array Value)[· % (#[] : Array Value).size]!) = (Array.range (c.toNat * ei.1.size)).map (z.cells[· % z.cells.size]!) := by rw [h0]; simp
    simp only [sizeOf_run hC he, Result.andThen_ok, if_pos h0, Sem.run_pure, Sem.run_bind]
    rw [e0, hrun]
    rfl
  · simp only [sizeOf_run hC he, if_neg h0, Sem.run_bind, zeroValue, typeInfo_run hC he, Result.andThen_ok, hz, Sem.run_pure, hrun]
/-- A string's bytes as a new row. -/
noncomputable def toB1 : Value → Option UInt8
  | .int .u8 i => some (UInt8.ofNat (toNatF i))
  | _ => none
noncomputable def toBytes (l : List Value) : Option (List UInt8) := List.rec (motive := fun _ => Option (List UInt8)) (some []) (fun v _ ih => (toB1 v).bind fun b => ih.bind fun r => some (b :: r)) l
noncomputable def aConv (C : Cfg) (T : Tm) (s : St) (src dst : TypeId) (x : Operand) : Option (Value × List Bool × St) :=
  match C.ty src, C.ty dst, ev1 T x with
  | some (_, .string), some (_, .slice e), some (.string b) => match C.ty e with
    | some (_, .int .u8) => some (.slice (some ⟨s.nx, 0, some 1⟩) (len b.data.toList) 0, [], newB s (.cells ⟨List.rec (motive := fun _ => List Value) [] (fun b _ ih => .int .u8 (Int.ofNat b.toNat) :: ih) b.data.toList⟩ e (0, 0)))
    | _ => none
  | some (_, .slice e), some (_, .string), some (.slice none _ _) => match C.ty e with
    | some (_, .int .u8) => some (.string ⟨#[]⟩, [], s)
    | _ => none
  | some (_, .slice e), some (_, .string), some (.slice (some ⟨a, q, some z⟩) n _) => match C.ty e, aget s.h a with
    | some (_, .int .u8), some (.cells c _ _) => (toBytes (tak (dro c.toList q) n)).bind fun r =>
        some (.string ⟨⟨r⟩⟩, [Nat.beq z 1, Nat.beq (len (tak (dro c.toList q) n)) n], rdS s a)
    | _, _ => none
  | some (_, .slice _), some (_, .slice e), some (.slice (some ⟨a, q, some z⟩) n c) => match C.ty e, aget s.h a with
    | some (_, .int .u8), some (.cells cc ct cf) => some (.slice (some ⟨a, q, some z⟩) n c, [Nat.beq src dst, Nat.ble 1 n, not (ro (.cells cc ct cf))], wrS s a (.cells cc ct cf))
    | _, _ => none
  | _, _, _ => none
theorem toBytes_ok {ν : Ren} : ∀ {l l' : List Value} {r : List UInt8}, toBytes l = some r → VRs ν l l' → ∃ ns : List Int, l' = ns.map (Value.int .u8) ∧ r = ns.map fun n => UInt8.ofNat n.toNat
  | [], l', r, h, hv => by
    cases hv
    obtain rfl := Option.some.inj h
    exact ⟨[], rfl, rfl⟩
  | v :: l, l', r, h, hv => by
    change ((toB1 v).bind fun b => (toBytes l).bind fun r => some (b :: r)) = some r at h
    obtain ⟨b, h0, h⟩ := bd h
    obtain ⟨r', h1, h2⟩ := bd h
    obtain rfl := Option.some.inj h2
    cases hv with
    | cons hv ht =>
      obtain ⟨ns, rfl, rfl⟩ := toBytes_ok h1 ht
      unfold toB1 at h0
      split at h0
      · rename_i i
        obtain rfl := Option.some.inj h0
        obtain rfl := VR.int_inv hv
        exact ⟨i :: ns, rfl, by rw [toNatF_eq]; rfl⟩
      · cases h0
theorem foldl_push (ns : List Int) : ∀ (b : ByteArray), (ns.foldl (fun r n => r.push (UInt8.ofNat n.toNat)) b).data.toList = b.data.toList ++ ns.map fun n => UInt8.ofNat n.toNat := by
  induction ns with
  | nil => intro b; simp
  | cons n ns ih => intro b; rw [List.foldl_cons, ih]; simp [ByteArray.push]
theorem modify_push (xs : Array Obj) (o : Obj) (f : Obj → Obj) : (xs.push o).modify xs.size f = xs.push (f o) := by
  apply Array.ext
  · simp
  · intro i h1 h2
    rw [Array.getElem_modify]
    by_cases h : xs.size = i
    · subst h; simp
    · have : i < xs.size := by simp at h2; omega
      rw [if_neg h, Array.getElem_push_lt this, Array.getElem_push_lt this]
theorem aConv_ok (hC : C.Ok) (hB : B ≤ W0.heap.size) {o : Oper} {src dst' : TypeId} {x : Operand} (ho : o.op = .convert src dst' x) {v : Value} {ns : List Bool} {s' : St} (h : aConv C T s src dst' x = some (v, ns, s')) (hn : ∀ b ∈ ns, b = true) : OpOk C B W0 N o T s v s' := by
  obtain ⟨dst, op, type, pos, after, guard⟩ := o
  obtain rfl : op = _ := ho
  unfold aConv at h
  split at h
  · rename_i t1 t2 e b hs hd hx
    split at h
    rotate_left
    · cases h
    rename_i t3 he
    obtain ⟨rfl, rfl, rfl⟩ := s3 h
    refine ⟨newB_ext _ _, fun ν m a w tr p => ?_⟩
    rw [len_eq]
    have hrun : ∃ G : Nat, b.size ≤ G ∧ ∃ w', (Conv.stringToBytes e b).run C.P w = .ok (.slice (some ⟨w.heap.size, 0, none⟩) b.size G) w' ∧ w' = w.drew.alloc (.cells ((b.data.map fun b => Value.int .u8 b.toNat) ++ Array.replicate (G - b.size) (.int .u8 0)) e (G, G + 1)) := by
      refine ⟨(Question.appendCap b.size 0 e).cut (w.tape w.drawn (.appendCap b.size 0 e)), by simp only [Question.cut]; omega, _, ?_, rfl⟩
      generalize hG : (Question.appendCap b.size 0 e).cut (w.tape w.drawn (.appendCap b.size 0 e)) = G
      have hGb : b.size ≤ G := by rw [← hG]; simp only [Question.cut]; omega
      have hsz : ((b.data.map fun b => Value.int .u8 b.toNat) ++ Array.replicate (G - b.size) (Value.int .u8 0)).size = G := by
        simp only [Array.size_append, Array.size_map, Array.size_replicate]
        have : b.data.size = b.size := rfl
        omega
      simp only [Conv.stringToBytes, Sem.run_bind, run_choose, Question.forced, Bool.false_eq_true, if_false, Result.andThen_ok, hG, newRow, run_newObj, Sem.run_pure, markStringish, run_shape]
      have hsh : World.shape? { tape := w.tape, drawn := w.drawn + 1, os := w.os, output := w.output, heap := w.heap.push (.cells ((b.data.map fun b => Value.int .u8 b.toNat) ++ Array.replicate (G - b.size) (Value.int .u8 0)) e (0, 0)) } w.heap.size = some (e, G) := by
        simp [World.shape?]
        have : b.data.size = b.size := rfl
        omega
      try dsimp only at hsh ⊢
      rw [hsh]
      simp only [Sem.run_bind, run_freeze, Result.andThen_ok, World.freeze, modify_push, Sem.run_pure]
      rfl
    obtain ⟨G, hG, w', hr, rfl⟩ := hrun
    have hbv : ((b.data.map fun b => Value.int .u8 b.toNat) ++ Array.replicate (G - b.size) (Value.int .u8 0)).toList = (b.data.toList.map fun b => Value.int .u8 b.toNat) ++ (List.replicate (G - b.size) (Value.int .u8 0)) := by simp
    obtain ⟨ν', j1, j2⟩ := row_post (c := ⟨List.rec (motive := fun _ => List Value) [] (fun b _ ih => .int .u8 (Int.ofNat b.toNat) :: ih) b.data.toList⟩) (c' := (b.data.map fun b => Value.int .u8 b.toNat) ++ Array.replicate (G - b.size) (Value.int .u8 0)) (f' := (G, G + 1)) hB p p.rel.drew
      (vs := b.data.toList.map fun b => Value.int .u8 b.toNat) (by rw [bytes_rec]; exact VRs.flats (by unfold flats; rw [List.all_map]; exact List.all_eq_true.2 fun _ _ => rfl)) hbv (.inr (by
        simp only [Array.size_append, Array.size_map, Array.size_replicate]
        have : b.data.size = b.size := rfl
        omega))
    refine ⟨_, _, _, ν', ?_, .inl rfl, .slice j1 hG ?_ (.inl rfl), j2⟩
    · simp only [execOp, convert, Sem.run_bind, underlying_run hC hs, underlying_run hC hd, Result.andThen_ok, VR.string_inv (ev1_ok tr hx), underlying_run hC he]
      rw [hr]
      rfl
    · simp only [Array.size_append, Array.size_map, Array.size_replicate]
      have : b.data.size = b.size := rfl
      omega
  · rename_i t1 t2 e n c hs hd hx
    split at h
    rotate_left
    · cases h
    rename_i t3 he
    obtain ⟨rfl, rfl, rfl⟩ := s3 h
    refine .of fun ν a w tr => ⟨_, ?_, .flat rfl⟩
    simp only [execOp, convert, Sem.run_bind, underlying_run hC hs, underlying_run hC hd, Result.andThen_ok, VR.eq_of_flat rfl (ev1_ok tr hx), underlying_run hC he]
    rfl
  · rename_i t1 t2 e a0 q z n c hs hd hx
    split at h
    rotate_left
    · cases h
    rename_i t3 c0 ct cf he hc0
    obtain ⟨r, h1, h⟩ := bd h
    have h1 : toBytes (tak (dro c0.toList q) n) = some r := h1
    obtain ⟨rfl, rfl, rfl⟩ := s3 h
    refine ⟨rdS_ext _ _, fun ν m a w tr p => ?_⟩
    obtain ⟨hn0, ex⟩ | ⟨g, S, q', c', ex, hν, k1, k2, k3⟩ := VR.slice_inv (ev1_ok tr hx)
    · subst hn0
      rw [tak_eq, List.take_zero] at h1
      obtain rfl := Option.some.inj h1
      refine ⟨.value (.string ⟨#[]⟩), w, _, ν, ?_, .inl rfl, .flat rfl, .same p rfl rfl rfl p.rel⟩
      simp only [execOp, convert, Sem.run_bind, underlying_run hC hs, underlying_run hC hd, Result.andThen_ok, ex, underlying_run hC he]
      rfl
    obtain ⟨cc, t', f', vs, rest, r1, r2, r3, r4, r5, r6, r7⟩ := rd_row p (.inl ((lg_iff _ _ _).2 (.inl rfl))) hc0 hν
    have n1 := Nat.eq_of_beq_eq_true (hn (Nat.beq z 1) (by simp))
    have n2 := Nat.eq_of_beq_eq_true (hn (Nat.beq (len (tak (dro c0.toList q) n)) n) (by simp))
    subst n1
    rw [len_eq] at n2
    rw [tak_eq, dro_eq] at n2 h1
    obtain ⟨ns, e1, rfl⟩ := toBytes_ok h1 ((r3.drop q).take n)
    have l1 : ((vs.drop q).take n).length = n := by rw [← ((r3.drop q).take n).length]; exact n2
    have hload : (loadCells ⟨g, q', none⟩ n).run C.P w = .ok (ns.map (Value.int .u8)).toArray w := by
      have := run_loadCells_list (P := C.P) w ⟨g, q', none⟩ ((vs.drop q).take n) (fun j u hj => by
        have hj' := (List.getElem?_eq_some_iff.1 hj).1
        have hq : q' = q := by rcases k3 with h | h <;> omega
        subst hq
        rw [add_none, cell_of r1, ← Array.getElem?_toList, r2]
        rw [List.getElem?_take, if_pos (by omega), List.getElem?_drop] at hj
        rw [List.getElem?_append_left (List.getElem?_eq_some_iff.1 hj).1]
        exact hj)
      rw [l1, e1] at this
      exact this
    refine ⟨.value (.string ⟨⟨ns.map fun n => UInt8.ofNat n.toNat⟩⟩), w, _, ν, ?_, .inl rfl, .flat rfl, .same p rfl rfl rfl p.rel⟩
    simp only [execOp, convert, Sem.run_bind, underlying_run hC hs, underlying_run hC hd, Result.andThen_ok, ex, underlying_run hC he]
    rw [run_bytesToString w ⟨g, q', none⟩ n c' ns hload]
    have : (ns.foldl (fun r n => r.push (UInt8.ofNat n.toNat)) ByteArray.empty) = ⟨⟨ns.map fun n => UInt8.ofNat n.toNat⟩⟩ := by
      apply ByteArray.ext
      apply Array.toList_inj.1
      rw [foldl_push]
      rfl
    rw [this]
    rfl
  · rename_i t1 d1 t2 e a0 q z n c hs hd hx
    split at h
    rotate_left
    · cases h
    rename_i t3 c0 ct cf he hc0
    obtain ⟨rfl, rfl, rfl⟩ := s3 h
    refine ⟨wrS_ext _ _ _ hc0, fun ν m a w tr p => ?_⟩
    have n1 := Nat.eq_of_beq_eq_true (hn (Nat.beq src dst') (by simp))
    have n4 : ro (.cells c0 ct cf) = false := by
      have := hn (not (ro (.cells c0 ct cf))) (by simp)
      revert this; cases ro (.cells c0 ct cf) <;> intro h <;> first | rfl | cases h
    subst n1
    cases hs.symm.trans hd
    obtain ⟨hn0, _⟩ | ⟨g, S, q', c', ex, hν, k1, k2, k3⟩ := VR.slice_inv (ev1_ok tr hx)
    · have := ble_iff.1 (hn (Nat.ble 1 n) (by simp))
      omega
    obtain ⟨cc, t', f', vs, rest, r1, r2, r3, r4, r5, r6, r7⟩ := rd_row p (.inr ((lg_iff _ _ _).2 (.inl rfl))) hc0 hν
    replace r5 := r5 n4
    replace r7 := r7 n4
    subst r7
    have hg : (w.freeze { block := g, off := cc.size } 1).heap[g]? = some (.cells cc t' (if f'.1 == f'.2 then (cc.size, cc.size + 1) else (min f'.1 cc.size, max f'.2 (cc.size + 1)))) := by
      simp [World.freeze, Array.getElem?_modify, r1]
    refine ⟨.value (.slice (some ⟨g, q', none⟩) n c'), w.freeze { block := g, off := cc.size } 1, _, ν, ?_, .inl rfl, .slice hν k1 k2 k3, wrS_post p hc0 n4 hν hg ?_ (fun k hk => ?_) ?_⟩
    · simp only [execOp, convert, Sem.run_bind, underlying_run hC hs, underlying_run hC hd, Result.andThen_ok, ex, underlying_run hC he, beq_self_eq_true, markStringish, run_shape]
      have hsh : w.shape? g = some (t', cc.size) := by simp [World.shape?, r1]
      try dsimp only
      rw [hsh]
      simp only [Sem.run_bind, run_freeze, Result.andThen_ok, Sem.run_pure]
    · subst r4
      refine .cells vs rest r2 r3 (fun _ => ⟨?_, rfl⟩)
      by_cases hf : f'.1 = f'.2
      · rw [if_pos (by simpa using hf)]; exact .inr (Nat.le_refl _)
      · rw [if_neg (by simpa using hf)]
        have := r5.resolve_left hf
        exact .inr (by show cc.size ≤ min f'.1 cc.size; omega)
    · simp only [World.freeze, Nat.one_ne_zero, if_false, Array.getElem?_modify]
      rw [if_neg (Ne.symm hk)]
    · exact p.rel.below.trans ⟨rfl, rfl, rfl, by simp [World.freeze], fun k hk => by
        simp only [World.freeze, Nat.one_ne_zero, if_false, Array.getElem?_modify]
        rw [if_neg (by have := r6 n4; omega)]⟩
  · cases h
/-- What is copied: how many elements, and their cells. -/
noncomputable def cpSrc (C : Cfg) (s : St) (size : Nat) (xt : TypeId) (x : Value) (dn : Nat) : Option (Nat × List Value × List Bool × St) :=
  match x, C.ty xt with
  | .slice none 0 c, some (_, .slice _) => some (0, [], [], s)
  | .slice (some ⟨b, r, some z⟩) k c, some (_, .slice _) => match aget s.h b with
    | some (.cells cb _ _) => some (minF k dn, tak (dro cb.toList r) (Nat.mul (minF k dn) z), [Nat.beq z size, Nat.beq (len (tak (dro cb.toList r) (Nat.mul (minF k dn) z))) (Nat.mul (minF k dn) z), ones (tak (dro cb.toList r) (Nat.mul (minF k dn) z))], rdS s b)
    | _ => none
  | .string t, some (_, .string) => some (minF (len t.data.toList) dn, List.rec (motive := fun _ => List Value) [] (fun b _ ih => .int .u8 (Int.ofNat b.toNat) :: ih) (tak t.data.toList (minF (len t.data.toList) dn)), [Nat.beq size 1], s)
  | _, _ => none
theorem minF_eq (n k : Nat) : minF n k = Nat.min n k := by
  unfold minF
  rw [show Nat.min n k = min n k from rfl]
  cases hb : Nat.ble n k
  · have : ¬ n ≤ k := fun h => by rw [ble_iff.2 h] at hb; cases hb
    show k = _
    omega
  · have := ble_iff.1 hb
    show n = _
    omega
theorem cpSrc_ok (hC : C.Ok) {size : Nat} {xt : TypeId} {x : Value} {dn n : Nat} {news : List Value} {ns : List Bool} {s1 : St} (h : cpSrc C s size xt x dn = some (n, news, ns, s1)) (hn : ∀ b ∈ ns, b = true) :
    (s1 = s ∨ ∃ b, s1 = rdS s b) ∧ ones news = true ∧ news.length = n * size ∧ n ≤ dn ∧ ∀ {s' : St} {ν : Ren} {m : Nat → Option Obj} {w : World} {x' : Value}, Pre B W0 ν m s s' w → (∀ i ∈ s1.rd, i ∈ s'.rd) → VR ν x x' →
      ∃ news' k, VRs ν news news' ∧ (Builtin.lenOf x').run C.P w = .ok k w ∧ Nat.min k dn = n ∧ (Builtin.firstCells size n x').run C.P w = .ok news'.toArray w := by
  unfold cpSrc at h
  split at h
  · rename_i c ti e ht
    obtain ⟨rfl, rfl, rfl, rfl⟩ := s4 h
    refine ⟨.inl rfl, rfl, by simp, Nat.zero_le _, fun {s' ν m w x'} p hs hx => ?_⟩
    obtain rfl := VR.eq_of_flat rfl hx
    exact ⟨[], 0, .nil, rfl, by simp [Nat.min_def], by simp [Builtin.firstCells]⟩
  · rename_i b r z k0 c ti e ht
    split at h
    · rename_i cb ct cf hb
      obtain ⟨rfl, rfl, rfl, rfl⟩ := s4 h
      have n1 := Nat.eq_of_beq_eq_true (hn _ (by simp : Nat.beq z size ∈ _))
      have n2 := Nat.eq_of_beq_eq_true (hn (Nat.beq (len (tak (dro cb.toList r) (Nat.mul (minF k0 dn) z))) (Nat.mul (minF k0 dn) z)) (by simp))
      have n3 := hn (ones (tak (dro cb.toList r) (Nat.mul (minF k0 dn) z))) (by simp)
      subst n1
      rw [len_eq] at n2
      have hmin : minF k0 dn ≤ dn := by rw [minF_eq]; exact Nat.min_le_right _ _
      have hmin2 : minF k0 dn ≤ k0 := by rw [minF_eq]; exact Nat.min_le_left _ _
      refine ⟨.inr ⟨b, rfl⟩, n3, n2, hmin, fun {s' ν m w x'} p hs hx => ?_⟩
      obtain ⟨rfl, rfl⟩ | ⟨g, S, q', c', rfl, hν, h1, h2, h3⟩ := VR.slice_inv hx
      · have e0 : minF 0 dn = 0 := by omega
        rw [e0, tak_eq, show Nat.mul 0 z = 0 from Nat.zero_mul z, List.take_zero]
        exact ⟨[], 0, .nil, rfl, by simp [Nat.min_def], by simp [Builtin.firstCells]⟩
      obtain ⟨cc, t', f', vs, rest, k1, k2, k3, k4, k5, k6, k7⟩ := rd_row p (.inl (hs b ((lg_iff _ _ _).2 (.inl rfl)))) hb hν
      generalize hM : minF k0 dn = M at *
      rw [tak_eq, dro_eq] at n2 n3 ⊢
      have n2 : ((cb.toList.drop r).take (M * z)).length = M * z := n2
      have hv := (k3.drop r).take (M * z)
      have l1 : ((vs.drop r).take (M * z)).length = M * z := by rw [← hv.length]; exact n2
      refine ⟨(vs.drop r).take (M * z), k0, hv, rfl, by rw [← hM, minF_eq], run_firstCells_some w z M ⟨g, q', none⟩ k0 c' _ l1 (fun j u hj => ?_)⟩
      have hj' : j < M * z := by rw [← l1]; exact (List.getElem?_eq_some_iff.1 hj).1
      have hc0 : q' = r := by
        rcases h3 with h3 | h3
        · exact h3
        · have : M = 0 := by omega
          rw [this, Nat.zero_mul] at hj'
          omega
      subst hc0
      rw [add_none, cell_of k1, ← Array.getElem?_toList, k2]
      rw [List.getElem?_take, if_pos hj', List.getElem?_drop] at hj
      rw [List.getElem?_append_left (List.getElem?_eq_some_iff.1 hj).1]
      exact hj
    · cases h
  · rename_i t ti ht
    obtain ⟨rfl, rfl, rfl, rfl⟩ := s4 h
    have n1 := Nat.eq_of_beq_eq_true (hn _ (List.mem_singleton.2 rfl))
    subst n1
    have hsz : t.data.toList.length = t.size := rfl
    have hmin : minF (len t.data.toList) dn ≤ dn := by rw [minF_eq]; exact Nat.min_le_right _ _
    have hmin2 : minF (len t.data.toList) dn ≤ t.size := by rw [minF_eq, len_eq]; exact Nat.min_le_left _ _
    have hM : minF (len t.data.toList) dn = Nat.min t.size dn := by rw [minF_eq, len_eq]; rfl
    generalize minF (len t.data.toList) dn = M at *
    have hfl : flats ((tak t.data.toList M).map fun b => Value.int .u8 b.toNat) = true := by unfold flats; rw [List.all_map]; exact List.all_eq_true.2 fun _ _ => rfl
    rw [bytes_rec]
    refine ⟨.inl rfl, ?_, by rw [tak_eq]; simp; omega, hmin, fun {s' ν m w x'} p hs hx => ?_⟩
    · generalize tak t.data.toList M = l
      induction l with
      | nil => rfl
      | cons b l ih => exact ih
    · obtain rfl := VR.string_inv hx
      refine ⟨_, t.size, VRs.flats hfl, rfl, hM.symm, ?_⟩
      simp only [Builtin.firstCells, Sem.run_pure]
      congr 1
      apply Array.toList_inj.1
      rw [Array.toList_map, tak_eq, Lib.extract_data]
      simp
  · cases h
noncomputable def aCopy (C : Cfg) (T : Tm) (s : St) (t xt : TypeId) (x y : Operand) : Option (Value × List Bool × St) :=
  match C.ty t, ev1 T x, ev1 T y with
  | some (_, .slice e), some (.slice (some ⟨a, q, some z⟩) dn c), some u => match C.ty e with
    | some ei => match cpSrc C s ei.1.size xt u dn with
      | some (n, news, ns, s1) => match aget s1.h a with
        | some (.cells c0 ct cf) => some (.int .i64 (Int.ofNat n), Nat.beq z ei.1.size :: Nat.ble (Nat.add q (Nat.mul n z)) (len c0.toList) :: Nat.ble 1 dn :: not (ro (.cells c0 ct cf)) :: ns, wrS s1 a (.cells ⟨Ev.splice c0.toList q news⟩ ct cf))
        | _ => none
      | none => none
    | none => none
  | _, _, _ => none
theorem aCopy_ok (hC : C.Ok) {o : Oper} {t xt : TypeId} {x y : Operand} (ho : o.op = .call ⟨.builtin .copy, #[x, y], #[t, xt]⟩) {v : Value} {ns : List Bool} {s' : St} (h : aCopy C T s t xt x y = some (v, ns, s')) (hn : ∀ b ∈ ns, b = true) : OpOk C B W0 N o T s v s' := by
  obtain ⟨dst, op, type, pos, after, guard⟩ := o
  obtain rfl : op = _ := ho
  unfold aCopy at h
  split at h
  rotate_left
  · cases h
  rename_i ti e a0 q z dn c u0 ht hx hy
  split at h
  rotate_left
  · cases h
  rename_i ei he
  split at h
  rotate_left
  · cases h
  rename_i n news ns1 s1 hsrc
  split at h
  rotate_left
  · cases h
  rename_i c0 ct cf hc0
  obtain ⟨rfl, rfl, rfl⟩ := s3 h
  have n1 := Nat.eq_of_beq_eq_true (hn (Nat.beq z ei.1.size) (by simp))
  have n2 : q + n * z ≤ len c0.toList := ble_iff.1 (hn (Nat.ble (Nat.add q (Nat.mul n z)) (len c0.toList)) (by simp))
  rw [len_eq] at n2
  have n4 : ro (.cells c0 ct cf) = false := by
    have := hn (not (ro (.cells c0 ct cf))) (by simp)
    revert this; cases ro (.cells c0 ct cf) <;> intro h <;> first | rfl | cases h
  subst n1
  obtain ⟨hs1, ho1, hl1, hdn, key⟩ := cpSrc_ok (B := B) (W0 := W0) hC hsrc (fun b hb => hn b (by simp [hb]))
  have ext1 : Ext s s1 := by
    rcases hs1 with rfl | ⟨b, rfl⟩
    · exact .refl _
    · exact rdS_ext _ _
  refine ⟨ext1.trans (wrS_ext _ _ _ hc0), fun ν m a w tr p => ?_⟩
  obtain ⟨hn0, _⟩ | ⟨g, S, q', c', ex, hν, h1, h2, h3⟩ := VR.slice_inv (ev1_ok tr hx)
  · have := ble_iff.1 (hn (Nat.ble 1 dn) (by simp))
    omega
  obtain ⟨news', k, hv, hlen, hmin, hfirst⟩ := key p (fun i hi => hi) (ev1_ok tr hy)
  have post1 : Post B W0 ν m s s1 ν w := by
    rcases hs1 with rfl | ⟨b, rfl⟩
    · exact .same (p.first (wrS_ext _ _ _ hc0)) rfl rfl rfl p.rel
    · exact .same (p.first (wrS_ext _ _ _ hc0)) rfl rfl rfl p.rel
  have p1 := p.second ext1 (wrS_ext _ _ _ hc0) post1
  obtain ⟨cc, t', f', vs, rest, k1, k2, k3, k4, k5, k6, k7⟩ := rd_row p1 (.inr ((lg_iff _ _ _).2 (.inl rfl))) hc0 hν
  replace k5 := k5 n4
  replace k7 := k7 n4
  have l1 := hv.length
  have l2 := k3.length
  have l3 : cc.size = vs.length + rest.length := by rw [← Array.length_toList, k2, List.length_append]
  have hq : q' = q ∨ news' = [] := by
    rcases h3 with h | h
    · exact .inl h
    · right
      have : n = 0 := by omega
      rw [this, Nat.zero_mul] at hl1
      exact List.eq_nil_of_length_eq_zero (l1 ▸ hl1)
  have hstore : ∃ w', (storeCells ⟨g, q', none⟩ news').run C.P w = .ok () w' ∧ w'.heap[g]? = some (.cells ⟨Ev.splice cc.toList q news'⟩ t' f') ∧ (∀ k, k ≠ g → w'.heap[k]? = w.heap[k]?) ∧ (∀ B W, Below B W w → B ≤ g → Below B W w') := by
    rcases hq with rfl | rfl
    · exact storeCells_run (P := C.P) (g := g) (o := q') (t := t') (f := f') news' 0 cc w k1 (by rw [← l1, hl1]; omega) k5.free (ones_ok ho1 hv)
    · refine ⟨w, rfl, ?_, fun _ _ => rfl, fun _ _ h _ => h⟩
      rw [k1, splice_eq]
      congr 2
      apply Array.toList_inj.1
      simp
  obtain ⟨w', r1, r2, r3, r4⟩ := hstore
  have hcc : Ev.splice cc.toList q news' = Ev.splice vs q news' ++ rest := by
    rw [splice_eq, splice_eq, k2, List.take_append_of_le_length (by omega), List.drop_append_of_le_length (by omega)]
    simp
  have hsz : S = (⟨Ev.splice cc.toList q news'⟩ : Array Value).size := by
    show S = (Ev.splice cc.toList q news').length
    rw [splice_eq, k4]
    have l5 : news'.length = n * ei.1.size := by rw [← l1, hl1]
    have l6 : cc.toList.length = cc.size := rfl
    simp only [List.length_append, List.length_take, List.length_drop, l5, l6]
    omega
  refine ⟨.value (.int .i64 n), w', .int .i64 n, ν, ?_, .inl rfl, .flat rfl, post1.trans ext1 (wrS_ext _ _ _ hc0) (wrS_post p1 hc0 n4 hν r2 ?_ r3 (r4 _ _ p1.rel.below (k6 n4)))⟩
  · have e1 : (C.P.underlying t) = some (.slice e) := (hC.ty _ _ ht).2
    have hcp : (Builtin.copy_ #[t, xt] type #[a.eval x, a.eval y]).run C.P w = .ok (.int .i64 n) w' := by
      rw [ex]
      simp [Builtin.copy_, underlying_run hC ht, sizeOf_run hC he, hlen, hmin, hfirst, r1, goInt]
    simp only [execOp, Sem.run_bind, resolve_builtin, Result.andThen_ok, invoke, builtin]
    rw [show (#[x, y].map a.eval) = #[a.eval x, a.eval y] by simp]
    rw [hcp]
    rfl
  · rw [hsz]
    subst k7
    exact .cells _ rest hcc (k3.splice q hv) (fun _ => ⟨k5.le (Nat.le_of_eq (hsz.symm.trans k4)), rfl⟩)
end
end Go.Ev
