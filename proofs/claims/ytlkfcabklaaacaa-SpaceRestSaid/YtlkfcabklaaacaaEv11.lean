/- Words of my own: the evaluator of code, and that it is right: operations, regions in their order, code, calls. -/
import Derived.Test.YtlkfcabklaaacaaEv18
set_option linter.unusedVariables false
set_option linter.unusedSimpArgs false
namespace Go.Ev
open Go.RowKit
section
variable {C : Cfg} {B : Nat} {W0 : World} {N : Nat} {T : Tm} {s : St}
noncomputable def aOp (C : Cfg) (T : Tm) (s : St) (o : Oper) : Option (Value × List Bool × St) :=
  match o.op with
  | .alloc t => aAlloc C s t
  | .box t x => aBox T s t x
  | .load t x => aLoad C T s t x
  | .store t x y => aStore C T s t x y
  | .build t ps => (aBuild C T t ps).bind fun r => some (r.1, r.2, s)
  | .buildSlice t n ps => aBuildSlice C T s t n ps
  | .makeSlice t x y => aMakeSlice C T s t x y
  | .convert t u x => match aConv C T s t u x with
    | some r => some r
    | none => (aPure C T o).bind fun r => some (r.1, r.2, s)
  | .makeMap t none => aMakeMap s
  | .lookup t x i ok => aLookup C T s t x i ok
  | .mapUpdate t x i y => aMapUpd C T s t x i y
  | .call ⟨.builtin .append, ⟨[x, y]⟩, ⟨[t, xt]⟩⟩ => aAppend C T s t xt x y
  | .call ⟨.builtin .copy, ⟨[x, y]⟩, ⟨[t, xt]⟩⟩ => aCopy C T s t xt x y
  | _ => (aPure C T o).bind fun r => some (r.1, r.2, s)
theorem aOp_ok (hC : C.Ok) (hB : B ≤ W0.heap.size) {o : Oper} {v : Value} {ns : List Bool} {s' : St} (h : aOp C T s o = some (v, ns, s')) (hn : ∀ b ∈ ns, b = true) : OpOk C B W0 N o T s v s' := by
  have pu : ((aPure C T o).bind fun r => some (r.1, r.2, s)) = some (v, ns, s') → OpOk C B W0 N o T s v s' := fun h => by
    obtain ⟨⟨v', ns'⟩, h1, h2⟩ := bd h
    obtain ⟨rfl, rfl, rfl⟩ := s3 h2
    exact aPure_ok hC h1 hn
  unfold aOp at h
  split at h
  · exact aAlloc_ok hC hB ‹_› h hn
  · exact aBox_ok hC hB ‹_› h hn
  · exact aLoad_ok hC ‹_› h hn
  · exact aStore_ok hC ‹_› h hn
  · obtain ⟨⟨v', ns'⟩, h1, h2⟩ := bd h
    obtain ⟨rfl, rfl, rfl⟩ := s3 h2
    exact aBuild_ok hC ‹_› h1 hn
  · exact aBuildSlice_ok hC hB ‹_› h hn
  · exact aMakeSlice_ok hC hB ‹_› h hn
  · split at h
    · rename_i r hr
      obtain rfl := Option.some.inj h
      exact aConv_ok hC hB ‹_› hr hn
    · exact pu h
  · exact aMakeMap_ok hB ‹_› h
  · exact aLookup_ok hC ‹_› h hn
  · exact aMapUpd_ok hC ‹_› h hn
  · exact aAppend_ok hC hB ‹_› h hn
  · exact aCopy_ok hC ‹_› h hn
  · exact pu h
/-- Numbers and bools, worked out before they go on. -/
noncomputable def forceN {α : Type} (n : Nat) (k : Nat → α) : α := Nat.rec (motive := fun _ => α) (k 0) (fun m _ => k (Nat.succ m)) n
theorem forceN_eq {α : Type} (n : Nat) (k : Nat → α) : forceN n k = k n := by cases n <;> rfl
noncomputable def forceV {α : Type} (v : Value) (k : Value → α) : α :=
  match v with
  | .int kd n => Int.rec (motive := fun _ => α) (fun m => forceN m fun m => k (.int kd (.ofNat m))) (fun m => forceN m fun m => k (.int kd (.negSucc m))) n
  | .bool b => Bool.rec (motive := fun _ => α) (k (.bool false)) (k (.bool true)) b
  | .pointer (some ⟨a, o, p⟩) => forceN a fun a => forceN o fun o => k (.pointer (some ⟨a, o, p⟩))
  | .slice (some ⟨a, o, p⟩) n c => forceN a fun a => forceN o fun o => forceN n fun n => k (.slice (some ⟨a, o, p⟩) n c)
  | v => k v
theorem forceV_eq {α : Type} (v : Value) (k : Value → α) : forceV v k = k v := by
  unfold forceV
  split
  · rename_i kd n; cases n <;> exact forceN_eq _ _
  · rename_i b; cases b <;> rfl
  · rw [forceN_eq, forceN_eq]
  · rw [forceN_eq, forceN_eq, forceN_eq]
  · rfl
/-- Is an operation wanted? -/
noncomputable def aWanted (ops : List Oper) (T : Tm) (o : Oper) : Option Bool :=
  match o.guard with
  | none => some true
  | some (j, want) => match nth ops j with
    | some oj => match oj.dst with
      | some d => match aget T d with
        | some (.bool b) => some (Bool.rec (motive := fun _ => Bool) (Bool.rec (motive := fun _ => Bool) true false want) want b)
        | some (.tuple ⟨[]⟩) => some false
        | _ => none
      | none => none
    | none => none
theorem aWanted_ok {ops : Array Oper} {ν : Ren} {a : Act} (tr : TR N ν T a) {o : Oper} {b : Bool} (h : aWanted ops.toList T o = some b) : Region.wanted o (yielded ops a.tmps) = b := by
  unfold aWanted at h
  unfold Region.wanted
  split at h
  · rename_i hg
    rw [hg]
    exact Option.some.inj h
  · rename_i j want hg
    rw [hg]
    split at h
    rotate_left
    · cases h
    rename_i oj hj
    rw [nth_eq, Array.getElem?_toList] at hj
    split at h
    rotate_left
    · cases h
    rename_i d hd
    split at h
    · rename_i c hc
      obtain ⟨u, h1, h2⟩ := tr.get _ _ hc
      obtain rfl := VR.bool_inv h2
      have : yielded ops a.tmps j = some c := by simp [yielded, hj, hd, h1]
      simp only [this]
      obtain rfl := Option.some.inj h
      cases c <;> cases want <;> rfl
    · rename_i hc
      obtain ⟨u, h1, h2⟩ := tr.get _ _ hc
      obtain rfl := VR.eq_of_plain rfl h2
      have : yielded ops a.tmps j = none := by simp [yielded, hj, hd, h1]
      simp only [this]
      obtain rfl := Option.some.inj h
      cases want <;> rfl
    · cases h
/-- The deferred calls: closures without arguments. -/
inductive DefR (ν : Ren) : List Value → List Deferred → Prop
  | nil : DefR ν [] []
  | cons {g : FuncId} {c c' : Array Value} {l : List Value} {l' : List Deferred} (h : VRs ν c.toList c'.toList) (t : DefR ν l l') : DefR ν (.func (.func g) #[] c :: l) ({ target := .fn (.func g) c', args := #[] } :: l')
theorem DefR.mono {ν ν' : Ren} (hν : ν.le ν') {l : List Value} {l' : List Deferred} (h : DefR ν l l') : DefR ν' l l' := by
  induction h with
  | nil => exact .nil
  | cons h _ ih => exact .cons (h.mono hν) ih
noncomputable def sd (s : St) (d : List Value) : St := { h := s.h, nx := s.nx, rd := s.rd, wr := s.wr, df := d }
theorem Ext.sd {a b : St} (h : Ext a b) (d : List Value) : Ext a (Ev.sd b d) := ⟨h.rd, h.wr, h.nx, h.fr, h.wf⟩
/-- How a piece of code ends. -/
inductive Out where
  | normal
  | exit (id : Nat)
  | ret
  | panic (v : Value)
abbrev CallF := FuncId → List Value → St → Option (Out × Value × St)
noncomputable def putT (N : Nat) (o : Oper) (T : Tm) (v : Value) : Option Tm :=
  match o.dst with
  | none => some T
  | some d => Bool.rec (motive := fun _ => Option Tm) none (some (aput T d v)) (Nat.ble (Nat.succ d) N)
theorem putT_ok {ν : Ren} {a : Act} (tr : TR N ν T a) {o : Oper} {v u : Value} {T' : Tm} (h : putT N o T v = some T') (hv : VR ν v u) : TR N ν T' (a.put o.dst u) := by
  unfold putT at h
  split at h
  · rename_i hd
    obtain rfl := Option.some.inj h
    rw [hd]; exact tr
  · rename_i d hd
    rw [hd]
    cases hb : Nat.ble (Nat.succ d) N <;> rw [hb] at h
    · cases h
    · obtain rfl := Option.some.inj h
      exact tr.put (ble_iff.1 hb) hv
noncomputable def allB (l : List Bool) : Bool := List.rec (motive := fun _ => Bool) true (fun b _ ih => Bool.rec (motive := fun _ => Bool) false ih b) l
theorem allB_iff : ∀ {l : List Bool}, allB l = true → ∀ b ∈ l, b = true
  | [], _, _, h => by cases h
  | b :: l, h, c, hc => by
    change Bool.rec (motive := fun _ => Bool) false (allB l) b = true at h
    cases b
    · cases h
    · rcases List.mem_cons.1 hc with rfl | hc
      · rfl
      · exact allB_iff h c hc
/-- Two functions of Go's library without a body: a slice's length, asked of an interface value. -/
noncomputable def aExt (C : Cfg) (s : St) (k : Nat) (vs : List Value) : Option (Value × List Bool × St) :=
  match k, vs with
  | 1, [.iface t (.slice p n c)] => match C.ty t with
    | some (i, _) => match i.desc with
      | .slice _ => some (.agg #[.pointer (some ⟨C.P.globals.size, t, some 1⟩), .pointer (some ⟨s.nx, 0, none⟩), .int .u64 151], [], newB s (.cells #[.slice p n c] t (0, 0)))
      | _ => none
    | none => none
  | 2, [.agg ⟨[.pointer (some ⟨g, t, some 1⟩), .pointer (some ⟨a, 0, none⟩), .int .u64 151]⟩] => match C.ty t, aget s.h a with
    | some (i, _), some (.cells ⟨.slice p n c :: l⟩ _ _) => match i.desc with
      | .slice _ => some (.int .i64 (Int.ofNat n), [Nat.beq g C.P.globals.size, Bool.rec (motive := fun _ => Bool) true false (C.P.packed t)], rdS s a)
      | _ => none
    | _, _ => none
  | _, _ => none
theorem aExt_ok (hC : C.Ok) (hB : B ≤ W0.heap.size) {g k : Nat} (hx : C.xt g = some k) {vs : List Value} {v : Value} {ns : List Bool} {s' : St} (h : aExt C s k vs = some (v, ns, s')) (hn : ∀ b ∈ ns, b = true) :
    Ext s s' ∧ ∀ (ν : Ren) (m : Nat → Option Obj) (w : World) (vs' : Array Value), VRs ν vs vs'.toList → Pre B W0 ν m s s' w → ∃ w' u ν', (callFunc g vs').run C.P w = .ok (.value u) w' ∧ VR ν' v u ∧ Post B W0 ν m s s' ν' w' := by
  unfold aExt at h
  split at h
  · rename_i t p n c
    split at h
    rotate_left
    · cases h
    rename_i i d ht
    split at h
    rotate_left
    · cases h
    rename_i e hd
    obtain ⟨rfl, rfl, rfl⟩ := s3 h
    refine ⟨newB_ext _ _, fun ν m w vs' hv pr => ?_⟩
    have : ∃ p' c', vs' = #[.iface t (.slice p' n c')] ∧ VR ν (.slice p n c) (.slice p' n c') := by
      obtain ⟨l'⟩ := vs'
      cases hv with
      | cons h1 h2 =>
        cases h2
        cases h1 with
        | flat h => simp [flat] at h
        | iface h =>
          cases h with
          | flat h => exact ⟨_, _, rfl, .flat h⟩
          | slice a b c d => exact ⟨_, _, rfl, .slice a b c d⟩
          | nilS => exact ⟨_, _, rfl, .nilS⟩
    obtain ⟨p', c', rfl, hsl⟩ := this
    obtain ⟨ν', h1, h2, h3⟩ := new_post (c' := #[.slice p' n c']) hB pr (.cons hsl .nil)
    refine ⟨_, _, ν', hC.x1 g hx _ _ _ _ (Lib.run_valueOf_slice t e i (hC.ty _ _ ht).1 hd p' n c' w), ?_, h3⟩
    refine VR.agg_iff.2 ⟨_, rfl, .cons .stat (.cons h1 (.cons (.flat rfl) .nil))⟩
  · rename_i g' t a
    split at h
    rotate_left
    · cases h
    rename_i i d p n c l ct cf ht hc
    split at h
    rotate_left
    · cases h
    rename_i e hd
    obtain ⟨rfl, rfl, rfl⟩ := s3 h
    have n1 := Nat.eq_of_beq_eq_true (hn (Nat.beq g' C.P.globals.size) (by simp))
    have n2 : C.P.packed t = false := by
      have := hn (Bool.rec (motive := fun _ => Bool) true false (C.P.packed t)) (by simp)
      cases hp : C.P.packed t
      · rfl
      · rw [hp] at this; cases this
    subst n1
    refine ⟨rdS_ext _ _, fun ν m w vs' hv pr => ?_⟩
    have : ∃ q S, vs' = #[.agg #[typeHandle C.P t, .pointer (some ⟨q, 0, none⟩), .int .u64 151]] ∧ ν a = some (q, S) := by
      obtain ⟨l'⟩ := vs'
      cases hv with
      | cons h1 h2 =>
        cases h2
        obtain ⟨⟨r⟩, rfl, hr⟩ := VR.agg_iff.1 h1
        cases hr with
        | cons q1 q2 => cases q2 with
          | cons q3 q4 => cases q4 with
            | cons q5 q6 =>
              cases q6
              obtain ⟨q, S, rfl, hν⟩ := VR.ptr_inv q3
              obtain rfl := VR.int_inv q5
              refine ⟨q, S, ?_, hν⟩
              cases q1 with
              | flat h => simp [flat] at h
              | stat => rfl
    obtain ⟨q, S, rfl, hν⟩ := this
    obtain ⟨cc, t', f', vs1, rest, k1, k2, k3, k4, k5, k6, k7⟩ := rd_row pr (.inl ((lg_iff _ _ _).2 (.inl rfl))) hc hν
    have : ∃ p' c', w.cell? ⟨q, 0, none⟩ = some (.slice p' n c') := by
      rw [cell_of k1, ← Array.getElem?_toList, k2]
      cases k3 with
      | cons h1 h2 =>
        cases h1 with
        | flat h => exact ⟨_, _, rfl⟩
        | slice a b c d => exact ⟨_, _, rfl⟩
        | nilS => exact ⟨_, _, rfl⟩
    obtain ⟨p', c', hcell⟩ := this
    exact ⟨w, _, ν, hC.x2 g hx _ _ _ _ (Lib.run_valueLen_slice t e i (hC.ty _ _ ht).1 hd n2 ⟨q, 0, none⟩ p' n c' w hcell), .flat rfl, .same pr rfl rfl rfl pr.rel⟩
  · cases h
/-- One operation. -/
noncomputable def stepOp (call : CallF) (C : Cfg) (N : Nat) (ops : List Oper) (o : Oper) (T : Tm) (s : St) : Option (Out × Value × St) :=
  match aWanted ops T o with
  | none => none
  | some false => some (.normal, undef, s)
  | some true => match o.op with
    | .call ⟨.value f, args, _⟩ => match ev1 T f, evs T args.toList with
      | some (.func (.func g) ⟨[]⟩ cap), some vs => match C.xt g with
        | none => match C.pc g (app vs cap.toList) with
          | some v => some (.normal, v, s)
          | none => call g (app vs cap.toList) s
        | some k => match aExt C s k (app vs cap.toList) with
          | some (v, ns, s') => Bool.rec (motive := fun _ => Option (Out × Value × St)) none (some (.normal, v, s')) (allB ns)
          | none => none
      | _, _ => none
    | .panic x => match ev1 T x with
      | some (.iface t v) => Bool.rec (motive := fun _ => Option (Out × Value × St)) none (some (.panic (.iface t v), undef, s)) (plain (.iface t v))
      | _ => none
    | _ => match aOp C T s o with
      | some (v, ns, s') => Bool.rec (motive := fun _ => Option (Out × Value × St)) none (some (.normal, v, s')) (allB ns)
      | none => none
/-- Operations in their order. -/
noncomputable def evDefer (T : Tm) (ops : List Oper) (o : Oper) (c : Call) : Option Value :=
  match c.callee, c.args.toList, aWanted ops T o with
  | .value f, [], some true => match ev1 T f with
    | some (.func (.func g) ⟨[]⟩ cap) => some (.func (.func g) #[] cap)
    | _ => none
  | _, _, _ => none
noncomputable def evOps (call : CallF) (C : Cfg) (N : Nat) (ops : List Oper) (l : List Oper) : Tm → St → Option (Out × Tm × St) :=
  List.rec (motive := fun _ => Tm → St → Option (Out × Tm × St)) (fun T s => some (.normal, T, s)) (fun o _ ih T s => match o.op with
    | .defer c => match evDefer T ops o c, putT N o T undef with
      | some v, some T' => ih T' (sd s (v :: s.df))
      | _, _ => none
    | _ => match stepOp call C N ops o T s with
      | some (.normal, v, s') => forceV v fun v => match putT N o T v with
        | some T' => ih T' (sd s' s.df)
        | none => none
      | some (.panic v, _, s') => some (.panic v, T, sd s' s.df)
      | _ => none) l
end
section
variable {C : Cfg} {B : Nat} {W0 : World} {N : Nat} {T : Tm} {s : St}
def exitOf : Out → Exit
  | .normal => .normal
  | .exit id => .exit id
  | .ret => .ret
  | .panic v => .panic [{ v, recovered := false }]
/-- What a call says. -/
def CallOk (C : Cfg) (B : Nat) (W0 : World) (call : CallF) : Prop :=
  ∀ g vs s e v s', call g vs s = some (e, v, s') → Ext s s' ∧ (e = .normal ∨ ∃ p, e = .panic p) ∧ (∃ fn, C.P.funcs[g]? = some fn ∧ fn.name ≠ "runtime.NumGoroutine" ∧ fn.body.isSome = true) ∧ ∀ (ν : Ren) (m : Nat → Option Obj) (w : World) (vs' : Array Value), VRs ν vs vs'.toList → Pre B W0 ν m s s' w →
    Calls C.P g vs' w fun e' w' => ∃ ν', Post B W0 ν m s s' ν' w' ∧ ((e = .normal ∧ ∃ u, e' = .returned u ∧ VR ν' v u) ∨ ∃ p, e = .panic p ∧ e' = .panicked [{ v := p, recovered := false }])
/-- What holds behind a piece of code. -/
def QOk (B : Nat) (W0 : World) (N : Nat) (ν : Ren) (m : Nat → Option Obj) (s : St) (e : Out) (T' : Tm) (s' : St) (Q : Exit → Act → World → Prop) : Prop :=
  ∀ ν' a' w', TR N ν' T' a' → DefR ν' s'.df a'.defers → Post B W0 ν m s s' ν' w' → Q (exitOf e) a' w'
/-- An operation's step, not wanted or done. -/
def wpOp1 (P : Program) (ops : Array Oper) (Q : Exit → Act → World → Prop) (o : Oper) (K : Act → World → Prop) (a : Act) (w : World) : Prop :=
  (Region.wanted o (yielded ops a.tmps) = false ∧ K (a.put o.dst undef) w) ∨ (Region.wanted o (yielded ops a.tmps) = true ∧ o.wp P a w K Q)
theorem wpOp1.op {P : Program} {ops : Array Oper} {Q : Exit → Act → World → Prop} {o : Oper} {K : Act → World → Prop} {a : Act} {w : World} {i : Nat} (hi : ops[i]? = some o) (h : wpOp1 P ops Q o K a w) : wpOp P ops Q i K a w := by
  unfold wpOp
  rcases h with ⟨h1, h2⟩ | ⟨h1, h2⟩
  · simp only [hi, h1, Bool.false_eq_true, if_false]; exact h2
  · simp only [hi, h1, if_true]; exact .inl h2
theorem stepOp_ok (hC : C.Ok) (hB : B ≤ W0.heap.size) {call : CallF} (hcall : CallOk C B W0 call) {ops : Array Oper} {o : Oper} {e : Out} {v : Value} {s' : St} (h : stepOp call C N ops.toList o T s = some (e, v, s')) :
    Ext s s' ∧ (e = .normal ∨ ∃ p, e = .panic p) ∧ ∀ (ν : Ren) (m : Nat → Option Obj) (a : Act) (w : World) (K : Act → World → Prop) (Q : Exit → Act → World → Prop), TR N ν T a → Pre B W0 ν m s s' w →
      (e = .normal → ∀ ν' u w', VR ν' v u → Post B W0 ν m s s' ν' w' → K (a.put o.dst u) w') → (∀ p, e = .panic p → ∀ ν' w', Post B W0 ν m s s' ν' w' → Q (.panic [{ v := p, recovered := false }]) a w') → wpOp1 C.P ops Q o K a w := by
  unfold stepOp at h
  split at h
  · cases h
  · rename_i hw
    obtain ⟨rfl, rfl, rfl⟩ := s3 h
    refine ⟨.refl s, .inl rfl, fun ν m a w K Q tr p hk _ => ?_⟩
    exact .inl ⟨aWanted_ok tr hw, hk rfl ν undef w (VR.of_plain rfl) (.refl p)⟩
  · rename_i hw
    split at h
    · -- a call
      rename_i f args tys hop
      split at h
      rotate_left
      · cases h
      rename_i g cap vs hf hvs
      obtain ⟨dst, op, type, pos, after, guard⟩ := o
      obtain rfl : op = _ := hop
      split at h
      rotate_left
      · rename_i k hxt
        split at h
        rotate_left
        · cases h
        rename_i v1 ns s1 hop
        cases hb : allB ns <;> rw [hb] at h
        · cases h
        obtain ⟨rfl, rfl, rfl⟩ := s3 h
        obtain ⟨ext, key⟩ := aExt_ok (B := B) (W0 := W0) hC hB hxt hop (allB_iff hb)
        refine ⟨ext, .inl rfl, fun ν m a w K Q tr p hk _ => ?_⟩
        obtain ⟨cap', e1, hcap⟩ := VR.fn_iff.1 (ev1_ok tr hf)
        have hv := evs_ok tr hvs
        have hvr : VRs ν (app vs cap.toList) (args.map a.eval ++ cap').toList := by
          rw [app_eq, Array.toList_append, Array.toList_map]
          exact hv.app hcap
        obtain ⟨w', u, ν', hrun, hvu, hp⟩ := key ν m w _ hvr p
        have hrun' : (execOp a.eval ⟨dst, .call ⟨.value f, args, tys⟩, type, pos, after, guard⟩).run C.P w = .ok (.value u) w' := by
          simp only [execOp, resolve, e1, Deferred.ofValue, Sem.run_bind, Sem.run_pure, Result.andThen_ok, invoke]
          rw [show (#[] ++ args.map a.eval) = args.map a.eval by simp]
          exact hrun
        refine .inr ⟨aWanted_ok tr hw, ?_⟩
        unfold Oper.wp
        rw [hrun']
        exact hk rfl ν' u w' hvu hp
      split at h
      · rename_i v1 hpc
        obtain ⟨rfl, rfl, rfl⟩ := s3 h
        obtain ⟨hpl, hal, ⟨fn, hfn, hnm, hbd⟩, hc⟩ := hC.pc _ _ _ hpc
        refine ⟨.refl s, .inl rfl, fun ν m a w K Q tr p hk hp => ?_⟩
        obtain ⟨cap', e1, hcap⟩ := VR.fn_iff.1 (ev1_ok tr hf)
        have hv := evs_ok tr hvs
        have hb2 : ¬ fn.body = none := fun hh => by rw [hh] at hbd; cases hbd
        have hrun : (execOp a.eval ⟨dst, .call ⟨.value f, args, tys⟩, type, pos, after, guard⟩).run C.P w = .ok (.enter g (args.map a.eval ++ cap')) w := by
          simp [execOp, resolve, e1, Deferred.ofValue, invoke, Go.callFunc, hfn, hnm, hb2]
        have hvr : VRs ν (app vs cap.toList) (args.map a.eval ++ cap').toList := by
          rw [app_eq, Array.toList_append, Array.toList_map]
          exact hv.app hcap
        have hargs : args.map a.eval ++ cap' = (app vs cap.toList).toArray := by
          apply Array.toList_inj.1
          rw [VRs.eq_of_plains hal hvr]
        refine .inr ⟨aWanted_ok tr hw, ?_⟩
        unfold Oper.wp
        rw [hrun, hargs]
        refine Calls.mono (hc w) fun e' w' he => ?_
        obtain ⟨rfl, hb⟩ := he
        exact hk rfl ν v1 w' (VR.of_plain hpl) (.same p rfl rfl rfl (p.rel.below_of hb (p.rel.size hB)))
      obtain ⟨ext, hne, ⟨fn, hfn, hnm, hbd⟩, hc⟩ := hcall _ _ _ _ _ _ h
      refine ⟨ext, hne, fun ν m a w K Q tr p hk hp => ?_⟩
      obtain ⟨cap', e1, hcap⟩ := VR.fn_iff.1 (ev1_ok tr hf)
      have hv := evs_ok tr hvs
      have hb2 : ¬ fn.body = none := fun hh => by rw [hh] at hbd; cases hbd
      have hrun : (execOp a.eval ⟨dst, .call ⟨.value f, args, tys⟩, type, pos, after, guard⟩).run C.P w = .ok (.enter g (args.map a.eval ++ cap')) w := by
        simp [execOp, resolve, e1, Deferred.ofValue, invoke, callFunc, hfn, hnm, hb2]
      have hvr : VRs ν (app vs cap.toList) (args.map a.eval ++ cap').toList := by
        rw [app_eq, Array.toList_append, Array.toList_map]
        exact hv.app hcap
      refine .inr ⟨aWanted_ok tr hw, ?_⟩
      unfold Oper.wp
      rw [hrun]
      refine Calls.mono (hc ν m w _ hvr p) fun e' w' he => ?_
      obtain ⟨ν', hpost, ⟨rfl, u, rfl, hu⟩ | ⟨q, rfl, rfl⟩⟩ := he
      · exact hk rfl ν' u w' hu hpost
      · exact hp q rfl ν' w' hpost
    · -- a panic
      rename_i x hop
      split at h
      rotate_left
      · cases h
      rename_i t v0 hx
      cases hfl : plain (.iface t v0) <;> rw [hfl] at h
      · cases h
      obtain ⟨rfl, rfl, rfl⟩ := s3 h
      refine ⟨.refl s, .inr ⟨_, rfl⟩, fun ν m a w K Q tr p _ hp => ?_⟩
      refine .inr ⟨aWanted_ok tr hw, ?_⟩
      have e1 : a.eval x = .iface t v0 := VR.eq_of_plain hfl (ev1_ok tr hx)
      have : (execOp a.eval o).run C.P w = .halt (.panic (.iface t v0)) w := by
        simp [execOp, hop, e1, Instr.panic]
      unfold Oper.wp
      rw [this]
      exact hp _ rfl ν w (.refl p)
    · split at h
      rotate_left
      · cases h
      rename_i v1 ns s1 hop
      cases hb : allB ns <;> rw [hb] at h
      · cases h
      obtain ⟨rfl, rfl, rfl⟩ := s3 h
      obtain ⟨ext, key⟩ := aOp_ok (N := N) hC hB hop (allB_iff hb)
      refine ⟨ext, .inl rfl, fun ν m a w K Q tr p hk _ => ?_⟩
      obtain ⟨n, w', u, ν', hrun, hn, hv, hp⟩ := key ν m a w tr p
      refine .inr ⟨aWanted_ok tr hw, ?_⟩
      unfold Oper.wp
      rw [hrun]
      rcases hn with rfl | ⟨rfl, rfl⟩
      · exact hk rfl ν' u w' hv hp
      · exact hk rfl ν' undef w' hv hp
theorem evOps_ok (hC : C.Ok) (hB : B ≤ W0.heap.size) {call : CallF} (hcall : CallOk C B W0 call) {ops : Array Oper} : ∀ (l : List Oper) (i : Nat) (T : Tm) (s : St) (e : Out) (T' : Tm) (s' : St), ops.toList.drop i = l → evOps call C N ops.toList l T s = some (e, T', s') →
    Ext s s' ∧ ∀ (ν : Ren) (m : Nat → Option Obj) (a : Act) (w : World) (Q : Exit → Act → World → Prop), TR N ν T a → DefR ν s.df a.defers → Pre B W0 ν m s s' w → QOk B W0 N ν m s e T' s' Q → wpOps C.P ops Q (List.range' i l.length) a w
  | [], i, T, s, e, T', s', hl, h => by
    obtain ⟨rfl, rfl, rfl⟩ := s3 h
    exact ⟨.refl s, fun ν m a w Q tr dr p hq => hq ν a w tr dr (.refl p)⟩
  | o :: l, i, T, s, e, T', s', hl, h => by
    have hi : ops[i]? = some o := by
      have : (ops.toList.drop i)[0]? = some o := by rw [hl]; rfl
      rw [List.getElem?_drop] at this
      simpa using this
    have hl' : ops.toList.drop (i + 1) = l := by
      rw [← List.drop_drop, hl]; rfl
    change (match o.op with
      | .defer c => match evDefer T ops.toList o c, putT N o T undef with
        | some v, some T' => evOps call C N ops.toList l T' (sd s (v :: s.df))
        | _, _ => none
      | _ => match stepOp call C N ops.toList o T s with
        | some (.normal, v, s') => forceV v fun v => match putT N o T v with
          | some T' => evOps call C N ops.toList l T' (sd s' s.df)
          | none => none
        | some (.panic v, _, s') => some (.panic v, T, sd s' s.df)
        | _ => none) = some (e, T', s') at h
    split at h
    · -- a deferred call
      rename_i c hop
      split at h
      rotate_left
      · cases h
      rename_i v T1 hv hT
      unfold evDefer at hv
      split at hv
      rotate_left
      · cases hv
      rename_i f hcal hargs hwant
      split at hv
      rotate_left
      · cases hv
      rename_i g cap hf
      obtain rfl := Option.some.inj hv
      obtain ⟨e2, k2⟩ := evOps_ok hC hB hcall l (i + 1) T1 _ e T' s' hl' h
      have e1 : Ext s (sd s (.func (.func g) #[] cap :: s.df)) := (Ext.refl s).sd _
      refine ⟨e1.trans e2, fun ν m a w Q tr dr p hq => ?_⟩
      rw [List.length_cons, List.range'_succ, wpOps_cons]
      obtain ⟨cap', ef, hcap⟩ := VR.fn_iff.1 (ev1_ok tr hf)
      have hrun : (execOp a.eval o).run C.P w = .ok (.defer { target := .fn (.func g) cap', args := #[] }) w := by
        have ha : c.args = #[] := Array.toList_inj.1 hargs
        simp [execOp, hop, resolve, hcal, ef, Deferred.ofValue, ha]
      refine wpOp1.op hi (.inr ⟨aWanted_ok tr hwant, ?_⟩)
      unfold Oper.wp
      rw [hrun]
      have p1 := p.first e2
      have post1 : Post B W0 ν m s (sd s (.func (.func g) #[] cap :: s.df)) ν w := .same p1 rfl rfl rfl p.rel
      have tr0 : TR N ν T { a with defers := { target := .fn (.func g) cap', args := #[] } :: a.defers } := ⟨tr.size, tr.get⟩
      refine k2 ν _ _ w Q (putT_ok tr0 hT (VR.of_plain rfl)) ?_ (p.second e1 e2 post1) fun ν'' a' w'' tr'' hd hp' => hq ν'' a' w'' tr'' hd (post1.trans e1 e2 hp')
      have : (({ a with defers := { target := .fn (.func g) cap', args := #[] } :: a.defers } : Act).put o.dst undef).defers = { target := .fn (.func g) cap', args := #[] } :: a.defers := by cases o.dst <;> rfl
      rw [this]
      exact .cons hcap dr
    split at h
    · rename_i v s1 hs
      rw [forceV_eq] at h
      split at h
      rotate_left
      · cases h
      rename_i T1 hT
      obtain ⟨e1, _, k1⟩ := stepOp_ok (B := B) (W0 := W0) hC hB hcall hs
      obtain ⟨e2, k2⟩ := evOps_ok hC hB hcall l (i + 1) T1 _ e T' s' hl' h
      have e1 := e1.sd s.df
      refine ⟨e1.trans e2, fun ν m a w Q tr dr p hq => ?_⟩
      rw [List.length_cons, List.range'_succ, wpOps_cons]
      have p1 := p.first e2
      refine wpOp1.op hi (k1 ν m a w _ Q tr ⟨p1.agree, p1.fresh, p1.wf, p1.rel⟩ (fun _ ν' u w' hu hp => ?_) (fun q hq => by cases hq))
      have hp : Post B W0 ν m s (sd s1 s.df) ν' w' := ⟨hp.le, hp.new, hp.rel⟩
      refine k2 ν' _ (a.put o.dst u) w' Q (putT_ok (tr.mono hp.le) hT hu) (by
        have : (a.put o.dst u).defers = a.defers := by cases o.dst <;> rfl
        rw [this]
        exact dr.mono hp.le) (p.second e1 e2 hp) fun ν'' a' w'' tr'' hd hp' => ?_
      exact hq ν'' a' w'' tr'' hd (hp.trans e1 e2 hp')
    · rename_i v _ s1 hs
      obtain ⟨rfl, rfl, rfl⟩ := s3 h
      obtain ⟨e1, _, k1⟩ := stepOp_ok (B := B) (W0 := W0) hC hB hcall hs
      refine ⟨e1.sd _, fun ν m a w Q tr dr p hq => ?_⟩
      rw [List.length_cons, List.range'_succ, wpOps_cons]
      refine wpOp1.op hi (k1 ν m a w _ Q tr ⟨p.agree, p.fresh, p.wf, p.rel⟩ (fun h => by cases h) (fun q hqe ν' w' hp => ?_))
      cases hqe
      exact hq ν' a w' (tr.mono hp.le) (dr.mono hp.le) ⟨hp.le, hp.new, hp.rel⟩
    · cases h
end
end Go.Ev
