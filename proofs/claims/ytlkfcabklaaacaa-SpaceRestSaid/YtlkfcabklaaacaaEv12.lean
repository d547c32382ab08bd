/- Words of my own: the evaluator of code and of calls, and that it is right. -/
import Derived.Test.YtlkfcabklaaacaaEv11
import Derived.Recover
set_option linter.unusedVariables false
set_option linter.unusedSimpArgs false
namespace Go.Ev
open Go.RowKit
abbrev CodeF := Nat → Code → Tm → St → Option (Out × Tm × St)
noncomputable def forceT {α : Type} (T : Tm) (k : Tm → α) : α := List.rec (motive := fun _ => (Tm → α) → α) (fun k => k []) (fun p _ ih k => forceV p.2 fun v => ih fun r => k ((p.1, v) :: r)) T k
theorem forceT_eq {α : Type} : ∀ (T : Tm) (k : Tm → α), forceT T k = k T
  | [], k => rfl
  | p :: T, k => by
    show forceV p.2 (fun v => forceT T fun r => k ((p.1, v) :: r)) = _
    rw [forceV_eq, forceT_eq T]
/-- A region whose order is drawn: left out here. -/
noncomputable def codeF (C : Cfg) (dr : CallF → Nat → Array Oper → Tm → St → Option (Out × Tm × St)) (call : CallF) (self : CodeF) (N : Nat) (c : Code) (T : Tm) (s : St) : Option (Out × Tm × St) :=
  match c with
  | .skip => some (.normal, T, s)
  | .label _ => some (.normal, T, s)
  | .region _ ops false => evOps call C N ops.toList ops.toList T s
  | .region _ ops true => dr call N ops T s
  | .seq x y => match self N x T s with
    | some (.normal, T', s') => self N y T' s'
    | r => r
  | .cond x y z => match ev1 T x with
    | some (.bool b) => Bool.rec (motive := fun _ => Option (Out × Tm × St)) (self N z T s) (self N y T s) b
    | _ => none
  | .block id x => match self N x T s with
    | some (.exit id', T', s') => Bool.rec (motive := fun _ => Option (Out × Tm × St)) (some (.exit id', T', s')) (some (.normal, T', s')) (Nat.beq id' id)
    | r => r
  | .loop x => forceT T fun T => match self N x T s with
    | some (.normal, T', s') => self N (.loop x) T' s'
    | r => r
  | .exit id => some (.exit id, T, s)
  | .ret => some (.ret, T, s)
  | _ => none
noncomputable def aRes1 (C : Cfg) (T : Tm) (ih : St → Option (List Value × List Bool × St)) (s : St) : ResultVar → Option (List Value × List Bool × St)
  | .tmp t => (aget T t).bind fun v => (ih s).bind fun q => some (v :: q.1, q.2.1, q.2.2)
  | .cell a t => (aget T a).bind fun p => (aLoadV C s t p).bind fun r => (ih r.2.2).bind fun q => some (r.1 :: q.1, app r.2.1 q.2.1, q.2.2)
noncomputable def aRes (C : Cfg) (T : Tm) (l : List ResultVar) : St → Option (List Value × List Bool × St) :=
  List.rec (motive := fun _ => St → Option (List Value × List Bool × St)) (fun s => some ([], [], s)) (fun r _ ih s => aRes1 C T ih s r) l
noncomputable def oneOf (l : List Value) : Value :=
  match l with
  | [v] => v
  | l => .tuple ⟨l⟩
noncomputable def zipT (vs : List Value) : Nat → Tm := List.rec (motive := fun _ => Nat → Tm) (fun _ => []) (fun v _ ih i => (i, v) :: ih (Nat.succ i)) vs
/-- Is nothing of what is new still wanted? Then memory is as it was, but for what was written. -/
noncomputable def flatO : Option Obj → Bool
  | some (.cells c _ _) => flats c.toList
  | none => true
  | _ => false
noncomputable def olds (n n' : Nat) (l : List Nat) : List Nat := List.rec (motive := fun _ => List Nat) [] (fun a _ ih => Bool.rec (motive := fun _ => List Nat) (a :: ih) (Bool.rec (motive := fun _ => List Nat) (a :: ih) ih (Nat.ble (Nat.succ a) n')) (Nat.ble n a)) l
noncomputable def mrg (l l' : List Nat) : List Nat := List.rec (motive := fun _ => List Nat) l (fun a _ ih => lg ih a) l'
noncomputable def allW (h : List (Nat × Obj)) (l : List Nat) : Bool := List.rec (motive := fun _ => Bool) true (fun a _ ih => Bool.rec (motive := fun _ => Bool) false ih (flatO (aget h a))) l
noncomputable def putW (h' : List (Nat × Obj)) (l : List Nat) : List (Nat × Obj) → List (Nat × Obj) := List.rec (motive := fun _ => List (Nat × Obj) → List (Nat × Obj)) (fun h => h) (fun a _ ih h => match aget h' a with
  | some o => ih (aput h a o)
  | none => ih (adel h a)) l
noncomputable def gcS (s s' : St) (v : Value) : St :=
  { h := Bool.rec (motive := fun _ => List (Nat × Obj)) s'.h (putW s'.h (olds s.nx s'.nx s'.wr) s.h) (Bool.rec (motive := fun _ => Bool) false (allW s'.h (olds s.nx s'.nx s'.wr)) (plain v)),
    nx := s'.nx, rd := mrg s.rd (olds s.nx s'.nx s'.rd), wr := mrg s.wr (olds s.nx s'.nx s'.wr), df := s.df }
noncomputable def fresh0 (s : St) : St := { h := s.h, nx := s.nx, rd := [], wr := [], df := [] }
/-- A deferred function's code: it may recover what its caller panics with. -/
def modeOf : Option (Value × Bool) → FrameMode
  | none => .returning
  | some (v, r) => .panicking [{ v, recovered := r }]
noncomputable def recF (T : Tm) (ops : List Oper) (o : Oper) (N : Nat) (u : Option (Value × Bool)) : Option (Tm × Option (Value × Bool)) :=
  match aWanted ops T o, u with
  | some true, some (v, false) => match plain v, putT N o T v with
    | true, some T' => some (T', some (v, true))
    | _, _ => none
  | some true, u => (putT N o T .nilIface).bind fun T' => some (T', u)
  | _, _ => none
noncomputable def evOpsD (call : CallF) (C : Cfg) (N : Nat) (ops : List Oper) (l : List Oper) : Tm → St → Option (Value × Bool) → Option (Tm × St × Option (Value × Bool)) :=
  List.rec (motive := fun _ => Tm → St → Option (Value × Bool) → Option (Tm × St × Option (Value × Bool))) (fun T s u => some (T, s, u)) (fun o _ ih T s u => match o.op with
    | .call ⟨.builtin .recover, _, _⟩ => (recF T ops o N u).bind fun r => ih r.1 s r.2
    | _ => match stepOp call C N ops o T s with
      | some (.normal, v, s') => match putT N o T v with
        | some T' => ih T' (sd s' s.df) u
        | none => none
      | _ => none) l
noncomputable def codeD (call : CallF) (C : Cfg) (self : CodeF) (N : Nat) : Code → Tm → St → Option (Value × Bool) → Option (Out × Tm × St × Option (Value × Bool))
  | .seq x y, T, s, u => match codeD call C self N x T s u with
    | some (.normal, T', s', u') => codeD call C self N y T' s' u'
    | r => r
  | .cond c x y, T, s, u => match ev1 T c with
    | some (.bool true) => codeD call C self N x T s u
    | some (.bool false) => codeD call C self N y T s u
    | _ => none
  | .region _ ops false, T, s, u => match evOpsD call C N ops.toList ops.toList T s u with
    | some (T', s', u') => some (.normal, T', s', u')
    | none => none
  | c, T, s, u => match self N c T s with
    | some (o, T', s') => some (o, T', s', u)
    | none => none
noncomputable def settleA : Option (Value × Bool) → Option (Value × Bool)
  | some (_, true) => none
  | u => u
noncomputable def runDf1 (call : CallF) (C : Cfg) (self : CodeF) (d : Value) (u : Option (Value × Bool)) (s : St) : Option (Option (Value × Bool) × St) :=
  match d with
  | .func (.func g) ⟨[]⟩ cap => match C.fn g with
    | some F => match F.body, F.results.toList, Nat.ble (len cap.toList) F.ntmps with
      | some c, [], true => match codeD call C self F.ntmps c (zipT cap.toList 0) (sd s []) u with
        | some (.normal, _, s', u') => match s'.df with
          | [] => some (settleA u', s')
          | _ => none
        | some (.ret, _, s', u') => match s'.df with
          | [] => some (settleA u', s')
          | _ => none
        | _ => none
      | _, _, _ => none
    | none => none
  | _ => none
noncomputable def runDf (call : CallF) (C : Cfg) (self : CodeF) (ds : List Value) : Option (Value × Bool) → St → Option (Option (Value × Bool) × St) :=
  List.rec (motive := fun _ => Option (Value × Bool) → St → Option (Option (Value × Bool) × St)) (fun u s => some (u, s)) (fun d _ ih u s => (runDf1 call C self d u s).bind fun r => ih r.1 r.2) ds
/-- A function's end: its deferred calls, then its results. -/
noncomputable def finF (call : CallF) (C : Cfg) (self : CodeF) (F : Func) (s0 : St) (T : Tm) (s1 : St) (u : Option (Value × Bool)) : Option (Out × Value × St) :=
  (runDf call C self s1.df u (sd s1 [])).bind fun r => match r.1 with
    | none => (aRes C T F.results.toList r.2).bind fun q => Bool.rec (motive := fun _ => Option (Out × Value × St)) none (some (.normal, oneOf q.1, gcS s0 q.2.2 (oneOf q.1))) (allB q.2.1)
    | some (v, false) => some (.panic v, undef, gcS s0 r.2 undef)
    | some (_, true) => none
noncomputable def callF (C : Cfg) (call : CallF) (self : CodeF) : CallF := fun g vs s =>
  match C.fn g with
  | none => none
  | some F => match F.body with
    | none => none
    | some c => Bool.rec (motive := fun _ => Option (Out × Value × St)) none
        (match self F.ntmps c (zipT vs 0) (fresh0 s) with
        | some (.normal, T, s') => finF call C self F s T s' none
        | some (.ret, T, s') => finF call C self F s T s' none
        | some (.panic v, T, s') => finF call C self F s T s' (some (v, false))
        | _ => none) (Nat.ble (len vs) F.ntmps)
noncomputable def ev (C : Cfg) (dr : CallF → Nat → Array Oper → Tm → St → Option (Out × Tm × St)) (n : Nat) : CallF × CodeF :=
  Nat.rec (motive := fun _ => CallF × CodeF) (fun _ _ _ => none, fun _ _ _ _ => none) (fun _ ih => (callF C ih.1 ih.2, codeF C dr ih.1 ih.2)) n
section
variable {C : Cfg} {B : Nat} {W0 : World}
def loopWp (P : Program) (c : Code) (Q : Exit → Act → World → Prop) (a : Act) (w : World) : Prop :=
  ∀ (b : Frame) (k : List Item) (cs : List Frame), ∃ e a' w', Q e a' w' ∧ Arrives P (lone (b.at a (.code c :: .inLoop c :: k)) cs w) b k cs e a' w'
theorem loopWp_of {P : Program} {c : Code} {Q : Exit → Act → World → Prop} {a : Act} {w : World} (h : c.wp P (Exit.then (fun a w => loopWp P c Q a w) Q) a w) : loopWp P c Q a w := by
  intro b k cs
  obtain ⟨e, a₁, w₁, hq, harr⟩ := h b (.inLoop c :: k) cs
  cases e with
  | normal =>
    obtain ⟨e₂, a₂, w₂, hq₂, harr₂⟩ := hq b k cs
    exact ⟨e₂, a₂, w₂, hq₂, .of_steps (Steps.trans harr (.one step_inLoop)) harr₂⟩
  | exit id => exact ⟨_, a₁, w₁, hq, .pass (x := .inLoop c) rfl (fun _ _ => .inl (by simp)) harr⟩
  | goto l => exact ⟨_, a₁, w₁, hq, .pass (x := .inLoop c) rfl (fun _ _ => .inl (by simp)) harr⟩
  | ret => exact ⟨_, a₁, w₁, hq, .pass (x := .inLoop c) rfl (fun _ _ => .inl (by simp)) harr⟩
  | panic ch => exact ⟨_, a₁, w₁, hq, .pass (x := .inLoop c) rfl (fun _ _ => .inl (by simp)) harr⟩
  | outgrown => exact ⟨_, a₁, w₁, hq, .pass (x := .inLoop c) rfl (fun _ _ => .inl (by simp)) harr⟩
theorem wp_of_loop {P : Program} {c : Code} {Q : Exit → Act → World → Prop} {a : Act} {w : World} (h : loopWp P c Q a w) : (Code.loop c).wp P Q a w :=
  fun b k cs => let ⟨e, a', w', hq, harr⟩ := h b k cs; ⟨e, a', w', hq, .of_steps (.one step_loop) harr⟩
/-- What a piece of code says. -/
def CodeOk (C : Cfg) (B : Nat) (W0 : World) (self : CodeF) : Prop :=
  ∀ N c T s e T' s', self N c T s = some (e, T', s') → Ext s s' ∧ ∀ (ν : Ren) (m : Nat → Option Obj) (a : Act) (w : World) (Q : Exit → Act → World → Prop), TR N ν T a → DefR ν s.df a.defers → Pre B W0 ν m s s' w → QOk B W0 N ν m s e T' s' Q →
    c.wp C.P Q a w ∧ ∀ c0, c = .loop c0 → loopWp C.P c0 Q a w
def DrOk (C : Cfg) (B : Nat) (W0 : World) (dr : CallF → Nat → Array Oper → Tm → St → Option (Out × Tm × St)) : Prop :=
  ∀ call, (∀ B W0, B ≤ W0.heap.size → CallOk C B W0 call) → ∀ N ops id T s e T' s', dr call N ops T s = some (e, T', s') → Ext s s' ∧ ∀ (ν : Ren) (m : Nat → Option Obj) (a : Act) (w : World) (Q : Exit → Act → World → Prop), TR N ν T a → DefR ν s.df a.defers → Pre B W0 ν m s s' w → QOk B W0 N ν m s e T' s' Q → (Code.region id ops true).wp C.P Q a w
theorem codeF_ok (hC : C.Ok) (hB : B ≤ W0.heap.size) {dr : CallF → Nat → Array Oper → Tm → St → Option (Out × Tm × St)} (hdr : DrOk C B W0 dr) {call : CallF} {self : CodeF} (h1 : ∀ B W0, B ≤ W0.heap.size → CallOk C B W0 call) (h2 : CodeOk C B W0 self) : CodeOk C B W0 (codeF C dr call self) := by
  intro N c T s e T' s' h
  -- two pieces, one behind the other
  have two : ∀ {x y : Code} {K : Tm → St → Option (Out × Tm × St)}, K = self N y → (match self N x T s with | some (.normal, T', s') => K T' s' | r => r) = some (e, T', s') →
      Ext s s' ∧ ∀ (ν : Ren) (m : Nat → Option Obj) (a : Act) (w : World) (Q : Exit → Act → World → Prop), TR N ν T a → DefR ν s.df a.defers → Pre B W0 ν m s s' w → QOk B W0 N ν m s e T' s' Q →
        x.wp C.P (Exit.then (fun a w => y.wp C.P Q a w ∧ ∀ c0, y = .loop c0 → loopWp C.P c0 Q a w) Q) a w := by
    intro x y K hK h
    subst hK
    split at h
    · rename_i T1 s1 hx
      obtain ⟨e1, k1⟩ := h2 _ _ _ _ _ _ _ hx
      obtain ⟨e2, k2⟩ := h2 _ _ _ _ _ _ _ h
      refine ⟨e1.trans e2, fun ν m a w Q tr dr0 p hq => ?_⟩
      refine (k1 ν m a w _ tr dr0 (p.first e2) fun ν' a' w' tr' hd hp => ?_).1
      refine k2 ν' _ a' w' Q tr' hd (p.second e1 e2 hp) fun ν'' a'' w'' tr'' hd' hp' => ?_
      exact hq ν'' a'' w'' tr'' hd' (hp.trans e1 e2 hp')
    · rename_i hno
      obtain ⟨e1, k1⟩ := h2 _ _ _ _ _ _ _ h
      refine ⟨e1, fun ν m a w Q tr dr0 p hq => ?_⟩
      refine (k1 ν m a w _ tr dr0 p fun ν' a' w' tr' hd hp => ?_).1
      have := hq ν' a' w' tr' hd hp
      cases e with
      | normal => exact absurd h (hno T' s')
      | exit id => exact this
      | ret => exact this
      | panic v => exact this
  unfold codeF at h
  split at h
  · obtain ⟨rfl, rfl, rfl⟩ := s3 h
    exact ⟨.refl s, fun ν m a w Q tr dr0 p hq => ⟨wp_skip (hq ν a w tr dr0 (.refl p)), fun c0 h => by cases h⟩⟩
  · obtain ⟨rfl, rfl, rfl⟩ := s3 h
    exact ⟨.refl s, fun ν m a w Q tr dr0 p hq => ⟨wp_label (hq ν a w tr dr0 (.refl p)), fun c0 h => by cases h⟩⟩
  · rename_i id ops
    obtain ⟨e1, k1⟩ := evOps_ok hC hB (h1 B W0 hB) ops.toList 0 T s e T' s' rfl h
    refine ⟨e1, fun ν m a w Q tr dr0 p hq => ⟨wp_region ?_, fun c0 h => by cases h⟩⟩
    have := k1 ν m a w Q tr dr0 p hq
    rw [← List.range_eq_range'] at this
    exact this
  · obtain ⟨e1, k1⟩ := hdr call h1 N _ _ T s e T' s' h
    exact ⟨e1, fun ν m a w Q tr dr0 p hq => ⟨k1 ν m a w Q tr dr0 p hq, fun c0 h => by cases h⟩⟩
  · rename_i x y
    obtain ⟨e1, k1⟩ := two rfl h
    refine ⟨e1, fun ν m a w Q tr dr0 p hq => ⟨wp_seq ?_, fun c0 h => by cases h⟩⟩
    refine wp_mono (k1 ν m a w Q tr dr0 p hq) fun ex a' w' hex => ?_
    cases ex with
    | normal => exact hex.1
    | _ => exact hex
  · rename_i x y z
    split at h
    rotate_left
    · cases h
    rename_i b hb
    cases b
    · obtain ⟨e1, k1⟩ := h2 _ _ _ _ _ _ _ h
      exact ⟨e1, fun ν m a w Q tr dr0 p hq => ⟨wp_cond_false (VR.bool_inv (ev1_ok tr hb)) (k1 ν m a w Q tr dr0 p hq).1, fun c0 h => by cases h⟩⟩
    · obtain ⟨e1, k1⟩ := h2 _ _ _ _ _ _ _ h
      exact ⟨e1, fun ν m a w Q tr dr0 p hq => ⟨wp_cond_true (VR.bool_inv (ev1_ok tr hb)) (k1 ν m a w Q tr dr0 p hq).1, fun c0 h => by cases h⟩⟩
  · rename_i id x
    split at h
    · rename_i id' T1 s1 hx
      obtain ⟨e1, k1⟩ := h2 _ _ _ _ _ _ _ hx
      cases hb : Nat.beq id' id <;> rw [hb] at h
      · obtain ⟨rfl, rfl, rfl⟩ := s3 h
        refine ⟨e1, fun ν m a w Q tr dr0 p hq => ⟨wp_block (k1 ν m a w _ tr dr0 p fun ν' a' w' tr' hd hp => ?_).1, fun c0 h => by cases h⟩⟩
        have hne : id' ≠ id := fun e => by rw [e, Nat.beq_refl] at hb; cases hb
        show (if id' = id then _ else _)
        rw [if_neg hne]
        exact hq ν' a' w' tr' hd hp
      · obtain ⟨rfl, rfl, rfl⟩ := s3 h
        refine ⟨e1, fun ν m a w Q tr dr0 p hq => ⟨wp_block (k1 ν m a w _ tr dr0 p fun ν' a' w' tr' hd hp => ?_).1, fun c0 h => by cases h⟩⟩
        show (if id' = id then _ else _)
        rw [if_pos (Nat.eq_of_beq_eq_true hb)]
        exact hq ν' a' w' tr' hd hp
    · rename_i hno
      obtain ⟨e1, k1⟩ := h2 _ _ _ _ _ _ _ h
      refine ⟨e1, fun ν m a w Q tr dr0 p hq => ⟨wp_block (k1 ν m a w _ tr dr0 p fun ν' a' w' tr' hd hp => ?_).1, fun c0 h => by cases h⟩⟩
      have := hq ν' a' w' tr' hd hp
      cases e with
      | normal => exact this
      | exit id' => exact absurd h (hno id' T' s')
      | ret => exact this
      | panic v => exact this
  · rename_i x
    rw [forceT_eq] at h
    obtain ⟨e1, k1⟩ := two (y := .loop x) rfl h
    have key : ∀ (ν : Ren) (m : Nat → Option Obj) (a : Act) (w : World) (Q : Exit → Act → World → Prop), TR N ν T a → DefR ν s.df a.defers → Pre B W0 ν m s s' w → QOk B W0 N ν m s e T' s' Q → loopWp C.P x Q a w := by
      intro ν m a w Q tr dr0 p hq
      refine loopWp_of (wp_mono (k1 ν m a w Q tr dr0 p hq) fun ex a' w' hex => ?_)
      cases ex with
      | normal => exact hex.2 x rfl
      | _ => exact hex
    exact ⟨e1, fun ν m a w Q tr dr0 p hq => ⟨wp_of_loop (key ν m a w Q tr dr0 p hq), fun c0 h => by cases h; exact key ν m a w Q tr dr0 p hq⟩⟩
  · obtain ⟨rfl, rfl, rfl⟩ := s3 h
    exact ⟨.refl s, fun ν m a w Q tr dr0 p hq => ⟨wp_exit (hq ν a w tr dr0 (.refl p)), fun c0 h => by cases h⟩⟩
  · obtain ⟨rfl, rfl, rfl⟩ := s3 h
    exact ⟨.refl s, fun ν m a w Q tr dr0 p hq => ⟨wp_ret (hq ν a w tr dr0 (.refl p)), fun c0 h => by cases h⟩⟩
  · cases h
theorem olds_iff (n n' : Nat) : ∀ (l : List Nat) (i : Nat), i ∈ olds n n' l ↔ i ∈ l ∧ ¬(n ≤ i ∧ i < n')
  | [], i => by simp [olds]
  | a :: l, i => by
    have ih := olds_iff n n' l i
    change i ∈ Bool.rec (motive := fun _ => List Nat) (a :: olds n n' l) (Bool.rec (motive := fun _ => List Nat) (a :: olds n n' l) (olds n n' l) (Nat.ble (Nat.succ a) n')) (Nat.ble n a) ↔ _
    cases h1 : Nat.ble n a
    · have h1 : ¬ n ≤ a := fun h => by rw [ble_iff.2 h] at h1; cases h1
      simp only [List.mem_cons, ih]
      constructor
      · rintro (rfl | h)
        · exact ⟨.inl rfl, fun h => h1 h.1⟩
        · exact ⟨.inr h.1, h.2⟩
      · rintro ⟨rfl | h, h2⟩
        · exact .inl rfl
        · exact .inr ⟨h, h2⟩
    · have h1 := ble_iff.1 h1
      cases h3 : Nat.ble (Nat.succ a) n'
      · have h3 : ¬ a < n' := fun h => by rw [ble_iff.2 h] at h3; cases h3
        simp only [List.mem_cons, ih]
        constructor
        · rintro (rfl | h)
          · exact ⟨.inl rfl, fun h => h3 h.2⟩
          · exact ⟨.inr h.1, h.2⟩
        · rintro ⟨rfl | h, h2⟩
          · exact .inl rfl
          · exact .inr ⟨h, h2⟩
      · have h3 : a < n' := ble_iff.1 h3
        simp only [List.mem_cons, ih]
        constructor
        · exact fun h => ⟨.inr h.1, h.2⟩
        · rintro ⟨rfl | h, h2⟩
          · exact absurd ⟨h1, h3⟩ h2
          · exact ⟨h, h2⟩
theorem mrg_iff (l : List Nat) : ∀ (l' : List Nat) (i : Nat), i ∈ mrg l l' ↔ i ∈ l ∨ i ∈ l'
  | [], i => by simp [mrg]
  | a :: l', i => by
    show i ∈ lg (mrg l l') a ↔ _
    rw [lg_iff, mrg_iff l l' i, List.mem_cons]
    constructor
    · rintro (h | h | h)
      · exact .inr (.inl h)
      · exact .inl h
      · exact .inr (.inr h)
    · rintro (h | h | h)
      · exact .inr (.inl h)
      · exact .inl h
      · exact .inr (.inr h)
theorem aget_putW (h' : List (Nat × Obj)) : ∀ (l : List Nat) (h : List (Nat × Obj)) (i : Nat), aget (putW h' l h) i = if i ∈ l then aget h' i else aget h i
  | [], h, i => by simp [putW]
  | a :: l, h, i => by
    change aget (match aget h' a with
      | some o => putW h' l (aput h a o)
      | none => putW h' l (adel h a)) i = _
    split
    · rename_i o ho
      rw [aget_putW h' l, aget_aput]
      by_cases hl : i ∈ l
      · simp [hl]
      · by_cases ha : i = a
        · subst ha; simp [hl, ho]
        · simp [hl, ha]
    · rename_i ho
      rw [aget_putW h' l, aget_adel]
      by_cases hl : i ∈ l
      · simp [hl]
      · by_cases ha : i = a
        · subst ha; simp [hl, ho]
        · simp [hl, ha]
theorem gc_aget (s s' : St) (v : Value) : (∀ i, aget (gcS s s' v).h i = aget s'.h i) ∨ (∀ i, aget (gcS s s' v).h i = if i ∈ olds s.nx s'.nx s'.wr then aget s'.h i else aget s.h i) := by
  cases hb : (Bool.rec (motive := fun _ => Bool) false (allW s'.h (olds s.nx s'.nx s'.wr)) (plain v))
  · left
    intro i
    simp only [gcS, hb]
  · right
    intro i
    simp only [gcS, hb]
    exact aget_putW _ _ _ _
theorem gc_wr (s s' : St) (v : Value) (i : Nat) : i ∈ (gcS s s' v).wr ↔ i ∈ s.wr ∨ (i ∈ s'.wr ∧ ¬(s.nx ≤ i ∧ i < s'.nx)) := by
  show i ∈ mrg s.wr (olds s.nx s'.nx s'.wr) ↔ _
  rw [mrg_iff, olds_iff]
theorem gc_rd (s s' : St) (v : Value) (i : Nat) : i ∈ (gcS s s' v).rd ↔ i ∈ s.rd ∨ (i ∈ s'.rd ∧ ¬(s.nx ≤ i ∧ i < s'.nx)) := by
  show i ∈ mrg s.rd (olds s.nx s'.nx s'.rd) ↔ _
  rw [mrg_iff, olds_iff]
theorem gc_ext {s s' : St} (v : Value) (e : Ext (fresh0 s) s') : Ext s (gcS s s' v) := by
  refine ⟨fun i hi => (gc_rd s s' v i).2 (.inl hi), fun i hi => (gc_wr s s' v i).2 (.inl hi), e.nx, fun i h1 h2 => ?_, fun hw => ?_⟩
  · have h3 : i ∉ s'.wr := fun h => h1 ((gc_wr s s' v i).2 (.inr ⟨h, h2⟩))
    have h4 : aget s'.h i = aget s.h i := e.fr i h3 h2
    rcases gc_aget s s' v with h | h
    · rw [h, h4]
    · rw [h]; split
      · exact h4
      · rfl
  · have hw' := e.wf hw
    intro i o hi
    show i < s'.nx
    rcases gc_aget s s' v with h | h
    · rw [h] at hi; exact hw' i o hi
    · rw [h] at hi
      split at hi
      · exact hw' i o hi
      · exact Nat.lt_of_lt_of_le (hw i o hi) e.nx
theorem gc_pre {ν : Ren} {m : Nat → Option Obj} {s s' : St} {w : World} (v : Value) (p : Pre B W0 ν m s (gcS s s' v) w) : Pre B W0 ν m (fresh0 s) s' w := by
  refine ⟨fun i hi => ?_, fun i h1 h2 => p.fresh i h1 h2, p.wf, p.rel⟩
  by_cases hn : s.nx ≤ i ∧ i < s'.nx
  · have h1 : m i = none := by
      cases hm : m i with
      | none => rfl
      | some o =>
        rw [(p.fresh i hn.1 hn.2).2] at hm
        cases hm
    have h2 : aget s.h i = none := by
      cases hm : aget s.h i with
      | none => rfl
      | some o => have := p.wf i o hm; omega
    rw [h1]; exact h2.symm
  · exact p.agree i (hi.imp (fun h => (gc_rd s s' v i).2 (.inr ⟨h, hn⟩)) (fun h => (gc_wr s s' v i).2 (.inr ⟨h, hn⟩)))
theorem gc_post {ν ν' : Ren} {m : Nat → Option Obj} {s s' : St} {w w' : World} (v : Value) (e : Ext (fresh0 s) s') (p : Pre B W0 ν m s (gcS s s' v) w) (q : Post B W0 ν m (fresh0 s) s' ν' w') : Post B W0 ν m s (gcS s s' v) ν' w' := by
  refine ⟨q.le, q.new, q.rel.of_le fun i o hi => ?_⟩
  unfold Upd at hi ⊢
  by_cases hn : s.nx ≤ i ∧ i < s'.nx
  · rw [if_pos (.inr hn)] at hi
    rw [if_pos (.inr hn)]
    rcases gc_aget s s' v with h | h
    · rw [h] at hi; exact hi
    · rw [h] at hi
      split at hi
      · exact hi
      · have := p.wf i o hi; omega
  · by_cases hw : i ∈ s'.wr
    · rw [if_pos (.inl ((gc_wr s s' v i).2 (.inr ⟨hw, hn⟩)))] at hi
      rw [if_pos (.inl hw)]
      rcases gc_aget s s' v with h | h
      · rw [h] at hi; exact hi
      · rw [h, if_pos ((olds_iff _ _ _ _).2 ⟨hw, hn⟩)] at hi; exact hi
    · have hn2 : ¬(i ∈ s'.wr ∨ ((fresh0 s).nx ≤ i ∧ i < s'.nx)) := fun h => h.elim hw hn
      rw [if_neg hn2]
      split at hi
      · rename_i hh
        have hg : i ∈ (gcS s s' v).wr := hh.elim id fun h => absurd h hn
        rw [p.agree i (.inr hg)]
        have h4 : aget s'.h i = aget s.h i := e.fr i hw hn
        rcases gc_aget s s' v with h | h
        · rw [h, h4] at hi; exact hi
        · rw [h, if_neg (fun hh => hw ((olds_iff _ _ _ _).1 hh).1)] at hi; exact hi
      · exact hi
theorem aRes_ok (hC : C.Ok) {N : Nat} {T : Tm} : ∀ (l : List ResultVar) (s : St) (vs : List Value) (ns : List Bool) (s' : St), aRes C T l s = some (vs, ns, s') → (∀ b ∈ ns, b = true) →
    (s'.h = s.h ∧ s'.nx = s.nx ∧ s'.wr = s.wr ∧ ∀ i ∈ s.rd, i ∈ s'.rd) ∧ ∀ {ν : Ren} {m : Nat → Option Obj} {a : Act} {w : World} {s2 : St} (f : ResultVar → Sem Value), (∀ t, f (.tmp t) = pure (a.tmps.getD t undef)) → (∀ c t, f (.cell c t) = (do loadVar t (← asAddr (a.tmps.getD c undef)))) → TR N ν T a → Pre B W0 ν m s s2 w → (∀ i ∈ s'.rd, i ∈ s2.rd) →
      ∃ us, (l.mapM f).run C.P w = .ok us w ∧ VRs ν vs us
  | [], s, vs, ns, s', h, hn => by
    obtain ⟨rfl, rfl, rfl⟩ := s3 h
    exact ⟨⟨rfl, rfl, rfl, fun _ h => h⟩, fun f f1 f2 tr p hs => ⟨[], rfl, .nil⟩⟩
  | .tmp t :: l, s, vs, ns, s', h, hn => by
    change ((aget T t).bind fun v => (aRes C T l s).bind fun q => some (v :: q.1, q.2.1, q.2.2)) = some (vs, ns, s') at h
    obtain ⟨v, h1, h⟩ := bd h
    obtain ⟨⟨vs1, ns1, s1⟩, h2, h⟩ := bd h
    obtain ⟨rfl, rfl, rfl⟩ := s3 h
    obtain ⟨k1, k2⟩ := aRes_ok hC l s _ _ _ h2 hn
    refine ⟨k1, fun {ν m a w s2} f f1 f2 tr p hs => ?_⟩
    obtain ⟨us, hu, hv⟩ := k2 f f1 f2 tr p hs
    refine ⟨a.tmps.getD t undef :: us, ?_, .cons (ev1_ok (x := .tmp t) tr h1) hv⟩
    rw [List.mapM_cons, f1]
    simp only [Sem.run_bind, Sem.run_pure, Result.andThen_ok, hu]
  | .cell c t :: l, s, vs, ns, s', h, hn => by
    change ((aget T c).bind fun p => (aLoadV C s t p).bind fun r => (aRes C T l r.2.2).bind fun q => some (r.1 :: q.1, app r.2.1 q.2.1, q.2.2)) = some (vs, ns, s') at h
    obtain ⟨p0, h1, h⟩ := bd h
    obtain ⟨⟨v, ns0, s0⟩, h0, h⟩ := bd h
    obtain ⟨⟨vs1, ns1, s1⟩, h2, h⟩ := bd h
    obtain ⟨rfl, rfl, rfl⟩ := s3 h
    rw [app_eq] at hn
    obtain ⟨⟨b, hb⟩, key⟩ := aLoadV_ok (B := B) (W0 := W0) hC h0 (fun b hb => hn b (List.mem_append_left _ hb))
    dsimp only at h2 hb
    obtain ⟨⟨k1, k2, k3, k4⟩, k5⟩ := aRes_ok hC l s0 _ _ _ h2 (fun b hb => hn b (List.mem_append_right _ hb))
    subst hb
    refine ⟨⟨k1, k2, k3, fun i hi => k4 i ((lg_iff _ _ _).2 (.inr hi))⟩, fun {ν m a w s2} f f1 f2 tr p hs => ?_⟩
    obtain ⟨g, q, r, e, hr, hv⟩ := key p (fun i hi => hs i (k4 i hi)) _ (ev1_ok (x := .tmp c) tr h1)
    have p' : Pre B W0 ν m (rdS s b) s2 w := ⟨p.agree, p.fresh, p.wf, p.rel⟩
    obtain ⟨us, hu, hvs⟩ := k5 f f1 f2 tr p' hs
    have e' : a.tmps.getD c undef = .pointer (some ⟨g, q, none⟩) := e
    refine ⟨r :: us, ?_, .cons hv hvs⟩
    rw [List.mapM_cons, f2]
    simp only [e', asAddr, Sem.run_bind, Sem.run_pure, Result.andThen_ok, hr, hu]
theorem aget_zipT : ∀ (vs : List Value) (k i : Nat), aget (zipT vs k) i = if k ≤ i then vs[i - k]? else none
  | [], k, i => by simp [zipT, aget_nil]
  | v :: vs, k, i => by
    show aget ((k, v) :: zipT vs (Nat.succ k)) i = _
    rw [aget_cons, aget_zipT vs]
    by_cases h : i = k
    · subst h; simp
    · rw [if_neg h]
      by_cases h2 : k ≤ i
      · rw [if_pos h2, if_pos (by omega)]
        rw [show i - k = (i - Nat.succ k) + 1 by omega, List.getElem?_cons_succ]
      · rw [if_neg h2, if_neg (by omega)]
theorem oneOf_ok {ν : Ren} {vs us : List Value} (h : VRs ν vs us) : VR ν (oneOf vs) (if h : us.toArray.size = 1 then us.toArray[0] else .tuple us.toArray) := by
  cases h with
  | nil => exact VR.tuple_iff.2 ⟨_, rfl, .nil⟩
  | cons h1 t => cases t with
    | nil => exact h1
    | cons h2 t =>
      rw [dif_neg (by simp)]
      exact VR.tuple_iff.2 ⟨_, rfl, .cons h1 (.cons h2 t)⟩
theorem rec_none {u : Option (Value × Bool)} {c0 : Frame} {cs : List Frame} (hno : ∀ v, u = some (v, false) → False) (hm : c0.mode = modeOf u) : recoverD (c0 :: cs) = none := by
  simp only [recoverD, hm]
  cases u with
  | none => rfl
  | some x =>
    obtain ⟨v, r⟩ := x
    cases r with
    | false => exact absurd rfl (hno v)
    | true => rfl
theorem evOpsD_ok (hC : C.Ok) (hB : B ≤ W0.heap.size) {call : CallF} (hcall : CallOk C B W0 call) {N : Nat} {ops : Array Oper} : ∀ (l : List Oper) (i : Nat) (T : Tm) (s : St) (u : Option (Value × Bool)) (T' : Tm) (s' : St) (u' : Option (Value × Bool)), ops.toList.drop i = l → evOpsD call C N ops.toList l T s u = some (T', s', u') →
    Ext s s' ∧ ∀ (ν : Ren) (m : Nat → Option Obj) (a : Act) (w : World) (c0 : Frame) (cs : List Frame) (Q : Exit → Act → List Frame → World → Prop), TR N ν T a → DefR ν s.df a.defers → Pre B W0 ν m s s' w → c0.mode = modeOf u →
      (∀ ν' a' w', TR N ν' T' a' → DefR ν' s'.df a'.defers → Post B W0 ν m s s' ν' w' → Q .normal a' ({ c0 with mode := modeOf u' } :: cs) w') → wpOpsS C.P ops Q (List.range' i l.length) a (c0 :: cs) w
  | [], i, T, s, u, T', s', u', hl, h => by
    obtain ⟨rfl, rfl, rfl⟩ := s3 h
    refine ⟨.refl s, fun ν m a w c0 cs Q tr dr p hm hq => ?_⟩
    have := hq ν a w tr dr (.refl p)
    rw [← hm] at this
    exact this
  | o :: l, i, T, s, u, T', s', u', hl, h => by
    have hi : ops[i]? = some o := by
      have : (ops.toList.drop i)[0]? = some o := by rw [hl]; rfl
      rw [List.getElem?_drop] at this
      simpa using this
    have hl' : ops.toList.drop (i + 1) = l := by rw [← List.drop_drop, hl]; rfl
    change (match o.op with
      | .call ⟨.builtin .recover, _, _⟩ => (recF T ops.toList o N u).bind fun r => evOpsD call C N ops.toList l r.1 s r.2
      | _ => match stepOp call C N ops.toList o T s with
        | some (.normal, v, s') => match putT N o T v with
          | some T' => evOpsD call C N ops.toList l T' (sd s' s.df) u
          | none => none
        | _ => none) = some (T', s', u') at h
    have df : ∀ {a : Act} {v : Value}, (a.put o.dst v).defers = a.defers := fun {a v} => by cases o.dst <;> rfl
    split at h
    · -- recover
      rename_i args tys hop
      have hrun : ∀ (a : Act) (w : World), (execOp a.eval o).run C.P w = .ok .recover w := fun a w => by
        simp [execOp, hop, resolve, invoke, builtin]
      obtain ⟨⟨T1, u1⟩, hrec1, h⟩ := bd h
      dsimp only at h
      unfold recF at hrec1
      split at hrec1
      · rename_i v hw
        split at hrec1
        rotate_left
        · cases hrec1
        rename_i T2 hpl hT
        obtain ⟨rfl, rfl⟩ := Prod.mk.inj (Option.some.inj hrec1)
        obtain ⟨e2, k2⟩ := evOpsD_ok hC hB hcall l (i + 1) _ s _ T' s' u' hl' h
        refine ⟨e2, fun ν m a w c0 cs Q tr dr p hm hq => ?_⟩
        rw [List.length_cons, List.range'_succ]
        simp only [wpOpsS, hi, aWanted_ok tr hw, if_true, hrun]
        have hrec : recoverD (c0 :: cs) = some (v, { c0 with mode := .panicking [{ v, recovered := true }] } :: cs) := by
          simp only [recoverD, hm, modeOf]
        rw [hrec]
        exact k2 ν m _ w { c0 with mode := .panicking [{ v, recovered := true }] } cs Q (putT_ok tr hT (VR.of_plain hpl)) (by rw [df]; exact dr) p rfl hq
      · rename_i u2 hw hno
        obtain ⟨T2, hT, hrec1⟩ := bd hrec1
        obtain ⟨rfl, rfl⟩ := Prod.mk.inj (Option.some.inj hrec1)
        obtain ⟨e2, k2⟩ := evOpsD_ok hC hB hcall l (i + 1) _ s _ T' s' u' hl' h
        refine ⟨e2, fun ν m a w c0 cs Q tr dr p hm hq => ?_⟩
        rw [List.length_cons, List.range'_succ]
        simp only [wpOpsS, hi, aWanted_ok tr hw, if_true, hrun]
        have hrec : recoverD (c0 :: cs) = none := rec_none hno hm
        rw [hrec]
        exact k2 ν m _ w c0 cs Q (putT_ok tr hT (.flat rfl)) (by rw [df]; exact dr) p hm hq
      · cases hrec1
    · rename_i hnr
      split at h
      · rename_i v s1 hs
        split at h
        rotate_left
        · cases h
        rename_i T1 hT
        obtain ⟨e1, _, k1⟩ := stepOp_ok (B := B) (W0 := W0) hC hB hcall hs
        obtain ⟨e2, k2⟩ := evOpsD_ok hC hB hcall l (i + 1) T1 _ u T' s' u' hl' h
        have e1 := e1.sd s.df
        refine ⟨e1.trans e2, fun ν m a w c0 cs Q tr dr p hm hq => ?_⟩
        rw [List.length_cons, List.range'_succ]
        have p1 := p.first e2
        have cont : ∀ ν' u1 w', VR ν' v u1 → Post B W0 ν m s s1 ν' w' → wpOpsS C.P ops Q (List.range' (i + 1) l.length) (a.put o.dst u1) (c0 :: cs) w' := fun ν' u1 w' hu hp => by
          have hp : Post B W0 ν m s (sd s1 s.df) ν' w' := ⟨hp.le, hp.new, hp.rel⟩
          exact k2 ν' _ _ w' c0 cs Q (putT_ok (tr.mono hp.le) hT hu) (by rw [df]; exact dr.mono hp.le) (p.second e1 e2 hp) hm fun ν'' a' w'' tr'' hd hp' => hq ν'' a' w'' tr'' hd (hp.trans e1 e2 hp')
        have step := k1 ν m a w (fun a' w' => wpOpsS C.P ops Q (List.range' (i + 1) l.length) a' (c0 :: cs) w') (fun e a' w' => Q e a' (c0 :: cs) w') tr ⟨p1.agree, p1.fresh, p1.wf, p1.rel⟩ (fun _ ν' u1 w' hu hp => cont ν' u1 w' hu hp) (fun q hq => by cases hq)
        simp only [wpOpsS, hi]
        rcases step with ⟨h1, h2⟩ | ⟨h1, h2⟩
        · rw [if_neg (by rw [h1]; simp)]; exact h2
        · rw [if_pos h1]
          unfold Oper.wp at h2
          split
          · rename_i w' hr
            rw [hr] at h2
            exact h2.elim
          · exact h2
      · cases h
theorem codeD_ok (hC : C.Ok) (hB : B ≤ W0.heap.size) {call : CallF} {self : CodeF} (h1 : CallOk C B W0 call) (h2 : CodeOk C B W0 self) {N : Nat} : ∀ (c : Code) (T : Tm) (s : St) (u : Option (Value × Bool)) (e : Out) (T' : Tm) (s' : St) (u' : Option (Value × Bool)), codeD call C self N c T s u = some (e, T', s', u') →
    Ext s s' ∧ ∀ (ν : Ren) (m : Nat → Option Obj) (a : Act) (w : World) (c0 : Frame) (cs : List Frame) (Q : Exit → Act → List Frame → World → Prop), TR N ν T a → DefR ν s.df a.defers → Pre B W0 ν m s s' w → c0.mode = modeOf u →
      (∀ ν' a' w', TR N ν' T' a' → DefR ν' s'.df a'.defers → Post B W0 ν m s s' ν' w' → Q (exitOf e) a' ({ c0 with mode := modeOf u' } :: cs) w') → c.wpS C.P Q a (c0 :: cs) w := by
  have other : ∀ (c : Code) (T : Tm) (s : St) (u : Option (Value × Bool)) (e : Out) (T' : Tm) (s' : St) (u' : Option (Value × Bool)), (match self N c T s with | some (o, T', s') => some (o, T', s', u) | none => none) = some (e, T', s', u') →
      Ext s s' ∧ ∀ (ν : Ren) (m : Nat → Option Obj) (a : Act) (w : World) (c0 : Frame) (cs : List Frame) (Q : Exit → Act → List Frame → World → Prop), TR N ν T a → DefR ν s.df a.defers → Pre B W0 ν m s s' w → c0.mode = modeOf u →
        (∀ ν' a' w', TR N ν' T' a' → DefR ν' s'.df a'.defers → Post B W0 ν m s s' ν' w' → Q (exitOf e) a' ({ c0 with mode := modeOf u' } :: cs) w') → c.wpS C.P Q a (c0 :: cs) w := by
    intro c T s u e T' s' u' h
    split at h
    · rename_i o T1 s1 hs
      obtain ⟨rfl, rfl, rfl, rfl⟩ := s4 h
      obtain ⟨e1, k1⟩ := h2 _ _ _ _ _ _ _ hs
      refine ⟨e1, fun ν m a w c0 cs Q tr dr p hm hq => wpS_of_wp ?_⟩
      refine (k1 ν m a w (fun e a' w' => Q e a' (c0 :: cs) w') tr dr p fun ν' a' w' tr' dr' hp => ?_).1
      have := hq ν' a' w' tr' dr' hp
      rw [← hm] at this
      exact this
    · cases h
  intro c
  induction c with
  | seq x y ihx ihy =>
    intro T s u e T' s' u' h
    have h : (match codeD call C self N x T s u with
      | some (.normal, T', s', u') => codeD call C self N y T' s' u'
      | r => r) = some (e, T', s', u') := h
    split at h
    · rename_i T1 s1 u1 hx
      obtain ⟨e1, k1⟩ := ihx _ _ _ _ _ _ _ hx
      obtain ⟨e2, k2⟩ := ihy _ _ _ _ _ _ _ h
      refine ⟨e1.trans e2, fun ν m a w c0 cs Q tr dr p hm hq => wpS_seq ?_⟩
      refine k1 ν m a w c0 cs _ tr dr (p.first e2) hm fun ν' a' w' tr' dr' hp => ?_
      refine k2 ν' _ a' w' { c0 with mode := modeOf u1 } cs Q tr' dr' (p.second e1 e2 hp) rfl fun ν'' a'' w'' tr'' dr'' hp' => ?_
      exact hq ν'' a'' w'' tr'' dr'' (hp.trans e1 e2 hp')
    · rename_i hno
      obtain ⟨e1, k1⟩ := ihx _ _ _ _ _ _ _ h
      refine ⟨e1, fun ν m a w c0 cs Q tr dr p hm hq => wpS_seq ?_⟩
      refine k1 ν m a w c0 cs _ tr dr p hm fun ν' a' w' tr' dr' hp => ?_
      have := hq ν' a' w' tr' dr' hp
      cases e with
      | normal => exact absurd h (hno T' s' u')
      | exit id => exact this
      | ret => exact this
      | panic v => exact this
  | cond c x y ihx ihy =>
    intro T s u e T' s' u' h
    have h : (match ev1 T c with
      | some (.bool true) => codeD call C self N x T s u
      | some (.bool false) => codeD call C self N y T s u
      | _ => none) = some (e, T', s', u') := h
    split at h
    · rename_i hb
      obtain ⟨e1, k1⟩ := ihx _ _ _ _ _ _ _ h
      exact ⟨e1, fun ν m a w c0 cs Q tr dr p hm hq => wpS_cond (VR.bool_inv (ev1_ok tr hb)) (k1 ν m a w c0 cs Q tr dr p hm hq)⟩
    · rename_i hb
      obtain ⟨e1, k1⟩ := ihy _ _ _ _ _ _ _ h
      exact ⟨e1, fun ν m a w c0 cs Q tr dr p hm hq => wpS_cond (VR.bool_inv (ev1_ok tr hb)) (k1 ν m a w c0 cs Q tr dr p hm hq)⟩
    · cases h
  | region id ops dr =>
    cases dr with
    | false =>
      intro T s u e T' s' u' h
      have h : (match evOpsD call C N ops.toList ops.toList T s u with
        | some (T', s', u') => some (Out.normal, T', s', u')
        | none => none) = some (e, T', s', u') := h
      split at h
      rotate_left
      · cases h
      rename_i T1 s1 u1 hev
      obtain ⟨rfl, rfl, rfl, rfl⟩ := s4 h
      obtain ⟨e1, k1⟩ := evOpsD_ok hC hB h1 ops.toList 0 T s u _ _ _ rfl hev
      refine ⟨e1, fun ν m a w c0 cs Q tr dr p hm hq => wpS_region ?_⟩
      have := k1 ν m a w c0 cs Q tr dr p hm hq
      rw [← List.range_eq_range'] at this
      exact this
    | true => exact other _
  | _ => exact other _
theorem settle_modeOf (u : Option (Value × Bool)) : settle (modeOf u) = modeOf (settleA u) := by
  cases u with
  | none => rfl
  | some x =>
    obtain ⟨v, r⟩ := x
    cases r <;> rfl
theorem modeOf_run (u : Option (Value × Bool)) : modeOf u ≠ .run := by
  cases u with
  | none => exact fun h => by cases h
  | some x => exact fun h => by cases h
theorem zip_TR {N : Nat} {ν : Ren} {vs : List Value} {vs' : Array Value} (hl : vs.length ≤ N) (hv : VRs ν vs vs'.toList) : TR N ν (zipT vs 0) { tmps := vs' ++ Array.replicate (N - vs'.size) undef, defers := [] } := by
  refine ⟨?_, fun i x hi => ?_⟩
  · have := hv.length
    simp at this ⊢
    omega
  · rw [aget_zipT, if_pos (Nat.zero_le _), Nat.sub_zero] at hi
    obtain ⟨u, hu, hxu⟩ := hv.get hi
    refine ⟨u, ?_, hxu⟩
    rw [Array.getElem?_append_left (by have := (List.getElem?_eq_some_iff.1 hu).1; simpa using this), ← Array.getElem?_toList]
    exact hu
theorem runDf_ok (hC : C.Ok) (hB : B ≤ W0.heap.size) {call : CallF} {self : CodeF} (h1 : CallOk C B W0 call) (h2 : CodeOk C B W0 self) {fn : Func} {tmps : Array Value} : ∀ (ds : List Value) (u : Option (Value × Bool)) (s : St) (u' : Option (Value × Bool)) (s' : St), runDf call C self ds u s = some (u', s') →
    Ext s s' ∧ ∀ (ν : Ren) (m : Nat → Option Obj) (w : World) (ds' : List Deferred) (R : Ending → World → Prop), DefR ν ds ds' → Pre B W0 ν m s s' w → (∀ ν' w', Post B W0 ν m s s' ν' w' → Leaves C.P fn tmps R [] (modeOf u') w') → Leaves C.P fn tmps R ds' (modeOf u) w
  | [], u, s, u', s', h => by
    obtain ⟨rfl, rfl⟩ := Prod.mk.inj (Option.some.inj h)
    refine ⟨.refl s, fun ν m w ds' R hd p hq => ?_⟩
    cases hd
    exact hq ν w (.refl p)
  | d :: ds, u, s, u', s', h => by
    change ((runDf1 call C self d u s).bind fun r => runDf call C self ds r.1 r.2) = some (u', s') at h
    obtain ⟨⟨u1, s1⟩, hr, h⟩ := bd h
    obtain ⟨e2, k2⟩ := runDf_ok hC hB h1 h2 (fn := fn) (tmps := tmps) ds u1 s1 u' s' h
    unfold runDf1 at hr
    split at hr
    rotate_left
    · cases hr
    rename_i g cap
    split at hr
    rotate_left
    · cases hr
    rename_i F hF
    obtain ⟨hf1, hf2⟩ := hC.fn g F hF
    split at hr
    rotate_left
    · cases hr
    rename_i c hc hres hlen
    have hl : cap.toList.length ≤ F.ntmps := by have := ble_iff.1 hlen; rw [len_eq] at this; exact this
    have fin : ∀ {o : Out} {T1 : Tm} {s2 : St} {u2 : Option (Value × Bool)}, (o = .normal ∨ o = .ret) → codeD call C self F.ntmps c (zipT cap.toList 0) (sd s []) u = some (o, T1, s2, u2) → (match s2.df with | [] => some (settleA u2, s2) | _ => none) = some (u1, s1) →
        Ext s s' ∧ ∀ (ν : Ren) (m : Nat → Option Obj) (w : World) (ds' : List Deferred) (R : Ending → World → Prop), DefR ν (.func (.func g) #[] cap :: ds) ds' → Pre B W0 ν m s s' w → (∀ ν' w', Post B W0 ν m s s' ν' w' → Leaves C.P fn tmps R [] (modeOf u') w') → Leaves C.P fn tmps R ds' (modeOf u) w := by
      intro o T1 s2 u2 ho hcd hdf
      split at hdf
      rotate_left
      · cases hdf
      rename_i hdf0
      obtain ⟨rfl, rfl⟩ := Prod.mk.inj (Option.some.inj hdf)
      obtain ⟨e1, k1⟩ := codeD_ok hC hB h1 h2 _ _ _ _ _ _ _ _ hcd
      have e1' : Ext s s2 := ⟨e1.rd, e1.wr, e1.nx, e1.fr, e1.wf⟩
      refine ⟨e1'.trans e2, fun ν m w ds' R hd p hq => ?_⟩
      cases hd with
      | cons hcap hdt =>
        rename_i cap' dt
        have hbs : ¬ F.body = none := fun hh => by rw [hh] at hc; cases hc
        refine ⟨modeOf_run u, .func g, cap', g, cap', rfl, ?_, ?_⟩
        · simp [invoke, Go.callFunc, hf1, hf2, hbs]
        · refine callsD_of_wpS hf1 hc fun c0 cs hm => ?_
          have p1 := p.first e2
          have p1' : Pre B W0 ν m (sd s []) s2 w := ⟨p1.agree, p1.fresh, p1.wf, p1.rel⟩
          refine k1 ν m _ w c0 cs _ (zip_TR hl hcap) .nil p1' hm fun ν' a' w' tr' dr' hp => ?_
          have hp' : Post B W0 ν m s s2 ν' w' := ⟨hp.le, hp.new, hp.rel⟩
          have hd0 : a'.defers = [] := by
            rw [hdf0] at dr'
            generalize a'.defers = dd at dr'
            cases dr'
            rfl
          have hr0 : F.results = #[] := Array.toList_inj.1 hres
          have hresr : (results F a'.tmps).run C.P w' = .ok (.tuple #[]) w' := by
            unfold results
            rw [hr0]
            simp
          have hl2 : Leaves C.P fn tmps R dt (settle (modeOf u2)) w' := by
            rw [settle_modeOf]
            exact k2 ν' _ w' dt R (hdt.mono hp.le) (p.second e1' e2 hp') fun ν'' w'' hp'' => hq ν'' w'' (hp'.trans e1' e2 hp'')
          rcases ho with rfl | rfl
          · exact ⟨hd0, modeOf u2, rfl, _, hresr, hl2⟩
          · exact ⟨hd0, modeOf u2, rfl, _, hresr, hl2⟩
    split at hr
    · exact fin (.inl rfl) ‹_› hr
    · exact fin (.inr rfl) ‹_› hr
    · cases hr
theorem callF_ok (hC : C.Ok) (hB : B ≤ W0.heap.size) {call : CallF} {self : CodeF} (h1 : CallOk C B W0 call) (h2 : CodeOk C B W0 self) : CallOk C B W0 (callF C call self) := by
  intro g vs s e v s'' h
  unfold callF at h
  split at h
  · cases h
  rename_i F hF
  obtain ⟨hf1, hf2⟩ := hC.fn g F hF
  split at h
  · cases h
  rename_i c hc
  cases hl : Nat.ble (len vs) F.ntmps <;> rw [hl] at h
  · cases h
  have hl : vs.length ≤ F.ntmps := by have := ble_iff.1 hl; rw [len_eq] at this; exact this
  have hbody : F.body.isSome = true := by rw [hc]; rfl
  -- whatever the end
  have fin : ∀ {o : Out} {T : Tm} {s1 : St} {u : Option (Value × Bool)}, ((o = .normal ∨ o = .ret) ∧ u = none ∨ ∃ p, o = .panic p ∧ u = some (p, false)) → self F.ntmps c (zipT vs 0) (fresh0 s) = some (o, T, s1) →
      finF call C self F s T s1 u = some (e, v, s'') →
      Ext s s'' ∧ (e = .normal ∨ ∃ p, e = .panic p) ∧ (∃ fn, C.P.funcs[g]? = some fn ∧ fn.name ≠ "runtime.NumGoroutine" ∧ fn.body.isSome = true) ∧ ∀ (ν : Ren) (m : Nat → Option Obj) (w : World) (vs' : Array Value), VRs ν vs vs'.toList → Pre B W0 ν m s s'' w →
        Calls C.P g vs' w fun e' w' => ∃ ν', Post B W0 ν m s s'' ν' w' ∧ ((e = .normal ∧ ∃ u, e' = .returned u ∧ VR ν' v u) ∨ ∃ p, e = .panic p ∧ e' = .panicked [{ v := p, recovered := false }]) := by
    intro o T s1 u ho hs hr
    unfold finF at hr
    obtain ⟨⟨u1, s2⟩, hdf, hr⟩ := bd hr
    obtain ⟨e1, k1⟩ := h2 _ _ _ _ _ _ _ hs
    -- what is common
    have common : ∀ (s3 : St) (val : Value), Ext s2 s3 → s3.wr = s2.wr → s3.h = s2.h → s3.nx = s2.nx → s'' = gcS s s3 val →
        Ext s (gcS s s3 val) ∧
        ∀ (ν : Ren) (m : Nat → Option Obj) (w : World) (vs' : Array Value) (R : Ending → World → Prop), VRs ν vs vs'.toList → Pre B W0 ν m s s'' w →
          (∀ (ν' : Ren) (a' : Act) (w' : World), TR F.ntmps ν' T a' → Pre B W0 ν' (Upd m (fresh0 s) s2) s2 s3 w' → Post B W0 ν m s s'' ν' w' → Leaves C.P F a'.tmps R [] (modeOf u1) w') → Calls C.P g vs' w R := by
      intro s3 val e3 hw3 hh3 hx3 hs''
      subst hs''
      obtain ⟨e2, _⟩ := runDf_ok (B := B) (W0 := W0) hC hB h1 h2 (fn := F) (tmps := #[]) _ _ _ _ _ hdf
      have e2' : Ext s1 s2 := ⟨e2.rd, e2.wr, e2.nx, e2.fr, e2.wf⟩
      have e13 := (e1.trans e2').trans e3
      refine ⟨gc_ext _ e13, fun ν m w vs' R hv p hq => ?_⟩
      have p2 := gc_pre _ p
      refine calls_of_wp_defers hf1 hc ?_
      refine (k1 ν m _ w _ (zip_TR hl hv) .nil (p2.first (e2'.trans e3)) fun ν' a' w' tr' dr' hp => ?_).1
      obtain ⟨_, k2⟩ := runDf_ok (B := B) (W0 := W0) hC hB h1 h2 (fn := F) (tmps := a'.tmps) _ _ _ _ _ hdf
      have pp := p2.second e1 (e2'.trans e3) hp
      have lv : Leaves C.P F a'.tmps R a'.defers (modeOf u) w' := by
        refine k2 ν' (Upd m (fresh0 s) s1) w' a'.defers R dr' ⟨(pp.first e3).agree, (pp.first e3).fresh, (pp.first e3).wf, (pp.first e3).rel⟩ fun ν'' w'' hp'' => ?_
        have hp2 : Post B W0 ν' (Upd m (fresh0 s) s1) s1 s2 ν'' w'' := ⟨hp''.le, hp''.new, hp''.rel⟩
        have hp3 := hp.trans e1 e2' hp2
        have pp3 := p2.second (e1.trans e2') e3 hp3
        refine hq ν'' a' w'' (tr'.mono hp2.le) pp3 ?_
        exact gc_post _ e13 p (hp3.trans (e1.trans e2') e3 (.same pp3 hw3 hh3 hx3 pp3.rel))
      rcases ho with ⟨rfl | rfl, rfl⟩ | ⟨q, rfl, rfl⟩
      · exact lv
      · exact lv
      · exact lv
    dsimp only at hr
    split at hr
    · -- it returns
      obtain ⟨⟨rs, ns, sz⟩, hr1, hr⟩ := bd hr
      dsimp only at hr
      cases hb : allB ns <;> rw [hb] at hr
      · cases hr
      obtain ⟨rfl, rfl, hs''⟩ := s3 hr
      obtain ⟨⟨j1, j2, j3, j4⟩, j5⟩ := aRes_ok (B := B) (W0 := W0) (N := F.ntmps) hC _ _ _ _ _ hr1 (allB_iff hb)
      have e3 : Ext s2 sz := ⟨j4, fun i hi => by rw [j3]; exact hi, by rw [j2]; exact Nat.le_refl _, fun i _ _ => by rw [j1], fun hw i o hi => by rw [j1] at hi; rw [j2]; exact hw i o hi⟩
      obtain ⟨ext, key⟩ := common sz (oneOf rs) e3 j3 j1 j2 hs''.symm
      subst hs''
      refine ⟨ext, .inl rfl, ⟨F, hf1, hf2, hbody⟩, fun ν m w vs' hv p => ?_⟩
      refine key ν m w vs' _ hv p fun ν' a' w' tr' pz hpost => ?_
      obtain ⟨us, hu, hvs⟩ := j5 (fun | .tmp t => pure (a'.tmps.getD t undef) | .cell c t => (do loadVar t (← asAddr (a'.tmps.getD c undef)))) (fun _ => rfl) (fun _ _ => rfl) tr' pz (fun i hi => hi)
      have hres : (results F a'.tmps).run C.P w' = .ok (if h : us.toArray.size = 1 then us.toArray[0] else .tuple us.toArray) w' := by
        unfold results
        rw [Array.mapM_eq_mapM_toList]
        simp only [Sem.run_bind, Sem.run_map]
        rw [show ∀ (f g : ResultVar → Sem Value), (∀ r, f r = g r) → List.mapM f F.results.toList = List.mapM g F.results.toList from fun f g h => by rw [funext h], hu]
        rfl
        intro r; cases r <;> rfl
      exact ⟨_, hres, ν', hpost, .inl ⟨rfl, _, rfl, oneOf_ok hvs⟩⟩
    · -- it panics
      rename_i q
      obtain ⟨rfl, rfl, hs''⟩ := s3 hr
      obtain ⟨ext, key⟩ := common s2 undef (.refl _) rfl rfl rfl hs''.symm
      subst hs''
      refine ⟨ext, .inr ⟨_, rfl⟩, ⟨F, hf1, hf2, hbody⟩, fun ν m w vs' hv p => ?_⟩
      refine key ν m w vs' _ hv p fun ν' a' w' tr' pz hpost => ?_
      exact ⟨ν', hpost, .inr ⟨_, rfl, rfl⟩⟩
    · cases hr
  split at h
  · exact fin (.inl ⟨.inl rfl, rfl⟩) ‹_› h
  · exact fin (.inl ⟨.inr rfl, rfl⟩) ‹_› h
  · exact fin (.inr ⟨_, rfl, rfl⟩) ‹_› h
  · cases h
theorem ev_ok (hC : C.Ok) {dr : CallF → Nat → Array Oper → Tm → St → Option (Out × Tm × St)} (hdr : ∀ B W0, B ≤ W0.heap.size → DrOk C B W0 dr) : ∀ n B W0, B ≤ W0.heap.size → CallOk C B W0 (ev C dr n).1 ∧ CodeOk C B W0 (ev C dr n).2
  | 0, B, W0, hB => ⟨(by intro g vs s e v s' h; change (none : Option (Out × Value × St)) = _ at h; cases h), (by intro N c T s e T' s' h; change (none : Option (Out × Tm × St)) = _ at h; cases h)⟩
  | n + 1, B, W0, hB => by
    obtain ⟨h1, h2⟩ := ev_ok hC hdr n B W0 hB
    exact ⟨callF_ok hC hB h1 h2, codeF_ok hC hB (hdr B W0 hB) (fun B W0 hB => (ev_ok hC hdr n B W0 hB).1) h2⟩
theorem callFunc_ext {P : Program} {g : FuncId} {fn : Func} {e : Array Value → Sem Value} (hf : P.funcs[g]? = some fn) (hn : fn.name ≠ "runtime.NumGoroutine") (hb : fn.body.isNone = true) (h1 : Extern.findNext fn = none) (h2 : Extern.find fn = some e) {args : Array Value} {w w' : World} {r : Value} (hr : (e args).run P w = .ok r w') :
    (Go.callFunc g args).run P w = .ok (.value r) w' := by
  have hn' : (fn.name == "runtime.NumGoroutine") = false := by simpa using hn
  simp only [Go.callFunc, Sem.run_bind, run_program, Result.andThen_ok, hf, hn', Bool.false_eq_true, if_false, hb, if_true, run_mark, h1, h2, hr]
  rfl
def st0 : St := { h := [], nx := 0, rd := [], wr := [], df := [] }
/-- A closed run. -/
theorem run_ok (hC : C.Ok) {dr : CallF → Nat → Array Oper → Tm → St → Option (Out × Tm × St)} (hdr : ∀ B W0, B ≤ W0.heap.size → DrOk C B W0 dr) {n g : Nat} {v : Value} {s' : St} (hv : plain v = true) (h : (ev C dr n).1 g [] st0 = some (.normal, v, s')) (w : World) :
    Calls C.P g #[] w fun e w' => e = .returned v ∧ Below w.heap.size w w' := by
  obtain ⟨h1, _⟩ := ev_ok hC hdr n w.heap.size w (Nat.le_refl _)
  obtain ⟨_, _, _, k⟩ := h1 _ _ _ _ _ _ h
  refine Calls.mono (k (fun _ => none) (fun _ => none) w #[] .nil ⟨fun i _ => rfl, fun _ _ _ => ⟨rfl, rfl⟩, fun i o hi => (by cases hi), ⟨fun a o g S h => (by cases h), fun a b o p g S S' h => (by cases h), .refl _ _⟩⟩) fun e w' he => ?_
  obtain ⟨ν', hp, ⟨_, u, rfl, hu⟩ | ⟨p, hh, _⟩⟩ := he
  · rw [VR.eq_of_plain hv hu]
    exact ⟨rfl, hp.rel.below⟩
  · cases hh
end
end Go.Ev
