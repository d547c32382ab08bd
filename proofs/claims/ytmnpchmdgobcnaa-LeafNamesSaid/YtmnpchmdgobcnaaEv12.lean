/- Words of my own: the evaluator of code and of calls, and that it is right. -/
import Derived.Test.YtmnpchmdgobcnaaEv11
set_option linter.unusedVariables false
set_option linter.unusedSimpArgs false
namespace Go.Ev
open Go.RowKit
abbrev CodeF := Nat → Code → Tm → St → Option (Out × Tm × St)
noncomputable def forceT {α : Type} (T : Tm) (k : Tm → α) : α := List.rec (motive := fun _ => (Tm → α) → α) (fun k => k []) (fun p _ ih k => forceV p.2 fun v => ih fun r => k ((p.1, v) :: r)) T k
theorem forceT_eq {α : Type} : ∀ (T : Tm) (k : Tm → α), forceT T k = k T
  | [], k => rfl
  | p :: T, k => by
    show forceV p.2 (fun v => forceT T fun r => k ((p.1, v) :: r)) = _
    rw [forceV_eq, forceT_eq T]
/-- A region whose order is drawn: left out here. -/
noncomputable def codeF (C : Cfg) (dr : CallF → Nat → Array Oper → Tm → St → Option (Out × Tm × St)) (call : CallF) (self : CodeF) (N : Nat) (c : Code) (T : Tm) (s : St) : Option (Out × Tm × St) :=
  match c with
  | .skip => some (.normal, T, s)
  | .label _ => some (.normal, T, s)
  | .region _ ops false => evOps call C N ops.toList ops.toList T s
  | .region _ ops true => dr call N ops T s
  | .seq x y => match self N x T s with
    | some (.normal, T', s') => self N y T' s'
    | r => r
  | .cond x y z => match ev1 T x with
    | some (.bool b) => Bool.rec (motive := fun _ => Option (Out × Tm × St)) (self N z T s) (self N y T s) b
    | _ => none
  | .block id x => match self N x T s with
    | some (.exit id', T', s') => Bool.rec (motive := fun _ => Option (Out × Tm × St)) (some (.exit id', T', s')) (some (.normal, T', s')) (Nat.beq id' id)
    | r => r
  | .loop x => forceT T fun T => match self N x T s with
    | some (.normal, T', s') => self N (.loop x) T' s'
    | r => r
  | .exit id => some (.exit id, T, s)
  | .ret => some (.ret, T, s)
  | _ => none
noncomputable def aRes1 (C : Cfg) (T : Tm) (ih : St → Option (List Value × List Bool × St)) (s : St) : ResultVar → Option (List Value × List Bool × St)
  | .tmp t => (aget T t).bind fun v => (ih s).bind fun q => some (v :: q.1, q.2.1, q.2.2)
  | .cell a t => (aget T a).bind fun p => (aLoadV C s t p).bind fun r => (ih r.2.2).bind fun q => some (r.1 :: q.1, app r.2.1 q.2.1, q.2.2)
noncomputable def aRes (C : Cfg) (T : Tm) (l : List ResultVar) : St → Option (List Value × List Bool × St) :=
  List.rec (motive := fun _ => St → Option (List Value × List Bool × St)) (fun s => some ([], [], s)) (fun r _ ih s => aRes1 C T ih s r) l
noncomputable def oneOf (l : List Value) : Value :=
  match l with
  | [v] => v
  | l => .tuple ⟨l⟩
noncomputable def zipT (vs : List Value) : Nat → Tm := List.rec (motive := fun _ => Nat → Tm) (fun _ => []) (fun v _ ih i => (i, v) :: ih (Nat.succ i)) vs
/-- Is nothing of what is new still wanted? Then memory is as it was, but for what was written. -/
noncomputable def flatO : Option Obj → Bool
  | some (.cells c _ _) => flats c.toList
  | none => true
  | _ => false
noncomputable def olds (n n' : Nat) (l : List Nat) : List Nat := List.rec (motive := fun _ => List Nat) [] (fun a _ ih => Bool.rec (motive := fun _ => List Nat) (a :: ih) (Bool.rec (motive := fun _ => List Nat) (a :: ih) ih (Nat.ble (Nat.succ a) n')) (Nat.ble n a)) l
noncomputable def mrg (l l' : List Nat) : List Nat := List.rec (motive := fun _ => List Nat) l (fun a _ ih => lg ih a) l'
noncomputable def allW (h : List (Nat × Obj)) (l : List Nat) : Bool := List.rec (motive := fun _ => Bool) true (fun a _ ih => Bool.rec (motive := fun _ => Bool) false ih (flatO (aget h a))) l
noncomputable def putW (h' : List (Nat × Obj)) (l : List Nat) : List (Nat × Obj) → List (Nat × Obj) := List.rec (motive := fun _ => List (Nat × Obj) → List (Nat × Obj)) (fun h => h) (fun a _ ih h => match aget h' a with
  | some o => ih (aput h a o)
  | none => ih (adel h a)) l
noncomputable def gcS (s s' : St) (v : Value) : St :=
  { h := Bool.rec (motive := fun _ => List (Nat × Obj)) s'.h (putW s'.h (olds s.nx s'.nx s'.wr) s.h) (Bool.rec (motive := fun _ => Bool) false (allW s'.h (olds s.nx s'.nx s'.wr)) (plain v)),
    nx := s'.nx, rd := mrg s.rd (olds s.nx s'.nx s'.rd), wr := mrg s.wr (olds s.nx s'.nx s'.wr) }
noncomputable def fresh0 (s : St) : St := { h := s.h, nx := s.nx, rd := [], wr := [] }
noncomputable def callF (C : Cfg) (self : CodeF) : CallF := fun g vs s =>
  match C.fn g with
  | none => none
  | some F => match F.body with
    | none => none
    | some c => Bool.rec (motive := fun _ => Option (Out × Value × St)) none
        (match self F.ntmps c (zipT vs 0) (fresh0 s) with
        | some (.normal, T, s') => (aRes C T F.results.toList s').bind fun q => Bool.rec (motive := fun _ => Option (Out × Value × St)) none (some (.normal, oneOf q.1, gcS s q.2.2 (oneOf q.1))) (allB q.2.1)
        | some (.ret, T, s') => (aRes C T F.results.toList s').bind fun q => Bool.rec (motive := fun _ => Option (Out × Value × St)) none (some (.normal, oneOf q.1, gcS s q.2.2 (oneOf q.1))) (allB q.2.1)
        | some (.panic v, T, s') => some (.panic v, undef, gcS s s' undef)
        | _ => none) (Nat.ble (len vs) F.ntmps)
noncomputable def ev (C : Cfg) (dr : CallF → Nat → Array Oper → Tm → St → Option (Out × Tm × St)) (n : Nat) : CallF × CodeF :=
  Nat.rec (motive := fun _ => CallF × CodeF) (fun _ _ _ => none, fun _ _ _ _ => none) (fun _ ih => (callF C ih.2, codeF C dr ih.1 ih.2)) n
section
variable {C : Cfg} {B : Nat} {W0 : World}
def loopWp (P : Program) (c : Code) (Q : Exit → Act → World → Prop) (a : Act) (w : World) : Prop :=
  ∀ (b : Frame) (k : List Item) (cs : List Frame), ∃ e a' w', Q e a' w' ∧ Arrives P (lone (b.at a (.code c :: .inLoop c :: k)) cs w) b k cs e a' w'
theorem loopWp_of {P : Program} {c : Code} {Q : Exit → Act → World → Prop} {a : Act} {w : World} (h : c.wp P (Exit.then (fun a w => loopWp P c Q a w) Q) a w) : loopWp P c Q a w := by
  intro b k cs
  obtain ⟨e, a₁, w₁, hq, harr⟩ := h b (.inLoop c :: k) cs
  cases e with
  | normal =>
    obtain ⟨e₂, a₂, w₂, hq₂, harr₂⟩ := hq b k cs
    exact ⟨e₂, a₂, w₂, hq₂, .of_steps (Steps.trans harr (.one step_inLoop)) harr₂⟩
  | exit id => exact ⟨_, a₁, w₁, hq, .pass (x := .inLoop c) rfl (fun _ _ => .inl (by simp)) harr⟩
  | goto l => exact ⟨_, a₁, w₁, hq, .pass (x := .inLoop c) rfl (fun _ _ => .inl (by simp)) harr⟩
  | ret => exact ⟨_, a₁, w₁, hq, .pass (x := .inLoop c) rfl (fun _ _ => .inl (by simp)) harr⟩
  | panic ch => exact ⟨_, a₁, w₁, hq, .pass (x := .inLoop c) rfl (fun _ _ => .inl (by simp)) harr⟩
  | outgrown => exact ⟨_, a₁, w₁, hq, .pass (x := .inLoop c) rfl (fun _ _ => .inl (by simp)) harr⟩
theorem wp_of_loop {P : Program} {c : Code} {Q : Exit → Act → World → Prop} {a : Act} {w : World} (h : loopWp P c Q a w) : (Code.loop c).wp P Q a w :=
  fun b k cs => let ⟨e, a', w', hq, harr⟩ := h b k cs; ⟨e, a', w', hq, .of_steps (.one step_loop) harr⟩
/-- What a piece of code says. -/
def CodeOk (C : Cfg) (B : Nat) (W0 : World) (self : CodeF) : Prop :=
  ∀ N c T s e T' s', self N c T s = some (e, T', s') → Ext s s' ∧ ∀ (ν : Ren) (m : Nat → Option Obj) (a : Act) (w : World) (Q : Exit → Act → World → Prop), TR N ν T a → Pre B W0 ν m s s' w → QOk B W0 N ν m s e T' s' a.defers Q →
    c.wp C.P Q a w ∧ ∀ c0, c = .loop c0 → loopWp C.P c0 Q a w
def DrOk (C : Cfg) (B : Nat) (W0 : World) (dr : CallF → Nat → Array Oper → Tm → St → Option (Out × Tm × St)) : Prop :=
  ∀ call, CallOk C B W0 call → ∀ N ops id T s e T' s', dr call N ops T s = some (e, T', s') → Ext s s' ∧ ∀ (ν : Ren) (m : Nat → Option Obj) (a : Act) (w : World) (Q : Exit → Act → World → Prop), TR N ν T a → Pre B W0 ν m s s' w → QOk B W0 N ν m s e T' s' a.defers Q → (Code.region id ops true).wp C.P Q a w
theorem QOk.of_eq {N : Nat} {ν : Ren} {m : Nat → Option Obj} {s s' : St} {e e' : Out} {T' : Tm} {ds : List Deferred} {Q : Exit → Act → World → Prop} (h : QOk B W0 N ν m s e T' s' ds Q) (he : e' = e) : QOk B W0 N ν m s e' T' s' ds Q := he ▸ h
theorem codeF_ok (hC : C.Ok) (hB : B ≤ W0.heap.size) {dr : CallF → Nat → Array Oper → Tm → St → Option (Out × Tm × St)} (hdr : DrOk C B W0 dr) {call : CallF} {self : CodeF} (h1 : CallOk C B W0 call) (h2 : CodeOk C B W0 self) : CodeOk C B W0 (codeF C dr call self) := by
  intro N c T s e T' s' h
  -- two pieces, one behind the other
  have two : ∀ {x y : Code} {K : Tm → St → Option (Out × Tm × St)}, K = self N y → (match self N x T s with | some (.normal, T', s') => K T' s' | r => r) = some (e, T', s') →
      Ext s s' ∧ ∀ (ν : Ren) (m : Nat → Option Obj) (a : Act) (w : World) (Q : Exit → Act → World → Prop), TR N ν T a → Pre B W0 ν m s s' w → QOk B W0 N ν m s e T' s' a.defers Q →
        x.wp C.P (Exit.then (fun a w => y.wp C.P Q a w ∧ ∀ c0, y = .loop c0 → loopWp C.P c0 Q a w) Q) a w := by
    intro x y K hK h
    subst hK
    split at h
    · rename_i T1 s1 hx
      obtain ⟨e1, k1⟩ := h2 _ _ _ _ _ _ _ hx
      obtain ⟨e2, k2⟩ := h2 _ _ _ _ _ _ _ h
      refine ⟨e1.trans e2, fun ν m a w Q tr p hq => ?_⟩
      refine (k1 ν m a w _ tr (p.first e2) fun ν' a' w' tr' hd hp => ?_).1
      refine k2 ν' _ a' w' Q tr' (p.second e1 e2 hp) fun ν'' a'' w'' tr'' hd' hp' => ?_
      exact hq ν'' a'' w'' tr'' (hd'.trans hd) (hp.trans e1 e2 hp')
    · rename_i hno
      obtain ⟨e1, k1⟩ := h2 _ _ _ _ _ _ _ h
      refine ⟨e1, fun ν m a w Q tr p hq => ?_⟩
      refine (k1 ν m a w _ tr p fun ν' a' w' tr' hd hp => ?_).1
      have := hq ν' a' w' tr' hd hp
      cases e with
      | normal => exact absurd h (hno T' s')
      | exit id => exact this
      | ret => exact this
      | panic v => exact this
  unfold codeF at h
  split at h
  · obtain ⟨rfl, rfl, rfl⟩ := s3 h
    exact ⟨.refl s, fun ν m a w Q tr p hq => ⟨wp_skip (hq ν a w tr rfl (.refl p)), fun c0 h => by cases h⟩⟩
  · obtain ⟨rfl, rfl, rfl⟩ := s3 h
    exact ⟨.refl s, fun ν m a w Q tr p hq => ⟨wp_label (hq ν a w tr rfl (.refl p)), fun c0 h => by cases h⟩⟩
  · rename_i id ops
    obtain ⟨e1, k1⟩ := evOps_ok hC hB h1 ops.toList 0 T s e T' s' rfl h
    refine ⟨e1, fun ν m a w Q tr p hq => ⟨wp_region ?_, fun c0 h => by cases h⟩⟩
    have := k1 ν m a w Q tr p hq
    rw [← List.range_eq_range'] at this
    exact this
  · obtain ⟨e1, k1⟩ := hdr call h1 N _ _ T s e T' s' h
    exact ⟨e1, fun ν m a w Q tr p hq => ⟨k1 ν m a w Q tr p hq, fun c0 h => by cases h⟩⟩
  · rename_i x y
    obtain ⟨e1, k1⟩ := two rfl h
    refine ⟨e1, fun ν m a w Q tr p hq => ⟨wp_seq ?_, fun c0 h => by cases h⟩⟩
    refine wp_mono (k1 ν m a w Q tr p hq) fun ex a' w' hex => ?_
    cases ex with
    | normal => exact hex.1
    | _ => exact hex
  · rename_i x y z
    split at h
    rotate_left
    · cases h
    rename_i b hb
    cases b
    · obtain ⟨e1, k1⟩ := h2 _ _ _ _ _ _ _ h
      exact ⟨e1, fun ν m a w Q tr p hq => ⟨wp_cond_false (VR.bool_inv (ev1_ok tr hb)) (k1 ν m a w Q tr p hq).1, fun c0 h => by cases h⟩⟩
    · obtain ⟨e1, k1⟩ := h2 _ _ _ _ _ _ _ h
      exact ⟨e1, fun ν m a w Q tr p hq => ⟨wp_cond_true (VR.bool_inv (ev1_ok tr hb)) (k1 ν m a w Q tr p hq).1, fun c0 h => by cases h⟩⟩
  · rename_i id x
    split at h
    · rename_i id' T1 s1 hx
      obtain ⟨e1, k1⟩ := h2 _ _ _ _ _ _ _ hx
      cases hb : Nat.beq id' id <;> rw [hb] at h
      · obtain ⟨rfl, rfl, rfl⟩ := s3 h
        refine ⟨e1, fun ν m a w Q tr p hq => ⟨wp_block (k1 ν m a w _ tr p fun ν' a' w' tr' hd hp => ?_).1, fun c0 h => by cases h⟩⟩
        have hne : id' ≠ id := fun e => by rw [e, Nat.beq_refl] at hb; cases hb
        show (if id' = id then _ else _)
        rw [if_neg hne]
        exact hq ν' a' w' tr' hd hp
      · obtain ⟨rfl, rfl, rfl⟩ := s3 h
        refine ⟨e1, fun ν m a w Q tr p hq => ⟨wp_block (k1 ν m a w _ tr p fun ν' a' w' tr' hd hp => ?_).1, fun c0 h => by cases h⟩⟩
        show (if id' = id then _ else _)
        rw [if_pos (Nat.eq_of_beq_eq_true hb)]
        exact hq ν' a' w' tr' hd hp
    · rename_i hno
      obtain ⟨e1, k1⟩ := h2 _ _ _ _ _ _ _ h
      refine ⟨e1, fun ν m a w Q tr p hq => ⟨wp_block (k1 ν m a w _ tr p fun ν' a' w' tr' hd hp => ?_).1, fun c0 h => by cases h⟩⟩
      have := hq ν' a' w' tr' hd hp
      cases e with
      | normal => exact this
      | exit id' => exact absurd h (hno id' T' s')
      | ret => exact this
      | panic v => exact this
  · rename_i x
    rw [forceT_eq] at h
    obtain ⟨e1, k1⟩ := two (y := .loop x) rfl h
    have key : ∀ (ν : Ren) (m : Nat → Option Obj) (a : Act) (w : World) (Q : Exit → Act → World → Prop), TR N ν T a → Pre B W0 ν m s s' w → QOk B W0 N ν m s e T' s' a.defers Q → loopWp C.P x Q a w := by
      intro ν m a w Q tr p hq
      refine loopWp_of (wp_mono (k1 ν m a w Q tr p hq) fun ex a' w' hex => ?_)
      cases ex with
      | normal => exact hex.2 x rfl
      | _ => exact hex
    exact ⟨e1, fun ν m a w Q tr p hq => ⟨wp_of_loop (key ν m a w Q tr p hq), fun c0 h => by cases h; exact key ν m a w Q tr p hq⟩⟩
  · obtain ⟨rfl, rfl, rfl⟩ := s3 h
    exact ⟨.refl s, fun ν m a w Q tr p hq => ⟨wp_exit (hq ν a w tr rfl (.refl p)), fun c0 h => by cases h⟩⟩
  · obtain ⟨rfl, rfl, rfl⟩ := s3 h
    exact ⟨.refl s, fun ν m a w Q tr p hq => ⟨wp_ret (hq ν a w tr rfl (.refl p)), fun c0 h => by cases h⟩⟩
  · cases h
theorem olds_iff (n n' : Nat) : ∀ (l : List Nat) (i : Nat), i ∈ olds n n' l ↔ i ∈ l ∧ ¬(n ≤ i ∧ i < n')
  | [], i => by simp [olds]
  | a :: l, i => by
    have ih := olds_iff n n' l i
    change i ∈ Bool.rec (motive := fun _ => List Nat) (a :: olds n n' l) (Bool.rec (motive := fun _ => List Nat) (a :: olds n n' l) (olds n n' l) (Nat.ble (Nat.succ a) n')) (Nat.ble n a) ↔ _
    cases h1 : Nat.ble n a
    · have h1 : ¬ n ≤ a := fun h => by rw [ble_iff.2 h] at h1; cases h1
      simp only [List.mem_cons, ih]
      constructor
      · rintro (rfl | h)
        · exact ⟨.inl rfl, fun h => h1 h.1⟩
        · exact ⟨.inr h.1, h.2⟩
      · rintro ⟨rfl | h, h2⟩
        · exact .inl rfl
        · exact .inr ⟨h, h2⟩
    · have h1 := ble_iff.1 h1
      cases h3 : Nat.ble (Nat.succ a) n'
      · have h3 : ¬ a < n' := fun h => by rw [ble_iff.2 h] at h3; cases h3
        simp only [List.mem_cons, ih]
        constructor
        · rintro (rfl | h)
          · exact ⟨.inl rfl, fun h => h3 h.2⟩
          · exact ⟨.inr h.1, h.2⟩
        · rintro ⟨rfl | h, h2⟩
          · exact .inl rfl
          · exact .inr ⟨h, h2⟩
      · have h3 : a < n' := ble_iff.1 h3
        simp only [List.mem_cons, ih]
        constructor
        · exact fun h => ⟨.inr h.1, h.2⟩
        · rintro ⟨rfl | h, h2⟩
          · exact absurd ⟨h1, h3⟩ h2
          · exact ⟨h, h2⟩
theorem mrg_iff (l : List Nat) : ∀ (l' : List Nat) (i : Nat), i ∈ mrg l l' ↔ i ∈ l ∨ i ∈ l'
  | [], i => by simp [mrg]
  | a :: l', i => by
    show i ∈ lg (mrg l l') a ↔ _
    rw [lg_iff, mrg_iff l l' i, List.mem_cons]
    constructor
    · rintro (h | h | h)
      · exact .inr (.inl h)
      · exact .inl h
      · exact .inr (.inr h)
    · rintro (h | h | h)
      · exact .inr (.inl h)
      · exact .inl h
      · exact .inr (.inr h)
theorem aget_putW (h' : List (Nat × Obj)) : ∀ (l : List Nat) (h : List (Nat × Obj)) (i : Nat), aget (putW h' l h) i = if i ∈ l then aget h' i else aget h i
  | [], h, i => by simp [putW]
  | a :: l, h, i => by
    change aget (match aget h' a with
      | some o => putW h' l (aput h a o)
      | none => putW h' l (adel h a)) i = _
    split
    · rename_i o ho
      rw [aget_putW h' l, aget_aput]
      by_cases hl : i ∈ l
      · simp [hl]
      · by_cases ha : i = a
        · subst ha; simp [hl, ho]
        · simp [hl, ha]
    · rename_i ho
      rw [aget_putW h' l, aget_adel]
      by_cases hl : i ∈ l
      · simp [hl]
      · by_cases ha : i = a
        · subst ha; simp [hl, ho]
        · simp [hl, ha]
theorem gc_aget (s s' : St) (v : Value) : (∀ i, aget (gcS s s' v).h i = aget s'.h i) ∨ (∀ i, aget (gcS s s' v).h i = if i ∈ olds s.nx s'.nx s'.wr then aget s'.h i else aget s.h i) := by
  cases hb : (Bool.rec (motive := fun _ => Bool) false (allW s'.h (olds s.nx s'.nx s'.wr)) (plain v))
  · left
    intro i
    simp only [gcS, hb]
  · right
    intro i
    simp only [gcS, hb]
    exact aget_putW _ _ _ _
theorem gc_wr (s s' : St) (v : Value) (i : Nat) : i ∈ (gcS s s' v).wr ↔ i ∈ s.wr ∨ (i ∈ s'.wr ∧ ¬(s.nx ≤ i ∧ i < s'.nx)) := by
  show i ∈ mrg s.wr (olds s.nx s'.nx s'.wr) ↔ _
  rw [mrg_iff, olds_iff]
theorem gc_rd (s s' : St) (v : Value) (i : Nat) : i ∈ (gcS s s' v).rd ↔ i ∈ s.rd ∨ (i ∈ s'.rd ∧ ¬(s.nx ≤ i ∧ i < s'.nx)) := by
  show i ∈ mrg s.rd (olds s.nx s'.nx s'.rd) ↔ _
  rw [mrg_iff, olds_iff]
theorem gc_ext {s s' : St} (v : Value) (e : Ext (fresh0 s) s') : Ext s (gcS s s' v) := by
  refine ⟨fun i hi => (gc_rd s s' v i).2 (.inl hi), fun i hi => (gc_wr s s' v i).2 (.inl hi), e.nx, fun i h1 h2 => ?_, fun hw => ?_⟩
  · have h3 : i ∉ s'.wr := fun h => h1 ((gc_wr s s' v i).2 (.inr ⟨h, h2⟩))
    have h4 : aget s'.h i = aget s.h i := e.fr i h3 h2
    rcases gc_aget s s' v with h | h
    · rw [h, h4]
    · rw [h]; split
      · exact h4
      · rfl
  · have hw' := e.wf hw
    intro i o hi
    show i < s'.nx
    rcases gc_aget s s' v with h | h
    · rw [h] at hi; exact hw' i o hi
    · rw [h] at hi
      split at hi
      · exact hw' i o hi
      · exact Nat.lt_of_lt_of_le (hw i o hi) e.nx
theorem gc_pre {ν : Ren} {m : Nat → Option Obj} {s s' : St} {w : World} (v : Value) (p : Pre B W0 ν m s (gcS s s' v) w) : Pre B W0 ν m (fresh0 s) s' w := by
  refine ⟨fun i hi => ?_, fun i h1 h2 => p.fresh i h1 h2, p.wf, p.rel⟩
  by_cases hn : s.nx ≤ i ∧ i < s'.nx
  · have h1 : m i = none := by
      cases hm : m i with
      | none => rfl
      | some o =>
        obtain ⟨g, S, ob, k, _⟩ := p.rel.objs i o hm
        rw [p.fresh i hn.1 hn.2] at k
        cases k
    have h2 : aget s.h i = none := by
      cases hm : aget s.h i with
      | none => rfl
      | some o => have := p.wf i o hm; omega
    rw [h1]; exact h2.symm
  · exact p.agree i (hi.imp (fun h => (gc_rd s s' v i).2 (.inr ⟨h, hn⟩)) (fun h => (gc_wr s s' v i).2 (.inr ⟨h, hn⟩)))
theorem gc_post {ν ν' : Ren} {m : Nat → Option Obj} {s s' : St} {w w' : World} (v : Value) (e : Ext (fresh0 s) s') (p : Pre B W0 ν m s (gcS s s' v) w) (q : Post B W0 ν m (fresh0 s) s' ν' w') : Post B W0 ν m s (gcS s s' v) ν' w' := by
  refine ⟨q.le, q.new, q.rel.of_le fun i o hi => ?_⟩
  unfold Upd at hi ⊢
  by_cases hn : s.nx ≤ i ∧ i < s'.nx
  · rw [if_pos (.inr hn)] at hi
    rw [if_pos (.inr hn)]
    rcases gc_aget s s' v with h | h
    · rw [h] at hi; exact hi
    · rw [h] at hi
      split at hi
      · exact hi
      · have := p.wf i o hi; omega
  · by_cases hw : i ∈ s'.wr
    · rw [if_pos (.inl ((gc_wr s s' v i).2 (.inr ⟨hw, hn⟩)))] at hi
      rw [if_pos (.inl hw)]
      rcases gc_aget s s' v with h | h
      · rw [h] at hi; exact hi
      · rw [h, if_pos ((olds_iff _ _ _ _).2 ⟨hw, hn⟩)] at hi; exact hi
    · have hn2 : ¬(i ∈ s'.wr ∨ ((fresh0 s).nx ≤ i ∧ i < s'.nx)) := fun h => h.elim hw hn
      rw [if_neg hn2]
      split at hi
      · rename_i hh
        have hg : i ∈ (gcS s s' v).wr := hh.elim id fun h => absurd h hn
        rw [p.agree i (.inr hg)]
        have h4 : aget s'.h i = aget s.h i := e.fr i hw hn
        rcases gc_aget s s' v with h | h
        · rw [h, h4] at hi; exact hi
        · rw [h, if_neg (fun hh => hw ((olds_iff _ _ _ _).1 hh).1)] at hi; exact hi
      · exact hi
theorem aRes_ok (hC : C.Ok) {N : Nat} {T : Tm} : ∀ (l : List ResultVar) (s : St) (vs : List Value) (ns : List Bool) (s' : St), aRes C T l s = some (vs, ns, s') → (∀ b ∈ ns, b = true) →
    (s'.h = s.h ∧ s'.nx = s.nx ∧ s'.wr = s.wr ∧ ∀ i ∈ s.rd, i ∈ s'.rd) ∧ ∀ {ν : Ren} {m : Nat → Option Obj} {a : Act} {w : World} {s2 : St} (f : ResultVar → Sem Value), (∀ t, f (.tmp t) = pure (a.tmps.getD t undef)) → (∀ c t, f (.cell c t) = (do loadVar t (← asAddr (a.tmps.getD c undef)))) → TR N ν T a → Pre B W0 ν m s s2 w → (∀ i ∈ s'.rd, i ∈ s2.rd) →
      ∃ us, (l.mapM f).run C.P w = .ok us w ∧ VRs ν vs us
  | [], s, vs, ns, s', h, hn => by
    obtain ⟨rfl, rfl, rfl⟩ := s3 h
    exact ⟨⟨rfl, rfl, rfl, fun _ h => h⟩, fun f f1 f2 tr p hs => ⟨[], rfl, .nil⟩⟩
  | .tmp t :: l, s, vs, ns, s', h, hn => by
    change ((aget T t).bind fun v => (aRes C T l s).bind fun q => some (v :: q.1, q.2.1, q.2.2)) = some (vs, ns, s') at h
    obtain ⟨v, h1, h⟩ := bd h
    obtain ⟨⟨vs1, ns1, s1⟩, h2, h⟩ := bd h
    obtain ⟨rfl, rfl, rfl⟩ := s3 h
    obtain ⟨k1, k2⟩ := aRes_ok hC l s _ _ _ h2 hn
    refine ⟨k1, fun {ν m a w s2} f f1 f2 tr p hs => ?_⟩
    obtain ⟨us, hu, hv⟩ := k2 f f1 f2 tr p hs
    refine ⟨a.tmps.getD t undef :: us, ?_, .cons (ev1_ok (x := .tmp t) tr h1) hv⟩
    rw [List.mapM_cons, f1]
    simp only [Sem.run_bind, Sem.run_pure, Result.andThen_ok, hu]
  | .cell c t :: l, s, vs, ns, s', h, hn => by
    change ((aget T c).bind fun p => (aLoadV C s t p).bind fun r => (aRes C T l r.2.2).bind fun q => some (r.1 :: q.1, app r.2.1 q.2.1, q.2.2)) = some (vs, ns, s') at h
    obtain ⟨p0, h1, h⟩ := bd h
    obtain ⟨⟨v, ns0, s0⟩, h0, h⟩ := bd h
    obtain ⟨⟨vs1, ns1, s1⟩, h2, h⟩ := bd h
    obtain ⟨rfl, rfl, rfl⟩ := s3 h
    rw [app_eq] at hn
    obtain ⟨⟨b, hb⟩, key⟩ := aLoadV_ok (B := B) (W0 := W0) hC h0 (fun b hb => hn b (List.mem_append_left _ hb))
    dsimp only at h2 hb
    obtain ⟨⟨k1, k2, k3, k4⟩, k5⟩ := aRes_ok hC l s0 _ _ _ h2 (fun b hb => hn b (List.mem_append_right _ hb))
    subst hb
    refine ⟨⟨k1, k2, k3, fun i hi => k4 i ((lg_iff _ _ _).2 (.inr hi))⟩, fun {ν m a w s2} f f1 f2 tr p hs => ?_⟩
    obtain ⟨g, q, r, e, hr, hv⟩ := key p (fun i hi => hs i (k4 i hi)) _ (ev1_ok (x := .tmp c) tr h1)
    have p' : Pre B W0 ν m (rdS s b) s2 w := ⟨p.agree, p.fresh, p.wf, p.rel⟩
    obtain ⟨us, hu, hvs⟩ := k5 f f1 f2 tr p' hs
    have e' : a.tmps.getD c undef = .pointer (some ⟨g, q, none⟩) := e
    refine ⟨r :: us, ?_, .cons hv hvs⟩
    rw [List.mapM_cons, f2]
    simp only [e', asAddr, Sem.run_bind, Sem.run_pure, Result.andThen_ok, hr, hu]
theorem aget_zipT : ∀ (vs : List Value) (k i : Nat), aget (zipT vs k) i = if k ≤ i then vs[i - k]? else none
  | [], k, i => by simp [zipT, aget_nil]
  | v :: vs, k, i => by
    show aget ((k, v) :: zipT vs (Nat.succ k)) i = _
    rw [aget_cons, aget_zipT vs]
    by_cases h : i = k
    · subst h; simp
    · rw [if_neg h]
      by_cases h2 : k ≤ i
      · rw [if_pos h2, if_pos (by omega)]
        rw [show i - k = (i - Nat.succ k) + 1 by omega, List.getElem?_cons_succ]
      · rw [if_neg h2, if_neg (by omega)]
theorem oneOf_ok {ν : Ren} {vs us : List Value} (h : VRs ν vs us) : VR ν (oneOf vs) (if h : us.toArray.size = 1 then us.toArray[0] else .tuple us.toArray) := by
  cases h with
  | nil => exact VR.tuple_iff.2 ⟨_, rfl, .nil⟩
  | cons h1 t => cases t with
    | nil => exact h1
    | cons h2 t =>
      rw [dif_neg (by simp)]
      exact VR.tuple_iff.2 ⟨_, rfl, .cons h1 (.cons h2 t)⟩
theorem callF_ok (hC : C.Ok) {self : CodeF} (h2 : CodeOk C B W0 self) : CallOk C B W0 (callF C self) := by
  intro g vs s e v s'' h
  unfold callF at h
  split at h
  · cases h
  rename_i F hF
  obtain ⟨hf1, hf2⟩ := hC.fn g F hF
  split at h
  · cases h
  rename_i c hc
  cases hl : Nat.ble (len vs) F.ntmps <;> rw [hl] at h
  · cases h
  have hl : vs.length ≤ F.ntmps := by have := ble_iff.1 hl; rw [len_eq] at this; exact this
  have hbody : F.body.isSome = true := by rw [hc]; rfl
  -- a return
  have fin : ∀ {o : Out} {T : Tm} {s1 : St}, (o = .normal ∨ o = .ret) → self F.ntmps c (zipT vs 0) (fresh0 s) = some (o, T, s1) →
      ((aRes C T F.results.toList s1).bind fun q => Bool.rec (motive := fun _ => Option (Out × Value × St)) none (some (.normal, oneOf q.1, gcS s q.2.2 (oneOf q.1))) (allB q.2.1)) = some (e, v, s'') →
      Ext s s'' ∧ (e = .normal ∨ ∃ p, e = .panic p) ∧ (∃ fn, C.P.funcs[g]? = some fn ∧ fn.name ≠ "runtime.NumGoroutine" ∧ fn.body.isSome = true) ∧ ∀ (ν : Ren) (m : Nat → Option Obj) (w : World) (vs' : Array Value), VRs ν vs vs'.toList → Pre B W0 ν m s s'' w →
        Calls C.P g vs' w fun e' w' => ∃ ν', Post B W0 ν m s s'' ν' w' ∧ ((e = .normal ∧ ∃ u, e' = .returned u ∧ VR ν' v u) ∨ ∃ p, e = .panic p ∧ e' = .panicked [{ v := p, recovered := false }]) := by
    intro o T s1 ho hs hr
    obtain ⟨⟨rs, ns, s2⟩, hr1, hr⟩ := bd hr
    dsimp only at hr
    cases hb : allB ns <;> rw [hb] at hr
    · cases hr
    obtain ⟨rfl, rfl, rfl⟩ := s3 hr
    obtain ⟨e1, k1⟩ := h2 _ _ _ _ _ _ _ hs
    obtain ⟨⟨j1, j2, j3, j4⟩, j5⟩ := aRes_ok (B := B) (W0 := W0) (N := F.ntmps) hC _ _ _ _ _ hr1 (allB_iff hb)
    have e12 : Ext s1 s2 := ⟨j4, fun i hi => by rw [j3]; exact hi, by rw [j2]; exact Nat.le_refl _, fun i _ _ => by rw [j1], fun hw i o hi => by rw [j1] at hi; rw [j2]; exact hw i o hi⟩
    have e2 := e1.trans e12
    refine ⟨gc_ext _ e2, .inl rfl, ⟨F, hf1, hf2, hbody⟩, fun ν m w vs' hv p => ?_⟩
    have p2 := gc_pre _ p
    refine calls_of_wp hf1 hc ?_
    refine (k1 ν m _ w _ ⟨?_, ?_⟩ (p2.first e12) fun ν' a' w' tr' hd hp => ?_).1
    · have := hv.length
      simp at this ⊢
      omega
    · intro i x hi
      rw [aget_zipT, if_pos (Nat.zero_le _), Nat.sub_zero] at hi
      obtain ⟨u, hu, hxu⟩ := hv.get hi
      refine ⟨u, ?_, hxu⟩
      rw [Array.getElem?_append_left (by have := (List.getElem?_eq_some_iff.1 hu).1; simpa using this), ← Array.getElem?_toList]
      exact hu
    · have q12 : Post B W0 ν' (Upd m (fresh0 s) s1) s1 s2 ν' w' := .same (p2.second e1 e12 hp) j3 j1 j2 hp.rel
      obtain ⟨us, hu, hvs⟩ := j5 (fun | .tmp t => pure (a'.tmps.getD t undef) | .cell c t => (do loadVar t (← asAddr (a'.tmps.getD c undef)))) (fun _ => rfl) (fun _ _ => rfl) tr' (p2.second e1 e12 hp) (fun i hi => hi)
      have hres : (results F a'.tmps).run C.P w' = .ok (if h : us.toArray.size = 1 then us.toArray[0] else .tuple us.toArray) w' := by
        unfold results
        rw [Array.mapM_eq_mapM_toList]
        simp only [Sem.run_bind, Sem.run_map]
        rw [show ∀ (f g : ResultVar → Sem Value), (∀ r, f r = g r) → List.mapM f F.results.toList = List.mapM g F.results.toList from fun f g h => by rw [funext h], hu]
        rfl
        intro r; cases r <;> rfl
      have hpost := gc_post _ e2 p (hp.trans e1 e12 q12)
      rcases ho with rfl | rfl
      · exact ⟨hd, _, hres, ν', hpost, .inl ⟨rfl, _, rfl, oneOf_ok hvs⟩⟩
      · exact ⟨hd, _, hres, ν', hpost, .inl ⟨rfl, _, rfl, oneOf_ok hvs⟩⟩
  split at h
  · exact fin (.inl rfl) ‹_› h
  · exact fin (.inr rfl) ‹_› h
  · rename_i p0 T s1 hs
    obtain ⟨rfl, rfl, rfl⟩ := s3 h
    obtain ⟨e1, k1⟩ := h2 _ _ _ _ _ _ _ hs
    refine ⟨gc_ext _ e1, .inr ⟨_, rfl⟩, ⟨F, hf1, hf2, hbody⟩, fun ν m w vs' hv p => ?_⟩
    have p2 := gc_pre _ p
    refine calls_of_wp hf1 hc ?_
    refine (k1 ν m _ w _ ⟨?_, ?_⟩ p2 fun ν' a' w' tr' hd hp => ?_).1
    · have := hv.length
      simp at this ⊢
      omega
    · intro i x hi
      rw [aget_zipT, if_pos (Nat.zero_le _), Nat.sub_zero] at hi
      obtain ⟨u, hu, hxu⟩ := hv.get hi
      refine ⟨u, ?_, hxu⟩
      rw [Array.getElem?_append_left (by have := (List.getElem?_eq_some_iff.1 hu).1; simpa using this), ← Array.getElem?_toList]
      exact hu
    · exact ⟨hd, ν', gc_post _ e1 p hp, .inr ⟨_, rfl, rfl⟩⟩
  · cases h
theorem ev_ok (hC : C.Ok) (hB : B ≤ W0.heap.size) {dr : CallF → Nat → Array Oper → Tm → St → Option (Out × Tm × St)} (hdr : DrOk C B W0 dr) : ∀ n, CallOk C B W0 (ev C dr n).1 ∧ CodeOk C B W0 (ev C dr n).2
  | 0 => ⟨(by intro g vs s e v s' h; change (none : Option (Out × Value × St)) = _ at h; cases h), (by intro N c T s e T' s' h; change (none : Option (Out × Tm × St)) = _ at h; cases h)⟩
  | n + 1 => by
    obtain ⟨h1, h2⟩ := ev_ok hC hB hdr n
    exact ⟨callF_ok hC h2, codeF_ok hC hB hdr h1 h2⟩
theorem callFunc_ext {P : Program} {g : FuncId} {fn : Func} {e : Array Value → Sem Value} (hf : P.funcs[g]? = some fn) (hn : fn.name ≠ "runtime.NumGoroutine") (hb : fn.body.isNone = true) (h1 : Extern.findNext fn = none) (h2 : Extern.find fn = some e) {args : Array Value} {w w' : World} {r : Value} (hr : (e args).run P w = .ok r w') :
    (Go.callFunc g args).run P w = .ok (.value r) w' := by
  have hn' : (fn.name == "runtime.NumGoroutine") = false := by simpa using hn
  simp only [Go.callFunc, Sem.run_bind, run_program, Result.andThen_ok, hf, hn', Bool.false_eq_true, if_false, hb, if_true, run_mark, h1, h2, hr]
  rfl
def st0 : St := { h := [], nx := 0, rd := [], wr := [] }
/-- A closed run. -/
theorem run_ok (hC : C.Ok) {dr : CallF → Nat → Array Oper → Tm → St → Option (Out × Tm × St)} (hdr : ∀ B W0, B ≤ W0.heap.size → DrOk C B W0 dr) {n g : Nat} {v : Value} {s' : St} (hv : plain v = true) (h : (ev C dr n).1 g [] st0 = some (.normal, v, s')) (w : World) :
    Calls C.P g #[] w fun e w' => e = .returned v ∧ Below w.heap.size w w' := by
  obtain ⟨h1, _⟩ := ev_ok (B := w.heap.size) (W0 := w) hC (Nat.le_refl _) (hdr _ _ (Nat.le_refl _)) n
  obtain ⟨_, _, _, k⟩ := h1 _ _ _ _ _ _ h
  refine Calls.mono (k (fun _ => none) (fun _ => none) w #[] .nil ⟨fun i _ => rfl, fun _ _ _ => rfl, fun i o hi => (by cases hi), ⟨fun a o h => (by cases h), fun a b o p g S S' h => (by cases h), .refl _ _⟩⟩) fun e w' he => ?_
  obtain ⟨ν', hp, ⟨_, u, rfl, hu⟩ | ⟨p, hh, _⟩⟩ := he
  · rw [VR.eq_of_plain hv hu]
    exact ⟨rfl, hp.rel.below⟩
  · cases hh
end
end Go.Ev
