/- Words of my own: the evaluator once more, with tables that hold no variable (fast in the kernel), proved equal. -/
import Derived.Test.YtfelkamfmdcapaaEv15
set_option linter.unusedVariables false
set_option linter.unusedSimpArgs false
namespace Go.Ev
noncomputable def obind {α β : Type} (x : Option α) (f : α → Option β) : Option β := Option.rec (motive := fun _ => Option β) none f x
noncomputable def asInt (v : Value) : Option (IntKind × Int) := Value.casesOn (motive_1 := fun _ => Option (IntKind × Int)) v (fun _ => none) (fun k n => some (k, n)) (fun _ _ => none) (fun _ _ _ => none) (fun _ => none) (fun _ => none) (fun _ _ _ => none) (fun _ => none) (fun _ => none) (fun _ _ _ => none) none (fun _ _ => none) none (fun _ => none) (fun _ => none)
noncomputable def asBool (v : Value) : Option (Bool) := Value.casesOn (motive_1 := fun _ => Option (Bool)) v (fun b => some b) (fun _ _ => none) (fun _ _ => none) (fun _ _ _ => none) (fun _ => none) (fun _ => none) (fun _ _ _ => none) (fun _ => none) (fun _ => none) (fun _ _ _ => none) none (fun _ _ => none) none (fun _ => none) (fun _ => none)
noncomputable def asTup (v : Value) : Option (Array Value) := Value.casesOn (motive_1 := fun _ => Option (Array Value)) v (fun _ => none) (fun _ _ => none) (fun _ _ => none) (fun _ _ _ => none) (fun _ => none) (fun _ => none) (fun _ _ _ => none) (fun _ => none) (fun _ => none) (fun _ _ _ => none) none (fun _ _ => none) none (fun _ => none) (fun l => some l)
noncomputable def addr0 (a : Addr) : Option (Nat × Nat) := Addr.rec (motive := fun _ => Option (Nat × Nat)) (fun b q p => Option.rec (motive := fun _ => Option (Nat × Nat)) (some (b, q)) (fun _ => none) p) a
noncomputable def addrZ (a : Addr) : Option (Nat × Nat × Nat) := Addr.rec (motive := fun _ => Option (Nat × Nat × Nat)) (fun b q p => Option.rec (motive := fun _ => Option (Nat × Nat × Nat)) none (fun z => some (b, q, z)) p) a
noncomputable def asPtr (v : Value) : Option (Nat × Nat) := Value.casesOn (motive_1 := fun _ => Option (Nat × Nat)) v (fun _ => none) (fun _ _ => none) (fun _ _ => none) (fun _ _ _ => none) (fun _ => none) (fun a => obind a addr0) (fun _ _ _ => none) (fun _ => none) (fun _ => none) (fun _ _ _ => none) none (fun _ _ => none) none (fun _ => none) (fun _ => none)
noncomputable def asSl (v : Value) : Option ((Nat × Nat × Nat) × Nat) := Value.casesOn (motive_1 := fun _ => Option ((Nat × Nat × Nat) × Nat)) v (fun _ => none) (fun _ _ => none) (fun _ _ => none) (fun _ _ _ => none) (fun _ => none) (fun _ => none) (fun a n _ => obind a fun a => obind (addrZ a) fun p => some (p, n)) (fun _ => none) (fun _ => none) (fun _ _ _ => none) none (fun _ _ => none) none (fun _ => none) (fun _ => none)
noncomputable def asPtrV (v : Value) : Option (Value) := Value.casesOn (motive_1 := fun _ => Option (Value)) v (fun _ => none) (fun _ _ => none) (fun _ _ => none) (fun _ _ _ => none) (fun _ => none) (fun a => obind a fun a => some (.pointer (some a))) (fun _ _ _ => none) (fun _ => none) (fun _ => none) (fun _ _ _ => none) none (fun _ _ => none) none (fun _ => none) (fun _ => none)
noncomputable def asIntD (v : TypeDesc) : Option (IntKind) := TypeDesc.casesOn (motive := fun _ => Option (IntKind)) v none none (fun k => some k) (fun _ => none) (fun _ => none) none none (fun _ => none) (fun _ => none) (fun _ _ => none) (fun _ _ => none) (fun _ _ => none) (fun _ => none) (fun _ _ _ => none) (fun _ => none) (fun _ => none) (fun _ _ => none)
noncomputable def asStrD (v : TypeDesc) : Option (Array Field) := TypeDesc.casesOn (motive := fun _ => Option (Array Field)) v none none (fun _ => none) (fun _ => none) (fun _ => none) none none (fun _ => none) (fun _ => none) (fun _ _ => none) (fun _ _ => none) (fun _ _ => none) (fun k => some k) (fun _ _ _ => none) (fun _ => none) (fun _ => none) (fun _ _ => none)
noncomputable def asSlD (v : TypeDesc) : Option (TypeId) := TypeDesc.casesOn (motive := fun _ => Option (TypeId)) v none none (fun _ => none) (fun _ => none) (fun _ => none) none none (fun _ => none) (fun k => some k) (fun _ _ => none) (fun _ _ => none) (fun _ _ => none) (fun _ => none) (fun _ _ _ => none) (fun _ => none) (fun _ => none) (fun _ _ => none)
noncomputable def asArD (v : TypeDesc) : Option (Nat × TypeId) := TypeDesc.casesOn (motive := fun _ => Option (Nat × TypeId)) v none none (fun _ => none) (fun _ => none) (fun _ => none) none none (fun _ => none) (fun _ => none) (fun n k => some (n, k)) (fun _ _ => none) (fun _ _ => none) (fun _ => none) (fun _ _ _ => none) (fun _ => none) (fun _ => none) (fun _ _ => none)
noncomputable def asStr (v : Value) : Option (ByteArray) := Value.casesOn (motive_1 := fun _ => Option (ByteArray)) v (fun _ => none) (fun _ _ => none) (fun _ _ => none) (fun _ _ _ => none) (fun b => some b) (fun _ => none) (fun _ _ _ => none) (fun _ => none) (fun _ => none) (fun _ _ _ => none) none (fun _ _ => none) none (fun _ => none) (fun _ => none)
noncomputable def asStD (v : TypeDesc) : Option (Unit) := TypeDesc.casesOn (motive := fun _ => Option (Unit)) v none none (fun _ => none) (fun _ => none) (fun _ => none) (some ()) none (fun _ => none) (fun _ => none) (fun _ _ => none) (fun _ _ => none) (fun _ _ => none) (fun _ => none) (fun _ _ _ => none) (fun _ => none) (fun _ => none) (fun _ _ => none)
noncomputable def kIdx (k : IntKind) : Nat := IntKind.rec (motive := fun _ => Nat) 0 1 2 3 4 5 6 7 k
noncomputable def kEq (a b : IntKind) : Bool := Nat.beq (kIdx a) (kIdx b)
theorem kEq_ok {a b : IntKind} : kEq a b = decide (a = b) := by cases a <;> cases b <;> rfl
noncomputable def iN (k : IntKind) (a b : Int) : Option Value := none
noncomputable def iAdd (k : IntKind) (a b : Int) : Option Value := some (.int k (wrapF k (Int.add a b)))
noncomputable def iSub (k : IntKind) (a b : Int) : Option Value := some (.int k (wrapF k (Int.sub a b)))
noncomputable def iMul (k : IntKind) (a b : Int) : Option Value := some (.int k (wrapF k (Int.mul a b)))
noncomputable def iEql (k : IntKind) (a b : Int) : Option Value := some (.bool (eqI a b))
noncomputable def iNeq (k : IntKind) (a b : Int) : Option Value := some (.bool (Bool.rec (motive := fun _ => Bool) true false (eqI a b)))
noncomputable def iLss (k : IntKind) (x y : Int) : Option Value := some (.bool (Bool.rec (motive := fun _ => Bool) true false (leI y x)))
noncomputable def iLeq (k : IntKind) (x y : Int) : Option Value := some (.bool (leI x y))
noncomputable def iGtr (k : IntKind) (x y : Int) : Option Value := some (.bool (Bool.rec (motive := fun _ => Bool) true false (leI x y)))
noncomputable def iGeq (k : IntKind) (x y : Int) : Option Value := some (.bool (leI y x))
noncomputable def binDisp (op : BinOp) : IntKind → Int → Int → Option Value := BinOp.rec (motive := fun _ => IntKind → Int → Int → Option Value) iAdd iSub iMul iN iN (bit2 Nat.land) (bit2 Nat.lor) (bit2 Nat.xor) iN iN iN iEql iNeq iLss iLeq iGtr iGeq op
theorem binDisp_ok {op : BinOp} {k : IntKind} {a b : Int} {v : Value} (h : binDisp op k a b = some v) : intOp op k a b = some v := by
  cases op <;> first | exact h | cases h
noncomputable def int2 (op : BinOp) (k : IntKind) (a : Int) (k' : IntKind) (b : Int) : Option Value := Bool.rec (motive := fun _ => Option Value) (shOp op k a b) (binDisp op k a b) (kEq k k')
abbrev PV := Cfg → Tm → Oper → Option Value
noncomputable def pvN : PV := fun _ _ _ => none
noncomputable def pvMove (x : Operand) : PV := fun C T o => ev1 T x
noncomputable def pvPick (c a b : Operand) : PV := fun C T o => obind (ev1 T c) fun v => obind (asBool v) fun t => Bool.rec (motive := fun _ => Option Value) (ev1 T b) (ev1 T a) t
noncomputable def pvNilCheck (x : Operand) : PV := fun C T o => obind (ev1 T x) asPtrV
noncomputable def pvExtract (x : Operand) (i : Nat) : PV := fun C T o => obind (ev1 T x) fun v => obind (asTup v) fun l => nth l.toList i
noncomputable def pvBin (op : BinOp) (t : TypeId) (x y : Operand) (yt : TypeId) : PV := fun C T o => obind (ev1 T x) fun v => obind (asInt v) fun p => obind (ev1 T y) fun u => obind (asInt u) fun q => int2 op p.1 p.2 q.1 q.2
noncomputable def pvNot (x : Operand) : PV := fun C T o => obind (ev1 T x) fun v => obind (asBool v) fun b => some (.bool (Bool.rec (motive := fun _ => Bool) true false b))
noncomputable def pvNeg (x : Operand) : PV := fun C T o => obind (ev1 T x) fun v => obind (asInt v) fun p => some (.int p.1 (wrapF p.1 (Int.sub 0 p.2)))
noncomputable def pvUn (op : UnOp) (t : TypeId) (x : Operand) : PV := UnOp.rec (motive := fun _ => Operand → PV) pvNeg (fun _ => pvN) pvNot (fun _ => pvN) op x
noncomputable def pvConv (src dst : TypeId) (x : Operand) : PV := fun C T o => obind (C.ty src) fun _ => obind (C.ty dst) fun d => obind (asIntD d.2) fun k => obind (ev1 T x) fun v => obind (asInt v) fun p => some (.int k (wrapF k p.2))
noncomputable def pvField (t : TypeId) (x : Operand) (i : Nat) : PV := fun C T o => obind (C.ty t) fun ti => obind (asStrD ti.2) fun fs => obind (ev1 T x) fun v => obind (asPtr v) fun p => obind (nth fs.toList i) fun f => obind (C.ty f.type) fun fi => Nat.rec (motive := fun _ => Option Value) none (fun _ _ => some (.pointer (some ⟨p.1, Nat.add p.2 f.offset, none⟩))) fi.1.size
noncomputable def pvIx (t : TypeId) (x i : Operand) : PV := fun C T o => obind (C.ty t) fun ti => obind (asStD ti.2) fun _ => obind (ev1 T x) fun v => obind (asStr v) fun b => obind (ev1 T i) fun u => obind (asInt u) fun j => obind (nth b.data.toList (toNatF j.2)) fun c =>
  Bool.rec (motive := fun _ => Option Value) none (some (.int .u8 (Int.ofNat c.toNat))) (allB [leI 0 j.2])
noncomputable def pvIndexA (t : TypeId) (x i : Operand) : PV := fun C T o => obind (C.ty t) fun ti => obind (asArD ti.2) fun e => obind (ev1 T x) fun v => obind (asPtr v) fun p => obind (ev1 T i) fun u => obind (asInt u) fun j => obind (C.ty e.2) fun ei =>
  Bool.rec (motive := fun _ => Option Value) none (some (.pointer (some ⟨p.1, Nat.add p.2 (Nat.mul (toNatF j.2) ei.1.size), none⟩))) (allB [leI 0 j.2, Nat.ble (Nat.succ (toNatF j.2)) e.1])
noncomputable def pvIndexS (t : TypeId) (x i : Operand) : PV := fun C T o => obind (C.ty t) fun ti => obind (asSlD ti.2) fun e => obind (ev1 T x) fun v => obind (asSl v) fun p => obind (ev1 T i) fun u => obind (asInt u) fun j => obind (C.ty e) fun ei =>
  Bool.rec (motive := fun _ => Option Value) none (some (.pointer (some ⟨p.1.1, Nat.add p.1.2.1 (Nat.mul (toNatF j.2) p.1.2.2), none⟩))) (allB [leI 0 j.2, Nat.ble (Nat.succ (toNatF j.2)) p.2, Nat.beq p.1.2.2 ei.1.size])
noncomputable def pvIndex (t : TypeId) (x i : Operand) : PV := fun C T o => Option.rec (motive := fun _ => Option Value) (pvIndexA t x i C T o) (fun v => some v) (pvIndexS t x i C T o)
noncomputable def pvDisp (op : Op) : PV := Op.rec (motive := fun _ => PV) pvMove pvMove pvPick (fun _ => pvN) (fun _ _ => pvN) (fun _ _ => pvN) (fun _ _ _ => pvN) (fun _ _ _ _ => pvN) (fun _ _ => pvN) (fun _ _ _ => pvN) (fun _ => pvN) (fun _ => pvN) pvNilCheck pvBin pvUn pvConv (fun _ _ => pvN) (fun _ _ => pvN) (fun _ _ _ => pvN) (fun _ _ => pvN) (fun _ _ => pvN) (fun _ _ _ => pvN) (fun _ _ _ _ _ => pvN) pvField (fun _ _ _ => pvN) pvIndex pvIx (fun _ _ _ _ => pvN) (fun _ _ _ _ => pvN) (fun _ _ _ => pvN) (fun _ _ _ _ => pvN) (fun _ _ => pvN) (fun _ _ => pvN) (fun _ => pvN) (fun _ _ _ _ => pvN) pvExtract (fun _ => pvN) (fun _ => pvN) (fun _ => pvN) (fun _ => pvN) (fun _ _ => pvN) (fun _ _ _ => pvN) (fun _ _ => pvN) op
abbrev R3 := Option (Out × Value × St)
noncomputable def pu3 (r : Option (Value × List Bool × St)) : R3 := match r with
  | some (v, ns, s') => Bool.rec (motive := fun _ => R3) none (some (.normal, v, s')) (allB ns)
  | none => none
theorem ob_some {α β : Type} {x : Option α} {f : α → Option β} {v : β} (h : obind x f = some v) : ∃ a, x = some a ∧ f a = some v := by
  cases x with
  | none => cases h
  | some a => exact ⟨a, rfl, h⟩
theorem asInt_ok {v : Value} {p : IntKind × Int} (h : asInt v = some p) : v = .int p.1 p.2 := by cases v <;> cases h; rfl
theorem asBool_ok {v : Value} {p : Bool} (h : asBool v = some p) : v = .bool p := by cases v <;> cases h; rfl
theorem asTup_ok {v : Value} {p : Array Value} (h : asTup v = some p) : v = .tuple p := by cases v <;> cases h; rfl
theorem asIntD_ok {v : TypeDesc} {p : IntKind} (h : asIntD v = some p) : v = .int p := by cases v <;> cases h; rfl
theorem asArD_ok {v : TypeDesc} {p : Nat × TypeId} (h : asArD v = some p) : v = .array p.1 p.2 := by cases v <;> cases h; rfl
theorem asStr_ok {v : Value} {p : ByteArray} (h : asStr v = some p) : v = .string p := by cases v <;> cases h; rfl
theorem asStD_ok {v : TypeDesc} {p : Unit} (h : asStD v = some p) : v = .string := by cases v <;> first | rfl | cases h
theorem asStrD_ok {v : TypeDesc} {p : Array Field} (h : asStrD v = some p) : v = .struct p := by cases v <;> cases h; rfl
theorem asSlD_ok {v : TypeDesc} {p : TypeId} (h : asSlD v = some p) : v = .slice p := by cases v <;> cases h; rfl
theorem asPtr_ok {v : Value} {p : Nat × Nat} (h : asPtr v = some p) : v = .pointer (some ⟨p.1, p.2, none⟩) := by
  cases v with
  | pointer a => cases a with
    | none => cases h
    | some a =>
      obtain ⟨b, q, z⟩ := a
      cases z <;> cases h
      rfl
  | _ => cases h
theorem asSl_ok {v : Value} {p : (Nat × Nat × Nat) × Nat} (h : asSl v = some p) : ∃ c, v = .slice (some ⟨p.1.1, p.1.2.1, some p.1.2.2⟩) p.2 c := by
  cases v with
  | slice a n c => cases a with
    | none => cases h
    | some a =>
      obtain ⟨b, q, z⟩ := a
      cases z <;> cases h
      exact ⟨c, rfl⟩
  | _ => cases h
theorem asPtrV_ok {v u : Value} (h : asPtrV v = some u) : ∃ a, v = .pointer (some a) ∧ u = v := by
  cases v with
  | pointer a => cases a with
    | none => cases h
    | some a => cases h; exact ⟨a, rfl, rfl⟩
  | _ => cases h
theorem pvDisp_ok {C : Cfg} {T : Tm} {s : St} {o : Oper} {v : Value} (h : pvDisp o.op C T o = some v) : pu3 (aOp C T s o) = some (.normal, v, s) := by
  have pu : ∀ {o : Oper} {v : Value} {ns : List Bool}, allB ns = true → aPure C T o = some (v, ns) → aOp C T s o = (aPure C T o).bind (fun r => some (r.1, r.2, s)) → pu3 (aOp C T s o) = some (.normal, v, s) := by
    intro o v ns h1 h2 h3
    rw [h3, h2]
    show Bool.rec (motive := fun _ => R3) none (some (Out.normal, v, s)) (allB ns) = _
    rw [h1]
  obtain ⟨d, op, type, pos, after, guard⟩ := o
  cases op
  case move x => exact pu (ns := []) rfl (by show ((ev1 T x).bind fun v => some (v, ([] : List Bool))) = _; rw [show ev1 T x = some v from h]; rfl) rfl
  case assign x => exact pu (ns := []) rfl (by show ((ev1 T x).bind fun v => some (v, ([] : List Bool))) = _; rw [show ev1 T x = some v from h]; rfl) rfl
  case pick c a b =>
    obtain ⟨cv, hc, g1⟩ := ob_some (show obind (ev1 T c) _ = some v from h)
    obtain ⟨t, ht, g2⟩ := ob_some g1
    obtain rfl := asBool_ok ht
    refine pu (ns := []) rfl ?_ rfl
    simp only [aPure, hc]
    rw [g2]; rfl
  case nilCheck x =>
    obtain ⟨w, hw, g1⟩ := ob_some (show obind (ev1 T x) _ = some v from h)
    obtain ⟨a, rfl, rfl⟩ := asPtrV_ok g1
    refine pu (ns := []) rfl ?_ rfl
    simp only [aPure, hw]
  case extract x i =>
    obtain ⟨w, hw, g1⟩ := ob_some (show obind (ev1 T x) _ = some v from h)
    obtain ⟨l, hl, g2⟩ := ob_some g1
    obtain rfl := asTup_ok hl
    refine pu (ns := []) rfl ?_ rfl
    simp only [aPure, hw]
    rw [g2]; rfl
  case binOp op t x y yt =>
    obtain ⟨w, hw, g1⟩ := ob_some (show obind (ev1 T x) _ = some v from h)
    obtain ⟨p, hp, g2⟩ := ob_some g1
    obtain ⟨u, hu, g3⟩ := ob_some g2
    obtain ⟨q, hq, g4⟩ := ob_some g3
    obtain rfl := asInt_ok hp
    obtain rfl := asInt_ok hq
    obtain ⟨k, a⟩ := p
    obtain ⟨k', b⟩ := q
    refine pu (ns := []) rfl ?_ rfl
    simp only [aPure, hw, hu, Option.bind_some, aBin]
    change Bool.rec (motive := fun _ => Option Value) (shOp op k a b) (binDisp op k a b) (kEq k k') = some v at g4
    rw [kEq_ok] at g4
    cases hk : decide (k = k') <;> rw [hk] at g4
    · change shOp op k a b = some v at g4
      rw [g4]; rfl
    · rw [binDisp_ok g4]
  case unOp op t x =>
    cases op <;> first | (cases h; done) | skip
    case neg =>
      obtain ⟨w, hw, g1⟩ := ob_some (show obind (ev1 T x) _ = some v from h)
      obtain ⟨p, hp, g2⟩ := ob_some g1
      obtain rfl := asInt_ok hp
      refine pu (ns := []) rfl ?_ rfl
      simp only [aPure, hw]
      obtain rfl := Option.some.inj g2
      rfl
    case not =>
      obtain ⟨w, hw, g1⟩ := ob_some (show obind (ev1 T x) _ = some v from h)
      obtain ⟨p, hp, g2⟩ := ob_some g1
      obtain rfl := asBool_ok hp
      refine pu (ns := []) rfl ?_ rfl
      simp only [aPure, hw]
      obtain rfl := Option.some.inj g2
      rfl
  case convert src dst x =>
    obtain ⟨si, hs, g1⟩ := ob_some (show obind (C.ty src) _ = some v from h)
    obtain ⟨di, hd, g2⟩ := ob_some g1
    obtain ⟨k, hk, g3⟩ := ob_some g2
    obtain ⟨w, hw, g4⟩ := ob_some g3
    obtain ⟨p, hp, g5⟩ := ob_some g4
    obtain rfl := asInt_ok hp
    obtain ⟨d1, d2⟩ := di
    obtain ⟨s1, s2⟩ := si
    have hk : d2 = .int k := asIntD_ok hk
    subst hk
    refine pu (ns := []) rfl ?_ ?_
    · simp only [aPure, hs, hd, hw]
      exact congrArg (fun x => x.map fun v => (v, ([] : List Bool))) g5
    · simp only [aOp, aConv, hs, hd, hw]
  case fieldAddr t x i =>
    obtain ⟨ti, ht, g1⟩ := ob_some (show obind (C.ty t) _ = some v from h)
    obtain ⟨fs, hf, g2⟩ := ob_some g1
    obtain ⟨w, hw, g3⟩ := ob_some g2
    obtain ⟨p, hp, g4⟩ := ob_some g3
    obtain ⟨f, hn, g5⟩ := ob_some g4
    obtain ⟨fi, hfi, g6⟩ := ob_some g5
    obtain rfl := asPtr_ok hp
    obtain ⟨t1, t2⟩ := ti
    have hf : t2 = .struct fs := asStrD_ok hf
    subst hf
    refine pu (ns := []) rfl ?_ rfl
    simp only [aPure, ht, hw, hn, Option.bind_some, hfi]
    cases hz : fi.1.size with
    | zero => rw [hz] at g6; cases g6
    | succ n => rw [hz] at g6; exact congrArg (fun x => x.map fun v => (v, ([] : List Bool))) g6
  case indexAddr t x i =>
    have h : Option.rec (motive := fun _ => Option Value) (pvIndexA t x i C T ⟨d, .indexAddr t x i, type, pos, after, guard⟩) (fun v => some v) (pvIndexS t x i C T ⟨d, .indexAddr t x i, type, pos, after, guard⟩) = some v := h
    cases hS : pvIndexS t x i C T ⟨d, .indexAddr t x i, type, pos, after, guard⟩ with
    | none =>
      rw [hS] at h
      obtain ⟨ti, ht, g1⟩ := ob_some (show obind (C.ty t) _ = some v from h)
      obtain ⟨e, hf, g2⟩ := ob_some g1
      obtain ⟨w, hw, g3⟩ := ob_some g2
      obtain ⟨p, hp, g4⟩ := ob_some g3
      obtain ⟨u, hu, g5⟩ := ob_some g4
      obtain ⟨j, hj, g6⟩ := ob_some g5
      obtain ⟨ei, hei, g7⟩ := ob_some g6
      obtain rfl := asPtr_ok hp
      obtain rfl := asInt_ok hj
      obtain ⟨t1, t2⟩ := ti
      obtain ⟨e1, e2⟩ := e
      have hf : t2 = .array e1 e2 := asArD_ok hf
      subst hf
      cases hb : allB [leI 0 j.2, Nat.ble (Nat.succ (toNatF j.2)) e1] <;> rw [hb] at g7
      · cases g7
      · refine pu hb ?_ rfl
        simp only [aPure, ht, hw, hu, Option.bind_some, hei]
        exact congrArg (fun x => x.map fun v => (v, ([leI 0 j.2, Nat.ble (Nat.succ (toNatF j.2)) e1] : List Bool))) g7
    | some v0 =>
    rw [hS] at h
    obtain rfl := Option.some.inj h
    obtain ⟨ti, ht, g1⟩ := ob_some (show obind (C.ty t) _ = some v0 from hS)
    obtain ⟨e, hf, g2⟩ := ob_some g1
    obtain ⟨w, hw, g3⟩ := ob_some g2
    obtain ⟨p, hp, g4⟩ := ob_some g3
    obtain ⟨u, hu, g5⟩ := ob_some g4
    obtain ⟨j, hj, g6⟩ := ob_some g5
    obtain ⟨ei, hei, g7⟩ := ob_some g6
    obtain ⟨c, rfl⟩ := asSl_ok hp
    obtain rfl := asInt_ok hj
    obtain ⟨t1, t2⟩ := ti
    have hf : t2 = .slice e := asSlD_ok hf
    subst hf
    cases hb : allB [leI 0 j.2, Nat.ble (Nat.succ (toNatF j.2)) p.2, Nat.beq p.1.2.2 ei.1.size] <;> rw [hb] at g7
    · cases g7
    · refine pu hb ?_ rfl
      simp only [aPure, ht, hw, hu, Option.bind_some, hei]
      exact congrArg (fun x => x.map fun v => (v, ([leI 0 j.2, Nat.ble (Nat.succ (toNatF j.2)) p.2, Nat.beq p.1.2.2 ei.1.size] : List Bool))) g7
  case index t x i =>
    obtain ⟨ti, ht, g1⟩ := ob_some (show obind (C.ty t) _ = some v from h)
    obtain ⟨_, hf, g2⟩ := ob_some g1
    obtain ⟨w, hw, g3⟩ := ob_some g2
    obtain ⟨b, hp, g4⟩ := ob_some g3
    obtain ⟨u, hu, g5⟩ := ob_some g4
    obtain ⟨j, hj, g6⟩ := ob_some g5
    obtain ⟨c, hc, g7⟩ := ob_some g6
    obtain rfl := asStr_ok hp
    obtain rfl := asInt_ok hj
    obtain ⟨t1, t2⟩ := ti
    have hf : t2 = .string := asStD_ok hf
    subst hf
    cases hb : allB [leI 0 j.2] <;> rw [hb] at g7
    · cases g7
    · refine pu hb ?_ rfl
      simp only [aPure, ht, hw, hu, Option.bind_some, hc]
      exact congrArg (fun x => x.map fun v => (v, ([leI 0 j.2] : List Bool))) g7
  all_goals cases h
/-- The other steps. -/
abbrev MV := Cfg → Tm → St → Oper → R3
noncomputable def mvO : MV := fun C T s o => pu3 (aOp C T s o)
noncomputable def mvLoad (t : TypeId) (x : Operand) : MV := fun C T s o => pu3 (aLoad C T s t x)
noncomputable def setK {α : Type} (c : List Value) (v : Value) : Nat → (List Value → Option α) → Option α := List.rec (motive := fun _ => Nat → (List Value → Option α) → Option α) (fun _ _ => none) (fun p r ih o k => Nat.rec (motive := fun _ => Option α) (k (v :: r)) (fun j _ => ih j fun r => k (p :: r)) o) c
theorem setK_ok {α : Type} : ∀ {c : List Value} {v : Value} {o : Nat} {k : List Value → Option α} {r : α}, setK c v o k = some r → o + 1 ≤ c.length ∧ k (c.take o ++ ([v] ++ c.drop (o + 1))) = some r
  | [], v, o, k, r, h => by cases h
  | p :: c, v, 0, k, r, h => ⟨by simp, h⟩
  | p :: c, v, o + 1, k, r, h => by
    obtain ⟨h1, h2⟩ := setK_ok (c := c) (v := v) (o := o) (k := fun r => k (p :: r)) h
    exact ⟨by simp; omega, by simpa using h2⟩
noncomputable def isOne (v : Value) : Bool := Value.casesOn (motive_1 := fun _ => Bool) v (fun _ => true) (fun _ _ => true) (fun _ _ => true) (fun _ _ _ => true) (fun _ => true) (fun _ => true) (fun _ _ _ => true) (fun _ => true) (fun _ => true) (fun _ _ _ => true) true (fun _ _ => true) true (fun _ => false) (fun _ => false)
theorem isOne_ok {v : Value} (h : isOne v = true) : v.cells = #[v] ∧ one1 v = true := by cases v <;> first | exact ⟨rfl, rfl⟩ | cases h
noncomputable def stF (C : Cfg) (T : Tm) (s : St) (t : TypeId) (x y : Operand) : R3 :=
  obind (ev1 T x) fun p => obind (asPtr p) fun a => obind (ev1 T y) fun v => obind (C.ty t) fun ti => Bool.rec (motive := fun _ => R3) none (Bool.rec (motive := fun _ => R3) none (obind (aget s.h a.1) fun ob => Obj.casesOn (motive := fun _ => R3) ob (fun c ct cf => setK c.toList v a.2 fun c' => some (.normal, undef, wrS s a.1 (.cells ⟨c'⟩ ct cf))) (fun _ _ => none) (fun _ _ => none) (fun _ _ => none) (fun _ _ => none) (fun _ _ _ _ _ _ => none) (fun _ _ => none) (fun _ _ _ _ => none) (fun _ => none) (fun _ => none) (fun _ => none) (fun _ _ => none)) (Nat.beq 1 ti.1.size)) (isOne v)
theorem stF_ok {C : Cfg} {T : Tm} {s : St} {t : TypeId} {x y : Operand} {r : Out × Value × St} (h : stF C T s t x y = some r) : pu3 (aStore C T s t x y) = some r := by
  obtain ⟨p, hx, g1⟩ := ob_some (show obind (ev1 T x) _ = some r from h)
  obtain ⟨a, hp, g2⟩ := ob_some g1
  obtain ⟨v, hy, g3⟩ := ob_some g2
  obtain ⟨ti, ht, g4⟩ := ob_some g3
  obtain rfl := asPtr_ok hp
  cases h1 : isOne v <;> rw [h1] at g4
  · cases g4
  cases h2 : Nat.beq 1 ti.1.size <;> rw [h2] at g4
  · cases g4
  obtain ⟨ob, ho, g5⟩ := ob_some (show obind (aget s.h a.1) _ = some r from g4)
  cases ob <;> first | (cases g5; done) | skip
  rename_i c ct cf
  obtain ⟨k1, k2⟩ := setK_ok (show setK c.toList v a.2 _ = some r from g5)
  obtain ⟨e1, e2⟩ := isOne_ok h1
  have e3 : ti.1.size = 1 := (Nat.eq_of_beq_eq_true h2).symm
  simp only [aStore, hx, hy, ht, ho, e1]
  rw [← k2, splice_eq]
  have n1 : allB [Nat.beq (len (#[v] : Array Value).toList) ti.1.size, ones (#[v] : Array Value).toList, Nat.ble (Nat.add a.2 ti.1.size) (len c.toList)] = true := by
    rw [e3, len_eq]
    have n2 : Nat.ble (Nat.add a.2 1) c.toList.length = true := ble_iff.2 k1
    show Bool.rec (motive := fun _ => Bool) false (Bool.rec (motive := fun _ => Bool) false _ _) _ = true
    rw [show ones (#[v] : Array Value).toList = true by show Bool.rec (motive := fun _ => Bool) false true (one1 v) = true; rw [e2]]
    show Bool.rec (motive := fun _ => Bool) false true (Nat.ble (Nat.add a.2 1) (len c.toList)) = true
    rw [len_eq, n2]
  show Bool.rec (motive := fun _ => R3) none _ (allB _) = _
  rw [n1]
  rfl
noncomputable def mvStore (t : TypeId) (x y : Operand) : MV := fun C T s o => Option.rec (motive := fun _ => R3) (pu3 (aStore C T s t x y)) (fun r => some r) (stF C T s t x y)
theorem mvStore_eq {C : Cfg} {T : Tm} {s : St} {t : TypeId} {x y : Operand} (o : Oper) : mvStore t x y C T s o = pu3 (aStore C T s t x y) := by
  show Option.rec (motive := fun _ => R3) (pu3 (aStore C T s t x y)) (fun r => some r) (stF C T s t x y) = _
  cases h : stF C T s t x y with
  | none => rfl
  | some r => exact (stF_ok h).symm
noncomputable def mvAlloc (t : TypeId) : MV := fun C T s o => pu3 (aAlloc C s t)
noncomputable def mvBuild (t : TypeId) (ps : Array (Nat × Operand)) : MV := fun C T s o => pu3 ((aBuild C T t ps).bind fun r => some (r.1, r.2, s))
noncomputable def mvDisp (op : Op) : MV := Op.rec (motive := fun _ => MV) (fun _ => mvO) (fun _ => mvO) (fun _ _ _ => mvO) mvAlloc (fun _ _ => mvO) mvBuild (fun _ _ _ => mvO) (fun _ _ _ _ => mvO) mvLoad mvStore (fun _ => mvO) (fun _ => mvO) (fun _ => mvO) (fun _ _ _ _ _ => mvO) (fun _ _ _ => mvO) (fun _ _ _ => mvO) (fun _ _ => mvO) (fun _ _ => mvO) (fun _ _ _ => mvO) (fun _ _ => mvO) (fun _ _ => mvO) (fun _ _ _ => mvO) (fun _ _ _ _ _ => mvO) (fun _ _ _ => mvO) (fun _ _ _ => mvO) (fun _ _ _ => mvO) (fun _ _ _ => mvO) (fun _ _ _ _ => mvO) (fun _ _ _ _ => mvO) (fun _ _ _ => mvO) (fun _ _ _ _ => mvO) (fun _ _ => mvO) (fun _ _ => mvO) (fun _ => mvO) (fun _ _ _ _ => mvO) (fun _ _ => mvO) (fun _ => mvO) (fun _ => mvO) (fun _ => mvO) (fun _ => mvO) (fun _ _ => mvO) (fun _ _ _ => mvO) (fun _ _ => mvO) op
theorem mvDisp_eq {C : Cfg} {T : Tm} {s : St} {o : Oper} : mvDisp o.op C T s o = pu3 (aOp C T s o) := by
  obtain ⟨d, op, type, pos, after, guard⟩ := o
  cases op
  case store t x y => exact mvStore_eq ⟨d, .store t x y, type, pos, after, guard⟩
  all_goals rfl
abbrev SV := CallF → Cfg → Tm → St → Oper → R3
noncomputable def svO : SV := fun call C T s o => mvDisp o.op C T s o
noncomputable def svCall (c : Call) : SV := fun call C T s o => match c with
  | ⟨.value f, args, _⟩ => match ev1 T f, evs T args.toList with
      | some (.func (.func g) ⟨[]⟩ cap), some vs => match C.xt g with
        | none => match C.pc g (app vs cap.toList) with
          | some v => some (.normal, v, s)
          | none => call g (app vs cap.toList) s
        | some k => match aExt C s k (app vs cap.toList) with
          | some (v, ns, s') => Bool.rec (motive := fun _ => R3) none (some (.normal, v, s')) (allB ns)
          | none => none
      | _, _ => none
  | _ => pu3 (aOp C T s o)
noncomputable def svPanic (x : Operand) : SV := fun call C T s o => match ev1 T x with
      | some (.iface t v) => Bool.rec (motive := fun _ => R3) none (some (.panic (.iface t v), undef, s)) (flat v)
      | _ => none
noncomputable def svDisp (op : Op) : SV := Op.rec (motive := fun _ => SV) (fun _ => svO) (fun _ => svO) (fun _ _ _ => svO) (fun _ => svO) (fun _ _ => svO) (fun _ _ => svO) (fun _ _ _ => svO) (fun _ _ _ _ => svO) (fun _ _ => svO) (fun _ _ _ => svO) (fun _ => svO) (fun _ => svO) (fun _ => svO) (fun _ _ _ _ _ => svO) (fun _ _ _ => svO) (fun _ _ _ => svO) (fun _ _ => svO) (fun _ _ => svO) (fun _ _ _ => svO) (fun _ _ => svO) (fun _ _ => svO) (fun _ _ _ => svO) (fun _ _ _ _ _ => svO) (fun _ _ _ => svO) (fun _ _ _ => svO) (fun _ _ _ => svO) (fun _ _ _ => svO) (fun _ _ _ _ => svO) (fun _ _ _ _ => svO) (fun _ _ _ => svO) (fun _ _ _ _ => svO) (fun _ _ => svO) (fun _ _ => svO) (fun _ => svO) (fun _ _ _ _ => svO) (fun _ _ => svO) svCall (fun _ => svO) (fun _ => svO) svPanic (fun _ _ => svO) (fun _ _ _ => svO) (fun _ _ => svO) op
theorem svDisp_eq {call : CallF} {C : Cfg} {N : Nat} {ops : List Oper} {o : Oper} {T : Tm} {s : St} (hw : aWanted ops T o = some true) : svDisp o.op call C T s o = stepOp call C N ops o T s := by
  unfold stepOp
  rw [hw]
  obtain ⟨d, op, type, pos, after, guard⟩ := o
  cases op
  case store t x y => exact mvStore_eq ⟨d, .store t x y, type, pos, after, guard⟩
  case call c =>
    obtain ⟨ca, args, tys⟩ := c
    cases ca <;> rfl
  all_goals rfl
theorem step_pv {call : CallF} {C : Cfg} {N : Nat} {ops : List Oper} {o : Oper} {T : Tm} {s : St} {v : Value} (hw : aWanted ops T o = some true) (h : pvDisp o.op C T o = some v) : stepOp call C N ops o T s = some (.normal, v, s) := by
  rw [← pvDisp_ok (s := s) h]
  unfold stepOp
  rw [hw]
  obtain ⟨d, op, type, pos, after, guard⟩ := o
  cases op <;> first
    | rfl
    | (exfalso; cases h; done)
noncomputable def wantF (ops : List Oper) (T : Tm) (o : Oper) : Option Bool := Option.rec (motive := fun _ => Option Bool) (some true) (fun _ => aWanted ops T o) o.guard
theorem wantF_eq (ops : List Oper) (T : Tm) (o : Oper) : wantF ops T o = aWanted ops T o := by
  unfold wantF
  cases h : o.guard with
  | none => simp only [aWanted, h]
  | some p => rfl
noncomputable def aputK {α : Type} (l : Tm) (i : Nat) (v : Value) : (Tm → α) → α := List.rec (motive := fun _ => (Tm → α) → α) (fun k => k [(i, v)]) (fun p r ih k => Bool.rec (motive := fun _ => α) (ih fun r => k (p :: r)) (k ((i, v) :: r)) (Nat.beq i p.1)) l
theorem aputK_eq {α : Type} : ∀ (l : Tm) (i : Nat) (v : Value) (k : Tm → α), aputK l i v k = k (aput l i v)
  | [], i, v, k => rfl
  | p :: r, i, v, k => by
    show Bool.rec (motive := fun _ => α) (aputK r i v fun r => k (p :: r)) (k ((i, v) :: r)) (Nat.beq i p.1) = k (Bool.rec (motive := fun _ => List (Nat × Value)) (p :: aput r i v) ((i, v) :: r) (Nat.beq i p.1))
    cases Nat.beq i p.1
    · exact aputK_eq r i v _
    · rfl
noncomputable def putK {α : Type} (N : Nat) (o : Oper) (T : Tm) (v : Value) (k : Tm → Option α) : Option α := Option.rec (motive := fun _ => Option α) (k T) (fun d => Bool.rec (motive := fun _ => Option α) none (aputK T d v k) (Nat.ble (Nat.succ d) N)) o.dst
theorem putK_eq {α : Type} (N : Nat) (o : Oper) (T : Tm) (v : Value) (k : Tm → Option α) : putK N o T v k = (match putT N o T v with | some T' => k T' | none => none) := by
  unfold putK putT
  cases o.dst with
  | none => rfl
  | some d =>
    show Bool.rec (motive := fun _ => Option α) none (aputK T d v k) (Nat.ble (Nat.succ d) N) = _
    rw [aputK_eq]
    dsimp only
    cases Nat.ble (Nat.succ d) N <;> rfl
noncomputable def forceNs {α : Type} (l : List Nat) : (List Nat → α) → α := List.rec (motive := fun _ => (List Nat → α) → α) (fun k => k []) (fun v _ ih k => forceN v fun v => ih fun r => k (v :: r)) l
theorem forceNs_eq {α : Type} : ∀ (l : List Nat) (k : List Nat → α), forceNs l k = k l
  | [], _ => rfl
  | v :: l, k => by
    show forceN v (fun v => forceNs l fun r => k (v :: r)) = _
    rw [forceN_eq, forceNs_eq l]
noncomputable def forceH {α : Type} (l : List (Nat × Obj)) : (List (Nat × Obj) → α) → α := List.rec (motive := fun _ => (List (Nat × Obj) → α) → α) (fun k => k []) (fun v _ ih k => ih fun r => k (v :: r)) l
theorem forceH_eq {α : Type} : ∀ (l : List (Nat × Obj)) (k : List (Nat × Obj) → α), forceH l k = k l
  | [], _ => rfl
  | v :: l, k => forceH_eq l _
noncomputable def forceL {α : Type} (l : List Value) : (List Value → α) → α := List.rec (motive := fun _ => (List Value → α) → α) (fun k => k []) (fun v _ ih k => forceV v fun v => ih fun r => k (v :: r)) l
theorem forceL_eq {α : Type} : ∀ (l : List Value) (k : List Value → α), forceL l k = k l
  | [], _ => rfl
  | v :: l, k => by
    show forceV v (fun v => forceL l fun r => k (v :: r)) = _
    rw [forceV_eq, forceL_eq l]
noncomputable def forceS {α : Type} (s : St) (d : List Value) (k : St → α) : α := forceH s.h fun h => forceN s.nx fun nx => forceNs s.rd fun rd => forceNs s.wr fun wr => k { h := h, nx := nx, rd := rd, wr := wr, df := d }
theorem forceS_eq {α : Type} (s : St) (d : List Value) (k : St → α) : forceS s d k = k (sd s d) := by
  unfold forceS
  rw [forceH_eq, forceN_eq, forceNs_eq, forceNs_eq]
  rfl
noncomputable def forceHd {α : Type} (l : List (Nat × Obj)) (k : List (Nat × Obj) → α) : α := List.rec (motive := fun _ => α) (k []) (fun p r _ => Obj.casesOn (motive := fun _ => α) p.2 (fun c t f => forceL c.toList fun c => k ((p.1, .cells ⟨c⟩ t f) :: r)) (fun _ _ => k (p :: r)) (fun _ _ => k (p :: r)) (fun _ _ => k (p :: r)) (fun _ _ => k (p :: r)) (fun _ _ _ _ _ _ => k (p :: r)) (fun _ _ => k (p :: r)) (fun _ _ _ _ => k (p :: r)) (fun _ => k (p :: r)) (fun _ => k (p :: r)) (fun _ => k (p :: r)) (fun _ _ => k (p :: r))) l
theorem forceHd_eq {α : Type} (l : List (Nat × Obj)) (k : List (Nat × Obj) → α) : forceHd l k = k l := by
  cases l with
  | nil => rfl
  | cons p r =>
    obtain ⟨i, ob⟩ := p
    cases ob <;> first | rfl | exact forceL_eq _ _
noncomputable def forceG {α : Type} (b : Bool) (s : St) (d : List Value) (k : St → α) : α := Bool.rec (motive := fun _ => α) (forceS s d k) (forceHd s.h fun h => forceS ⟨h, s.nx, s.rd, s.wr, s.df⟩ d k) b
theorem forceG_eq {α : Type} (b : Bool) (s : St) (d : List Value) (k : St → α) : forceG b s d k = k (sd s d) := by
  cases b
  · exact forceS_eq s d k
  · show forceHd s.h (fun h => forceS ⟨h, s.nx, s.rd, s.wr, s.df⟩ d k) = _
    rw [forceHd_eq]
    exact forceS_eq _ _ _
noncomputable def isGrow (op : Op) : Bool := Op.rec (motive := fun _ => Bool) (fun _ => false) (fun _ => false) (fun _ _ _ => false) (fun _ => true) (fun _ _ => false) (fun _ _ => false) (fun _ _ _ => true) (fun _ _ _ _ => false) (fun _ _ => false) (fun _ _ _ => false) (fun _ => false) (fun _ => false) (fun _ => false) (fun _ _ _ _ _ => false) (fun _ _ _ => false) (fun _ _ _ => true) (fun _ _ => false) (fun _ _ => false) (fun _ _ _ => false) (fun _ _ => false) (fun _ _ => false) (fun _ _ _ => true) (fun _ _ _ _ _ => false) (fun _ _ _ => false) (fun _ _ _ => false) (fun _ _ _ => false) (fun _ _ _ => false) (fun _ _ _ _ => false) (fun _ _ _ _ => false) (fun _ _ _ => false) (fun _ _ _ _ => false) (fun _ _ => false) (fun _ _ => false) (fun _ => false) (fun _ _ _ _ => false) (fun _ _ => false) (fun _ => true) (fun _ => false) (fun _ => false) (fun _ => false) (fun _ _ => false) (fun _ _ _ => false) (fun _ _ => false) op
abbrev R4 := Option (Out × Tm × St)
noncomputable def evSlow (call : CallF) (C : Cfg) (N : Nat) (o : Oper) (T : Tm) (s : St) (ih : Tm → St → R4) : R4 := match svDisp o.op call C T s o with
  | some (.normal, v, s') => forceV v fun v => putK N o T v fun T' => forceG (isGrow o.op) s' s.df fun s' => ih T' s'
  | some (.panic v, _, s') => some (.panic v, T, sd s' s.df)
  | _ => none
noncomputable def evGo (call : CallF) (C : Cfg) (N : Nat) (o : Oper) (T : Tm) (s : St) (ih : Tm → St → R4) : R4 := Option.rec (motive := fun _ => R4) (evSlow call C N o T s ih) (fun v => forceV v fun v => putK N o T v fun T' => ih T' s) (pvDisp o.op C T o)
noncomputable def evStep (call : CallF) (C : Cfg) (N : Nat) (ops : List Oper) (o : Oper) (T : Tm) (s : St) (ih : Tm → St → R4) : R4 :=
  Option.rec (motive := fun _ => R4) none (fun b => Bool.rec (motive := fun _ => R4) (putK N o T undef fun T' => ih T' s) (evGo call C N o T s ih) b) (wantF ops T o)
theorem sd_eta (s : St) : sd s s.df = s := rfl
theorem evStep_eq (call : CallF) (C : Cfg) (N : Nat) (ops : List Oper) (o : Oper) (T : Tm) (s : St) (ih : Tm → St → R4) : evStep call C N ops o T s ih = (match stepOp call C N ops o T s with
      | some (.normal, v, s') => forceV v fun v => match putT N o T v with
        | some T' => ih T' (sd s' s.df)
        | none => none
      | some (.panic v, _, s') => some (.panic v, T, sd s' s.df)
      | _ => none) := by
  unfold evStep
  rw [wantF_eq]
  cases hw : aWanted ops T o with
  | none => simp only [stepOp, hw]
  | some b => cases b with
    | false =>
      simp only [stepOp, hw]
      rw [putK_eq, forceV_eq]
      rfl
    | true =>
      show evGo call C N o T s ih = _
      unfold evGo
      cases hp : pvDisp o.op C T o with
      | some v =>
        rw [step_pv hw hp]
        show forceV v _ = forceV v _
        rw [forceV_eq, forceV_eq, putK_eq]
        rfl
      | none =>
        show evSlow call C N o T s ih = _
        unfold evSlow
        rw [svDisp_eq (N := N) hw]
        cases hs : stepOp call C N ops o T s with
        | none => rfl
        | some r =>
          obtain ⟨e, v, s'⟩ := r
          cases e <;> first | rfl | skip
          dsimp only
          rw [forceV_eq, forceV_eq, putK_eq]
          cases putT N o T v with
          | none => rfl
          | some T' => exact forceG_eq _ _ _ _
noncomputable def isDefer (op : Op) : Bool := Op.rec (motive := fun _ => Bool) (fun _ => false) (fun _ => false) (fun _ _ _ => false) (fun _ => false) (fun _ _ => false) (fun _ _ => false) (fun _ _ _ => false) (fun _ _ _ _ => false) (fun _ _ => false) (fun _ _ _ => false) (fun _ => false) (fun _ => false) (fun _ => false) (fun _ _ _ _ _ => false) (fun _ _ _ => false) (fun _ _ _ => false) (fun _ _ => false) (fun _ _ => false) (fun _ _ _ => false) (fun _ _ => false) (fun _ _ => false) (fun _ _ _ => false) (fun _ _ _ _ _ => false) (fun _ _ _ => false) (fun _ _ _ => false) (fun _ _ _ => false) (fun _ _ _ => false) (fun _ _ _ _ => false) (fun _ _ _ _ => false) (fun _ _ _ => false) (fun _ _ _ _ => false) (fun _ _ => false) (fun _ _ => false) (fun _ => false) (fun _ _ _ _ => false) (fun _ _ => false) (fun _ => false) (fun _ => false) (fun _ => true) (fun _ => false) (fun _ _ => false) (fun _ _ _ => false) (fun _ _ => false) op
noncomputable def evDef (call : CallF) (C : Cfg) (N : Nat) (ops : List Oper) (o : Oper) (T : Tm) (s : St) (ih : Tm → St → R4) : R4 := match o.op with
    | .defer c => match evDefer T ops o c, putT N o T undef with
      | some v, some T' => ih T' (sd s (v :: s.df))
      | _, _ => none
    | _ => none
noncomputable def evOpsF (call : CallF) (C : Cfg) (N : Nat) (ops : List Oper) (l : List Oper) : Tm → St → R4 :=
  List.rec (motive := fun _ => Tm → St → R4) (fun T s => some (.normal, T, s)) (fun o _ ih T s => Bool.rec (motive := fun _ => R4) (evStep call C N ops o T s ih) (evDef call C N ops o T s ih) (isDefer o.op)) l
theorem evOpsF_eq (call : CallF) (C : Cfg) (N : Nat) (ops : List Oper) : ∀ l, evOpsF call C N ops l = evOps call C N ops l
  | [] => rfl
  | o :: l => by
    funext T s
    have h := evOpsF_eq call C N ops l
    show Bool.rec (motive := fun _ => R4) (evStep call C N ops o T s (evOpsF call C N ops l)) (evDef call C N ops o T s (evOpsF call C N ops l)) (isDefer o.op) = evOps call C N ops (o :: l) T s
    rw [h, evStep_eq]
    obtain ⟨d, op, type, pos, after, guard⟩ := o
    cases op <;> rfl
/-- Code. -/
abbrev DrF := CallF → Nat → Array Oper → Tm → St → R4
abbrev CV := Cfg → DrF → CallF → CodeF → Nat → Tm → St → R4
noncomputable def isNorm (e : Out) : Bool := Out.rec (motive := fun _ => Bool) true (fun _ => false) false (fun _ => false) e
noncomputable def exitId (e : Out) : Option Nat := Out.rec (motive := fun _ => Option Nat) none (fun i => some i) none (fun _ => none) e
noncomputable def cvSkip : CV := fun C dr call self N T s => some (.normal, T, s)
noncomputable def cvNone : CV := fun C dr call self N T s => none
noncomputable def cvRegion (id : Nat) (ops : Array Oper) (d : Bool) : CV := fun C dr call self N T s => Bool.rec (motive := fun _ => R4) (evOpsF call C N ops.toList ops.toList T s) (dr call N ops T s) d
noncomputable def seqK (self : CodeF) (N : Nat) (y : Code) (r : Out × Tm × St) : R4 := Bool.rec (motive := fun _ => R4) (some r) (self N y r.2.1 r.2.2) (isNorm r.1)
noncomputable def cvSeq (x y : Code) : CV := fun C dr call self N T s => Option.rec (motive := fun _ => R4) none (fun r => seqK self N y r) (self N x T s)
noncomputable def cvCond (x : Operand) (y z : Code) : CV := fun C dr call self N T s => obind (ev1 T x) fun v => obind (asBool v) fun b => Bool.rec (motive := fun _ => R4) (self N z T s) (self N y T s) b
noncomputable def blockK (id : Nat) (r : Out × Tm × St) : R4 := Option.rec (motive := fun _ => R4) (some r) (fun i => Bool.rec (motive := fun _ => R4) (some r) (some (.normal, r.2.1, r.2.2)) (Nat.beq i id)) (exitId r.1)
noncomputable def cvBlock (id : Nat) (x : Code) : CV := fun C dr call self N T s => Option.rec (motive := fun _ => R4) none (fun r => blockK id r) (self N x T s)
noncomputable def cvLoop (x : Code) : CV := fun C dr call self N T s => Option.rec (motive := fun _ => R4) none (fun r => seqK self N (.loop x) r) (self N x T s)
noncomputable def cvExit (id : Nat) : CV := fun C dr call self N T s => some (.exit id, T, s)
noncomputable def cvRet : CV := fun C dr call self N T s => some (.ret, T, s)
noncomputable def cvDisp (c : Code) : CV := Code.casesOn (motive := fun _ => CV) c cvSkip cvRegion cvSeq cvCond cvBlock cvLoop (fun _ _ _ _ => cvNone) cvExit (fun _ => cvNone) (fun _ => cvSkip) (fun _ => cvNone) cvRet (fun _ => cvNone)
noncomputable def codeFF (C : Cfg) (dr : DrF) (call : CallF) (self : CodeF) : CodeF := fun N c T s => cvDisp c C dr call self N T s
theorem codeFF_eq (C : Cfg) (dr : DrF) (call : CallF) (self : CodeF) : codeFF C dr call self = codeF C dr call self := by
  funext N c T s
  cases c with
  | region id ops d => cases d with
    | false => exact congrFun (congrFun (evOpsF_eq call C N ops.toList ops.toList) T) s
    | true => rfl
  | seq x y =>
    show Option.rec (motive := fun _ => R4) none (fun r => seqK self N y r) (self N x T s) = (match self N x T s with | some (.normal, T', s') => self N y T' s' | r => r)
    cases self N x T s with
    | none => rfl
    | some r => obtain ⟨e, T', s'⟩ := r; cases e <;> rfl
  | cond x y z =>
    show obind (ev1 T x) _ = (match ev1 T x with | some (.bool b) => Bool.rec (motive := fun _ => Option (Out × Tm × St)) (self N z T s) (self N y T s) b | _ => none)
    cases ev1 T x with
    | none => rfl
    | some v => cases v <;> rfl
  | block id x =>
    show Option.rec (motive := fun _ => R4) none (fun r => blockK id r) (self N x T s) = (match self N x T s with | some (.exit id', T', s') => Bool.rec (motive := fun _ => Option (Out × Tm × St)) (some (.exit id', T', s')) (some (.normal, T', s')) (Nat.beq id' id) | r => r)
    cases self N x T s with
    | none => rfl
    | some r =>
      obtain ⟨e, T', s'⟩ := r
      cases e <;> rfl
  | loop x =>
    show Option.rec (motive := fun _ => R4) none (fun r => seqK self N (.loop x) r) (self N x T s) = (forceT T fun T => match self N x T s with | some (.normal, T', s') => self N (.loop x) T' s' | r => r)
    rw [forceT_eq]
    cases self N x T s with
    | none => rfl
    | some r => obtain ⟨e, T', s'⟩ := r; cases e <;> rfl
  | _ => rfl
noncomputable def callFF (C : Cfg) (call : CallF) (self : CodeF) : CallF := fun g vs s =>
  match C.fn g with
  | none => none
  | some F => match F.body with
    | none => none
    | some c => Bool.rec (motive := fun _ => R3) none
        (forceT (zipT vs 0) fun T0 => forceS (fresh0 s) [] fun s0 => match self F.ntmps c T0 s0 with
        | some (.normal, T, s') => finF call C self F s T s' none
        | some (.ret, T, s') => finF call C self F s T s' none
        | some (.panic v, T, s') => finF call C self F s T s' (some (v, false))
        | _ => none) (Nat.ble (len vs) F.ntmps)
theorem callFF_eq (C : Cfg) (call : CallF) (self : CodeF) : callFF C call self = callF C call self := by
  funext g vs s
  unfold callFF callF
  cases C.fn g with
  | none => rfl
  | some F =>
    dsimp only
    cases F.body with
    | none => rfl
    | some c =>
      dsimp only
      rw [forceT_eq, forceS_eq]
      rfl
noncomputable def evF (C : Cfg) (dr : DrF) (n : Nat) : CallF × CodeF :=
  Nat.rec (motive := fun _ => CallF × CodeF) (fun _ _ _ => none, fun _ _ _ _ => none) (fun _ ih => (callFF C ih.1 ih.2, codeFF C dr ih.1 ih.2)) n
theorem evF_eq (C : Cfg) (dr : DrF) : ∀ n, evF C dr n = ev C dr n
  | 0 => rfl
  | n + 1 => by
    show (callFF C (evF C dr n).1 (evF C dr n).2, codeFF C dr (evF C dr n).1 (evF C dr n).2) = (callF C (ev C dr n).1 (ev C dr n).2, codeF C dr (ev C dr n).1 (ev C dr n).2)
    rw [evF_eq C dr n, callFF_eq, codeFF_eq]
/-- Drawn regions. -/
noncomputable def drSlow (call : CallF) (C : Cfg) (N : Nat) (ops : List Oper) (ms : List Nat) (o : Oper) (i : Nat) (T : Tm) (s : St) (rs : List Rec) (ih : Nat → Tm → St → List Rec → Option (Tm × St × List Rec)) : Option (Tm × St × List Rec) :=
  match svDisp o.op call C (restr T (looks ops o)) (clr s) o with
    | some (.normal, v, s') => forceV v fun v => putK N o T v fun T' => forceG (isGrow o.op) s' s'.df fun s' => match s'.rd, s'.wr, Nat.beq s.nx s'.nx with
        | [], [], true => ih (Nat.succ i) T' s' rs
        | _, _, _ => Bool.rec (motive := fun _ => Option (Tm × St × List Rec)) none (ih (Nat.succ i) T' s' (⟨i, s'.rd, s'.wr, s.nx, s'.nx⟩ :: rs)) (pairB ms ⟨i, s'.rd, s'.wr, s.nx, s'.nx⟩ rs)
    | _ => none
noncomputable def drGo (call : CallF) (C : Cfg) (N : Nat) (ops : List Oper) (ms : List Nat) (o : Oper) (i : Nat) (T : Tm) (s : St) (rs : List Rec) (ih : Nat → Tm → St → List Rec → Option (Tm × St × List Rec)) : Option (Tm × St × List Rec) :=
  Option.rec (motive := fun _ => Option (Tm × St × List Rec)) (drSlow call C N ops ms o i T s rs ih) (fun v => forceV v fun v => putK N o T v fun T' => ih (Nat.succ i) T' (clr s) rs) (pvDisp o.op C (restr T (looks ops o)) o)
noncomputable def drStep (call : CallF) (C : Cfg) (N : Nat) (ops : List Oper) (ms : List Nat) (o : Oper) (i : Nat) (T : Tm) (s : St) (rs : List Rec) (ih : Nat → Tm → St → List Rec → Option (Tm × St × List Rec)) : Option (Tm × St × List Rec) :=
  Option.rec (motive := fun _ => Option (Tm × St × List Rec)) none (fun b => Bool.rec (motive := fun _ => Option (Tm × St × List Rec)) (putK N o T undef fun T' => ih (Nat.succ i) T' (clr s) rs) (drGo call C N ops ms o i T s rs ih) b) (wantF ops (restr T (looks ops o)) o)
theorem beq_self (n : Nat) : Nat.beq n n = true := Nat.beq_refl n
theorem drStep_eq (call : CallF) (C : Cfg) (N : Nat) (ops : List Oper) (ms : List Nat) (o : Oper) (i : Nat) (T : Tm) (s : St) (rs : List Rec) (ih : Nat → Tm → St → List Rec → Option (Tm × St × List Rec)) :
    drStep call C N ops ms o i T s rs ih = (match stepOp call C N ops o (restr T (looks ops o)) (clr s) with
    | some (.normal, v, s') => forceV v fun v => match putT N o T v with
      | some T' => match s'.rd, s'.wr, Nat.beq s.nx s'.nx with
        | [], [], true => ih (Nat.succ i) T' s' rs
        | _, _, _ => Bool.rec (motive := fun _ => Option (Tm × St × List Rec)) none (ih (Nat.succ i) T' s' (⟨i, s'.rd, s'.wr, s.nx, s'.nx⟩ :: rs)) (pairB ms ⟨i, s'.rd, s'.wr, s.nx, s'.nx⟩ rs)
      | none => none
    | _ => none) := by
  have nn : ∀ (T' : Tm), (match (clr s).rd, (clr s).wr, Nat.beq s.nx (clr s).nx with
        | [], [], true => ih (Nat.succ i) T' (clr s) rs
        | _, _, _ => Bool.rec (motive := fun _ => Option (Tm × St × List Rec)) none (ih (Nat.succ i) T' (clr s) (⟨i, (clr s).rd, (clr s).wr, s.nx, (clr s).nx⟩ :: rs)) (pairB ms ⟨i, (clr s).rd, (clr s).wr, s.nx, (clr s).nx⟩ rs)) = ih (Nat.succ i) T' (clr s) rs := by
    intro T'
    show (match ([] : List Nat), ([] : List Nat), Nat.beq s.nx s.nx with
        | [], [], true => ih (Nat.succ i) T' (clr s) rs
        | _, _, _ => _) = _
    rw [Nat.beq_refl]
  unfold drStep
  rw [wantF_eq]
  cases hw : aWanted ops (restr T (looks ops o)) o with
  | none => simp only [stepOp, hw]
  | some b => cases b with
    | false =>
      simp only [stepOp, hw]
      rw [putK_eq, forceV_eq]
      cases putT N o T undef with
      | none => rfl
      | some T' => exact (nn T').symm
    | true =>
      show drGo call C N ops ms o i T s rs ih = _
      unfold drGo
      cases hp : pvDisp o.op C (restr T (looks ops o)) o with
      | some v =>
        rw [step_pv hw hp]
        show forceV v _ = forceV v _
        rw [forceV_eq, forceV_eq, putK_eq]
        cases putT N o T v with
        | none => rfl
        | some T' => exact (nn T').symm
      | none =>
        show drSlow call C N ops ms o i T s rs ih = _
        unfold drSlow
        rw [svDisp_eq (N := N) hw]
        cases hs : stepOp call C N ops o (restr T (looks ops o)) (clr s) with
        | none => rfl
        | some r =>
          obtain ⟨e, v, s'⟩ := r
          cases e <;> first | rfl | skip
          dsimp only
          rw [forceV_eq, forceV_eq, putK_eq]
          cases putT N o T v with
          | none => rfl
          | some T' => exact forceG_eq _ _ _ _
noncomputable def evDrOpsF (call : CallF) (C : Cfg) (N : Nat) (ops : List Oper) (ms : List Nat) (l : List Oper) : Nat → Tm → St → List Rec → Option (Tm × St × List Rec) :=
  List.rec (motive := fun _ => Nat → Tm → St → List Rec → Option (Tm × St × List Rec)) (fun _ T s rs => some (T, s, rs)) (fun o _ ih i T s rs => drStep call C N ops ms o i T s rs ih) l
theorem evDrOpsF_eq (call : CallF) (C : Cfg) (N : Nat) (ops : List Oper) (ms : List Nat) : ∀ l, evDrOpsF call C N ops ms l = evDrOps call C N ops ms l
  | [] => rfl
  | o :: l => by
    funext i T s rs
    show drStep call C N ops ms o i T s rs (evDrOpsF call C N ops ms l) = evDrOps call C N ops ms (o :: l) i T s rs
    rw [evDrOpsF_eq call C N ops ms l, drStep_eq]
    rfl
noncomputable def evDrF (C : Cfg) : DrF := fun call N ops T s => match evDrOpsF call C N ops.toList (masks ops.toList []) ops.toList 0 T s [] with
  | some (T', s', rs) => Bool.rec (motive := fun _ => R4) none
      (some (.normal, T', { h := s'.h, nx := s'.nx, rd := mrg s.rd (allRd rs), wr := mrg s.wr (allWr rs), df := s.df })) (regOk ops.toList)
  | none => none
theorem evDrF_eq (C : Cfg) : evDrF C = evDr C := by
  funext call N ops T s
  unfold evDrF evDr
  rw [evDrOpsF_eq]
  rfl
theorem fast_eq (C : Cfg) (n : Nat) : evF C (evDrF C) n = ev C (evDr C) n := by rw [evDrF_eq, evF_eq]
end Go.Ev
