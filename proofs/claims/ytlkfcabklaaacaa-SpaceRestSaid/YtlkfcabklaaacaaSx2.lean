/- Words of my own: operations over abstract values that look at no memory. -/
import Derived.Test.YtlkfcabklaaacaaSx1
set_option linter.unusedVariables false
set_option linter.unusedSimpArgs false
namespace Go.Ev
open Go.RowKit
noncomputable section
/-- Whole numbers of 64 bits, with a sign. -/
abbrev w64 (n : Int) : Int := IntKind.i64.wrap n
theorem w64_of {n : Int} (h1 : -9223372036854775808 ≤ n) (h2 : n ≤ 9223372036854775807) : w64 n = n := IntWalk.i64_in n ⟨by omega, by omega⟩
def nW : IntKind → Nat → AV
  | .u8, m => .y (UInt8.ofNat m)
  | .u16, m => .n .u16 (m % 65536)
  | .u32, m => .n .u32 (m % 4294967296)
  | .u64, m => .n .u64 (m % 18446744073709551616)
  | .i64, m => .i .i64 (w64 (m : Int))
  | k, m => .i k (k.wrap (m : Int))
theorem nW_den (D : Dt) (k : IntKind) (m : Nat) : den D (nW k m) = .int k (k.wrap (m : Int)) := by
  cases k <;> first
    | rfl
    | (show Value.int _ _ = Value.int _ _
       congr 1
       simp only [IntKind.wrap, IntKind.signed, IntKind.bits, Bool.false_and, Bool.false_eq_true, if_false, UInt8.toNat_ofNat']
       omega)
def iW : IntKind → Int → AV
  | .u8, n => .y (UInt8.ofNat (IntKind.u8.wrap n).toNat)
  | .u16, n => .n .u16 (IntKind.u16.wrap n).toNat
  | .u32, n => .n .u32 (u32 n)
  | .u64, n => .n .u64 (u64 n)
  | .i64, n => .i .i64 (w64 n)
  | k, n => .i k (k.wrap n)
theorem iW_den (D : Dt) (k : IntKind) (n : Int) : den D (iW k n) = .int k (k.wrap n) := by
  cases k <;> first
    | rfl
    | (show Value.int _ _ = Value.int _ _
       congr 1
       first | exact (u32_cast n).symm | exact (u64_cast n).symm |
       (simp only [IntKind.wrap, IntKind.signed, IntKind.bits, Bool.false_and, Bool.false_eq_true, if_false, UInt8.toNat_ofNat']
        omega))
/-- A whole number's kind and what it is. -/
def toI : AV → Option (IntKind × Int)
  | .i k n => some (k, n)
  | .n k m => some (k, (m : Int))
  | .y x => some (.u8, ((x.toNat : Nat) : Int))
  | _ => none
theorem toI_ok {D : Dt} {v : AV} {k : IntKind} {n : Int} (h : toI v = some (k, n)) : den D v = .int k n := by
  cases v <;> first | (cases h; rfl) | cases h
def toN : AV → Option (IntKind × Nat)
  | .n .u16 m => some (.u16, m)
  | .n .u32 m => some (.u32, m)
  | .n .u64 m => some (.u64, m)
  | .y x => some (.u8, x.toNat)
  | _ => none
/-- What is known of a natural number's kind. -/
def NK (k : IntKind) (n : Nat) : Prop := k.signed = false ∧ (k = .u8 → n < 256)
theorem toN_ok {D : Dt} {v : AV} {k : IntKind} {n : Nat} (h : toN v = some (k, n)) : den D v = .int k (n : Int) ∧ NK k n := by
  unfold toN at h
  split at h <;> first
    | (cases h; refine ⟨rfl, rfl, fun h => ?_⟩; cases h; done)
    | (cases h; exact ⟨rfl, rfl, fun _ => UInt8.toNat_lt_size _⟩)
    | cases h
/-- A natural number that is small enough. -/
def nV : IntKind → Nat → AV
  | .u8, m => .y (UInt8.ofNat m)
  | k, m => .n k m
theorem nV_den {D : Dt} {k : IntKind} {m n : Nat} (h : NK k n) (hm : m ≤ n) : den D (nV k m) = .int k (m : Int) := by
  obtain ⟨h1, h2⟩ := h
  cases k <;> first
    | cases h1; done
    | rfl
    | (have := h2 rfl
       show Value.int _ _ = Value.int _ _
       congr 1
       simp only [UInt8.toNat_ofNat']
       omega)
def ofV1 : Value → Option AV
  | .bool b => some (.b b)
  | .int .u8 n => cond (decide (((UInt8.ofNat n.toNat).toNat : Int) = n)) (some (.y (UInt8.ofNat n.toNat))) none
  | .int .u16 n => cond (decide (((n.toNat : Nat) : Int) = n)) (some (.n .u16 n.toNat)) none
  | .int .u32 n => cond (decide (((n.toNat : Nat) : Int) = n)) (some (.n .u32 n.toNat)) none
  | .int .u64 n => cond (decide (((n.toNat : Nat) : Int) = n)) (some (.n .u64 n.toNat)) none
  | .int k n => some (.i k n)
  | .string s => some (.s s.data.toList)
  | .pointer none => some .nptr
  | .slice none 0 0 => some .nsl
  | .map none => some .nmap
  | .nilFunc => some .nfn
  | .nilIface => some .nifc
  | _ => none
theorem cond_some' {α : Type} {b : Bool} {x : Option α} {r : α} (h : cond b x none = some r) : b = true ∧ x = some r := by
  cases b
  · cases h
  · exact ⟨rfl, h⟩
theorem ofV1_ok {D : Dt} {v : Value} {a : AV} (h : ofV1 v = some a) : den D a = v ∧ flA a = true := by
  unfold ofV1 at h
  split at h <;> first
    | (cases h; exact ⟨rfl, rfl⟩)
    | (obtain ⟨hb, h⟩ := cond_some' h
       cases h
       refine ⟨?_, rfl⟩
       show Value.int _ _ = Value.int _ _
       rw [of_decide_eq_true hb])
    | cases h
def ofVs : List Value → Option (List AV)
  | [] => some []
  | v :: l => (ofV1 v).bind fun a => (ofVs l).bind fun r => some (a :: r)
theorem ofVs_ok {D : Dt} : ∀ {l : List Value} {r : List AV}, ofVs l = some r → denL D r = l ∧ flAs r = true
  | [], r, h => by cases h; exact ⟨rfl, rfl⟩
  | v :: l, r, h => by
    rw [ofVs] at h
    obtain ⟨a, h1, h⟩ := bd h
    obtain ⟨r', h2, h⟩ := bd h
    obtain rfl := Option.some.inj h
    obtain ⟨e1, e2⟩ := ofV1_ok (D := D) h1
    obtain ⟨e3, e4⟩ := ofVs_ok (D := D) h2
    refine ⟨by rw [denL, e1, e3], ?_⟩
    rw [flAs, e2, e4]; rfl
def ofV : Value → Option AV
  | .agg l => (ofVs l.toList).bind fun r => some (.ag r)
  | .tuple l => match l.toList with
    | [] => some .un
    | _ => none
  | v => ofV1 v
theorem ofV_ok {D : Dt} {v : Value} {a : AV} (h : ofV v = some a) : den D a = v ∧ plain v = true := by
  unfold ofV at h
  split at h
  · rename_i l
    obtain ⟨r, h1, h⟩ := bd h
    obtain rfl := Option.some.inj h
    obtain ⟨e1, e2⟩ := ofVs_ok (D := D) h1
    refine ⟨?_, ?_⟩
    · rw [den, e1]
    · show flats l.toList = true
      rw [← e1]; exact flAs_flats e2
  · rename_i l
    split at h
    · rename_i hl
      cases h
      have : l = #[] := Array.toList_inj.1 hl
      subst this
      exact ⟨rfl, rfl⟩
    · cases h
  · obtain ⟨e1, e2⟩ := ofV1_ok (D := D) h
    refine ⟨e1, ?_⟩
    rw [← e1]
    cases a <;> first | rfl | cases e2
def ev1A (T : AT) : Operand → Option AV
  | .tmp t => aget T t
  | .const v => ofV v
  | .func f => some (.fn f [])
  | .global _ => none
theorem ev1A_ok {D : Dt} {T : AT} {x : Operand} {v : AV} (h : ev1A T x = some v) : ev1 (denT D T) x = some (den D v) := by
  cases x with
  | tmp t => show aget (denT D T) t = _; rw [aget_denT]; show (aget T t).map _ = _; rw [show aget T t = some v from h]; rfl
  | const c =>
    obtain ⟨e1, e2⟩ := ofV_ok (D := D) (show ofV c = some v from h)
    show Bool.rec (motive := fun _ => Option Value) none (some c) (plain c) = _
    rw [e2, e1]
  | func f => cases h; rfl
  | global g => cases h
def evsA (T : AT) : List Operand → Option (List AV)
  | [] => some []
  | x :: l => (ev1A T x).bind fun v => (evsA T l).bind fun r => some (v :: r)
theorem evsA_ok {D : Dt} {T : AT} : ∀ {l : List Operand} {r : List AV}, evsA T l = some r → evs (denT D T) l = some (denL D r)
  | [], r, h => by cases h; rfl
  | x :: l, r, h => by
    rw [evsA] at h
    obtain ⟨v, h1, h⟩ := bd h
    obtain ⟨r', h2, h⟩ := bd h
    obtain rfl := Option.some.inj h
    show ((ev1 (denT D T) x).bind fun v => (evs (denT D T) l).bind fun vs => some (v :: vs)) = _
    rw [ev1A_ok h1, evsA_ok h2]; rfl
section
variable {C : Cfg} [Hv C] {N n0 : Nat} {T : Tm} {s : St} {ops : Array Oper} {l : List Oper} {d : Option Nat} {ty : TypeId} {pos : String} {after : Array Edge} {v : Value} {s' : St}
theorem st_eqBo {t t' : TypeId} {x y : Operand} {a b : Bool} {ti : TypeInfo} (h1 : C.ty t = some (ti, .bool)) (hx : ev1 T x = some (.bool a)) (hy : ev1 T y = some (.bool b)) : Stp C N ops ⟨d, .binOp .eql t x y t', ty, pos, after, none⟩ T s (.bool (a == b)) s :=
  Stp.of_OpOk rfl fun B W0 hB => .pure fun ν ac w tr => ⟨.bool (a == b), by
    have e1 := VR.bool_inv (ev1_ok tr hx)
    have e2 := VR.bool_inv (ev1_ok tr hy)
    have hu := (Hv.ok.ty _ _ h1).2
    simp only [execOp, e1, e2]
    simp [go_sem, hu], .flat rfl⟩
theorem st_neBo {t t' : TypeId} {x y : Operand} {a b : Bool} {ti : TypeInfo} (h1 : C.ty t = some (ti, .bool)) (hx : ev1 T x = some (.bool a)) (hy : ev1 T y = some (.bool b)) : Stp C N ops ⟨d, .binOp .neq t x y t', ty, pos, after, none⟩ T s (.bool (!(a == b))) s :=
  Stp.of_OpOk rfl fun B W0 hB => .pure fun ν ac w tr => ⟨.bool (!(a == b)), by
    have e1 := VR.bool_inv (ev1_ok tr hx)
    have e2 := VR.bool_inv (ev1_ok tr hy)
    have hu := (Hv.ok.ty _ _ h1).2
    simp only [execOp, e1, e2]
    simp [go_sem, hu], .flat rfl⟩
theorem st_nilE {t t' : TypeId} {x y : Operand} {v u : Value} {b : Bool} {ti : TypeInfo × TypeDesc} (h1 : C.ty t = some ti) (hx : ev1 T x = some v) (hy : ev1 T y = some u) (hp : plain v = false) (hb : nilCmp ti.2 v u = some b) : Stp C N ops ⟨d, .binOp .eql t x y t', ty, pos, after, none⟩ T s (.bool b) s :=
  Stp.of_aOp (ns := []) rfl (fun _ _ _ h => by cases h) (fun _ h => by cases h) (by
    have : aBin C T ⟨d, .binOp .eql t x y t', ty, pos, after, none⟩ .eql t v u = some (.bool b, []) := by
      unfold aBin
      split
      · simp [plain, Ev.flat] at hp
      · simp [plain, Ev.flat] at hp
      · rw [hp]; simp only [h1, hb]
    simp [aOp, aPure, hx, hy, this]) rfl
theorem st_nilN {t t' : TypeId} {x y : Operand} {v u : Value} {b : Bool} {ti : TypeInfo × TypeDesc} (h1 : C.ty t = some ti) (hx : ev1 T x = some v) (hy : ev1 T y = some u) (hp : plain v = false) (hb : nilCmp ti.2 v u = some b) : Stp C N ops ⟨d, .binOp .neq t x y t', ty, pos, after, none⟩ T s (.bool (!b)) s :=
  Stp.of_aOp (ns := []) rfl (fun _ _ _ h => by cases h) (fun _ h => by cases h) (by
    have : aBin C T ⟨d, .binOp .neq t x y t', ty, pos, after, none⟩ .neq t v u = some (.bool (!b), []) := by
      unfold aBin
      split
      · simp [plain, Ev.flat] at hp
      · simp [plain, Ev.flat] at hp
      · rw [hp]; simp only [h1, hb]
    simp [aOp, aPure, hx, hy, this]) rfl
end
/-- Numbers and texts, two at a time: what must hold, and the value. -/
def bits2 (k : IntKind) : Nat := match k with
  | .u8 | .i8 => 256
  | .u16 | .i16 => 65536
  | .u32 | .i32 => 4294967296
  | .u64 | .i64 => 18446744073709551616
theorem bits2_eq (k : IntKind) : 2 ^ k.bits = bits2 k := by cases k <;> rfl
/-- Two whole numbers of one kind, as whole numbers. -/
def binI (op : BinOp) (k : IntKind) (a b : Int) : Option (Bool × AV) := match op with
  | .add => some (true, iW k (a + b))
  | .sub => some (true, iW k (a - b))
  | .mul => some (true, iW k (a * b))
  | .quo => some (decide (b ≠ 0), iW k (Int.tdiv a b))
  | .rem => some (decide (b ≠ 0), .i k (Int.tmod a b))
  | .eql => some (true, .b (decide (a = b)))
  | .neq => some (true, .b (decide (a ≠ b)))
  | .lss => some (true, .b (decide (a < b)))
  | .leq => some (true, .b (decide (a ≤ b)))
  | .gtr => some (true, .b (decide (b < a)))
  | .geq => some (true, .b (decide (b ≤ a)))
  | _ => none
/-- Two natural numbers of one kind. -/
def binN (op : BinOp) (k : IntKind) (a b : Nat) : Option (Bool × AV) := match op with
  | .add => some (true, nW k (a + b))
  | .sub => some (true, iW k ((a : Int) - (b : Int)))
  | .mul => some (true, nW k (a * b))
  | .quo => some (decide (b ≠ 0), nW k (a / b))
  | .rem => some (decide (b ≠ 0), nV k (a % b))
  | .and => some (true, nW k ((a % bits2 k) &&& (b % bits2 k)))
  | .or => some (true, nW k ((a % bits2 k) ||| (b % bits2 k)))
  | .xor => some (true, nW k ((a % bits2 k) ^^^ (b % bits2 k)))
  | .eql => some (true, .b (decide (a = b)))
  | .neq => some (true, .b (decide (a ≠ b)))
  | .lss => some (true, .b (decide (a < b)))
  | .leq => some (true, .b (decide (a ≤ b)))
  | .gtr => some (true, .b (decide (b < a)))
  | .geq => some (true, .b (decide (b ≤ a)))
  | _ => none
def strB (op : BinOp) (a b : List UInt8) : Option (Bool × AV) := match op with
  | .add => some (decide (a.length + b.length ≤ 4611686018427387904), .s (a ++ b))
  | .eql => some (true, .b (decide (a = b)))
  | .neq => some (true, .b (decide (a ≠ b)))
  | .lss => some (true, .b (sLt a b))
  | .geq => some (true, .b (!sLt a b))
  | .leq => some (true, .b (sLt a b || decide (a = b)))
  | .gtr => some (true, .b (!(sLt a b || decide (a = b))))
  | _ => none
/-- A shift. -/
def shN (op : BinOp) (k : IntKind) (a b : Nat) : Option (Bool × AV) := match op with
  | .shl => some (Nat.ble b k.bits, nW k (a * 2 ^ b))
  | .shr => some (Nat.ble b k.bits, nV k (a / 2 ^ b))
  | _ => none
section
variable {C : Cfg} [Hv C] {N n0 : Nat} {T : Tm} {s : St} {ops : Array Oper} {l : List Oper} {d : Option Nat} {ty : TypeId} {pos : String} {after : Array Edge} {v : Value} {s' : St} {t t' : TypeId} {x y : Operand} {D : Dt}
theorem binI_ok {op : BinOp} {k : IntKind} {a b : Int} {c : Bool} {r : AV} (h : binI op k a b = some (c, r)) (hc : c = true) (hx : ev1 T x = some (.int k a)) (hy : ev1 T y = some (.int k b)) : Stp C N ops ⟨d, .binOp op t x y t', ty, pos, after, none⟩ T s (den D r) s := by
  unfold binI at h
  split at h <;> first | cases h; done | skip
  all_goals (obtain ⟨h1, h2⟩ := Prod.mk.inj (Option.some.inj h); subst h2)
  · rw [iW_den]; exact st_addw hx hy
  · rw [iW_den]; exact st_subw hx hy
  · rw [iW_den]; exact st_mulw hx hy
  · rw [iW_den]; exact st_quo hx hy (by simpa [hc] using h1)
  · exact st_rem hx hy (by simpa [hc] using h1)
  · exact st_eq hx hy
  · exact st_ne hx hy
  · exact st_lt hx hy
  · exact st_le hx hy
  · exact st_gt hx hy
  · exact st_ge hx hy
theorem binN_ok {op : BinOp} {k : IntKind} {a b : Nat} {c : Bool} {r : AV} (hk : NK k a) (h : binN op k a b = some (c, r)) (hc : c = true) (hx : ev1 T x = some (.int k (a : Int))) (hy : ev1 T y = some (.int k (b : Int))) : Stp C N ops ⟨d, .binOp op t x y t', ty, pos, after, none⟩ T s (den D r) s := by
  unfold binN at h
  split at h <;> first | cases h; done | skip
  all_goals (obtain ⟨h1, h2⟩ := Prod.mk.inj (Option.some.inj h); subst h2)
  · rw [nW_den]; have := st_addw (C := C) (N := N) (s := s) (ops := ops) (d := d) (ty := ty) (pos := pos) (after := after) (t := t) (t' := t') hx hy; exact this
  · rw [iW_den]; exact st_subw hx hy
  · rw [nW_den]; have := st_mulw (C := C) (N := N) (s := s) (ops := ops) (d := d) (ty := ty) (pos := pos) (after := after) (t := t) (t' := t') hx hy; rwa [← Int.natCast_mul] at this
  · rw [nW_den]; exact st_quo hx hy (by simp [hc] at h1; omega)
  · rw [nV_den hk (Nat.mod_le _ _)]; exact st_rem hx hy (by simp [hc] at h1; omega)
  · rw [nW_den, ← bits2_eq]; exact st_and hx hy
  · rw [nW_den, ← bits2_eq]; exact st_or hx hy
  · rw [nW_den, ← bits2_eq]; exact st_xor hx hy
  · have := st_eq (C := C) (N := N) (s := s) (ops := ops) (d := d) (ty := ty) (pos := pos) (after := after) (t := t) (t' := t') hx hy
    rwa [show decide ((a : Int) = (b : Int)) = decide (a = b) by simp [Int.ofNat_inj]] at this
  · have := st_ne (C := C) (N := N) (s := s) (ops := ops) (d := d) (ty := ty) (pos := pos) (after := after) (t := t) (t' := t') hx hy
    rwa [show decide ((a : Int) ≠ (b : Int)) = decide (a ≠ b) by simp [Int.ofNat_inj]] at this
  · have := st_lt (C := C) (N := N) (s := s) (ops := ops) (d := d) (ty := ty) (pos := pos) (after := after) (t := t) (t' := t') hx hy
    rwa [show decide ((a : Int) < (b : Int)) = decide (a < b) by simp [Int.ofNat_lt]] at this
  · have := st_le (C := C) (N := N) (s := s) (ops := ops) (d := d) (ty := ty) (pos := pos) (after := after) (t := t) (t' := t') hx hy
    rwa [show decide ((a : Int) ≤ (b : Int)) = decide (a ≤ b) by simp [Int.ofNat_le]] at this
  · have := st_gt (C := C) (N := N) (s := s) (ops := ops) (d := d) (ty := ty) (pos := pos) (after := after) (t := t) (t' := t') hx hy
    rwa [show decide ((b : Int) < (a : Int)) = decide (b < a) by simp [Int.ofNat_lt]] at this
  · have := st_ge (C := C) (N := N) (s := s) (ops := ops) (d := d) (ty := ty) (pos := pos) (after := after) (t := t) (t' := t') hx hy
    rwa [show decide ((b : Int) ≤ (a : Int)) = decide (b ≤ a) by simp [Int.ofNat_le]] at this
theorem shN_ok {op : BinOp} {k k' : IntKind} {a b : Nat} {c : Bool} {r : AV} (hk : NK k a) (h : shN op k a b = some (c, r)) (hc : c = true) (hx : ev1 T x = some (.int k (a : Int))) (hy : ev1 T y = some (.int k' (b : Int))) : Stp C N ops ⟨d, .binOp op t x y t', ty, pos, after, none⟩ T s (den D r) s := by
  unfold shN at h
  split at h <;> first | cases h; done | skip
  all_goals (obtain ⟨h1, h2⟩ := Prod.mk.inj (Option.some.inj h); subst h2)
  · rw [nW_den]; exact st_shl hx hy (ble_iff.1 (h1.trans hc))
  · rw [nV_den hk (Nat.div_le_self _ _)]; exact st_shr hx hy (ble_iff.1 (h1.trans hc))
theorem strB_ok {op : BinOp} {a b : List UInt8} {c : Bool} {r : AV} (h : strB op a b = some (c, r)) (hc : c = true) (hx : ev1 T x = some (str a)) (hy : ev1 T y = some (str b)) : Stp C N ops ⟨d, .binOp op t x y t', ty, pos, after, none⟩ T s (den D r) s := by
  unfold strB at h
  split at h <;> first | cases h; done | skip
  all_goals (obtain ⟨h1, h2⟩ := Prod.mk.inj (Option.some.inj h); subst h2)
  · exact st_cat hx hy (by simpa [hc] using h1)
  · exact st_eqS hx hy
  · exact st_neS hx hy
  · exact st_ltS hx hy
  · exact st_geS hx hy
  · exact st_leS hx hy
  · exact st_gtS hx hy
end
/-- A count of bits. -/
def toCnt : AV → Option (Bool × Nat)
  | .i _ n => some (decide (0 ≤ n), n.toNat)
  | v => match toN v with
    | some (_, m) => some (true, m)
    | none => none
theorem toCnt_ok {D : Dt} {v : AV} {c : Bool} {b : Nat} (h : toCnt v = some (c, b)) (hc : c = true) : ∃ k, den D v = .int k (b : Int) := by
  unfold toCnt at h
  split at h
  · rename_i k n
    obtain ⟨h1, h2⟩ := Prod.mk.inj (Option.some.inj h)
    subst h2
    rw [hc] at h1
    refine ⟨k, ?_⟩
    rw [Int.toNat_of_nonneg (of_decide_eq_true h1)]; rfl
  · split at h
    · rename_i k m hm
      obtain ⟨h1, h2⟩ := Prod.mk.inj (Option.some.inj h)
      subst h2
      exact ⟨k, (toN_ok hm).1⟩
    · cases h
def isSh : BinOp → Bool
  | .shl | .shr => true
  | _ => false
/-- Two operands. -/
def binA (C : Cfg) (op : BinOp) (t : TypeId) (x y : AV) : Option (Bool × AV) :=
  match isSh op with
  | true => match toN x, toCnt y with
    | some (k, a), some (c, b) => match shN op k a b with
      | some (c', r) => some (c && c', r)
      | none => none
    | _, _ => none
  | false => match x, y with
    | .i k a, .i k' b => match decide (k = k') with
      | true => binI op k a b
      | false => none
    | .s a, .s b => strB op a b
    | .b a, .b b => match C.ty t, op with
      | some (_, .bool), .eql => some (true, .b (a == b))
      | some (_, .bool), .neq => some (true, .b (!(a == b)))
      | _, _ => none
    | x, y => match toN x, toN y with
      | some (k, a), some (k', b) => match decide (k = k') with
        | true => binN op k a b
        | false => none
      | _, _ => none
section
variable {C : Cfg} [Hv C] {N n0 : Nat} {T : Tm} {s : St} {ops : Array Oper} {l : List Oper} {d : Option Nat} {ty : TypeId} {pos : String} {after : Array Edge} {v : Value} {s' : St} {t t' : TypeId} {x y : Operand} {D : Dt}
theorem binA_ok {op : BinOp} {a b : AV} {c : Bool} {r : AV} (h : binA C op t a b = some (c, r)) (hc : c = true) (hx : ev1 T x = some (den D a)) (hy : ev1 T y = some (den D b)) : Stp C N ops ⟨d, .binOp op t x y t', ty, pos, after, none⟩ T s (den D r) s := by
  unfold binA at h
  split at h
  · split at h
    · rename_i k a c b h1 h2
      split at h
      · rename_i c' r' h3
        obtain ⟨e1, e2⟩ := Prod.mk.inj (Option.some.inj h)
        subst e2
        rw [hc] at e1
        obtain ⟨f1, f2⟩ := and_ok e1
        obtain ⟨k', e3⟩ := toCnt_ok (D := D) h2 f1
        obtain ⟨e4, e5⟩ := toN_ok (D := D) h1
        exact shN_ok e5 h3 f2 (by rw [hx, e4]) (by rw [hy, e3])
      · cases h
    · cases h
  · split at h
    · split at h
      · rename_i hk
        obtain rfl := of_decide_eq_true hk
        exact binI_ok h hc hx hy
      · cases h
    · exact strB_ok h hc hx hy
    · split at h
      · rename_i ht _
        obtain ⟨e1, e2⟩ := Prod.mk.inj (Option.some.inj h)
        subst e2
        exact st_eqBo ht hx hy
      · rename_i ht _
        obtain ⟨e1, e2⟩ := Prod.mk.inj (Option.some.inj h)
        subst e2
        exact st_neBo ht hx hy
      · cases h
    · split at h
      · rename_i k a k' b h1 h2
        split at h
        · rename_i hk
          obtain rfl := of_decide_eq_true hk
          obtain ⟨e4, e5⟩ := toN_ok (D := D) h1
          obtain ⟨e6, e7⟩ := toN_ok (D := D) h2
          exact binN_ok e5 h hc (by rw [hx, e4]) (by rw [hy, e6])
        · cases h
      · cases h
end
end
end Go.Ev
