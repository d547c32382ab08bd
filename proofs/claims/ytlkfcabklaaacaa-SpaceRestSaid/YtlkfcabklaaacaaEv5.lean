/- Words of my own: the operations of the evaluator that look at no memory. -/
import Derived.Test.YtlkfcabklaaacaaEv4
set_option linter.unusedVariables false
set_option linter.unusedSimpArgs false
namespace Go.Ev
open Go.RowKit
noncomputable def isAggD : TypeDesc → Bool
  | .struct _ | .array _ _ => true
  | _ => false
/-- A part of a struct's cells. -/
noncomputable def apart (ti : TypeInfo × TypeDesc) (l : List Value) (off : Nat) : Option (Value × List Bool) :=
  Bool.rec (motive := fun _ => Option (Value × List Bool)) ((nth l off).bind fun v => some (v, [])) (some (.agg ⟨tak (dro l off) ti.1.size⟩, [])) (isAggD ti.2)
noncomputable def lowOf (T : Tm) : Option Operand → Option Int
  | none => some 0
  | some x => match ev1 T x with
    | some (.int _ i) => some i
    | _ => none
noncomputable def highOf (T : Tm) (d : Nat) : Option Operand → Option Int
  | none => some (Int.ofNat d)
  | some x => match ev1 T x with
    | some (.int _ i) => some i
    | _ => none
noncomputable def toNatF (i : Int) : Nat := Int.rec (motive := fun _ => Nat) (fun n => n) (fun _ => 0) i
theorem toNatF_eq (i : Int) : toNatF i = i.toNat := by cases i <;> rfl
/-- Comparing with nil what is not nil. -/
noncomputable def nilCmp (d : TypeDesc) (v u : Value) : Option Bool :=
  match d, v, u with
  | .pointer _, .pointer (some _), .pointer none => some false
  | .pointer _, .pointer none, .pointer (some _) => some false
  | .slice _, .slice (some _) (Nat.succ _) _, .slice none _ _ => some false
  | .map _ _, .map (some _), .map none => some false
  | .func _ _ _, .func _ _ _, .nilFunc => some false
  | _, _, _ => none
noncomputable def aBin (C : Cfg) (T : Tm) (o : Oper) (op : BinOp) (t : TypeId) : Value → Value → Option (Value × List Bool)
  | .int k a, .int k' b => match decide (k = k') with
    | true => match intOp op k a b with
      | some v => some (v, [])
      | none => match shOp op k a b with
        | some v => some (v, [])
        | none => (anyOp C T o).bind fun v => some (v, [])
    | false => (shOp op k a b).bind fun v => some (v, [])
  | .string a, .string b => (strOp op a b).bind fun v => some (v, [])
  | v, u => match plain v with
    | true => (anyOp C T o).bind fun v => some (v, [])
    | false => match C.ty t with
      | none => none
      | some ti => match nilCmp ti.2 v u, op with
        | some b, .eql => some (.bool b, [])
        | some b, .neq => some (.bool (!b), [])
        | _, _ => none
noncomputable def aPure (C : Cfg) (T : Tm) (o : Oper) : Option (Value × List Bool) :=
  match o.op with
  | .move x => (ev1 T x).bind fun v => some (v, [])
  | .assign x => (ev1 T x).bind fun v => some (v, [])
  | .pick c a b => match ev1 T c with
    | some (.bool t) => (Bool.rec (motive := fun _ => Option Value) (ev1 T b) (ev1 T a) t).bind fun v => some (v, [])
    | _ => none
  | .nilCheck x => match ev1 T x with
    | some (.pointer (some p)) => some (.pointer (some p), [])
    | _ => none
  | .extract x i => match ev1 T x with
    | some (.tuple l) => (nth l.toList i).bind fun v => some (v, [])
    | _ => none
  | .binOp op t x y _ => (ev1 T x).bind fun v => (ev1 T y).bind fun u => aBin C T o op t v u
  | .unOp op _ x => match op, ev1 T x with
    | .not, some (.bool b) => some (.bool (Bool.rec (motive := fun _ => Bool) true false b), [])
    | .neg, some (.int k n) => some (.int k (wrapF k (Int.sub 0 n)), [])
    | .xor, some (.int k n) => (bit2 Nat.xor k (if k.signed then -1 else k.max) n).bind fun v => some (v, [])
    | _, _ => (anyOp C T o).bind fun v => some (v, [])
  | .convert src dst x => match C.ty src, C.ty dst, ev1 T x with
    | some _, some (_, .int k), some (.int _ n) => some (.int k (wrapF k n), [])
    | some _, some (_, .string), some (.string s) => some (.string s, [])
    | _, _, _ => none
  | .makeInterface t x => match C.ty t, ev1 T x with
    | some ti, some v => match ti.2 with
      | .interface _ => none
      | _ => some (.iface t v, [])
    | _, _ => none
  | .makeFunc (.func f) first cap => match first.toList with
    | [] => (evs T cap.toList).bind fun vs => some (.func (.func f) #[] ⟨vs⟩, [])
    | _ => none
  | .fieldAddr t x i => match C.ty t, ev1 T x with
    | some (_, .struct fs), some (.pointer (some ⟨a, q, none⟩)) => (nth fs.toList i).bind fun f => (C.ty f.type).bind fun fi => match fi.1.size with
      | 0 => none
      | _ => some (.pointer (some ⟨a, Nat.add q f.offset, none⟩), [])
    | _, _ => none
  | .field t x i => match C.ty t, ev1 T x with
    | some (_, .struct fs), some (.agg l) => (nth fs.toList i).bind fun f => (C.ty f.type).bind fun fi => apart fi l.toList f.offset
    | _, _ => none
  | .indexAddr t x i => match C.ty t, ev1 T x, ev1 T i with
    | some (_, .slice e), some (.slice (some ⟨a, q, some z⟩) n c), some (.int _ j) => (C.ty e).bind fun ei =>
      some (.pointer (some ⟨a, Nat.add q (Nat.mul (toNatF j) z), none⟩), [leI 0 j, Nat.ble (Nat.succ (toNatF j)) n, Nat.beq z ei.1.size])
    | some (_, .array n e), some (.pointer (some ⟨a, q, none⟩)), some (.int _ j) => (C.ty e).bind fun ei =>
      some (.pointer (some ⟨a, Nat.add q (Nat.mul (toNatF j) ei.1.size), none⟩), [leI 0 j, Nat.ble (Nat.succ (toNatF j)) n])
    | _, _, _ => none
  | .index t x i => match C.ty t, ev1 T x, ev1 T i with
    | some (_, .string), some (.string s), some (.int _ j) => (nth s.data.toList (toNatF j)).bind fun b => some (.int .u8 (Int.ofNat b.toNat), [leI 0 j])
    | some (_, .array n e), some (.agg l), some (.int _ j) => (C.ty e).bind fun ei => (apart ei l.toList (Nat.mul (toNatF j) ei.1.size)).bind fun r => some (r.1, leI 0 j :: Nat.ble (Nat.succ (toNatF j)) n :: r.2)
    | _, _, _ => none
  | .slice t x lo hi none => match C.ty t, ev1 T x with
    | some (_, .string), some (.string s) => (lowOf T lo).bind fun l => (highOf T (len s.data.toList) hi).bind fun h =>
      some (.string ⟨⟨tak (dro s.data.toList (toNatF l)) (Nat.sub (toNatF h) (toNatF l))⟩⟩, [leI 0 l, leI l h, leI h (Int.ofNat (len s.data.toList))])
    | some (_, .slice e), some (.slice (some ⟨a, q, some z⟩) n c) => (C.ty e).bind fun ei => (lowOf T lo).bind fun l => (highOf T n hi).bind fun h =>
      some (.slice (some ⟨a, Nat.add q (Nat.mul (toNatF l) z), some z⟩) (Nat.sub (toNatF h) (toNatF l)) 0, [leI 0 l, leI l h, leI h (Int.ofNat n), Nat.beq z ei.1.size])
    | some (_, .slice e), some (.slice none n c) => (C.ty e).bind fun ei => (lowOf T lo).bind fun l => (highOf T n hi).bind fun h =>
      some (.slice none 0 0, [eqI l 0, eqI h 0, Nat.beq n 0, Nat.beq c 0])
    | _, _ => none
  | .call ⟨.builtin .len, args, tys⟩ => match tys.toList, evs T args.toList with
    | [t], some [v] => match C.ty t, v with
      | some (_, .string), .string s => some (.int .i64 (Int.ofNat (len s.data.toList)), [])
      | some (_, .slice _), .slice _ n _ => some (.int .i64 (Int.ofNat n), [])
      | some (_, .array n _), _ => some (.int .i64 (Int.ofNat n), [])
      | _, _ => none
    | _, _ => none
  | .typeAssert x xt t true => match C.ty t, ev1 T x with
    | some ti, some (.iface u v) => match ti.2, Nat.beq u t, ti.1.zero with
      | .interface _, _, _ => none
      | _, true, _ => some (.tuple #[v, .bool true], [])
      | _, false, some z => some (.tuple #[z, .bool false], [plain z])
      | _, false, none => none
    | _, _ => none
  | .call ⟨.builtin .min, _, _⟩ => (anyOp C T o).bind fun v => some (v, [])
  | .call ⟨.builtin .max, _, _⟩ => (anyOp C T o).bind fun v => some (v, [])
  | _ => none
theorem anyOp_ok {C : Cfg} {B : Nat} {W0 : World} {N : Nat} {o : Oper} {T : Tm} {s : St} {v : Value} (hs : ∀ cs b, o.op ≠ .select cs b) (h : anyOp C T o = some v) : OpOk C B W0 N o T s v s := by
  refine .pure fun ν a w t => ?_
  unfold anyOp at h
  split at h
  · cases h
  rename_i vs hvs
  split at h
  · cases h
  rename_i hp
  split at h
  · rename_i u hu
    split at h
    · rename_i hpu
      obtain rfl := Option.some.inj h
      refine ⟨u, ?_, VR.of_plain hpu⟩
      have e : execOp a.eval o = execOp (fun x => (ev1 T x).getD undef) o := execOp_congr o hs fun x hx => by
        have : ∀ (l : List Operand) (vs : List Value), evs T l = some vs → anyOp.flatsP vs = true → x ∈ l → a.eval x = (ev1 T x).getD undef := by
          intro l
          induction l with
          | nil => intro vs _ _ hx; cases hx
          | cons y l ih =>
            intro vs h1 h2 hx
            change ((ev1 T y).bind fun v => (evs T l).bind fun vs => some (v :: vs)) = some vs at h1
            obtain ⟨v', k1, h1⟩ := Option.bind_eq_some_iff.1 h1
            obtain ⟨vs', k2, h1⟩ := Option.bind_eq_some_iff.1 h1
            obtain rfl := Option.some.inj h1
            simp only [anyOp.flatsP, List.all_cons, Bool.and_eq_true] at h2
            rcases List.mem_cons.1 hx with rfl | hx
            · rw [k1]
              exact VR.eq_of_plain h2.1 (ev1_ok t k1)
            · exact ih vs' k2 h2.2 hx
        exact this _ _ hvs hp (by simpa using hx)
      rw [e]
      exact still_run hu w
    · cases h
  · cases h
end Go.Ev
