/- Words of my own: the pieces of a function's run: where ways meet, rounds (for the printing tool alone). -/
import Derived.Test.YtlkfcabklaaacaaSx13
set_option linter.unusedVariables false
namespace Go.Ev
open Go.RowKit
noncomputable section
/-- Is this region in the code? -/
def inC (key : Nat) : Code → Bool
  | .region id _ _ => Nat.beq (id + 1) key
  | .seq a b => inC key a || inC key b
  | .cond _ a b => inC key a || inC key b
  | .block _ a => inC key a
  | .loop a => inC key a
  | .scope a => inC key a
  | _ => false
/-- The run from a place on: from where ways meet (ahead of a region), or a round of a loop. ns: what is left of the rounds of the loops around it, outermost first. -/
def nav {ρ : Type} (C : Cfg) (kd : TypeId → Option RK) (E : SE ρ) (lp : Bool) (key : Nat) : List Nat → List Nat → Code → KC ρ → AT → AS → Option ρ
  | ms, ns, .seq a b, k, T, s => cond (inC key a) (nav C kd E lp key ms ns a (fun o T s => match o with
      | .normal => match aget E.jn (firstReg b) with
        | some live => canon C kd E.kn E.df E.n0 E.H0 live T s (E.jf ms (firstReg b))
        | none => sxC C kd E ms b T s k
      | o => k o T s) T s)
    (cond (!lp && Nat.beq (firstReg b) key) (sxC C kd E ms b T s k) (nav C kd E lp key ms ns b k T s))
  | ms, ns, .cond _ a b, k, T, s => cond (inC key a) (nav C kd E lp key ms ns a k T s) (nav C kd E lp key ms ns b k T s)
  | ms, ns, .block id a, k, T, s => nav C kd E lp key ms ns a (fun o T s => match o with
    | .exit id' => Bool.rec (motive := fun _ => Option ρ) (k (.exit id') T s) (k .normal T s) (Nat.beq id' id)
    | o => k o T s) T s
  | ms, n :: ns, .loop a, k, T, s => match aget E.lv (firstReg a) with
    | some p => cond (lp && Nat.beq (firstReg a) key) (sxC C kd E (n :: ms) a T s (fun o T s => match o with
        | .normal => canon C kd E.kn E.df E.n0 E.H0 p.1 T s (E.lf (n :: ms) (firstReg a))
        | o => k o T s))
      (nav C kd E lp key (n :: ms) ns a (fun o T s => match o with
        | .normal => canon C kd E.kn E.df E.n0 E.H0 p.1 T s (E.lf (n :: ms) (firstReg a))
        | o => k o T s) T s)
    | none => none
  | _, _, _, _, _, _ => none
/-- The evaluator that runs deferred calls. -/
def dr0 : CallF → Nat → Array Oper → Tm → St → Option (Out × Tm × St) := fun _ _ _ _ _ => none
theorem dr0_ok {C : Cfg} {B : Nat} {W0 : World} : DrOk C B W0 dr0 := by
  intro call hc N ops id T s e T' s' h
  cases h
theorem evC_ok {C : Cfg} [Hv C] (n : Nat) (B : Nat) (W0 : World) (hB : B ≤ W0.heap.size) : CallOk C B W0 (ev C dr0 n).1 := (ev_ok Hv.ok (fun B W0 _ => dr0_ok) n B W0 hB).1
theorem evS_ok {C : Cfg} [Hv C] (n : Nat) (B : Nat) (W0 : World) (hB : B ≤ W0.heap.size) : CodeOk C B W0 (ev C dr0 n).2 := (ev_ok Hv.ok (fun B W0 _ => dr0_ok) n B W0 hB).2
/-- The parts of a function's code with a deferred call. -/
def opsD (c : Code) : Array Oper := match c with
  | .seq (.region _ ops _) _ => ops
  | _ => #[]
def oper0 : Oper := ⟨none, .move (.tmp 0), 0, "", #[], none⟩
def opD1 (c : Code) : Oper := match c with
  | .seq _ (.seq (.region _ ⟨[o, _]⟩ _) _) => o
  | _ => oper0
def opD2 (c : Code) : Oper := match c with
  | .seq _ (.seq (.region _ ⟨[_, o]⟩ _) _) => o
  | _ => oper0
def restD (c : Code) : Code := match c with
  | .seq _ (.seq _ r) => r
  | _ => .skip
theorem SameD.refl {nx : Nat} : ∀ (h : AH), SameD nx h h
  | [] => .nil
  | _ :: h => .old rfl (.refl h)
/-- One function's contract is right. -/
def COk1 (C : Cfg) (g : Nat) (f : List AV → AH → Option Ctr) : Prop := ∀ vs h c, f vs h = some c → CtrOk C g vs h c
def ctZ : CT := fun _ _ _ => none
theorem ctZ_ok {C : Cfg} : COk C ctZ := fun g vs h c e => by cases e
def ctA (k : Nat) (f : List AV → AH → Option Ctr) (rest : CT) : CT := fun g vs h => cond (Nat.beq g k) (match f vs h with
  | some c => some c
  | none => rest g vs h) (rest g vs h)
theorem ctA_ok {C : Cfg} {k : Nat} {f : List AV → AH → Option Ctr} {rest : CT} (h1 : COk1 C k f) (h2 : COk C rest) : COk C (ctA k f rest) := by
  intro g vs h c e
  unfold ctA at e
  cases hg : Nat.beq g k <;> rw [hg] at e
  · exact h2 g vs h c e
  · obtain rfl := Nat.eq_of_beq_eq_true hg
    dsimp only [cond] at e
    split at e
    · cases e; exact h1 _ _ _ ‹_›
    · exact h2 g vs h c e
end
end Go.Ev
