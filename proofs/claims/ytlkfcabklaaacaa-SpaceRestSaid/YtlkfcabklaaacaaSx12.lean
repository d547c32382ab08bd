/- Words of my own: calls over abstract states: a contract, under the caller's names. -/
import Derived.Test.YtlkfcabklaaacaaSx11
set_option linter.unusedVariables false
set_option linter.unusedSimpArgs false
set_option linter.unusedSectionVars false
namespace Go.Ev
open Go.RowKit
noncomputable section
/-- A contract at given arguments: the result's type, whether (and what) the function returns; which objects it may write, how many it makes; its value and its memory. If it may panic: two kinds of results. -/
inductive Ctr where
  | one (R : Type) (m : Option R) (wr : List Nat) (nn : Nat) (out : R → AV × AH)
  | two (R P : Type) (m : Option (R ⊕ P)) (wr : List Nat) (nn np : Nat) (out : R → AV × AH) (outp : P → AV × AH)
abbrev CT := Nat → List AV → AH → Option Ctr
/-- Of one or the other. -/
def sumE {α β γ : Type} (f : α → γ) (g : β → γ) : α ⊕ β → γ
  | .inl x => f x
  | .inr y => g y
def selH (wr : List Nat) : AH → AH
  | [] => []
  | p :: h => cond (mem wr p.1) (p :: selH wr h) (selH wr h)
def remH (wr : List Nat) : AH → AH
  | [] => []
  | p :: h => cond (mem wr p.1) (remH wr h) (p :: remH wr h)
/-- What a contract says at a result. -/
def CtrR (C : Cfg) (g : Nat) (vs : List AV) (h : AH) (wr : List Nat) (nn : Nat) (out : AV × AH) : Prop :=
  CW C g (denL (Dof (remH wr h) ⟨selH wr h, h.length, []⟩) vs) (stA (remH wr h) ⟨selH wr h, h.length, []⟩) fun v s1 => v = den (Dof (remH wr h) ⟨out.2, h.length + nn, []⟩) out.1 ∧ s1 = stA (remH wr h) ⟨out.2, h.length + nn, []⟩
def CtrOk (C : Cfg) (g : Nat) (vs : List AV) (h : AH) : Ctr → Prop
  | .one R m wr nn out => ∀ r, m = some r → CtrR C g vs h wr nn (out r)
  | .two R P m wr nn np out outp => (∀ x, m = some (.inl x) → CtrR C g vs h wr nn (out x)) ∧ ∀ y, m = some (.inr y) → CtrR C g vs h wr np (outp y)
/-- All contracts are right. -/
def COk (C : Cfg) (ct : CT) : Prop := ∀ g vs h c, ct g vs h = some c → CtrOk C g vs h c
mutual
theorem ren_RN2 {b : Bool} {μ : Nat → Option Nat} {f : Nat → Nat} {D D1 : Dt} : ∀ {v : AV}, (∀ id ∈ idsV v, μ id = some (f id) ∧ D1 (f id) = D id) → RN b μ (den D v) (den D1 (renV f v))
  | .sl id z, h => by
    obtain ⟨h1, h2⟩ := h id (by rw [idsV]; exact List.mem_singleton.2 rfl)
    rw [renV, den, den, h2]
    cases D id with
    | none => exact .any
    | some p => exact .slice h1
  | .ptr id o, h => .ptr (h id (by rw [idsV]; exact List.mem_singleton.2 rfl)).1
  | .ep id i z j, h => by
    obtain ⟨h1, h2⟩ := h id (by rw [idsV]; exact List.mem_singleton.2 rfl)
    rw [renV, den, den, h2]
    cases D id with
    | none => exact .any
    | some p => exact .ptr h1
  | .mp id, h => .map (h id (by rw [idsV]; exact List.mem_singleton.2 rfl)).1
  | .yl id, h => .yield (h id (by rw [idsV]; exact List.mem_singleton.2 rfl)).1
  | .ag l, h => .aggL (ren_RNs2 (fun id hid => h id (by rw [idsV]; exact hid)))
  | .tu l, h => .tupleL (ren_RNs2 (fun id hid => h id (by rw [idsV]; exact hid)))
  | .fn g l, h => .fnL (ren_RNs2 (fun id hid => h id (by rw [idsV]; exact hid)))
  | .ifc t v, h => .iface (ren_RN2 (fun id hid => h id (by rw [idsV]; exact hid)))
  | .i _ _, _ => .flat rfl
  | .n _ _, _ => .flat rfl
  | .y _, _ => .flat rfl
  | .b _, _ => .flat rfl
  | .s _, _ => .flat rfl
  | .nsl, _ => .flat rfl
  | .nptr, _ => .flat rfl
  | .nmap, _ => .flat rfl
  | .nfn, _ => .flat rfl
  | .nifc, _ => .flat rfl
  | .un, _ => RN.tupleL .nil
  | .jk, _ => .any
  | .st _ _, _ => .stat
  | .pk v, h => RN.tupleL (.cons (.flat rfl) (.cons (.flat rfl) (.cons (.flat rfl) (.cons (.flat rfl) (.cons (.flat rfl) (.cons (.flat rfl) (.cons (ren_RN2 (fun id hid => h id (by rw [idsV]; exact hid))) .nil)))))))
  | .ar K l, _ => RN.aggL (RNs_rowJ (z := K.z) (o := 0) (l := l))
theorem ren_RNs2 {b : Bool} {μ : Nat → Option Nat} {f : Nat → Nat} {D D1 : Dt} : ∀ {l : List AV}, (∀ id ∈ idsL l, μ id = some (f id) ∧ D1 (f id) = D id) → RNs b μ (denL D l) (denL D1 (renL f l))
  | [], _ => .nil
  | v :: l, h => .cons (ren_RN2 (fun id hid => h id (by rw [idsL]; exact List.mem_append_left _ hid))) (ren_RNs2 (fun id hid => h id (by rw [idsL]; exact List.mem_append_right _ hid)))
end
theorem ren_ORN2 {b : Bool} {μ : Nat → Option Nat} {f : Nat → Nat} {D D1 : Dt} {o : AO} (h : ∀ id ∈ idsO o, μ id = some (f id) ∧ D1 (f id) = D id) : ORN b μ (denO D o) (denO D1 (renO f o)) := by
  cases o with
  | row K o l t g => exact .cells (RNs_rowJ (z := K.z)) .same
  | cells cs t g => exact .cells (ren_RNs2 h) .same
-- what a function is given
inductive Src where
  | old (a : Nat)
  | nil (K : RK) (e : TypeId)
def posS : List Src → Nat → Nat → Option Nat
  | [], _, _ => none
  | .old a :: l, id, p => cond (Nat.beq a id) (some p) (posS l id (p + 1))
  | _ :: l, id, p => posS l id (p + 1)
def addS : List Src → List Nat → List Src
  | S, [] => S
  | S, id :: l => match posS S id 0 with
    | some _ => addS S l
    | none => addS (S ++ [.old id]) l
def nilK (C : Cfg) (kd : TypeId → Option RK) (t : TypeId) : Option (RK × TypeId) := match C.ty t with
  | some (_, .slice e) => (kd e).bind fun K => some (K, e)
  | _ => none
/-- Arguments: which nil slices become empty rows, and all names in order. -/
def argS (C : Cfg) (kd : TypeId → Option RK) : List AV → List TypeId → List Src → List (Option (Nat × Nat)) × List Src
  | [], _, S => ([], S)
  | v :: vs, [], S => (none :: (argS C kd vs [] (addS S (idsV v))).1, (argS C kd vs [] (addS S (idsV v))).2)
  | v :: vs, t :: ts, S => match v, nilK C kd t with
    | .nsl, some (K, e) => (some (S.length, K.z) :: (argS C kd vs ts (S ++ [.nil K e])).1, (argS C kd vs ts (S ++ [.nil K e])).2)
    | v, _ => (none :: (argS C kd vs ts (addS S (idsV v))).1, (argS C kd vs ts (addS S (idsV v))).2)
def growS (lkf : Nat → Option AO) : Nat → Nat → List Src → List Src
  | 0, _, S => S
  | f + 1, p, S => match nth S p with
    | none => S
    | some (.old a) => match lkf a with
      | some o => growS lkf f (p + 1) (addS S (idsO o))
      | none => growS lkf f (p + 1) S
    | some (.nil _ _) => growS lkf f (p + 1) S
def rcS : Nat → List Src → List (Nat × Nat)
  | _, [] => []
  | p, .old a :: S => (p, a) :: rcS (p + 1) S
  | p, .nil _ _ :: S => rcS (p + 1) S
/-- The memory that the function is given, under its own names. -/
def hcS (lkf : Nat → Option AO) (R : List (Nat × Nat)) (f : Nat → Nat) : Nat → List Src → Option AH
  | _, [] => some []
  | p, .old a :: S => (lkf a).bind fun o => cond (okIds R f (idsO o)) ((hcS lkf R f (p + 1) S).bind fun h => some ((p, renO f o) :: h)) none
  | p, .nil K e :: S => (hcS lkf R f (p + 1) S).bind fun h => some ((p, .row K 0 [] e (0, 0)) :: h)
def argR (f : Nat → Nat) : List (Option (Nat × Nat)) → List AV → List AV
  | some (b, z) :: ps, .nsl :: vs => .sl b z :: argR f ps vs
  | _ :: ps, v :: vs => renV f v :: argR f ps vs
  | _, _ => []
/-- The arguments are named rightly. -/
def argOk (R : List (Nat × Nat)) (f : Nat → Nat) (hc : AH) : List (Option (Nat × Nat)) → List AV → Bool
  | some (b, _) :: ps, .nsl :: vs => (match aget hc b with
    | some (.row _ 0 [] _ _) => true
    | _ => false) && argOk R f hc ps vs
  | _ :: ps, v :: vs => okIds R f (idsV v) && argOk R f hc ps vs
  | [], [] => true
  | _, _ => false
theorem hcS_get {lkf : Nat → Option AO} {R : List (Nat × Nat)} {f : Nat → Nat} : ∀ {S : List Src} {p : Nat} {hc : AH}, hcS lkf R f p S = some hc → hc.length = S.length ∧ (∀ b, b < p → aget hc b = none ∧ aget (rcS p S) b = none) ∧ (∀ b o, aget hc b = some o → b < p + S.length) ∧
    ∀ b a, aget (rcS p S) b = some a → ∃ o, lkf a = some o ∧ aget hc b = some (renO f o) ∧ okIds R f (idsO o) = true
  | [], p, hc, h => by cases h; exact ⟨rfl, fun b _ => ⟨rfl, rfl⟩, fun b o h => (by cases h), fun b a h => (by cases h)⟩
  | .old a0 :: S, p, hc, h => by
    rw [hcS] at h
    obtain ⟨o0, h1, h⟩ := bd h
    obtain ⟨hi, h⟩ := cond_some' h
    obtain ⟨hc', h2, h⟩ := bd h
    obtain rfl := Option.some.inj h
    obtain ⟨k0, k1, k2, k3⟩ := hcS_get h2
    refine ⟨congrArg (· + 1) k0, fun b hb => ?_, fun b o ho => ?_, fun b a hb => ?_⟩
    · rw [rcS, aget_cons, aget_cons, if_neg (by omega), if_neg (by omega)]
      exact k1 b (by omega)
    · rw [aget_cons] at ho
      rw [List.length_cons]
      by_cases e : b = p
      · omega
      · rw [if_neg e] at ho
        have := k2 b o ho
        omega
    · rw [rcS, aget_cons] at hb
      rw [aget_cons]
      by_cases e : b = p
      · rw [if_pos e] at hb ⊢
        obtain rfl := Option.some.inj hb
        exact ⟨o0, h1, rfl, hi⟩
      · rw [if_neg e] at hb ⊢
        exact k3 b a hb
  | .nil K e :: S, p, hc, h => by
    rw [hcS] at h
    obtain ⟨hc', h2, h⟩ := bd h
    obtain rfl := Option.some.inj h
    obtain ⟨k0, k1, k2, k3⟩ := hcS_get h2
    refine ⟨congrArg (· + 1) k0, fun b hb => ?_, fun b o ho => ?_, fun b a hb => ?_⟩
    · rw [rcS, aget_cons, if_neg (by omega)]
      exact k1 b (by omega)
    · rw [aget_cons] at ho
      rw [List.length_cons]
      by_cases e : b = p
      · omega
      · rw [if_neg e] at ho
        have := k2 b o ho
        omega
    · rw [rcS] at hb
      rw [aget_cons, if_neg]
      · exact k3 b a hb
      · intro e
        subst e
        rw [(k1 b (by omega)).2] at hb; cases hb
theorem aget_sel (wr : List Nat) : ∀ (h : AH) (b : Nat), aget (selH wr h) b = (match mem wr b with | true => aget h b | false => none)
  | [], b => by cases mem wr b <;> rfl
  | p :: h, b => by
    rw [selH, aget_cons]
    have ih := aget_sel wr h b
    cases hp : mem wr p.1
    · show aget (selH wr h) b = _
      rw [ih]
      by_cases e : b = p.1
      · rw [e, hp]
      · rw [if_neg e]
    · show aget (p :: selH wr h) b = _
      rw [aget_cons, ih]
      by_cases e : b = p.1
      · rw [if_pos e, if_pos e, e, hp]
      · rw [if_neg e, if_neg e]
theorem aget_rem (wr : List Nat) : ∀ (h : AH) (b : Nat), aget (remH wr h) b = (match mem wr b with | true => none | false => aget h b)
  | [], b => by cases mem wr b <;> rfl
  | p :: h, b => by
    rw [remH, aget_cons]
    have ih := aget_rem wr h b
    cases hp : mem wr p.1
    · show aget (p :: remH wr h) b = _
      rw [aget_cons, ih]
      by_cases e : b = p.1
      · rw [if_pos e, if_pos e, e, hp]
      · rw [if_neg e, if_neg e]
    · show aget (remH wr h) b = _
      rw [ih]
      by_cases e : b = p.1
      · rw [e, hp]
      · rw [if_neg e]
/-- What a function is given, as its own and what it looks at: all of it. -/
theorem lk_split (wr : List Nat) (h : AH) (n : Nat) (b : Nat) : lk (remH wr h) ⟨selH wr h, n, []⟩ b = aget h b := by
  unfold lk
  dsimp only
  rw [aget_sel, aget_rem]
  cases mem wr b with
  | false => rfl
  | true => cases aget h b <;> rfl
theorem Dof_lk' {H0 : AH} {s : AS} (hd : s.dd = []) (b : Nat) : Dof H0 s b = (lk H0 s b).map od := by
  unfold Dof lk
  rw [hd]
  cases aget s.h b with
  | some o => rfl
  | none => cases aget H0 b <;> rfl
end
end Go.Ev
