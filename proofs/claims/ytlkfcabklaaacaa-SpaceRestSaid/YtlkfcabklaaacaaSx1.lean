/- Words of my own: abstract values and memory, what they stand for. -/
import Derived.Test.YtlkfcabklaaacaaSx0
set_option linter.unusedVariables false
set_option linter.unusedSimpArgs false
namespace Go.Ev
open Go.RowKit
noncomputable section
/-- Where a row begins, and its length (by an element's size). -/
abbrev Dt := Nat → Option (Nat × (Nat → Nat))
mutual
def den (D : Dt) : AV → Value
  | .i k n => .int k n
  | .n k m => .int k (m : Int)
  | .y x => .int .u8 ((x.toNat : Nat) : Int)
  | .b x => .bool x
  | .s l => str l
  | .nsl => .slice none 0 0
  | .nptr => .pointer none
  | .nmap => .map none
  | .nfn => .nilFunc
  | .nifc => .nilIface
  | .un => undef
  | .jk => .chan none
  | .sl id z => match D id with
    | some p => .slice (some ⟨id, p.1, some z⟩) (p.2 z) 0
    | none => .chan none
  | .ptr id o => .pointer (some ⟨id, o, none⟩)
  | .ep id i z j => match D id with
    | some p => .pointer (some ⟨id, p.1 + i * z + j, none⟩)
    | none => .chan none
  | .ag l => .agg ⟨denL D l⟩
  | .tu l => .tuple ⟨denL D l⟩
  | .fn f l => .func (.func f) #[] ⟨denL D l⟩
  | .ifc t v => .iface t (den D v)
  | .mp id => .map (some id)
  | .yl id => .func (.yield id) #[] #[]
  | .st g o => .pointer (some ⟨g, o, some 1⟩)
  | .pk v => pkV (den D v)
  | .ar K l => .agg ⟨rowV K.kv l⟩
def denL (D : Dt) : List AV → List Value
  | [] => []
  | v :: l => den D v :: denL D l
end
theorem denL_map (D : Dt) : ∀ l : List AV, denL D l = l.map (den D)
  | [] => rfl
  | v :: l => by rw [denL, denL_map D l, List.map_cons]
theorem denL_app (D : Dt) (a b : List AV) : denL D (a ++ b) = denL D a ++ denL D b := by rw [denL_map, denL_map, denL_map, List.map_append]
theorem denL_length (D : Dt) (l : List AV) : (denL D l).length = l.length := by rw [denL_map, List.length_map]
theorem denL_drop (D : Dt) (l : List AV) (i : Nat) : denL D (l.drop i) = (denL D l).drop i := by rw [denL_map, denL_map, List.map_drop]
theorem denL_take (D : Dt) (l : List AV) (i : Nat) : denL D (l.take i) = (denL D l).take i := by rw [denL_map, denL_map, List.map_take]
theorem denL_nth (D : Dt) (l : List AV) (i : Nat) : nth (denL D l) i = (nth l i).map (den D) := by rw [nth_eq, nth_eq, denL_map, List.getElem?_map]
theorem and_ok {a b : Bool} (h : (a && b) = true) : a = true ∧ b = true := by simpa using h
/-- A value without names. -/
def flA : AV → Bool
  | .i _ _ | .n _ _ | .y _ | .b _ | .s _ | .nsl | .nptr | .nmap | .nfn | .nifc => true
  | _ => false
def flAs : List AV → Bool
  | [] => true
  | v :: l => flA v && flAs l
theorem flA_flat {D : Dt} {v : AV} (h : flA v = true) : Ev.flat (den D v) = true := by
  cases v <;> first | rfl | cases h
theorem flAs_flats {D : Dt} : ∀ {l : List AV}, flAs l = true → flats (denL D l) = true
  | [], _ => rfl
  | v :: l, h => by
    obtain ⟨h1, h2⟩ := and_ok h
    show (den D v :: denL D l).all Ev.flat = true
    rw [List.all_cons, flA_flat h1]
    exact flAs_flats h2
theorem flA_den {D D' : Dt} {v : AV} (h : flA v = true) : den D v = den D' v := by
  cases v <;> first | rfl | cases h
theorem RK.k_den (K : RK) (D : Dt) (x : K.α) : denL D (K.k x) = K.kv x := by cases K <;> rfl
theorem RK.k_fl (K : RK) (x : K.α) : flAs (K.k x) = true := by cases K <;> rfl
theorem RK.k_length (K : RK) (x : K.α) : (K.k x).length = K.z := by cases K <;> rfl
theorem RK.z_pos (K : RK) : 0 < K.z := by cases K <;> decide
mutual
def bdV (n : Nat) : AV → Bool
  | .sl id _ => Nat.ble (Nat.succ id) n
  | .ptr id _ => Nat.ble (Nat.succ id) n
  | .ep id _ _ _ => Nat.ble (Nat.succ id) n
  | .mp id => Nat.ble (Nat.succ id) n
  | .yl id => Nat.ble (Nat.succ id) n
  | .ag l => bdL n l
  | .tu l => bdL n l
  | .fn _ l => bdL n l
  | .ifc _ v => bdV n v
  | .pk v => bdV n v
  | _ => true
def bdL (n : Nat) : List AV → Bool
  | [] => true
  | v :: l => bdV n v && bdL n l
end
theorem bdL_cons {n : Nat} {v : AV} {l : List AV} (h : bdL n (v :: l) = true) : bdV n v = true ∧ bdL n l = true := by
  rw [bdL] at h
  exact and_ok h
mutual
theorem den_bd {n : Nat} {D D' : Dt} (hD : ∀ id, id < n → D' id = D id) : ∀ {v : AV}, bdV n v = true → den D' v = den D v
  | .sl id z, h => by rw [den, den, hD id (ble_iff.1 h)]
  | .ep id i z j, h => by rw [den, den, hD id (ble_iff.1 h)]
  | .ag l, h => by rw [den, den, denL_bd hD h]
  | .tu l, h => by rw [den, den, denL_bd hD h]
  | .fn f l, h => by rw [den, den, denL_bd hD h]
  | .ifc t v, h => congrArg (Value.iface t) (den_bd hD (show bdV n v = true from h))
  | .i _ _, _ => rfl
  | .n _ _, _ => rfl
  | .y _, _ => rfl
  | .b _, _ => rfl
  | .s _, _ => rfl
  | .nsl, _ => rfl
  | .nptr, _ => rfl
  | .nmap, _ => rfl
  | .nfn, _ => rfl
  | .nifc, _ => rfl
  | .un, _ => rfl
  | .jk, _ => rfl
  | .ptr _ _, _ => rfl
  | .mp _, _ => rfl
  | .yl _, _ => rfl
  | .st _ _, _ => rfl
  | .pk v, h => congrArg pkV (den_bd hD (show bdV n v = true from h))
  | .ar _ _, _ => rfl
theorem denL_bd {n : Nat} {D D' : Dt} (hD : ∀ id, id < n → D' id = D id) : ∀ {l : List AV}, bdL n l = true → denL D' l = denL D l
  | [], _ => rfl
  | v :: l, h => by rw [denL, denL, den_bd hD (bdL_cons h).1, denL_bd hD (bdL_cons h).2]
end
/-- Abstract memory. -/
inductive AO where
  | row (K : RK) (o : Nat) (l : List K.α) (t : TypeId) (f : Nat × Nat)
  | cells (cs : List AV) (t : TypeId) (f : Nat × Nat)
abbrev AH := List (Nat × AO)
abbrev AT := List (Nat × AV)
def od : AO → Nat × (Nat → Nat)
  | .row _ o l _ _ => (o, fun _ => l.length)
  | .cells cs _ _ => (0, fun z => cs.length / z)
def denO (D : Dt) : AO → Obj
  | .row K o l t f => .cells ⟨rowJ K.kv o l⟩ t f
  | .cells cs t f => .cells ⟨denL D cs⟩ t f
def denH (D : Dt) (h : AH) : List (Nat × Obj) := h.map fun p => (p.1, denO D p.2)
def denT (D : Dt) (T : AT) : Tm := T.map fun p => (p.1, den D p.2)
theorem aget_map {α β : Type} (f : α → β) : ∀ (h : List (Nat × α)) (i : Nat), aget (h.map fun p => (p.1, f p.2)) i = (aget h i).map f
  | [], i => rfl
  | p :: h, i => by
    rw [List.map_cons, aget_cons, aget_cons]
    by_cases e : i = p.1
    · rw [if_pos e, if_pos e]; rfl
    · rw [if_neg e, if_neg e]; exact aget_map f h i
theorem aget_denT (D : Dt) (T : AT) (i : Nat) : aget (denT D T) i = (aget T i).map (den D) := aget_map _ _ _
theorem aget_denH (D : Dt) (h : AH) (i : Nat) : aget (denH D h) i = (aget h i).map (denO D) := aget_map _ _ _
def bdT (n : Nat) : AT → Bool
  | [] => true
  | p :: l => bdV n p.2 && bdT n l
def bdO (n : Nat) : AO → Bool
  | .row .. => true
  | .cells cs _ _ => bdL n cs
def bdH (n : Nat) : AH → Bool
  | [] => true
  | p :: l => Nat.ble (Nat.succ p.1) n && (bdO n p.2 && bdH n l)
theorem denT_bd {n : Nat} {D D' : Dt} (hD : ∀ id, id < n → D' id = D id) : ∀ {T : AT}, bdT n T = true → denT D' T = denT D T
  | [], _ => rfl
  | p :: T, h => by
    obtain ⟨h1, h⟩ := and_ok h
    show (p.1, den D' p.2) :: denT D' T = (p.1, den D p.2) :: denT D T
    rw [den_bd hD h1, denT_bd hD h]
theorem bdT_get {n : Nat} : ∀ {T : AT} {i : Nat} {v : AV}, bdT n T = true → aget T i = some v → bdV n v = true
  | [], _, _, _, h => by cases h
  | p :: T, i, v, hb, h => by
    obtain ⟨h1, hb⟩ := and_ok hb
    rw [aget_cons] at h
    by_cases e : i = p.1
    · rw [if_pos e] at h; obtain rfl := Option.some.inj h; exact h1
    · rw [if_neg e] at h; exact bdT_get hb h
theorem denO_bd {n : Nat} {D D' : Dt} (hD : ∀ id, id < n → D' id = D id) {o : AO} (h : bdO n o = true) : denO D' o = denO D o := by
  cases o with
  | row => rfl
  | cells cs t f => rw [denO, denO, denL_bd hD h]
theorem bdH_cons {n : Nat} {p : Nat × AO} {l : AH} (h : bdH n (p :: l) = true) : p.1 < n ∧ bdO n p.2 = true ∧ bdH n l = true := by
  obtain ⟨h1, h⟩ := and_ok h
  obtain ⟨h2, h3⟩ := and_ok h
  exact ⟨ble_iff.1 h1, h2, h3⟩
theorem denH_bd {n : Nat} {D D' : Dt} (hD : ∀ id, id < n → D' id = D id) : ∀ {h : AH}, bdH n h = true → denH D' h = denH D h
  | [], _ => rfl
  | p :: h, hb => by
    obtain ⟨_, h1, h2⟩ := bdH_cons hb
    show (p.1, denO D' p.2) :: denH D' h = (p.1, denO D p.2) :: denH D h
    rw [denO_bd hD h1, denH_bd hD h2]
theorem bdH_get {n : Nat} : ∀ {h : AH} {i : Nat} {o : AO}, bdH n h = true → aget h i = some o → i < n ∧ bdO n o = true
  | [], _, _, _, h => by cases h
  | p :: T, i, v, hb, h => by
    obtain ⟨h0, h1, h2⟩ := bdH_cons hb
    rw [aget_cons] at h
    by_cases e : i = p.1
    · rw [if_pos e] at h; obtain rfl := Option.some.inj h; exact ⟨by rw [e]; exact h0, h1⟩
    · rw [if_neg e] at h; exact bdH_get h2 h
/-- The evaluator's state: memory that is its own, the next name, what is gone (where it began, its length). -/
structure AS where
  h : AH
  nx : Nat
  dd : List (Nat × (Nat × Nat))
def Dof (H0 : AH) (s : AS) : Dt := fun id => match aget s.h id with
  | some o => some (od o)
  | none => match aget H0 id with
    | some o => some (od o)
    | none => (aget s.dd id).map fun p => (p.1, fun _ => p.2)
/-- The whole memory. -/
def hp (H0 : AH) (s : AS) : List (Nat × Obj) := denH (Dof H0 s) s.h ++ denH (Dof H0 s) H0
theorem aget_hp {H0 : AH} {s : AS} {i : Nat} : aget (hp H0 s) i = (match aget s.h i with | some o => some o | none => aget H0 i).map (denO (Dof H0 s)) := by
  unfold hp
  rw [aget_app, aget_denH, aget_denH]
  cases aget s.h i <;> rfl
/-- What is at a name. -/
def lk (H0 : AH) (s : AS) (i : Nat) : Option AO := match aget s.h i with | some o => some o | none => aget H0 i
theorem aget_lk {H0 : AH} {s : AS} {i : Nat} {o : AO} (h : lk H0 s i = some o) : aget (hp H0 s) i = some (denO (Dof H0 s) o) := by
  rw [aget_hp]; show (lk H0 s i).map _ = _; rw [h]; rfl
theorem Dof_lk {H0 : AH} {s : AS} {i : Nat} {o : AO} (h : lk H0 s i = some o) : Dof H0 s i = some (od o) := by
  unfold lk at h; unfold Dof
  cases h1 : aget s.h i with
  | some o' => rw [h1] at h; obtain rfl := Option.some.inj h; rfl
  | none => rw [h1] at h; dsimp only at h ⊢; rw [h]
/-- A new object. -/
def alc {ρ : Type} (H0 : AH) (T : AT) (s : AS) (o : AO) (k : AS → Option ρ) : Option ρ :=
  cond (bdT s.nx T && (bdH s.nx s.h && (bdH s.nx H0 && bdO s.nx o))) (k ⟨(s.nx, o) :: s.h, s.nx + 1, s.dd⟩) none
theorem cond_some {ρ : Type} {b : Bool} {x : Option ρ} {r : ρ} (h : cond b x none = some r) : b = true ∧ x = some r := by
  cases b
  · cases h
  · exact ⟨rfl, h⟩
structure Alc (H0 : AH) (T : AT) (s : AS) (o : AO) (s' : AS) : Prop where
  eq : s' = ⟨(s.nx, o) :: s.h, s.nx + 1, s.dd⟩
  t : denT (Dof H0 s') T = denT (Dof H0 s) T
  h : hp H0 s' = (s.nx, denO (Dof H0 s) o) :: hp H0 s
  v : ∀ v, bdV s.nx v = true → den (Dof H0 s') v = den (Dof H0 s) v
  n : Dof H0 s' s.nx = some (od o)
  bt : bdT s.nx T = true
theorem Alc.mk' {H0 : AH} {T : AT} {s : AS} {o : AO} (h1 : bdT s.nx T = true) (h2 : bdH s.nx s.h = true) (h3 : bdH s.nx H0 = true) (h4 : bdO s.nx o = true) : Alc H0 T s o ⟨(s.nx, o) :: s.h, s.nx + 1, s.dd⟩ := by
  have hD : ∀ id, id < s.nx → Dof H0 ⟨(s.nx, o) :: s.h, s.nx + 1, s.dd⟩ id = Dof H0 s id := fun id hid => by
    unfold Dof
    rw [show aget ((s.nx, o) :: s.h) id = aget s.h id from by rw [aget_cons, if_neg (by omega)]]
  refine ⟨rfl, denT_bd hD h1, ?_, fun v hv => den_bd hD hv, by unfold Dof; rw [aget_cons, if_pos rfl], h1⟩
  show (s.nx, denO _ o) :: (denH _ s.h ++ denH _ H0) = _
  rw [denO_bd hD h4, denH_bd hD h2, denH_bd hD h3]; rfl
theorem alc_ok {ρ : Type} {H0 : AH} {T : AT} {s : AS} {o : AO} {k : AS → Option ρ} {r : ρ} (h : alc H0 T s o k = some r) : ∃ s', Alc H0 T s o s' ∧ k s' = some r := by
  obtain ⟨hb, hk⟩ := cond_some h
  obtain ⟨h1, hb⟩ := and_ok hb
  obtain ⟨h2, hb⟩ := and_ok hb
  obtain ⟨h3, h4⟩ := and_ok hb
  exact ⟨_, .mk' h1 h2 h3 h4, hk⟩
/-- An object written anew: where it begins and how long it is stays. -/
theorem Dof_put {H0 : AH} {s : AS} {i : Nat} {o o' : AO} (h : aget s.h i = some o) (ho : od o' = od o) : Dof H0 ⟨aput s.h i o', s.nx, s.dd⟩ = Dof H0 s := by
  funext id
  unfold Dof
  dsimp only
  rw [aget_aput]
  by_cases e : id = i
  · rw [if_pos e, e, h]; exact congrArg some ho
  · rw [if_neg e]
theorem denH_put (D : Dt) (i : Nat) (o : AO) : ∀ (h : AH), denH D (aput h i o) = aput (denH D h) i (denO D o)
  | [] => rfl
  | p :: h => by
    rw [aput_cons]
    show _ = aput ((p.1, denO D p.2) :: denH D h) i (denO D o)
    rw [aput_cons]
    by_cases e : i = p.1
    · rw [if_pos e, if_pos e]; rfl
    · rw [if_neg e, if_neg e]
      show (p.1, denO D p.2) :: denH D (aput h i o) = _
      rw [denH_put D i o h]
theorem aput_app {α : Type} (i : Nat) (v : α) : ∀ (h k : List (Nat × α)) {u : α}, aget h i = some u → aput (h ++ k) i v = aput h i v ++ k
  | [], k, u, h => by cases h
  | p :: h, k, u, hu => by
    show aput (p :: (h ++ k)) i v = _
    rw [aput_cons, aput_cons]
    by_cases e : i = p.1
    · rw [if_pos e, if_pos e]; rfl
    · rw [if_neg e, if_neg e]
      rw [aget_cons, if_neg e] at hu
      show p :: aput (h ++ k) i v = p :: (aput h i v ++ k)
      rw [aput_app i v h k hu]
theorem hp_put {H0 : AH} {s : AS} {i : Nat} {o o' : AO} (h : aget s.h i = some o) (ho : od o' = od o) : hp H0 ⟨aput s.h i o', s.nx, s.dd⟩ = aput (hp H0 s) i (denO (Dof H0 s) o') := by
  unfold hp
  rw [Dof_put h ho]
  show denH _ (aput s.h i o') ++ _ = _
  rw [denH_put, aput_app (u := denO (Dof H0 s) o)]
  rw [aget_denH, h]; rfl
theorem denH_del (D : Dt) (i : Nat) : ∀ (h : AH), denH D (adel h i) = adel (denH D h) i
  | [] => rfl
  | p :: h => by
    rw [adel_cons]
    show _ = adel ((p.1, denO D p.2) :: denH D h) i
    rw [adel_cons]
    by_cases e : i = p.1
    · rw [if_pos e, if_pos e, denH_del D i h]
    · rw [if_neg e, if_neg e]
      show (p.1, denO D p.2) :: denH D (adel h i) = _
      rw [denH_del D i h]
theorem adel_app {α : Type} (i : Nat) : ∀ (h k : List (Nat × α)), adel (h ++ k) i = adel h i ++ adel k i
  | [], k => rfl
  | p :: h, k => by
    show adel (p :: (h ++ k)) i = _
    rw [adel_cons, adel_cons, adel_app i h k]
    by_cases e : i = p.1
    · rw [if_pos e, if_pos e]
    · rw [if_neg e, if_neg e]; rfl
theorem adel_none {α : Type} (i : Nat) : ∀ (h : List (Nat × α)), aget h i = none → adel h i = h
  | [], _ => rfl
  | p :: h, hn => by
    rw [aget_cons] at hn
    rw [adel_cons]
    by_cases e : i = p.1
    · rw [if_pos e] at hn; cases hn
    · rw [if_neg e] at hn ⊢
      rw [adel_none i h hn]
end
end Go.Ev
