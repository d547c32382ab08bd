/- Words of my own: abstract states under other names. -/
import Derived.Test.YtlkfcabklaaacaaSx8
set_option linter.unusedVariables false
set_option linter.unusedSimpArgs false
set_option linter.unusedSectionVars false
namespace Go.Ev
open Go.RowKit
noncomputable section
mutual
def idsV : AV → List Nat
  | .sl id _ => [id]
  | .ptr id _ => [id]
  | .ep id _ _ _ => [id]
  | .mp id => [id]
  | .yl id => [id]
  | .ag l => idsL l
  | .tu l => idsL l
  | .fn _ l => idsL l
  | .ifc _ v => idsV v
  | .pk v => idsV v
  | _ => []
def idsL : List AV → List Nat
  | [] => []
  | v :: l => idsV v ++ idsL l
end
mutual
def renV (f : Nat → Nat) : AV → AV
  | .sl id z => .sl (f id) z
  | .ptr id o => .ptr (f id) o
  | .ep id i z j => .ep (f id) i z j
  | .mp id => .mp (f id)
  | .yl id => .yl (f id)
  | .ag l => .ag (renL f l)
  | .tu l => .tu (renL f l)
  | .fn g l => .fn g (renL f l)
  | .ifc t v => .ifc t (renV f v)
  | .i k n => .i k n
  | .n k m => .n k m
  | .y x => .y x
  | .b x => .b x
  | .s l => .s l
  | .nsl => .nsl
  | .nptr => .nptr
  | .nmap => .nmap
  | .nfn => .nfn
  | .nifc => .nifc
  | .un => .un
  | .jk => .jk
  | .st g o => .st g o
  | .pk v => .pk (renV f v)
  | .ar K l => .ar K l
def renL (f : Nat → Nat) : List AV → List AV
  | [] => []
  | v :: l => renV f v :: renL f l
end
mutual
theorem renV_id : ∀ v : AV, renV (fun x => x) v = v
  | .sl _ _ => rfl
  | .ptr _ _ => rfl
  | .ep _ _ _ _ => rfl
  | .mp _ => rfl
  | .yl _ => rfl
  | .ag l => congrArg AV.ag (renL_id l)
  | .tu l => congrArg AV.tu (renL_id l)
  | .fn g l => congrArg (AV.fn g) (renL_id l)
  | .ifc t v => congrArg (AV.ifc t) (renV_id v)
  | .i _ _ => rfl
  | .n _ _ => rfl
  | .y _ => rfl
  | .b _ => rfl
  | .s _ => rfl
  | .nsl => rfl
  | .nptr => rfl
  | .nmap => rfl
  | .nfn => rfl
  | .nifc => rfl
  | .un => rfl
  | .jk => rfl
  | .st _ _ => rfl
  | .pk v => congrArg AV.pk (renV_id v)
  | .ar _ _ => rfl
theorem renL_id : ∀ l : List AV, renL (fun x => x) l = l
  | [] => rfl
  | v :: l => by rw [renL, renV_id v, renL_id l]
end
theorem renL_length (f : Nat → Nat) : ∀ l : List AV, (renL f l).length = l.length
  | [] => rfl
  | v :: l => by rw [renL, List.length_cons, List.length_cons, renL_length f l]
mutual
theorem ren_RN {b : Bool} {R : List (Nat × Nat)} {f : Nat → Nat} {D D1 : Dt} : ∀ {v : AV}, (∀ id ∈ idsV v, aget R (f id) = some id ∧ D1 (f id) = D id) → RN b (aget R) (den D1 (renV f v)) (den D v)
  | .sl id z, h => by
    obtain ⟨h1, h2⟩ := h id (by rw [idsV]; exact List.mem_singleton.2 rfl)
    rw [renV, den, den, h2]
    cases D id with
    | none => exact .any
    | some p => exact .slice h1
  | .ptr id o, h => .ptr (h id (by rw [idsV]; exact List.mem_singleton.2 rfl)).1
  | .ep id i z j, h => by
    obtain ⟨h1, h2⟩ := h id (by rw [idsV]; exact List.mem_singleton.2 rfl)
    rw [renV, den, den, h2]
    cases D id with
    | none => exact .any
    | some p => exact .ptr h1
  | .mp id, h => .map (h id (by rw [idsV]; exact List.mem_singleton.2 rfl)).1
  | .yl id, h => .yield (h id (by rw [idsV]; exact List.mem_singleton.2 rfl)).1
  | .ag l, h => .aggL (ren_RNs (fun id hid => h id (by rw [idsV]; exact hid)))
  | .tu l, h => .tupleL (ren_RNs (fun id hid => h id (by rw [idsV]; exact hid)))
  | .fn g l, h => .fnL (ren_RNs (fun id hid => h id (by rw [idsV]; exact hid)))
  | .ifc t v, h => .iface (ren_RN (fun id hid => h id (by rw [idsV]; exact hid)))
  | .i _ _, _ => .flat rfl
  | .n _ _, _ => .flat rfl
  | .y _, _ => .flat rfl
  | .b _, _ => .flat rfl
  | .s _, _ => .flat rfl
  | .nsl, _ => .flat rfl
  | .nptr, _ => .flat rfl
  | .nmap, _ => .flat rfl
  | .nfn, _ => .flat rfl
  | .nifc, _ => .flat rfl
  | .un, _ => RN.tupleL .nil
  | .jk, _ => .any
  | .st _ _, _ => .stat
  | .pk v, h => RN.tupleL (.cons (.flat rfl) (.cons (.flat rfl) (.cons (.flat rfl) (.cons (.flat rfl) (.cons (.flat rfl) (.cons (.flat rfl) (.cons (ren_RN (fun id hid => h id (by rw [idsV]; exact hid))) .nil)))))))
  | .ar K l, _ => RN.aggL (RNs_rowJ (z := K.z) (o := 0) (l := l))
theorem ren_RNs {b : Bool} {R : List (Nat × Nat)} {f : Nat → Nat} {D D1 : Dt} : ∀ {l : List AV}, (∀ id ∈ idsL l, aget R (f id) = some id ∧ D1 (f id) = D id) → RNs b (aget R) (denL D1 (renL f l)) (denL D l)
  | [], _ => .nil
  | v :: l, h => .cons (ren_RN (fun id hid => h id (by rw [idsL]; exact List.mem_append_left _ hid))) (ren_RNs (fun id hid => h id (by rw [idsL]; exact List.mem_append_right _ hid)))
end
def idsO : AO → List Nat
  | .row .. => []
  | .cells cs _ _ => idsL cs
def renO (f : Nat → Nat) : AO → AO
  | .row K o l t g => .row K o l t g
  | .cells cs t g => .cells (renL f cs) t g
theorem od_renO (f : Nat → Nat) (o : AO) : od (renO f o) = od o := by
  cases o with
  | row => rfl
  | cells cs t g =>
    show ((0, fun z => (renL f cs).length / z) : Nat × (Nat → Nat)) = (0, fun z => cs.length / z)
    rw [renL_length]
theorem ren_ORN {b : Bool} {R : List (Nat × Nat)} {f : Nat → Nat} {D D1 : Dt} {o : AO} (h : ∀ id ∈ idsO o, aget R (f id) = some id ∧ D1 (f id) = D id) : ORN b (aget R) (denO D1 (renO f o)) (denO D o) := by
  cases o with
  | row K o l t g => exact .cells (RNs_rowJ (z := K.z)) .same
  | cells cs t g => exact .cells (ren_RNs h) .same
/-- All of these names are known, and keep their meaning. -/
def okIds (R : List (Nat × Nat)) (f : Nat → Nat) : List Nat → Bool
  | [] => true
  | id :: l => (match aget R (f id) with
    | some a => Nat.beq a id
    | none => false) && okIds R f l
theorem okIds_ok {R : List (Nat × Nat)} {f : Nat → Nat} : ∀ {l : List Nat}, okIds R f l = true → ∀ id ∈ l, aget R (f id) = some id
  | [], _, _, h => by cases h
  | a :: l, h, id, hid => by
    obtain ⟨h1, h2⟩ := and_ok h
    rcases List.mem_cons.1 hid with rfl | hid
    · split at h1
      · rename_i b hb
        rw [hb, Nat.eq_of_beq_eq_true h1]
      · cases h1
    · exact okIds_ok h2 id hid
/-- Which nil slices become empty rows: where (an object's old name, a cell), and what. -/
abbrev PM := List ((Nat × Nat) × (Nat × Nat))
def pget : PM → Nat → Nat → Option (Nat × Nat)
  | [], _, _ => none
  | p :: l, a, j => cond (Nat.beq p.1.1 a && Nat.beq p.1.2 j) (some p.2) (pget l a j)
def promL (P : PM) (a : Nat) (f : Nat → Nat) : Nat → List AV → List AV
  | _, [] => []
  | j, v :: l => (match v with
    | .nsl => match pget P a j with
      | some (b, z) => .sl b z
      | none => .nsl
    | v => renV f v) :: promL P a f (j + 1) l
theorem promL_length (P : PM) (a : Nat) (f : Nat → Nat) : ∀ (j : Nat) (l : List AV), (promL P a f j l).length = l.length
  | _, [] => rfl
  | j, v :: l => by
    show (_ :: promL P a f (j + 1) l).length = _
    rw [List.length_cons, List.length_cons, promL_length P a f (j + 1) l]
def renP (Sh : List Nat) (P : PM) (a : Nat) (f : Nat → Nat) : AO → AO
  | .row K o l t g => .row K o l t (cond (mem Sh a) (1, 0) g)
  | .cells cs t g => .cells (promL P a f 0 cs) t g
theorem od_renP (Sh : List Nat) (P : PM) (a : Nat) (f : Nat → Nat) (o : AO) : od (renP Sh P a f o) = od o := by
  cases o with
  | row => rfl
  | cells cs t g =>
    show ((0, fun z => (promL P a f 0 cs).length / z) : Nat × (Nat → Nat)) = (0, fun z => cs.length / z)
    rw [promL_length]
theorem pget_mem {P : PM} {a j : Nat} {q : Nat × Nat} (h : pget P a j = some q) : ∃ p ∈ P, p.2 = q := by
  induction P with
  | nil => cases h
  | cons p l ih =>
    rw [pget] at h
    cases hc : (Nat.beq p.1.1 a && Nat.beq p.1.2 j) <;> rw [hc] at h
    · obtain ⟨p', h1, h2⟩ := ih h
      exact ⟨p', List.mem_cons_of_mem _ h1, h2⟩
    · exact ⟨p, List.mem_cons_self, Option.some.inj h⟩
theorem prom_RNs {R : List (Nat × Nat)} {f : Nat → Nat} {D D1 : Dt} {P : PM} {a : Nat} (hP : ∀ p ∈ P, D1 p.2.1 = some (0, fun _ => 0)) : ∀ {l : List AV} {j : Nat}, (∀ id ∈ idsL l, aget R (f id) = some id ∧ D1 (f id) = D id) → RNs true (aget R) (denL D1 (promL P a f j l)) (denL D l)
  | [], _, _ => .nil
  | v :: l, j, h => by
    refine .cons ?_ (prom_RNs hP (fun id hid => h id (by rw [idsL]; exact List.mem_append_right _ hid)))
    split
    · split
      · rename_i b z hq
        obtain ⟨p, h1, h2⟩ := pget_mem hq
        have := hP p h1
        rw [h2] at this
        have this : D1 b = some (0, fun _ => 0) := this
        have e : den D1 (.sl b z) = .slice (some ⟨b, 0, some z⟩) 0 0 := by rw [den, this]
        rw [e]
        exact .nilS rfl
      · exact .flat rfl
    · exact ren_RN (fun id hid => h id (by rw [idsL]; exact List.mem_append_left _ hid))
theorem prom_ORN {Sh : List Nat} {R : List (Nat × Nat)} {f : Nat → Nat} {D D1 : Dt} {P : PM} {a : Nat} (hP : ∀ p ∈ P, D1 p.2.1 = some (0, fun _ => 0)) {o : AO} (h : ∀ id ∈ idsO o, aget R (f id) = some id ∧ D1 (f id) = D id) : ORN true (aget R) (denO D1 (renP Sh P a f o)) (denO D o) := by
  cases o with
  | row K o l t g => exact .cells (RNs_rowJ (z := K.z)) (by show RoOk true (cond (mem Sh a) (1, 0) g) g; cases mem Sh a; exact .same; exact .share rfl)
  | cells cs t g => exact .cells (prom_RNs hP h) .same
/-- The memory under new names. -/
def mkH (Sh : List Nat) (P : PM) (R : List (Nat × Nat)) (f : Nat → Nat) (sh : AH) : List (Nat × Nat) → Option AH
  | [] => some []
  | (b, a) :: R' => (aget sh a).bind fun o => cond (okIds R f (idsO o) && (match aget R b with
    | some a' => Nat.beq a' a
    | none => false)) ((mkH Sh P R f sh R').bind fun h => some ((b, renP Sh P a f o) :: h)) none
theorem mkH_ok {Sh : List Nat} {P : PM} {R : List (Nat × Nat)} {f : Nat → Nat} {sh : AH} : ∀ {R' : List (Nat × Nat)} {h1 : AH}, mkH Sh P R f sh R' = some h1 → (∀ b a, aget R' b = some a → ∃ o, aget sh a = some o ∧ aget h1 b = some (renP Sh P a f o)) ∧ (∀ b, aget R' b = none → aget h1 b = none)
  | [], h1, h => by cases h; exact ⟨fun b a h => (by cases h), fun b _ => rfl⟩
  | (b0, a0) :: R', h1, h => by
    rw [mkH] at h
    obtain ⟨o, ho, h⟩ := bd h
    obtain ⟨hc, h⟩ := cond_some' h
    obtain ⟨h2, hh, h⟩ := bd h
    obtain rfl := Option.some.inj h
    obtain ⟨k1, k2⟩ := mkH_ok hh
    refine ⟨fun b a hb => ?_, fun b hb => ?_⟩
    · rw [aget_cons] at hb ⊢
      by_cases e : b = b0
      · rw [if_pos e] at hb ⊢
        obtain rfl := Option.some.inj hb
        exact ⟨o, ho, rfl⟩
      · rw [if_neg e] at hb ⊢
        exact k1 b a hb
    · rw [aget_cons] at hb ⊢
      by_cases e : b = b0
      · rw [if_pos e] at hb; cases hb
      · rw [if_neg e] at hb ⊢
        exact k2 b hb
theorem mkH_RHs {Sh : List Nat} {P : PM} {R : List (Nat × Nat)} {f : Nat → Nat} {H0 : AH} {s : AS} {D1 : Dt} {n0 : Nat} {tl : List (Nat × Obj)} (hP : ∀ p ∈ P, D1 p.2.1 = some (0, fun _ => 0)) (hD : ∀ b a, aget R b = some a → D1 b = Dof H0 s a) (ht : RHs n0 (aget R) (hp H0 s) tl) :
    ∀ {R' : List (Nat × Nat)} {h1 : AH}, mkH Sh P R f s.h R' = some h1 → RHs n0 (aget R) (hp H0 s) (denH D1 h1 ++ tl)
  | [], h1, h => by cases h; exact ht
  | (b0, a0) :: R', h1, h => by
    rw [mkH] at h
    obtain ⟨o, ho, h⟩ := bd h
    obtain ⟨hc, h⟩ := cond_some' h
    obtain ⟨hc1, hc2⟩ := and_ok hc
    obtain ⟨h2, hh, h⟩ := bd h
    obtain rfl := Option.some.inj h
    have hb : aget R b0 = some a0 := by
      split at hc2
      · rename_i a' ha
        rw [ha, Nat.eq_of_beq_eq_true hc2]
      · cases hc2
    refine .cons hb (aget_lk (by unfold lk; rw [ho])) (prom_ORN hP fun id hid => ?_) (mkH_RHs hP hD ht hh)
    have := okIds_ok hc1 id hid
    exact ⟨this, hD _ _ this⟩
/-- The empty rows. -/
def okG (R : List (Nat × Nat)) (n0 : Nat) : AH → Bool
  | [] => true
  | (b, .row _ 0 [] _ _) :: G => (Nat.ble n0 b && (aget R b).isNone) && okG R n0 G
  | _ => false
theorem okG_ok {R : List (Nat × Nat)} {n0 : Nat} : ∀ {G : AH}, okG R n0 G = true → (∀ b o, aget G b = some o → od o = (0, fun _ => 0)) ∧ (∀ b a, aget R b = some a → aget G b = none) ∧ ∀ (ρ : Nat → Option Nat) (h tl : List (Nat × Obj)) (D1 : Dt), ρ = aget R → RHs n0 ρ h tl → RHs n0 ρ h (denH D1 G ++ tl)
  | [], _ => ⟨fun b o h => (by cases h), fun b a _ => rfl, fun ρ h tl D1 _ ht => ht⟩
  | (b0, .row K 0 [] e g) :: G, h => by
    obtain ⟨h1, h2⟩ := and_ok h
    obtain ⟨h0, h1⟩ := and_ok h1
    obtain ⟨k1, k2, k3⟩ := okG_ok h2
    refine ⟨fun b o hb => ?_, fun b a hb => ?_, fun ρ h tl D1 e' ht => ?_⟩
    · rw [aget_cons] at hb
      by_cases e : b = b0
      · rw [if_pos e] at hb
        obtain rfl := Option.some.inj hb
        rfl
      · rw [if_neg e] at hb
        exact k1 b o hb
    · rw [aget_cons, if_neg (fun e => by rw [e] at hb; dsimp only at hb; rw [hb] at h1; cases h1)]
      exact k2 b a hb
    · exact .ghost (by rw [e']; simpa using h1) h0 (k3 ρ h tl D1 e' ht)
  | (_, .row K 0 (_ :: _) e g) :: G, h => by cases h
  | (_, .row K (_ + 1) _ e g) :: G, h => by cases h
  | (_, .cells _ _ _) :: G, h => by cases h
def okP (G : AH) : PM → Bool
  | [] => true
  | p :: P => (aget G p.2.1).isSome && okP G P
theorem okP_ok {G : AH} : ∀ {P : PM}, okP G P = true → ∀ p ∈ P, ∃ o, aget G p.2.1 = some o
  | [], _, _, h => by cases h
  | p :: P, h, q, hq => by
    obtain ⟨h1, h2⟩ := and_ok h
    rcases List.mem_cons.1 hq with rfl | hq
    · exact Option.isSome_iff_exists.1 h1
    · exact okP_ok h2 q hq
/-- Memory that is only looked at keeps its names. -/
def H0ok (R : List (Nat × Nat)) (sh : AH) : AH → Bool
  | [] => true
  | (id, o) :: l => ((okIds R (fun x => x) (idsO o) && (match aget R id with
    | some a => Nat.beq a id
    | none => false)) && ((aget sh id).isNone && (aget l id).isNone)) && H0ok R sh l
theorem H0_get {R : List (Nat × Nat)} {sh : AH} : ∀ {h : AH}, H0ok R sh h = true → ∀ p ∈ h, aget h p.1 = some p.2 ∧ aget sh p.1 = none ∧ aget R p.1 = some p.1 ∧ okIds R (fun x => x) (idsO p.2) = true
  | [], _, _, h => by cases h
  | (id, o) :: l, h, p, hp => by
    obtain ⟨h1, h2⟩ := and_ok h
    obtain ⟨h1, h3⟩ := and_ok h1
    obtain ⟨h3, h4⟩ := and_ok h3
    obtain ⟨h1, h5⟩ := and_ok h1
    rcases List.mem_cons.1 hp with rfl | hp
    · refine ⟨by rw [aget_cons, if_pos rfl], by simpa using h3, ?_, h1⟩
      split at h5
      · rename_i a ha
        dsimp only
        rw [ha, Nat.eq_of_beq_eq_true h5]
      · cases h5
    · obtain ⟨k1, k2, k3, k4⟩ := H0_get h2 p hp
      refine ⟨?_, k2, k3, k4⟩
      rw [aget_cons, if_neg, k1]
      intro e
      rw [e] at k1
      rw [k1] at h4; cases h4
theorem denO_same {b : Bool} {R : List (Nat × Nat)} {D D1 : Dt} {o : AO} (h : ∀ id ∈ idsO o, aget R id = some id ∧ D1 id = D id) : ORN b (aget R) (denO D1 o) (denO D o) := by
  have := ren_ORN (b := b) (R := R) (f := fun x => x) (D := D) (D1 := D1) (o := o) h
  cases o with
  | row => exact this
  | cells cs t g => rw [renO, renL_id] at this; exact this
theorem H0_RHs {R : List (Nat × Nat)} {H0 : AH} {s : AS} {D1 : Dt} {n0 : Nat} (hD : ∀ b a, aget R b = some a → D1 b = Dof H0 s a) (h0 : H0ok R s.h H0 = true) : ∀ (l : AH), (∀ p ∈ l, p ∈ H0) → RHs n0 (aget R) (hp H0 s) (denH D1 l)
  | [], _ => .nil
  | p :: l, hl => by
    obtain ⟨k1, k2, k3, k4⟩ := H0_get h0 p (hl p List.mem_cons_self)
    refine .cons (b := p.1) (a := p.1) k3 (aget_lk (o := p.2) (by unfold lk; rw [k2]; exact k1)) (denO_same fun id hid => ?_) (H0_RHs hD h0 l fun q hq => hl q (List.mem_cons_of_mem _ hq))
    have := okIds_ok k4 id hid
    exact ⟨this, hD _ _ this⟩
-- which names
def invR (R : List (Nat × Nat)) (id : Nat) : Nat := match R with
  | [] => id
  | (b, a) :: l => cond (Nat.beq a id) b (invR l id)
def addN (n0 : Nat) (sh : AH) : List Nat → List Nat → List Nat
  | L, [] => L
  | L, id :: ids => cond (Nat.ble n0 id && (!(mem L id) && (aget sh id).isSome)) (addN n0 sh (L ++ [id]) ids) (addN n0 sh L ids)
def addT (n0 : Nat) (sh : AH) (T : AT) : List Nat → List Nat → List Nat
  | L, [] => L
  | L, t :: ts => match aget T t with
    | some v => addT n0 sh T (addN n0 sh L (idsV v)) ts
    | none => addT n0 sh T L ts
def addH (n0 : Nat) (sh : AH) : List Nat → AH → List Nat
  | L, [] => L
  | L, (id, o) :: h => cond (Nat.ble n0 id) (addH n0 sh L h) (addH n0 sh (addN n0 sh L (idsO o)) h)
def grow (n0 : Nat) (sh : AH) : Nat → Nat → List Nat → List Nat
  | 0, _, L => L
  | f + 1, p, L => match nth L p with
    | none => L
    | some id => match aget sh id with
      | some o => grow n0 sh f (p + 1) (addN n0 sh L (idsO o))
      | none => grow n0 sh f (p + 1) L
def numL (n0 : Nat) : List Nat → Nat → List (Nat × Nat) → List (Nat × Nat)
  | [], _, acc => acc
  | id :: l, i, acc => numL n0 l (i + 1) ((n0 + i, id) :: acc)
def oldsR (n0 : Nat) : AH → List (Nat × Nat)
  | [] => []
  | (id, _) :: h => cond (Nat.ble n0 id) (oldsR n0 h) ((id, id) :: oldsR n0 h)
/-- A slot's value: nil slices in it become empty rows. -/
def promV (P : PM) (t : Nat) (f : Nat → Nat) : AV → AV
  | .nsl => match pget P (KB + t) 0 with
    | some (b, z) => .sl b z
    | none => .nsl
  | .tu l => .tu (promL P (KB + t) f 1 l)
  | v => renV f v
theorem promV_RN {R : List (Nat × Nat)} {f : Nat → Nat} {D D1 : Dt} {P : PM} {t : Nat} (hP : ∀ p ∈ P, D1 p.2.1 = some (0, fun _ => 0)) {v : AV} (h : ∀ id ∈ idsV v, aget R (f id) = some id ∧ D1 (f id) = D id) : RN true (aget R) (den D1 (promV P t f v)) (den D v) := by
  unfold promV
  split
  · split
    · rename_i b z hq
      obtain ⟨p, h1, h2⟩ := pget_mem hq
      have := hP p h1
      rw [h2] at this
      have this : D1 b = some (0, fun _ => 0) := this
      have e : den D1 (.sl b z) = .slice (some ⟨b, 0, some z⟩) 0 0 := by rw [den, this]
      rw [e]
      exact .nilS rfl
    · exact .flat rfl
  · exact .tupleL (prom_RNs hP (fun id hid => h id (by rw [idsV]; exact hid)))
  · exact ren_RN h
def liveT (P : PM) (R : List (Nat × Nat)) (f : Nat → Nat) (T : AT) : List Nat → AT
  | [] => []
  | t :: l => match aget T t with
    | some v => cond (okIds R f (idsV v)) ((t, promV P t f v) :: liveT P R f T l) (liveT P R f T l)
    | none => liveT P R f T l
theorem liveT_RTs {P : PM} {R : List (Nat × Nat)} {f : Nat → Nat} {T : AT} {D D1 : Dt} (hP : ∀ p ∈ P, D1 p.2.1 = some (0, fun _ => 0)) (hD : ∀ b a, aget R b = some a → D1 b = D a) : ∀ (l : List Nat), RTs (aget R) (denT D T) (denT D1 (liveT P R f T l))
  | [] => .nil
  | t :: l => by
    rw [liveT]
    cases h : aget T t with
    | none => exact liveT_RTs hP hD l
    | some v =>
      dsimp only
      cases hc : okIds R f (idsV v) with
      | false => exact liveT_RTs hP hD l
      | true => exact .cons (by rw [aget_denT, h]; rfl) (promV_RN hP fun id hid => ⟨okIds_ok hc id hid, hD _ _ (okIds_ok hc id hid)⟩) (liveT_RTs hP hD l)
def fldK (C : Cfg) (kd : TypeId → Option RK) (j : Nat) : List Field → Option (RK × TypeId)
  | [] => none
  | f :: fs => cond (Nat.beq f.offset j) (match C.ty f.type with
    | some (_, .slice e) => (kd e).bind fun K => some (K, e)
    | _ => none) (fldK C kd j fs)
def cellK (C : Cfg) (kd : TypeId → Option RK) (t : TypeId) (j : Nat) : Option (RK × TypeId) := match C.ty t with
  | some (_, .slice e) => match j with
    | 0 => (kd e).bind fun K => some (K, e)
    | _ => none
  | some (_, .struct fs) => fldK C kd j fs.toList
  | _ => none
/-- Nil slices of one object. -/
def nils (C : Cfg) (kd : TypeId → Option RK) (t : TypeId) (a : Nat) : Nat → List AV → List ((Nat × Nat) × (RK × TypeId))
  | _, [] => []
  | j, v :: l => match v with
    | .nsl => match cellK C kd t j with
      | some q => ((a, j), q) :: nils C kd t a (j + 1) l
      | none => nils C kd t a (j + 1) l
    | _ => nils C kd t a (j + 1) l
def nilsR (C : Cfg) (kd : TypeId → Option RK) (sh : AH) : List (Nat × Nat) → List ((Nat × Nat) × (RK × TypeId))
  | [] => []
  | (_, a) :: R => (match aget sh a with
    | some (.cells cs t _) => nils C kd t a 0 cs
    | _ => []) ++ nilsR C kd sh R
abbrev KN := List ((Nat × Nat) × (RK × TypeId))
def kget : KN → Nat → Nat → Option (RK × TypeId)
  | [], _, _ => none
  | p :: l, a, j => cond (Nat.beq p.1.1 a && Nat.beq p.1.2 j) (some p.2) (kget l a j)
def nilsV (kn : KN) (t : Nat) : Nat → List AV → List ((Nat × Nat) × (RK × TypeId))
  | _, [] => []
  | j, v :: l => match v with
    | .nsl => match kget kn t j with
      | some q => ((KB + t, j), q) :: nilsV kn t (j + 1) l
      | none => nilsV kn t (j + 1) l
    | _ => nilsV kn t (j + 1) l
def nilsT (kn : KN) (T : AT) : List Nat → List ((Nat × Nat) × (RK × TypeId))
  | [] => []
  | t :: l => (match aget T t with
    | some .nsl => match kget kn t 0 with
      | some q => [((KB + t, 0), q)]
      | none => []
    | some (.tu vs) => nilsV kn t 1 vs
    | _ => []) ++ nilsT kn T l
def numP : Nat → List ((Nat × Nat) × (RK × TypeId)) → PM
  | _, [] => []
  | n, (q, (K, _)) :: l => (q, (n, K.z)) :: numP (n + 1) l
def numG : Nat → List ((Nat × Nat) × (RK × TypeId)) → AH → AH
  | _, [], acc => acc
  | n, (_, (K, e)) :: l, acc => numG (n + 1) l ((n, .row K 0 [] e (0, 0)) :: acc)
/-- New names: those of the function's own that are still in use, one behind the other. -/
def canonR (n0 : Nat) (live : List Nat) (T : AT) (s : AS) : List (Nat × Nat) :=
  numL n0 (grow n0 s.h 1000 0 (addH n0 s.h (addT n0 s.h T [] live) s.h)) 0 (oldsR n0 s.h)
def wantsSh : KN → Nat → Bool
  | [], _ => false
  | p :: l, t => (Nat.beq p.1.1 77777 && Nat.beq p.1.2 t) || wantsSh l t
/-- The rows that are to be shared: those that the slots hold that are named so. -/
def shT (kn : KN) (T : AT) : List Nat → List Nat
  | [] => []
  | t :: l => cond (wantsSh kn t) ((match aget T t with
    | some v => idsV v
    | none => []) ++ shT kn T l) (shT kn T l)
def canonK {ρ : Type} (Sh : List Nat) (di : List AV) (n0 : Nat) (H0 : AH) (live : List Nat) (T : AT) (s : AS) (R' R : List (Nat × Nat)) (P : PM) (G : AH) (nx : Nat) (k : AT → AS → Option ρ) : Option ρ :=
  (mkH Sh P R (invR R) s.h R').bind fun h1 => cond (okR n0 nx R && (Nat.ble n0 nx && (Nat.ble nx KB && (wfB nx (hp H0 ⟨G ++ h1, nx, []⟩) && (H0ok R s.h H0 && (okG R n0 G && (okP G P && okIds R (fun x => x) (idsL di))))))))
    (k (liveT P R (invR R) T live) ⟨G ++ h1, nx, []⟩) none
def canonN {ρ : Type} (Sh : List Nat) (di : List AV) (n0 : Nat) (H0 : AH) (live : List Nat) (T : AT) (s : AS) (R' : List (Nat × Nat)) (ns : List ((Nat × Nat) × (RK × TypeId))) (nx : Nat) (k : AT → AS → Option ρ) : Option ρ :=
  canonK Sh di n0 H0 live T s R' (R' ++ H0.map fun p => (p.1, p.1)) (numP nx ns) (numG nx ns []) (nx + ns.length) k
def canon {ρ : Type} (C : Cfg) (kd : TypeId → Option RK) (kn : KN) (di : List AV) (n0 : Nat) (H0 : AH) (live : List Nat) (T : AT) (s : AS) (k : AT → AS → Option ρ) : Option ρ :=
  canonN (shT kn T live) di n0 H0 live T s (canonR n0 live T s) (nilsT kn T live ++ nilsR C kd s.h (canonR n0 live T s)) (n0 + (canonR n0 live T s).length - (oldsR n0 s.h).length) k
theorem aget_self : ∀ (H0 : AH) {b a : Nat}, aget (H0.map fun p => (p.1, p.1)) b = some a → a = b ∧ ∃ o, aget H0 b = some o
  | [], b, a, h => by cases h
  | p :: H0, b, a, h => by
    rw [List.map_cons, aget_cons] at h
    rw [aget_cons]
    by_cases e : b = p.1
    · rw [if_pos e] at h ⊢
      obtain rfl := Option.some.inj h
      exact ⟨e.symm, _, rfl⟩
    · rw [if_neg e] at h ⊢
      exact aget_self H0 h
theorem aget_mem {α : Type} : ∀ {l : List (Nat × α)} {i : Nat} {o : α}, aget l i = some o → (i, o) ∈ l
  | [], _, _, h => by cases h
  | p :: l, i, o, h => by
    rw [aget_cons] at h
    by_cases e : i = p.1
    · rw [if_pos e] at h
      obtain rfl := Option.some.inj h
      rw [e]; exact List.mem_cons_self
    · rw [if_neg e] at h
      exact List.mem_cons_of_mem _ (aget_mem h)
/-- Deferred calls, as values. -/
def dfV (di : List AV) : List Value := denL (fun _ => none) di
theorem canonK_ok {ρ : Type} {r : ρ} {Sh : List Nat} {di : List AV} {n0 : Nat} {H0 : AH} {live : List Nat} {T : AT} {s : AS} {R' R : List (Nat × Nat)} {P : PM} {G : AH} {nx1 : Nat} {k : AT → AS → Option ρ} (hRR : R' ++ H0.map (fun p => (p.1, p.1)) = R) (h : canonK Sh di n0 H0 live T s R' R P G nx1 k = some r) : ∃ T1 s1, k T1 s1 = some r ∧ Rnm n0 (denT (Dof H0 s) T) (stD (dfV di) H0 s) (denT (Dof H0 s1) T1) (stD (dfV di) H0 s1) := by
  unfold canonK at h
  obtain ⟨h1, hm, h⟩ := bd h
  obtain ⟨hc, h⟩ := cond_some h
  obtain ⟨c1, hc⟩ := and_ok hc
  obtain ⟨c2, hc⟩ := and_ok hc
  obtain ⟨c3, hc⟩ := and_ok hc
  obtain ⟨c4, hc⟩ := and_ok hc
  obtain ⟨c5, hc⟩ := and_ok hc
  obtain ⟨c6, hc⟩ := and_ok hc
  obtain ⟨c7, c8⟩ := and_ok hc
  obtain ⟨m1, m2⟩ := mkH_ok hm
  obtain ⟨g1, g2, g3⟩ := okG_ok c6
  have hD : ∀ b a, aget R b = some a → Dof H0 ⟨G ++ h1, nx1, []⟩ b = Dof H0 s a := fun b a hb => by
    have hg := g2 b a hb
    unfold Dof
    dsimp only
    rw [aget_app, hg]
    dsimp only
    rw [← hRR, aget_app] at hb
    cases hb' : aget R' b with
    | some a' =>
      rw [hb'] at hb
      obtain rfl := Option.some.inj hb
      obtain ⟨o, ho, hh⟩ := m1 b a' hb'
      rw [hh, ho]
      exact congrArg some (od_renP _ _ _ _ _)
    | none =>
      rw [hb'] at hb
      obtain ⟨rfl, o, ho⟩ := aget_self H0 hb
      obtain ⟨k1, k2, k3, k4⟩ := H0_get c5 _ (aget_mem ho)
      rw [m2 a hb', ho, k2]
  have hP : ∀ p ∈ P, Dof H0 ⟨G ++ h1, nx1, []⟩ p.2.1 = some (0, fun _ => 0) := fun p hp => by
    obtain ⟨o, ho⟩ := okP_ok c7 p hp
    unfold Dof
    dsimp only
    rw [aget_app, ho]
    exact congrArg some (g1 _ _ ho)
  refine ⟨_, _, h, .mk' R c1 c2 c3 c4 (liveT_RTs hP hD live) ?_ ?_⟩
  rotate_left
  · have := ren_RNs (b := true) (R := R) (f := fun x => x) (D := fun _ => none) (D1 := fun _ => none) (l := di) fun id hid => ⟨okIds_ok c8 id hid, rfl⟩
    rw [renL_id] at this
    exact this
  have := g3 (aget R) (hp H0 s) _ (Dof H0 ⟨G ++ h1, nx1, []⟩) rfl (mkH_RHs hP hD (H0_RHs hD c5 H0 fun p hp => hp) hm)
  have e : hp H0 ⟨G ++ h1, nx1, []⟩ = denH (Dof H0 ⟨G ++ h1, nx1, []⟩) G ++ (denH (Dof H0 ⟨G ++ h1, nx1, []⟩) h1 ++ denH (Dof H0 ⟨G ++ h1, nx1, []⟩) H0) := by
    show denH _ (G ++ h1) ++ _ = _
    unfold denH
    rw [List.map_append, List.append_assoc]
  show RHs n0 (aget R) (hp H0 s) (hp H0 ⟨G ++ h1, nx1, []⟩)
  rw [e]; exact this
theorem canon_ok {ρ : Type} {r : ρ} {C : Cfg} {kd : TypeId → Option RK} {kn : KN} {di : List AV} {n0 : Nat} {H0 : AH} {live : List Nat} {T : AT} {s : AS} {k : AT → AS → Option ρ} (h : canon C kd kn di n0 H0 live T s k = some r) : ∃ T1 s1, k T1 s1 = some r ∧ Rnm n0 (denT (Dof H0 s) T) (stD (dfV di) H0 s) (denT (Dof H0 s1) T1) (stD (dfV di) H0 s1) := canonK_ok rfl h
end
end Go.Ev
