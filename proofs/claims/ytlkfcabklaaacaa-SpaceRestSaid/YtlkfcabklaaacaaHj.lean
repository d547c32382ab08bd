/- Words of my own: slices that begin anywhere, and parts of slices, each with its own name. -/
import Derived.Test.YtlkfcabklaaacaaHl
set_option linter.unusedVariables false
set_option linter.unusedSectionVars false
namespace Go.Ev
open Go.RowKit
/-- A row, behind cells of which nothing is known. -/
def jrow (o : Nat) : List Value := List.replicate o (.chan none)
@[reducible] def rowJ {α : Type} (k : α → List Value) (o : Nat) (l : List α) : List Value := jrow o ++ rowV k l
theorem jrow_length (o : Nat) : (jrow o).length = o := List.length_replicate ..
theorem VRs_jrow {ν : Ren} : ∀ {l : List Value}, VRs ν (jrow l.length) l
  | [] => .nil
  | v :: l => .cons .any VRs_jrow
theorem RNs_jrow {f : Bool} {ρ : Nat → Option Nat} : ∀ {o : Nat}, RNs f ρ (jrow o) (jrow o)
  | 0 => .nil
  | o + 1 => .cons .any RNs_jrow
theorem RNs.app {f : Bool} {ρ : Nat → Option Nat} {a b c d : List Value} (h : RNs f ρ a b) (h2 : RNs f ρ c d) : RNs f ρ (a ++ c) (b ++ d) := by
  induction h with
  | nil => exact h2
  | cons h _ ih => exact .cons h ih
section
variable {α : Type} {k : α → List Value} {z : Nat} [RowK k z]
theorem RNs_rowJ {α : Type} {k : α → List Value} {z : Nat} [RowK k z] {f : Bool} {ρ : Nat → Option Nat} {o : Nat} {l : List α} : RNs f ρ (rowJ k o l) (rowJ k o l) := RNs.app RNs_jrow (RNs.flats (flats_rowV (z := z) l))
theorem RNs_rowJ_of {α : Type} {k : α → List Value} {z : Nat} [RowK k z] {f : Bool} {ρ : Nat → Option Nat} {o : Nat} {l l' : List α} (h : l = l') : RNs f ρ (rowJ k o l) (rowJ k o l') := h ▸ RNs_rowJ (z := z)
theorem rowJ_at {o i : Nat} {l : List α} {x : α} (h : l[i]? = some x) : ((rowJ k o l).drop (o + i * z)).take z = k x := by
  show ((jrow o ++ rowV k l).drop (o + i * z)).take z = k x
  rw [← List.drop_drop, List.drop_left' (jrow_length o)]
  exact rowV_at h
theorem rowJ_nth {o i j : Nat} {l : List α} {x : α} {v : Value} (h : l[i]? = some x) (hv : (k x)[j]? = some v) : nth (rowJ k o l) (o + i * z + j) = some v := by
  rw [nth_eq]
  show (jrow o ++ rowV k l)[o + i * z + j]? = some v
  rw [List.getElem?_append_right (by rw [jrow_length]; omega), jrow_length, show o + i * z + j - o = i * z + j by omega]
  have := rowV_nth (k := k) h hv
  rwa [nth_eq] at this
theorem rowJ_length {o : Nat} {l : List α} : (rowJ k o l).length = o + l.length * z := by
  show (jrow o ++ rowV k l).length = _
  rw [List.length_append, jrow_length, rowV_length]
theorem apd_rowJ {C : Cfg} [Hv C] {h : List (Nat × Obj)} {xt e ct : TypeId} {ti : TypeInfo} {b n c o : Nat} {l : List α} {cf : Nat × Nat} (h1 : C.ty xt = some (ti, .slice e)) (hh : aget h b = some (.cells ⟨rowJ k o l⟩ ct cf)) (hn : l.length = n) : Apd C h z xt (.slice (some ⟨b, o, some z⟩) n c) n (rowV k l) [b] :=
  apd_row h1 hh (by
    show ((jrow o ++ rowV k l).drop o).take (n * z) = _
    rw [List.drop_left' (jrow_length o), ← hn, ← rowV_length (k := k) l, List.take_length]) (by rw [rowV_length, hn]) (ones_rowV l)
theorem rowJ_part {o i n : Nat} {l : List α} (hi : i + n ≤ l.length) : jrow (o + i * z) ++ ((rowJ k o l).drop (o + i * z)).take (n * z) = rowJ k (o + i * z) ((l.drop i).take n) := by
  show jrow (o + i * z) ++ ((jrow o ++ rowV k l).drop (o + i * z)).take (n * z) = jrow (o + i * z) ++ rowV k ((l.drop i).take n)
  rw [← List.drop_drop, List.drop_left' (jrow_length o), rowV_part]
end
section
variable {C : Cfg} [Hv C] {N n0 : Nat} {T : Tm} {s : St} {ops : Array Oper} {l : List Oper} {d : Option Nat} {ty : TypeId} {pos : String} {after : Array Edge} {v : Value} {s' : St}
/-- A place in a slice that begins anywhere. -/
theorem st_iaO {t e : TypeId} {x i : Operand} {a o z n c j : Nat} {k : IntKind} {ti : TypeInfo} {ei : TypeInfo × TypeDesc} (h1 : C.ty t = some (ti, .slice e)) (h2 : C.ty e = some ei) (hz : ei.1.size = z) (hx : ev1 T x = some (.slice (some ⟨a, o, some z⟩) n c)) (hi : ev1 T i = some (.int k (j : Int))) (hn : j < n) :
    Stp C N ops ⟨d, .indexAddr t x i, ty, pos, after, none⟩ T s (.pointer (some ⟨a, o + j * z, none⟩)) s := by
  have := st_ia (C := C) (N := N) (s := s) (ops := ops) (d := d) (ty := ty) (pos := pos) (after := after) h1 h2 hz hx hi (Int.natCast_nonneg _) (Int.ofNat_lt.2 hn)
  rwa [Int.toNat_natCast] at this
/-- A part of a row that is only looked at, under a name of its own. -/
theorem Stp.view {o : Oper} {h : List (Nat × Obj)} {nx a q z n c : Nat} {rd' : List Nat} {cs cs' : List Value} {t : TypeId} {f : Nat × Nat} (st : Stp C N ops o T ⟨h, nx, [], [], []⟩ (.slice (some ⟨a, q, some z⟩) n c) ⟨h, nx, rd', [], []⟩) (hh : aget h a = some (.cells ⟨cs⟩ t f)) (hf : Nat.beq f.1 1 = true) (hl : q ≤ cs.length) (hc : jrow q ++ (cs.drop q).take (n * z) = cs') :
    Stp C N ops o T ⟨h, nx, [], [], []⟩ (.slice (some ⟨nx, q, some z⟩) n 0) ⟨(nx, .cells ⟨cs'⟩ t (1, 0)) :: h, nx + 1, lg rd' a, [], []⟩ := by
  subst hc
  refine ⟨⟨fun id hi => (by cases hi), fun id hi => (by cases hi), Nat.le_succ _, fun id h1 h2 => ?_, fun hw id o ho => ?_⟩, fun B W0 hB ν m ac w K Q tr p k => ?_⟩
  · show aget (_ :: h) id = aget h id
    rw [aget_cons, if_neg (fun e => h2 ⟨Nat.le_of_eq e.symm, by rw [e]; exact Nat.lt_succ_self _⟩)]
  · have ho : aget (_ :: h) id = some o := ho
    rw [aget_cons] at ho
    by_cases e : id = nx
    · rw [e]; exact Nat.lt_succ_self _
    · rw [if_neg e] at ho; exact Nat.lt_succ_of_lt (hw id o ho)
  · have hma : m a = some (.cells ⟨cs⟩ t f) := (p.agree a (.inl ((lg_iff _ _ _).2 (.inl rfl)))).trans hh
    obtain ⟨f1, f2⟩ := p.fresh nx (Nat.le_refl _) (Nat.lt_succ_self _)
    refine st.2 B W0 hB ν m ac w K Q tr ⟨fun id hi => p.agree id (hi.elim (fun h => .inl ((lg_iff _ _ _).2 (.inr h))) fun hh => by cases hh), fun id h1 h2 => absurd h2 (Nat.not_lt.2 h1), p.wf, p.rel⟩ fun ν1 u w' hv hp => ?_
    have e1 : ν1 = ν := by
      funext id
      by_cases e : ν1 id = ν id
      · exact e
      · have := hp.new id e
        exact absurd this.2 (Nat.not_lt.2 this.1)
    subst e1
    have hle : ν1.le (fun i => if i = nx then ν1 a else ν1 i) := fun i q hq => by
      show (if i = nx then ν1 a else ν1 i) = some q
      rw [if_neg (fun e => by rw [e, f1] at hq; cases hq)]; exact hq
    have hrel : RelH B W0 ν1 m w' := by
      have := hp.rel
      rwa [show Upd m ⟨h, nx, [], [], []⟩ ⟨h, nx, rd', [], []⟩ = m from by
        funext id
        unfold Upd
        rw [if_neg (fun hh => hh.elim (fun h => by cases h) (fun h => absurd h.2 (Nat.not_lt.2 h.1)))]] at this
    refine k (fun i => if i = nx then ν1 a else ν1 i) u w' ?_ ⟨hle, fun id hid => ?_, ?_⟩
    · rcases VR.slice_inv hv with ⟨rfl, rfl⟩ | ⟨g, S, q', c', rfl, hν, h1, h2, h3⟩
      · exact .nilS
      · exact .slice (S := S) (if_pos rfl |>.trans hν) h1 h2 h3
    · by_cases e : id = nx
      · rw [e]; exact ⟨Nat.le_refl _, Nat.lt_succ_self _⟩
      · exact absurd (if_neg e) hid
    · have hupd : ∀ id, Upd m ⟨h, nx, [], [], []⟩ ⟨(nx, .cells ⟨jrow q ++ (cs.drop q).take (n * z)⟩ t (1, 0)) :: h, nx + 1, lg rd' a, [], []⟩ id = if id = nx then some (.cells ⟨jrow q ++ (cs.drop q).take (n * z)⟩ t (1, 0)) else m id := fun id => by
        unfold Upd
        by_cases e : id = nx
        · rw [if_pos e, if_pos (.inr ⟨Nat.le_of_eq e.symm, by rw [e]; exact Nat.lt_succ_self _⟩)]
          show aget (_ :: h) id = _
          rw [aget_cons, if_pos e]
        · rw [if_neg e, if_neg]
          rintro (hh | hh)
          · cases hh
          · have : nx ≤ id ∧ id < nx + 1 := hh
            omega
      refine ⟨fun i o1 g S hi hg => ?_, fun i j o1 o2 g S S' hi hj hg hg' => ?_, hrel.below⟩
      · rw [hupd] at hi
        have hg : (if i = nx then ν1 a else ν1 i) = some (g, S) := hg
        by_cases e : i = nx
        · rw [if_pos e] at hi
          obtain rfl := Option.some.inj hi
          rw [if_pos e] at hg
          obtain ⟨ob', k1, k2, k3⟩ := hrel.objs a _ g S hma hg
          refine ⟨ob', k1, ?_, fun h => by cases h⟩
          cases k2 with
          | @cells c c' t t' f f' vs rest hc h hf =>
            have hl2 := h.length
            have hl3 : q ≤ vs.length := by rw [← hl2]; exact hl
            refine .cells (vs.take q ++ (vs.drop q).take (n * z)) ((vs.drop q).drop (n * z) ++ rest) ?_ ?_ (fun h => by cases h)
            · rw [hc, ← List.append_assoc, List.append_assoc (vs.take q), List.take_append_drop, List.take_append_drop]
            · refine VRs.app ?_ (((h.mono hle).drop q).take (n * z))
              have := VRs_jrow (ν := fun i => if i = nx then ν1 a else ν1 i) (l := vs.take q)
              rwa [List.length_take, Nat.min_eq_left hl3] at this
        · rw [if_neg e] at hi hg
          obtain ⟨ob', k1, k2, k3⟩ := hrel.objs i _ g S hi hg
          exact ⟨ob', k1, k2.mono hle, k3⟩
      · rw [hupd] at hi hj
        have hg : (if i = nx then ν1 a else ν1 i) = some (g, S) := hg
        have hg' : (if j = nx then ν1 a else ν1 j) = some (g, S') := hg'
        have fl : ro (.cells ⟨cs⟩ t f) = true := hf
        by_cases e : i = nx <;> by_cases e' : j = nx
        · exact .inl (by rw [e, e'])
        · rw [if_pos e] at hi hg; rw [if_neg e'] at hj hg'
          obtain rfl := Option.some.inj hi
          rcases hrel.inj j a _ _ g S' S hj hma hg' hg with h | h
          · subst h
            rw [hma] at hj
            obtain rfl := Option.some.inj hj
            exact .inr ⟨rfl, fl⟩
          · exact .inr ⟨rfl, h.1⟩
        · rw [if_neg e] at hi hg; rw [if_pos e'] at hj hg'
          obtain rfl := Option.some.inj hj
          rcases hrel.inj i a _ _ g S S' hi hma hg hg' with h | h
          · subst h
            rw [hma] at hi
            obtain rfl := Option.some.inj hi
            exact .inr ⟨fl, rfl⟩
          · exact .inr ⟨h.1, rfl⟩
        · rw [if_neg e] at hi hg; rw [if_neg e'] at hj hg'
          exact hrel.inj i j _ _ g S S' hi hj hg hg'
/-- Slices of slices. -/
theorem st_view {α : Type} {k : α → List Value} {z : Nat} [RowK k z] {t e : TypeId} {x : Operand} {lo hi : Option Operand} {a o n c i j : Nat} {l l' : List α} {ti : TypeInfo} {ei : TypeInfo × TypeDesc} {h : List (Nat × Obj)} {nx : Nat} {f : Nat × Nat} (h1 : C.ty t = some (ti, .slice e)) (h4 : C.ty e = some ei) (hz : ei.1.size = z) (hx : ev1 T x = some (.slice (some ⟨a, o, some z⟩) n c)) (hl : lowOf T lo = some (i : Int)) (hh : highOf T n hi = some (j : Int)) (ho : aget h a = some (.cells ⟨rowJ k o l⟩ e f)) (hf : Nat.beq f.1 1 = true) (h2 : i ≤ j) (h3 : j ≤ n) (hn : l.length = n) (hl' : (l.drop i).take (j - i) = l') :
    Stp C N ops ⟨d, .slice t x lo hi none, ty, pos, after, none⟩ T ⟨h, nx, [], [], []⟩ (.slice (some ⟨nx, o + i * z, some z⟩) (j - i) 0) ⟨(nx, .cells ⟨rowJ k (o + i * z) l'⟩ e (1, 0)) :: h, nx + 1, [a], [], []⟩ := by
  have st := st_cutL (C := C) (N := N) (s := ⟨h, nx, [], [], []⟩) (ops := ops) (d := d) (ty := ty) (pos := pos) (after := after) h1 h4 hz hx hl hh (Int.natCast_nonneg _) (Int.ofNat_le.2 h2) (Int.ofNat_le.2 h3)
  rw [Int.toNat_natCast, Int.toNat_natCast] at st
  have := Stp.view st ho hf (by rw [rowJ_length, hn]; exact Nat.add_le_add_left (Nat.mul_le_mul_right _ (Nat.le_trans h2 h3)) _) rfl
  rw [rowJ_part (by omega), hl'] at this
  exact this
end
end Go.Ev
namespace Go.Ev
open Go.RowKit
section
variable {C : Cfg} [Hv C] {N n0 : Nat} {T : Tm} {s : St} {ops : Array Oper} {d : Option Nat} {ty : TypeId} {pos : String} {after : Array Edge}
theorem st_min {x y : Operand} {tys : Array TypeId} {k k' : IntKind} {a b : Int} (hx : ev1 T x = some (.int k a)) (hy : ev1 T y = some (.int k' b)) :
    Stp C N ops ⟨d, .call ⟨.builtin .min, #[x, y], tys⟩, ty, pos, after, none⟩ T s (.int k (if b < a then b else a)) s := by
  refine Stp.of_aOp (ns := []) rfl (fun _ _ _ h => by cases h) (fun _ h => by cases h) ?_ rfl
  have h1 : anyOp C T ⟨d, .call ⟨.builtin .min, #[x, y], tys⟩, ty, pos, after, none⟩ = some (.int k (if b < a then b else a)) := by
    have e : evs T [x, y] = some [.int k a, .int k' b] := by simp [evs, hx, hy]
    have e2 : still C.P (execOp (fun x => (ev1 T x).getD undef) ⟨d, .call ⟨.builtin .min, #[x, y], tys⟩, ty, pos, after, none⟩) = some (.value (.int k (if b < a then b else a))) := by
      have ex : (#[x, y].map fun x => (ev1 T x).getD undef) = #[.int k a, .int k' b] := by simp [hx, hy]
      simp only [execOp, resolve, ex]
      rfl
    unfold anyOp
    have e3 : Array.toList (Op.operands (.call ⟨.builtin .min, #[x, y], tys⟩)) = [x, y] := by simp [Op.operands, Call.operands]
    rw [e3, e]
    show (match (anyOp.flatsP [.int k a, .int k' b]) with | false => none | true => _) = _
    rw [show anyOp.flatsP [.int k a, .int k' b] = true from rfl]
    dsimp only
    rw [e2]
    rfl
  simp [aOp, aPure, h1]
end
end Go.Ev
namespace Go.Ev
theorem RN.nilE {ρ : Nat → Option Nat} {b o z c n : Nat} (hn : n = 0) : RN true ρ (.slice (some ⟨b, o, some z⟩) n c) (.slice none 0 0) := by subst hn; exact .nilS rfl
end Go.Ev
namespace Go.Ev
open Go.RowKit
theorem rowJ_nth0 {α : Type} {k : α → List Value} {z : Nat} [RowK k z] {o i : Nat} {l : List α} {x : α} {v : Value} (h : l[i]? = some x) (hv : (k x)[0]? = some v) : nth (rowJ k o l) (o + i * z) = some v := rowJ_nth (k := k) (o := o) h hv
theorem rowV_nth0 {α : Type} {k : α → List Value} {z : Nat} [RowK k z] {i : Nat} {l : List α} {x : α} {v : Value} (h : l[i]? = some x) (hv : (k x)[0]? = some v) : nth (rowV k l) (i * z) = some v := rowV_nth (k := k) h hv
theorem bool_is {b c : Bool} (h : b = c) : Value.bool b = Value.bool c := h ▸ rfl
end Go.Ev
