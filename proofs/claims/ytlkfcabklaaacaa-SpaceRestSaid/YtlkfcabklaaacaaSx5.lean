/- Words of my own: operations over abstract values, one by one: memory. -/
import Derived.Test.YtlkfcabklaaacaaSx4
set_option linter.unusedVariables false
set_option linter.unusedSimpArgs false
set_option linter.unusedSectionVars false
namespace Go.Ev
open Go.RowKit
noncomputable section
section
variable {C : Cfg} [Hv C] {N n0 : Nat} {T : Tm} {ops : Array Oper}
/-- A part of a row of the function's own, under a name of its own; from here on the row is only looked at. -/
theorem Stp.viewW {o : Oper} {h : List (Nat × Obj)} {nx a q z n c : Nat} {rd' : List Nat} {cs cs' : List Value} {t : TypeId} {f : Nat × Nat} (st : Stp C N ops o T ⟨h, nx, [], [], []⟩ (.slice (some ⟨a, q, some z⟩) n c) ⟨h, nx, rd', [], []⟩) (hh : aget h a = some (.cells ⟨cs⟩ t f)) (hf : Nat.beq f.1 1 = false) (hl : q ≤ cs.length) (hc : jrow q ++ (cs.drop q).take (n * z) = cs') :
    Stp C N ops o T ⟨h, nx, [], [], []⟩ (.slice (some ⟨nx, q, some z⟩) n 0) ⟨(nx, .cells ⟨cs'⟩ t (1, 0)) :: aput h a (.cells ⟨cs⟩ t (1, 0)), nx + 1, lg rd' a, [a], []⟩ := by
  subst hc
  have hget : ∀ id, aget ((nx, Obj.cells ⟨jrow q ++ (cs.drop q).take (n * z)⟩ t (1, 0)) :: aput h a (.cells ⟨cs⟩ t (1, 0))) id = if id = nx then some (.cells ⟨jrow q ++ (cs.drop q).take (n * z)⟩ t (1, 0)) else if id = a then some (.cells ⟨cs⟩ t (1, 0)) else aget h id := fun id => by
    rw [aget_cons, aget_aput]
  refine ⟨⟨fun id hi => (by cases hi), fun id hi => (by cases hi), Nat.le_succ _, fun id h1 h2 => ?_, fun hw id o ho => ?_⟩, fun B W0 hB ν m ac w K Q tr p k => ?_⟩
  · show aget (_ :: aput h a _) id = aget h id
    rw [hget, if_neg (fun e => h2 ⟨Nat.le_of_eq e.symm, by rw [e]; exact Nat.lt_succ_self _⟩), if_neg (fun e => h1 (by rw [e]; exact List.mem_singleton.2 rfl))]
  · have ho : aget (_ :: aput h a _) id = some o := ho
    rw [hget] at ho
    by_cases e : id = nx
    · rw [e]; exact Nat.lt_succ_self _
    · rw [if_neg e] at ho
      by_cases ea : id = a
      · rw [ea]; exact Nat.lt_succ_of_lt (hw a _ hh)
      · rw [if_neg ea] at ho; exact Nat.lt_succ_of_lt (hw id o ho)
  · have hma : m a = some (.cells ⟨cs⟩ t f) := (p.agree a (.inr (List.mem_singleton.2 rfl))).trans hh
    obtain ⟨f1, f2⟩ := p.fresh nx (Nat.le_refl _) (Nat.lt_succ_self _)
    have hanx : a ≠ nx := fun e => by rw [e, f2] at hma; cases hma
    refine st.2 B W0 hB ν m ac w K Q tr ⟨fun id hi => p.agree id (hi.elim (fun h => .inl ((lg_iff _ _ _).2 (.inr h))) fun hh => by cases hh), fun id h1 h2 => absurd h2 (Nat.not_lt.2 h1), p.wf, p.rel⟩ fun ν1 u w' hv hp => ?_
    have e1 : ν1 = ν := by
      funext id
      by_cases e : ν1 id = ν id
      · exact e
      · have := hp.new id e
        exact absurd this.2 (Nat.not_lt.2 this.1)
    subst e1
    have hle : ν1.le (fun i => if i = nx then ν1 a else ν1 i) := fun i q hq => by
      show (if i = nx then ν1 a else ν1 i) = some q
      rw [if_neg (fun e => by rw [e, f1] at hq; cases hq)]; exact hq
    have hrel : RelH B W0 ν1 m w' := by
      have := hp.rel
      rwa [show Upd m ⟨h, nx, [], [], []⟩ ⟨h, nx, rd', [], []⟩ = m from by
        funext id
        unfold Upd
        rw [if_neg (fun hh => hh.elim (fun h => by cases h) (fun h => absurd h.2 (Nat.not_lt.2 h.1)))]] at this
    refine k (fun i => if i = nx then ν1 a else ν1 i) u w' ?_ ⟨hle, fun id hid => ?_, ?_⟩
    · rcases VR.slice_inv hv with ⟨rfl, rfl⟩ | ⟨g, S, q', c', rfl, hν, h1, h2, h3⟩
      · exact .nilS
      · exact .slice (S := S) (if_pos rfl |>.trans hν) h1 h2 h3
    · by_cases e : id = nx
      · rw [e]; exact ⟨Nat.le_refl _, Nat.lt_succ_self _⟩
      · exact absurd (if_neg e) hid
    · have hupd : ∀ id, Upd m ⟨h, nx, [], [], []⟩ ⟨(nx, .cells ⟨jrow q ++ (cs.drop q).take (n * z)⟩ t (1, 0)) :: aput h a (.cells ⟨cs⟩ t (1, 0)), nx + 1, lg rd' a, [a], []⟩ id = if id = nx then some (.cells ⟨jrow q ++ (cs.drop q).take (n * z)⟩ t (1, 0)) else if id = a then some (.cells ⟨cs⟩ t (1, 0)) else m id := fun id => by
        unfold Upd
        by_cases e : id = nx
        · rw [if_pos e, if_pos (.inr ⟨Nat.le_of_eq e.symm, by rw [e]; exact Nat.lt_succ_self _⟩)]
          show aget (_ :: aput h a _) id = _
          rw [hget, if_pos e]
        · rw [if_neg e]
          by_cases ea : id = a
          · rw [if_pos ea, if_pos (.inl (by rw [ea]; exact List.mem_singleton.2 rfl))]
            show aget (_ :: aput h a _) id = _
            rw [hget, if_neg e, if_pos ea]
          · rw [if_neg ea, if_neg]
            rintro (hh | hh)
            · exact ea (List.mem_singleton.1 hh)
            · have : nx ≤ id ∧ id < nx + 1 := hh
              omega
      refine ⟨fun i o1 g S hi hg => ?_, fun i j o1 o2 g S S' hi hj hg hg' => ?_, hrel.below⟩
      · rw [hupd] at hi
        have hg : (if i = nx then ν1 a else ν1 i) = some (g, S) := hg
        by_cases e : i = nx
        · rw [if_pos e] at hi
          obtain rfl := Option.some.inj hi
          rw [if_pos e] at hg
          obtain ⟨ob', k1, k2, k3⟩ := hrel.objs a _ g S hma hg
          refine ⟨ob', k1, ?_, fun h => by cases h⟩
          cases k2 with
          | @cells c c' t t' f f' vs rest hc h hf =>
            have hl2 := h.length
            have hl3 : q ≤ vs.length := by rw [← hl2]; exact hl
            refine .cells (vs.take q ++ (vs.drop q).take (n * z)) ((vs.drop q).drop (n * z) ++ rest) ?_ ?_ (fun h => by cases h)
            · rw [hc, ← List.append_assoc, List.append_assoc (vs.take q), List.take_append_drop, List.take_append_drop]
            · refine VRs.app ?_ (((h.mono hle).drop q).take (n * z))
              have := VRs_jrow (ν := fun i => if i = nx then ν1 a else ν1 i) (l := vs.take q)
              rwa [List.length_take, Nat.min_eq_left hl3] at this
        · rw [if_neg e] at hi hg
          by_cases ea : i = a
          · rw [if_pos ea] at hi
            obtain rfl := Option.some.inj hi
            rw [ea] at hg
            obtain ⟨ob', k1, k2, k3⟩ := hrel.objs a _ g S hma hg
            refine ⟨ob', k1, ?_, fun h => by cases h⟩
            cases k2 with
            | @cells c c' t t' f f' vs rest hc h hf => exact .cells vs rest hc (h.mono hle) (fun h => by cases h)
          · rw [if_neg ea] at hi
            obtain ⟨ob', k1, k2, k3⟩ := hrel.objs i _ g S hi hg
            exact ⟨ob', k1, k2.mono hle, k3⟩
      · rw [hupd] at hi hj
        have hg : (if i = nx then ν1 a else ν1 i) = some (g, S) := hg
        have hg' : (if j = nx then ν1 a else ν1 j) = some (g, S') := hg'
        -- what the names stood for
        have key : ∀ (i : Nat) (o1 : Obj) (S : Nat), (if i = nx then some (Obj.cells ⟨jrow q ++ (cs.drop q).take (n * z)⟩ t (1, 0)) else if i = a then some (.cells ⟨cs⟩ t (1, 0)) else m i) = some o1 → (if i = nx then ν1 a else ν1 i) = some (g, S) →
            (ro o1 = true ∧ ν1 a = some (g, S) ∧ (i = nx ∨ i = a)) ∨ (i ≠ nx ∧ i ≠ a ∧ m i = some o1 ∧ ν1 i = some (g, S)) := fun i o1 S hi hg => by
          by_cases e : i = nx
          · rw [if_pos e] at hi hg
            obtain rfl := Option.some.inj hi
            exact .inl ⟨rfl, hg, .inl e⟩
          · rw [if_neg e] at hi hg
            by_cases ea : i = a
            · rw [if_pos ea] at hi
              obtain rfl := Option.some.inj hi
              rw [ea] at hg
              exact .inl ⟨rfl, hg, .inr ea⟩
            · rw [if_neg ea] at hi
              exact .inr ⟨e, ea, hi, hg⟩
        rcases key i o1 S hi hg with ⟨r1, g1, e1⟩ | ⟨n1, n2, m1, g1⟩ <;> rcases key j o2 S' hj hg' with ⟨r2, g2, e2⟩ | ⟨p1, p2, m2, g2⟩
        · exact .inr ⟨r1, r2⟩
        · rcases hrel.inj a j _ _ g _ _ hma m2 g1 g2 with e | e
          · exact absurd e.symm p2
          · have := e.1
            rw [show ro (.cells ⟨cs⟩ t f) = false from hf] at this; cases this
        · rcases hrel.inj a i _ _ g _ _ hma m1 g2 g1 with e | e
          · exact absurd e.symm n2
          · have := e.1
            rw [show ro (.cells ⟨cs⟩ t f) = false from hf] at this; cases this
        · exact hrel.inj i j _ _ g _ _ m1 m2 g1 g2
end
end
end Go.Ev
