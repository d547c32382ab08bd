/- Words of my own: a function's contract from its code; the same under a caller's names. -/
import Derived.Test.YtlkfcabklaaacaaHv3
set_option linter.unusedVariables false
set_option linter.unusedSimpArgs false
namespace Go.Ev
open Go.RowKit
section
variable {C : Cfg}
/-- What a function's code must come to. -/
def FinQ (C : Cfg) (F : Func) (n0 : Nat) (R : Value → St → Prop) (o : Out) (T : Tm) (s : St) : Prop :=
  (∃ p s0, o = .panic p ∧ s.df = [] ∧ Rnm n0 [] s [] s0 ∧ R (pkV p) s0) ∨
  (o = .normal ∨ o = .ret) ∧ s.df = [] ∧ ∃ rs ns s2 v0 s0, aRes C T F.results.toList s = some (rs, ns, s2) ∧ allB ns = true ∧ lowB s2.rd = true ∧ lowB s2.wr = true ∧ Rnm n0 [(0, oneOf rs)] s [(0, v0)] s0 ∧ isPk v0 = none ∧ R v0 s0
theorem FinQ.ret {F : Func} {n0 : Nat} {R : Value → St → Prop} {T : Tm} {h : List (Nat × Obj)} {nx : Nat} {rs : List Value} {ns : List Bool} {s2 : St} {v0 : Value} {s0 : St} (h1 : aRes C T F.results.toList ⟨h, nx, [], [], []⟩ = some (rs, ns, s2)) (h2 : allB ns = true) (h3 : lowB s2.rd = true) (h4 : lowB s2.wr = true)
    (h5 : Rnm n0 [(0, oneOf rs)] ⟨h, nx, [], [], []⟩ [(0, v0)] s0) (h5' : isPk v0 = none) (h6 : R v0 s0) : FinQ C F n0 R .ret T ⟨h, nx, [], [], []⟩ := .inr ⟨.inr rfl, rfl, rs, ns, s2, v0, s0, h1, h2, h3, h4, h5, h5', h6⟩
theorem FinQ.nor {F : Func} {n0 : Nat} {R : Value → St → Prop} {T : Tm} {h : List (Nat × Obj)} {nx : Nat} {rs : List Value} {ns : List Bool} {s2 : St} {v0 : Value} {s0 : St} (h1 : aRes C T F.results.toList ⟨h, nx, [], [], []⟩ = some (rs, ns, s2)) (h2 : allB ns = true) (h3 : lowB s2.rd = true) (h4 : lowB s2.wr = true)
    (h5 : Rnm n0 [(0, oneOf rs)] ⟨h, nx, [], [], []⟩ [(0, v0)] s0) (h5' : isPk v0 = none) (h6 : R v0 s0) : FinQ C F n0 R .normal T ⟨h, nx, [], [], []⟩ := .inr ⟨.inl rfl, rfl, rs, ns, s2, v0, s0, h1, h2, h3, h4, h5, h5', h6⟩
theorem CW.of_WP (hC : C.Ok) {g : FuncId} {F : Func} {c : Code} {vs : List Value} {s : St} {R : Value → St → Prop} (hF : C.fn g = some F) (hc : F.body = some c) (hl : Nat.ble (len vs) F.ntmps = true) (hd : s.df = [])
    (h : WP C F.ntmps s.nx c (zipT vs 0) s (FinQ C F s.nx R)) : CW C g vs s R := by
  obtain ⟨hf1, hf2⟩ := hC.fn g F hF
  have hl : vs.length ≤ F.ntmps := by have := ble_iff.1 hl; rw [len_eq] at this; exact this
  refine ⟨⟨F, hf1, hf2, by rw [hc]; rfl⟩, fun B W0 ν0 m0 en w us hm hv => ?_⟩
  refine calls_of_wp_defers hf1 hc (wp_mono (h B W0 ν0 m0 en ν0 _ w hm (zip_TR hl hv) (by rw [hd]; exact .nil)) fun e a' w' hh => ?_)
  obtain ⟨o, T', s', ν', he, hfin, hm', tr', df'⟩ := hh
  rcases hfin with ⟨p, s0, rfl, hdf, hren, hR⟩ | ⟨ho, hdf, rs, ns, s2, v0, s0, hr, hn, hl1, hl2, hren, hpk0, hR⟩
  · have hdn : a'.defers = [] := by
      rw [hdf] at df'
      generalize a'.defers = d at df'
      cases df'
      rfl
    obtain ⟨ν1, hm1, _, _⟩ := hm'.rnm en hren
    have lv : Leaves C.P F a'.tmps (fun e w' => ∃ v s' ν', R v s' ∧ Mem B W0 s.nx ν0 m0 s' ν' w' ∧ EndV ν' v e) [] (.panicking [{ v := p, recovered := false }]) w' := ⟨pkV p, s0, ν1, hR, hm1, rfl⟩
    subst he
    show Leaves C.P F a'.tmps _ a'.defers (.panicking [{ v := p, recovered := false }]) w'
    rw [hdn]; exact lv
  have hlv : Leaves C.P F a'.tmps (fun e w' => ∃ v s' ν', R v s' ∧ Mem B W0 s.nx ν0 m0 s' ν' w' ∧ EndV ν' v e) a'.defers .returning w' := by
    rw [hdf] at df'
    have hdn : a'.defers = [] := by
      generalize a'.defers = d at df'
      cases df'
      rfl
    rw [hdn]
    obtain ⟨⟨j1, j2, j3, j4⟩, j5⟩ := aRes_ok (B := B) (W0 := W0) (N := F.ntmps) hC _ _ _ _ _ hr (allB_iff hn)
    have hlow : ∀ id, id ∈ s2.rd ∨ id ∈ s2.wr → id < KB := fun id hid => hid.elim (lowB_ok hl1 id) (lowB_ok hl2 id)
    have pz := hm'.pre en (s' := s2) hlow (by rw [j2]; exact hm'.n2)
    obtain ⟨us', hu, hvs⟩ := j5 (fun | .tmp t => pure (a'.tmps.getD t undef) | .cell c t => (do loadVar t (← asAddr (a'.tmps.getD c undef)))) (fun _ => rfl) (fun _ _ => rfl) tr' pz (fun i hi => hi)
    have hres : (results F a'.tmps).run C.P w' = .ok (if h : us'.toArray.size = 1 then us'.toArray[0] else .tuple us'.toArray) w' := by
      unfold results
      rw [Array.mapM_eq_mapM_toList]
      simp only [Sem.run_bind, Sem.run_map]
      rw [show ∀ (f g : ResultVar → Sem Value), (∀ r, f r = g r) → List.mapM f F.results.toList = List.mapM g F.results.toList from fun f g h => by rw [funext h], hu]
      rfl
      intro r; cases r <;> rfl
    obtain ⟨ν1, hm1, hv1, _⟩ := hm'.rnm en hren
    obtain ⟨v, hv2, hv3⟩ := hv1 0 v0 rfl
    obtain rfl := Option.some.inj hv2
    exact ⟨_, hres, v0, s0, ν1, hR, hm1, (EndV.ret hpk0).2 ⟨_, rfl, hv3 _ (oneOf_ok hvs)⟩⟩
  rcases ho with rfl | rfl
  · subst he; exact hlv
  · subst he; exact hlv
/-- The same function under a caller's names; R tells the names of what the function is given. -/
theorem CallR.of_CW {g : FuncId} {vs0 vs : List Value} {s0 s0' s s' : St} {v0 v : Value} {R : List (Nat × Nat)} (R2 : Nat → Option Nat)
    (hc : CW C g vs0 s0 fun v' s1 => v' = v0 ∧ s1 = s0') (hk : s0.nx ≤ KB) (hwf : wfB s0.nx s0.h = true)
    (h1 : RNs true (aget R) vs0 vs)
    (h2' : ∀ b a, aget R b = some a → b < s0.nx ∧ ∃ o o1, aget s0.h b = some o ∧ aget s.h a = some o1 ∧ ORN true (aget R) o o1 ∧ a ∈ s'.rd)
    (hinj : ∀ b b' a, aget R b = some a → aget R b' = some a → b = b')
    (ext : Ext s s') (h6 : s'.nx = s.nx + (s0'.nx - s0.nx))
    (hR2 : ∀ b, R2 b = if b < s0.nx then aget R b else if b < s0'.nx then some (s.nx + (b - s0.nx)) else none)
    (hv : RN false R2 v0 v) (hpk : isPk v = isPk v0)
    (h4 : ∀ a o1, (a ∈ s'.wr ∨ s.nx ≤ a ∧ a < s'.nx) → aget s'.h a = some o1 → ∃ b o, R2 b = some a ∧ aget s0'.h b = some o ∧ ORN false R2 o o1)
    (h5 : ∀ b a, aget R b = some a → a ∉ s'.wr → aget s0'.h b = aget s0.h b)
    (h2s : ∀ b a, aget R b = some a → a ∉ s'.wr → ∀ o o1, aget s0.h b = some o → aget s.h a = some o1 → ORN false (aget R) o o1) : CallR C g vs s v s' := by
  refine ⟨ext, hc.1, fun B W0 hB ν m w us hvu p => ?_⟩
  -- the canonical names
  let img : Nat → Prop := fun a => ∃ b, aget R b = some a
  let R3 : Nat → Option Nat := fun b => open Classical in if b < KB then (if b < s0.nx then aget R b else none) else if img (b - KB) then none else some (b - KB)
  have R3lo : ∀ b, b < KB → R3 b = (if b < s0.nx then aget R b else none) := fun b hb => if_pos hb
  have R3hi : ∀ b, KB ≤ b → ¬ img (b - KB) → R3 b = some (b - KB) := fun b hb hi => by
    show (open Classical in if b < KB then _ else if img (b - KB) then none else some (b - KB)) = _
    rw [if_neg (by omega), if_neg hi]
  have R3hi' : ∀ b a, KB ≤ b → R3 b = some a → a = b - KB ∧ ¬ img a := fun b a hb h => by
    change (open Classical in if b < KB then _ else if img (b - KB) then none else some (b - KB)) = some a at h
    rw [if_neg (by omega)] at h
    by_cases hi : img (b - KB)
    · rw [if_pos hi] at h; cases h
    · rw [if_neg hi] at h
      obtain rfl := Option.some.inj h
      exact ⟨rfl, hi⟩
  have RR3 : ∀ b a, aget R b = some a → R3 b = some a := fun b a h => by
    have := (h2' b a h).1
    rw [R3lo b (by omega), if_pos this]; exact h
  have R3R : ∀ b a, b < KB → R3 b = some a → aget R b = some a := fun b a hb h => by
    rw [R3lo b hb] at h
    by_cases hh : b < s0.nx
    · rw [if_pos hh] at h; exact h
    · rw [if_neg hh] at h; cases h
  have surj : ∀ a, ∃ b, R3 b = some a := fun a => by
    by_cases hi : img a
    · obtain ⟨b, hb⟩ := hi; exact ⟨b, RR3 b a hb⟩
    · exact ⟨KB + a, by rw [R3hi (KB + a) (by omega) (by rwa [Nat.add_sub_cancel_left]), Nat.add_sub_cancel_left]⟩
  let ν0 : Ren := fun b => (R3 b).bind ν
  have hν0 : ∀ b a q, R3 b = some a → ν a = some q → ν0 b = some q := fun b a q h1 h2 => by
    show (R3 b).bind ν = _
    rw [h1]; exact h2
  have hν0' : ∀ b q, ν0 b = some q → ∃ a, R3 b = some a ∧ ν a = some q := fun b q h => by
    change (R3 b).bind ν = some q at h
    exact Option.bind_eq_some_iff.1 h
  let m0 : Nat → Option Obj := fun b => open Classical in if h : ∃ o0 o, KB ≤ b ∧ ¬ img (b - KB) ∧ m (b - KB) = some o ∧ ORN false R3 o0 o then some (Classical.choose h) else none
  have m0spec : ∀ b o0, m0 b = some o0 → ∃ o, KB ≤ b ∧ ¬ img (b - KB) ∧ m (b - KB) = some o ∧ ORN false R3 o0 o := fun b o0 h => by
    change (open Classical in if h : ∃ o0 o, KB ≤ b ∧ ¬ img (b - KB) ∧ m (b - KB) = some o ∧ ORN false R3 o0 o then some (Classical.choose h) else none) = some o0 at h
    split at h
    · rename_i hh
      obtain rfl := Option.some.inj h
      exact Classical.choose_spec hh
    · cases h
  have m0has : ∀ a o g' S, ¬ img a → m a = some o → ν a = some (g', S) → ∃ o0, m0 (KB + a) = some o0 := fun a o g' S hi hm hg => by
    obtain ⟨ob, _, hor, _⟩ := p.rel.objs a o g' S hm hg
    obtain ⟨o0, ho0⟩ := OR.can surj hor
    have : ∃ o0 o, KB ≤ KB + a ∧ ¬ img (KB + a - KB) ∧ m (KB + a - KB) = some o ∧ ORN false R3 o0 o := ⟨o0, o, by omega, by rwa [Nat.add_sub_cancel_left], by rwa [Nat.add_sub_cancel_left], ho0⟩
    exact ⟨Classical.choose this, dif_pos this⟩
  have objs0 : ∀ b o0 a, mm s0 m0 b = some o0 → R3 b = some a → ∃ o, m a = some o ∧ ORN true R3 o0 o := fun b o0 a h ha => by
    unfold mm at h
    by_cases hb : b < KB
    · rw [if_pos hb] at h
      obtain ⟨_, o, o1, k1, k2, k3, k4⟩ := h2' b a (R3R b a hb ha)
      rw [h] at k1
      obtain rfl := Option.some.inj k1
      exact ⟨o1, by rw [p.agree a (.inl k4)]; exact k2, k3.mono RR3⟩
    · rw [if_neg hb] at h
      obtain ⟨o, k1, k2, k3, k4⟩ := m0spec b o0 h
      rw [R3hi b k1 k2] at ha
      obtain rfl := Option.some.inj ha
      exact ⟨o, k3, k4.weak⟩
  have R3inj : ∀ b b' a, R3 b = some a → R3 b' = some a → b = b' := fun b b' a h h' => by
    by_cases hb : b < KB <;> by_cases hb' : b' < KB
    · exact hinj b b' a (R3R b a hb h) (R3R b' a hb' h')
    · exact absurd ⟨b, R3R b a hb h⟩ (R3hi' b' a (by omega) h').2
    · exact absurd ⟨b', R3R b' a hb' h'⟩ (R3hi' b a (by omega) h).2
    · have := (R3hi' b a (by omega) h).1; have := (R3hi' b' a (by omega) h').1; omega
  have rel0 : RelH B W0 ν0 (mm s0 m0) w := by
    refine ⟨fun b o0 g' S hb hg => ?_, fun b b' o o' g' S S' hb hb' hg hg' => ?_, p.rel.below⟩
    · obtain ⟨a, k1, k2⟩ := hν0' b _ hg
      obtain ⟨o, k3, k4⟩ := objs0 b o0 a hb k1
      obtain ⟨ob, j2, j3, j4⟩ := p.rel.objs a o g' S k3 k2
      exact ⟨ob, j2, OR.ren hν0 k4 j3, fun hf => j4 (ro_back k4.ro' hf)⟩
    · obtain ⟨a, k1, x2⟩ := hν0' b _ hg
      obtain ⟨a', k1', x2'⟩ := hν0' b' _ hg'
      obtain ⟨o1, k2, y2⟩ := objs0 b o a hb k1
      obtain ⟨o1', k2', y2'⟩ := objs0 b' o' a' hb' k1'
      rcases p.rel.inj _ _ _ _ _ _ _ k2 k2' x2 x2' with this | this
      · subst this
        exact .inl (R3inj b b' _ k1 k1')
      · exact .inr ⟨y2.ro' this.1, y2'.ro' this.2⟩
  have en : Ent B W0 s0.nx ν0 m0 := by
    refine ⟨hB, fun b h1 h2 => ?_, fun b o0 hb h => ?_⟩
    · show (R3 b).bind ν = none
      rw [R3lo b h2, if_neg (by omega)]; rfl
    · obtain ⟨o, k1, k2, k3, k4⟩ := m0spec b o0 h
      refine ⟨R3, o, k4, fun c d hc => ?_⟩
      by_cases hc1 : c < KB
      · exact .inl (h2' c d (R3R c d hc1 hc)).1
      · exact .inr (by omega)
  have hm0 : Mem B W0 s0.nx ν0 m0 s0 ν0 w := ⟨.refl _, fun id h => absurd rfl h, rel0, fun id o h => wfB_ok hwf id o h, Nat.le_refl _, hk⟩
  refine Calls.mono (hc.2 B W0 ν0 m0 en w us hm0 (VRs.ren hν0 (h1.mono RR3) hvu)) fun e w' hh => ?_
  obtain ⟨v', s1, ν', ⟨rfl, rfl⟩, hm, hend⟩ := hh
  let ν1 : Ren := fun a => if s.nx ≤ a ∧ a < s'.nx then ν' (s0.nx + (a - s.nx)) else ν a
  let R4 : Nat → Option Nat := fun b => if b < KB then R2 b else R3 b
  have n1 := hm.n1
  have n2 := hm.n2
  have R24 : ∀ b a, R2 b = some a → R4 b = some a := fun b a h => by
    have hb : b < KB := by
      rw [hR2] at h
      by_cases h1 : b < s0.nx
      · omega
      · rw [if_neg h1] at h
        by_cases h2 : b < s1.nx
        · omega
        · rw [if_neg h2] at h; cases h
    show (if b < KB then R2 b else R3 b) = some a
    rw [if_pos hb]; exact h
  have R34 : ∀ b a, R3 b = some a → R4 b = some a := fun b a h => by
    show (if b < KB then R2 b else R3 b) = some a
    by_cases hb : b < KB
    · rw [if_pos hb, hR2]
      have := R3R b a hb h
      rw [if_pos (h2' b a this).1]; exact this
    · rw [if_neg hb]; exact h
  have old : ∀ b, b < s0.nx ∨ KB ≤ b → ν' b = ν0 b := fun b hb => by
    by_cases e : ν' b = ν0 b
    · exact e
    · have := hm.new b e; omega
  have un : ∀ b a q, R4 b = some a → ν' b = some q → ν1 a = some q := by
    intro b a q hb hq
    show (if s.nx ≤ a ∧ a < s'.nx then ν' (s0.nx + (a - s.nx)) else ν a) = some q
    change (if b < KB then R2 b else R3 b) = some a at hb
    have stay : ν a = some q → (if s.nx ≤ a ∧ a < s'.nx then ν' (s0.nx + (a - s.nx)) else ν a) = some q := fun h => by
      rw [if_neg (fun hh => by rw [(p.fresh a hh.1 hh.2).1] at h; cases h)]; exact h
    by_cases hlt : b < KB
    · rw [if_pos hlt, hR2] at hb
      by_cases hb0 : b < s0.nx
      · rw [if_pos hb0] at hb
        refine stay ?_
        rw [old b (.inl hb0)] at hq
        obtain ⟨a', k1, k2⟩ := hν0' b q hq
        rw [RR3 b a hb] at k1
        obtain rfl := Option.some.inj k1
        exact k2
      · rw [if_neg hb0] at hb
        by_cases hb1 : b < s1.nx
        · rw [if_pos hb1] at hb
          obtain rfl := Option.some.inj hb
          rw [if_pos (by omega), show s0.nx + (s.nx + (b - s0.nx) - s.nx) = b by omega]
          exact hq
        · rw [if_neg hb1] at hb; cases hb
    · rw [if_neg hlt] at hb
      refine stay ?_
      rw [old b (.inr (by omega))] at hq
      obtain ⟨a', k1, k2⟩ := hν0' b q hq
      rw [hb] at k1
      obtain rfl := Option.some.inj k1
      exact k2
  refine ⟨ν1, ⟨fun a q hq => ?_, fun a ha => ?_, ?_⟩, hend.of hpk fun u hu => VR.unren un (hv.mono R24) hu⟩
  · show (if s.nx ≤ a ∧ a < s'.nx then ν' (s0.nx + (a - s.nx)) else ν a) = some q
    rw [if_neg (fun hh => by rw [(p.fresh a hh.1 hh.2).1] at hq; cases hq)]; exact hq
  · by_cases h : s.nx ≤ a ∧ a < s'.nx
    · exact h
    · exact absurd (if_neg h) ha
  · have obj : ∀ a o1 g' S, Upd m s s' a = some o1 → ν1 a = some (g', S) → ∃ b o, R4 b = some a ∧ mm s1 m0 b = some o ∧ ν' b = some (g', S) ∧ (∀ ob, OR ν' o ob S → OR ν1 o1 ob S) ∧ ro o1 = ro o := by
      intro a o1 g' S ha hg
      -- an old name's block
      have oldν : ¬(s.nx ≤ a ∧ a < s'.nx) → ν a = some (g', S) := fun hn => by
        change (if s.nx ≤ a ∧ a < s'.nx then ν' (s0.nx + (a - s.nx)) else ν a) = some (g', S) at hg
        rwa [if_neg hn] at hg
      unfold Upd at ha
      by_cases ht : a ∈ s'.wr ∨ s.nx ≤ a ∧ a < s'.nx
      · rw [if_pos ht] at ha
        obtain ⟨b, o, k1, k2, k3⟩ := h4 a o1 ht ha
        have hblt := hm.wf b o k2
        refine ⟨b, o, R24 b a k1, by unfold mm; rw [if_pos (by omega)]; exact k2, ?_, fun ob hor => OR.unren un (k3.mono R24) hor, k3.ro.symm⟩
        rw [hR2] at k1
        by_cases hb0 : b < s0.nx
        · rw [if_pos hb0] at k1
          rw [old b (.inl hb0)]
          refine hν0 b a _ (RR3 b a k1) (oldν ?_)
          obtain ⟨_, o2, o3, q1, q2, q3, q4⟩ := h2' b a k1
          have := p.wf a o3 q2
          omega
        · rw [if_neg hb0] at k1
          rw [if_pos hblt] at k1
          obtain rfl := Option.some.inj k1
          change (if s.nx ≤ s.nx + (b - s0.nx) ∧ s.nx + (b - s0.nx) < s'.nx then ν' (s0.nx + (s.nx + (b - s0.nx) - s.nx)) else ν (s.nx + (b - s0.nx))) = some (g', S) at hg
          rw [if_pos (by omega), show s0.nx + (s.nx + (b - s0.nx) - s.nx) = b by omega] at hg
          exact hg
      · rw [if_neg ht] at ha
        have hνa := oldν (fun h => ht (.inr h))
        by_cases hi : img a
        · obtain ⟨b, hb⟩ := hi
          obtain ⟨hb0, o, o2, k1, k2, k3, k4⟩ := h2' b a hb
          rw [p.agree a (.inl k4), k2] at ha
          obtain rfl := Option.some.inj ha
          refine ⟨b, o, R34 b a (RR3 b a hb), ?_, ?_, fun ob hor => ?_, (h2s b a hb (fun h => ht (.inl h)) _ _ k1 k2).ro.symm⟩
          · unfold mm
            rw [if_pos (by omega), h5 b a hb (fun h => ht (.inl h))]
            exact k1
          · rw [old b (.inl hb0)]
            exact hν0 b a _ (RR3 b a hb) hνa
          · exact OR.unren un ((h2s b a hb (fun h => ht (.inl h)) _ _ k1 k2).mono fun c d hc => R34 c d (RR3 c d hc)) hor
        · obtain ⟨o0, ho0⟩ := m0has a o1 g' S hi ha hνa
          obtain ⟨o, k1, k2, k3, k4⟩ := m0spec _ _ ho0
          have hsub : KB + a - KB = a := Nat.add_sub_cancel_left _ _
          rw [hsub, ha] at k3
          obtain rfl := Option.some.inj k3
          have hbig : ¬ KB + a < KB := Nat.not_lt.2 (Nat.le_add_right _ _)
          have e1 : R3 (KB + a) = some a := (R3hi (KB + a) (Nat.le_add_right _ _) (by rw [hsub]; exact hi)).trans (congrArg some hsub)
          have e2 : mm s1 m0 (KB + a) = some o0 := (if_neg hbig).trans ho0
          exact ⟨KB + a, o0, R34 _ _ e1, e2, by rw [old _ (.inr (Nat.le_add_right _ _))]; exact hν0 _ a _ e1 hνa, fun ob hor => OR.unren un (k4.mono R34) hor, k4.ro.symm⟩
    refine ⟨fun a o1 g' S ha hg => ?_, fun a a' o o' g' S S' ha ha' hg hg' => ?_, hm.rel.below⟩
    · obtain ⟨b, o, k1, k2, j1, k3, y⟩ := obj a o1 g' S ha hg
      obtain ⟨ob, j2, j3, j4⟩ := hm.rel.objs b o g' S k2 j1
      exact ⟨ob, j2, k3 ob j3, fun hf => j4 (by rw [← y]; exact hf)⟩
    · obtain ⟨b, o1, k1, k2, j1, _, y⟩ := obj a o g' S ha hg
      obtain ⟨b', o1', k1', k2', j1', _, y'⟩ := obj a' o' g' S' ha' hg'
      rcases hm.rel.inj b b' _ _ _ _ _ k2 k2' j1 j1' with this | this
      · subst this
        rw [k1] at k1'
        exact .inl (Option.some.inj k1')
      · exact .inr ⟨y.trans this.1, y'.trans this.2⟩
end
end Go.Ev
