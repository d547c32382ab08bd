/- Words of my own: functions with deferred calls. -/
import Derived.Test.YtlkfcabklaaacaaHv5
set_option linter.unusedVariables false
set_option linter.unusedSimpArgs false
namespace Go.Ev
open Go.RowKit
theorem okR_down {n0 n1 nx : Nat} (h01 : n0 ≤ n1) : ∀ {R : List (Nat × Nat)}, okR n1 nx R = true → okR n0 nx R = true
  | [], _ => rfl
  | p :: R, h => by
    change Bool.rec (motive := fun _ => Bool) false
      (Bool.rec (motive := fun _ => Bool) false
        (Bool.rec (motive := fun _ => Bool) false (okR n1 nx R) (notIn (some p.2) (List.rec (motive := fun _ => List Nat) [] (fun q _ ih => q.2 :: ih) R)))
        (Bool.rec (motive := fun _ => Bool) (Nat.ble n1 p.2) (Nat.beq p.1 p.2) (Nat.ble (Nat.succ p.1) n1)))
      (Nat.ble (Nat.succ p.1) nx) = true at h
    show Bool.rec (motive := fun _ => Bool) false
      (Bool.rec (motive := fun _ => Bool) false
        (Bool.rec (motive := fun _ => Bool) false (okR n0 nx R) (notIn (some p.2) (List.rec (motive := fun _ => List Nat) [] (fun q _ ih => q.2 :: ih) R)))
        (Bool.rec (motive := fun _ => Bool) (Nat.ble n0 p.2) (Nat.beq p.1 p.2) (Nat.ble (Nat.succ p.1) n0)))
      (Nat.ble (Nat.succ p.1) nx) = true
    cases h1 : Nat.ble (Nat.succ p.1) nx <;> rw [h1] at h
    · cases h
    cases h2 : (Bool.rec (motive := fun _ => Bool) (Nat.ble n1 p.2) (Nat.beq p.1 p.2) (Nat.ble (Nat.succ p.1) n1)) <;> rw [h2] at h
    · cases h
    cases h3 : notIn (some p.2) (List.rec (motive := fun _ => List Nat) [] (fun q _ ih => q.2 :: ih) R) <;> rw [h3] at h
    · cases h
    have ih := okR_down h01 (R := R) h
    have h4 : (Bool.rec (motive := fun _ => Bool) (Nat.ble n0 p.2) (Nat.beq p.1 p.2) (Nat.ble (Nat.succ p.1) n0)) = true := by
      cases q1 : Nat.ble (Nat.succ p.1) n1 <;> rw [q1] at h2
      · have hb := ble_iff.1 h2
        cases q0 : Nat.ble (Nat.succ p.1) n0
        · exact ble_iff.2 (by omega)
        · have hb0 := ble_iff.1 q0
          have : ¬ Nat.succ p.1 ≤ n1 := fun hh => by rw [ble_iff.2 hh] at q1; cases q1
          omega
      · have hb := Nat.eq_of_beq_eq_true h2
        cases q0 : Nat.ble (Nat.succ p.1) n0
        · have : ¬ Nat.succ p.1 ≤ n0 := fun hh => by rw [ble_iff.2 hh] at q0; cases q0
          exact ble_iff.2 (by omega)
        · exact h2
    rw [h4]
    exact ih
theorem RHs.down {n0 n1 : Nat} (h01 : n0 ≤ n1) {ρ : Nat → Option Nat} {h h1 : List (Nat × Obj)} (hh : RHs n1 ρ h h1) : RHs n0 ρ h h1 := by
  induction hh with
  | nil => exact .nil
  | ghost hb hn t ih => exact .ghost hb (ble_iff.2 (Nat.le_trans h01 (ble_iff.1 hn))) ih
  | cons hb ho r t ih => exact .cons hb ho r ih
theorem Rnm.down {n0 n1 : Nat} (h01 : n0 ≤ n1) {T : Tm} {s : St} {T1 : Tm} {s1 : St} (r : Rnm n1 T s T1 s1) : Rnm n0 T s T1 s1 := by
  obtain ⟨⟨R, r1, r2, r3, r4⟩, r5, r6, r7⟩ := r
  exact ⟨⟨R, okR_down h01 r1, r2, r3.down h01, r4⟩, ble_iff.2 (Nat.le_trans h01 (ble_iff.1 r5)), r6, r7⟩
section
variable {C : Cfg} {N n0 : Nat} {T : Tm} {s : St} {Q : Out → Tm → St → Prop} {ops : Array Oper} {l : List Oper}
/-- A piece of code that keeps more names. -/
theorem WP.up {c : Code} (h : WP C N s.nx c T s Q) : WP C N n0 c T s Q := by
  intro B W0 ν0 m0 en ν a w hm tr df
  have en' : Ent B W0 s.nx ν m0 := by
    refine ⟨en.hB, fun id h1 h2 => ?_, fun id o h1 h2 => ?_⟩
    · have := hm.n1
      by_cases e : ν id = ν0 id
      · rw [e]; exact en.fresh id (by omega) h2
      · have := (hm.new id e).2; omega
    · obtain ⟨ρ, o', hh, hρ⟩ := en.fr id o h1 h2
      exact ⟨ρ, o', hh, fun b a hb => by have := hρ b a hb; have := hm.n1; show b < s.nx ∨ KB ≤ b; omega⟩
  refine wp_mono (h B W0 ν m0 en' ν a w ⟨.refl ν, fun id h => absurd rfl h, hm.rel, hm.wf, Nat.le_refl _, hm.n2⟩ tr df) fun e a' w' hh => ?_
  obtain ⟨o, T', s', ν', he, hq, hm', tr', df'⟩ := hh
  refine ⟨o, T', s', ν', he, hq, ⟨hm.le.trans hm'.le, fun id h => ?_, hm'.rel, hm'.wf, Nat.le_trans hm.n1 hm'.n1, hm'.n2⟩, tr', df'⟩
  by_cases e : ν' id = ν id
  · have := hm.new id (by rw [← e]; exact h)
    exact ⟨this.1, Nat.lt_of_lt_of_le this.2 hm'.n1⟩
  · have := hm'.new id e
    exact ⟨Nat.le_trans hm.n1 this.1, this.2⟩
/-- A deferred call is laid by. -/
theorem OW.defer {f : Operand} {tys : Array TypeId} {ty : TypeId} {pos : String} {after : Array Edge} {g : FuncId} {cap : Array Value} {h : List (Nat × Obj)} {nx : Nat} {df : List Value}
    (hf : ev1 T f = some (.func (.func g) #[] cap)) (k : OW C N n0 ops l T ⟨h, nx, [], [], .func (.func g) #[] cap :: df⟩ Q) :
    OW C N n0 ops (⟨none, .defer ⟨.value f, #[], tys⟩, ty, pos, after, none⟩ :: l) T ⟨h, nx, [], [], df⟩ Q := by
  intro B W0 ν0 m0 en ν a w hm tr dr i hi
  obtain ⟨h1, h2⟩ := drop_cons hi
  rw [List.length_cons, List.range'_succ, wpOps_cons]
  obtain ⟨cap', ef, hcap⟩ := VR.fn_iff.1 (ev1_ok tr hf)
  have hrun : (execOp a.eval ⟨none, .defer ⟨.value f, #[], tys⟩, ty, pos, after, none⟩).run C.P w = .ok (.defer { target := .fn (.func g) cap', args := #[] }) w := by
    simp [execOp, resolve, ef, Deferred.ofValue]
  refine wpOp1.op h1 (.inr ⟨aWanted_ok (o := ⟨none, .defer ⟨.value f, #[], tys⟩, ty, pos, after, none⟩) tr rfl, ?_⟩)
  unfold Oper.wp
  rw [hrun]
  exact k B W0 ν0 m0 en ν { a with defers := { target := .fn (.func g) cap', args := #[] } :: a.defers } w (hm.of_same rfl rfl) ⟨tr.size, tr.get⟩ (.cons hcap dr) (i + 1) h2
end
section
variable {C : Cfg}
/-- What a function's code must come to, if there are deferred calls. -/
def FinD (C : Cfg) (F : Func) (n0 : Nat) (call : CallF) (self : CodeF) (R : Value → St → Prop) (o : Out) (T : Tm) (s : St) : Prop :=
  ∃ n1 T1 s1 u u' s2, n0 ≤ n1 ∧ Rnm n1 T s T1 s1 ∧ (((o = .normal ∨ o = .ret) ∧ u = none) ∨ ∃ p, o = .panic p ∧ u = some (p, false)) ∧ runDf call C self s1.df u (sd s1 []) = some (u', s2) ∧ log3 s2.nx s2.rd s2.wr = true ∧
  match u' with
  | none => ∃ rs ns s3 v0 s0, aRes C T1 F.results.toList ⟨s2.h, s2.nx, [], [], []⟩ = some (rs, ns, s3) ∧ allB ns = true ∧ lowB s3.rd = true ∧ lowB s3.wr = true ∧ Rnm n0 [(0, oneOf rs)] ⟨s2.h, s2.nx, [], [], []⟩ [(0, v0)] s0 ∧ isPk v0 = none ∧ R v0 s0
  | some (p, false) => ∃ s0, Rnm n0 [] ⟨s2.h, s2.nx, [], [], []⟩ [] s0 ∧ R (pkV p) s0
  | some (_, true) => False
theorem CW.of_defer (hC : C.Ok) {g : FuncId} {F : Func} {c : Code} {vs : List Value} {s : St} {R : Value → St → Prop} {call : CallF} {self : CodeF} (hcall : ∀ B W0, B ≤ W0.heap.size → CallOk C B W0 call) (hself : ∀ B W0, B ≤ W0.heap.size → CodeOk C B W0 self) (hF : C.fn g = some F) (hc : F.body = some c) (hl : Nat.ble (len vs) F.ntmps = true) (hd : s.df = [])
    (h : WP C F.ntmps s.nx c (zipT vs 0) s (FinD C F s.nx call self R)) : CW C g vs s R := by
  obtain ⟨hf1, hf2⟩ := hC.fn g F hF
  have hl : vs.length ≤ F.ntmps := by have := ble_iff.1 hl; rw [len_eq] at this; exact this
  refine ⟨⟨F, hf1, hf2, by rw [hc]; rfl⟩, fun B W0 ν0 m0 en w us hm hv => ?_⟩
  refine calls_of_wp_defers hf1 hc (wp_mono (h B W0 ν0 m0 en ν0 _ w hm (zip_TR hl hv) (by rw [hd]; exact .nil)) fun e a' w' hh => ?_)
  obtain ⟨o, T', s', ν', he, ⟨n1, T1, s1, u, u', s2, hn1, hren, hou, hrun, hlog, hend⟩, hm', tr', df'⟩ := hh
  obtain ⟨ν1, hm1, hT1, hD1⟩ := hm'.rnm en (hren.down hn1)
  obtain ⟨hnk, hlg⟩ := log3_ok hlog
  have tr1 : TR F.ntmps ν1 T1 a' := ⟨tr'.size, fun i v1 hi => by
    obtain ⟨v, hv1, hv2⟩ := hT1 i v1 hi
    obtain ⟨x, hx1, hx2⟩ := tr'.get i v hv1
    exact ⟨x, hx1, hv2 x hx2⟩⟩
  obtain ⟨e2, k2⟩ := runDf_ok (B := B) (W0 := W0) hC en.hB (hcall B W0 en.hB) (hself B W0 en.hB) (fn := F) (tmps := a'.tmps) _ _ _ _ _ hrun
  have hms : Mem B W0 s.nx ν0 m0 (sd s1 []) ν1 w' := hm1.of_same rfl rfl
  have lv : Leaves C.P F a'.tmps (fun e w' => ∃ v s' ν', R v s' ∧ Mem B W0 s.nx ν0 m0 s' ν' w' ∧ EndV ν' v e) a'.defers (modeOf u) w' := by
    refine k2 ν1 (mm (sd s1 []) m0) w' a'.defers _ (hD1 _ df') (hms.pre en hlg hnk) fun ν2 w2 hp2 => ?_
    have hm2 : Mem B W0 s.nx ν0 m0 ⟨s2.h, s2.nx, [], [], []⟩ ν2 w2 := (hms.step e2 hlg hnk hp2).of_same rfl rfl
    have tr2 := tr1.mono hp2.le
    cases u' with
    | none =>
      obtain ⟨rs, ns, s3, v0, s0, hr, hn, hl1, hl2, hren2, hpk0, hR⟩ := hend
      obtain ⟨⟨j1, j2, j3, j4⟩, j5⟩ := aRes_ok (B := B) (W0 := W0) (N := F.ntmps) hC _ _ _ _ _ hr (allB_iff hn)
      have hlow : ∀ id, id ∈ s3.rd ∨ id ∈ s3.wr → id < KB := fun id hid => hid.elim (lowB_ok hl1 id) (lowB_ok hl2 id)
      have pz := hm2.pre en (s' := s3) hlow (by rw [j2]; exact hm2.n2)
      obtain ⟨us', hu, hvs⟩ := j5 (fun | .tmp t => pure (a'.tmps.getD t undef) | .cell c t => (do loadVar t (← asAddr (a'.tmps.getD c undef)))) (fun _ => rfl) (fun _ _ => rfl) tr2 pz (fun i hi => hi)
      have hres : (results F a'.tmps).run C.P w2 = .ok (if h : us'.toArray.size = 1 then us'.toArray[0] else .tuple us'.toArray) w2 := by
        unfold results
        rw [Array.mapM_eq_mapM_toList]
        simp only [Sem.run_bind, Sem.run_map]
        rw [show ∀ (f g : ResultVar → Sem Value), (∀ r, f r = g r) → List.mapM f F.results.toList = List.mapM g F.results.toList from fun f g h => by rw [funext h], hu]
        rfl
        intro r; cases r <;> rfl
      obtain ⟨ν3, hm3, hv1, _⟩ := hm2.rnm en hren2
      obtain ⟨v, hv2, hv3⟩ := hv1 0 v0 rfl
      obtain rfl := Option.some.inj hv2
      exact ⟨_, hres, v0, s0, ν3, hR, hm3, (EndV.ret hpk0).2 ⟨_, rfl, hv3 _ (oneOf_ok hvs)⟩⟩
    | some q =>
      obtain ⟨p, b⟩ := q
      cases b with
      | true => exact hend.elim
      | false =>
        obtain ⟨s0, hren2, hR⟩ := hend
        obtain ⟨ν3, hm3, _, _⟩ := hm2.rnm en hren2
        exact ⟨pkV p, s0, ν3, hR, hm3, rfl⟩
  rcases hou with ⟨rfl | rfl, rfl⟩ | ⟨p, rfl, rfl⟩
  · subst he; exact lv
  · subst he; exact lv
  · subst he; exact lv
end
end Go.Ev
