/- Words of my own: functions without arguments that give a plain value, run once. -/
import Derived.Test.YtfelkamfmdcapaaEv17
set_option linter.unusedVariables false
namespace Go.Ev
noncomputable def forceD {α : Type} (v : Value) (k : Value → α) : α := match v with
  | .agg ⟨l⟩ => forceL l fun l => k (.agg ⟨l⟩)
  | v => forceV v k
theorem forceD_eq {α : Type} (v : Value) (k : Value → α) : forceD v k = k v := by
  unfold forceD
  split
  · rw [forceL_eq]
  · rw [forceV_eq]
noncomputable def pureOf (C : Cfg) (n g : Nat) : Option Value := match (evF C (evDrF C) n).1 g [] st0 with
  | some (.normal, v, _) => forceD v fun v => Bool.rec (motive := fun _ => Option Value) none (some v) (plain v)
  | _ => none
noncomputable def pcOf (C : Cfg) (n : Nat) (sel : Nat → Bool) (g : Nat) (vs : List Value) : Option Value := match vs, sel g with
  | [], true => pureOf C n g
  | _, _ => none
noncomputable def Cfg.pure (C : Cfg) (n : Nat) (sel : Nat → Bool) : Cfg := { C with pc := pcOf C n sel }
theorem ev_fn {C : Cfg} {dr : CallF → Nat → Array Oper → Tm → St → Option (Out × Tm × St)} {n g : Nat} {vs : List Value} {s : St} {r : Out × Value × St} (h : (ev C dr n).1 g vs s = some r) : ∃ F, C.fn g = some F ∧ F.body.isSome = true := by
  cases n with
  | zero => change (none : Option (Out × Value × St)) = _ at h; cases h
  | succ n =>
    change callF C (ev C dr n).1 (ev C dr n).2 g vs s = some r at h
    unfold callF at h
    split at h
    · cases h
    · rename_i F hF
      split at h
      · cases h
      · rename_i c hc
        exact ⟨F, hF, by rw [hc]; rfl⟩
theorem Cfg.pure_ok {C : Cfg} (hC : C.Ok) (hmix : C.P.follows .mixedOrders = true) (n : Nat) (sel : Nat → Bool) : (C.pure n sel).Ok := by
  refine ⟨hC.ty, hC.fn, hC.x1, hC.x2, fun g vs v h => ?_⟩
  change pcOf C n sel g vs = some v at h
  unfold pcOf at h
  split at h
  · unfold pureOf at h
    split at h
    · rename_i v' s' hr
      rw [fast_eq] at hr
      rw [forceD_eq] at h
      cases hp : plain v' <;> rw [hp] at h
      · cases h
      · obtain rfl := Option.some.inj h
        obtain ⟨F, hF, hb⟩ := ev_fn hr
        obtain ⟨k1, k2⟩ := hC.fn _ _ hF
        exact ⟨hp, rfl, ⟨F, k1, k2, hb⟩, fun w => run_ok hC (fun B W0 hB => evDr_ok hC hB hmix) hp hr w⟩
    · cases h
  · cases h
noncomputable def litOf (f : Nat → Option Value) (g : Nat) (vs : List Value) : Option Value := match vs with
  | [] => f g
  | _ => none
noncomputable def Cfg.lit (C : Cfg) (f : Nat → Option Value) : Cfg := { C with pc := litOf f }
theorem Cfg.lit_ok {C : Cfg} (hC : C.Ok) (hmix : C.P.follows .mixedOrders = true) (n : Nat) (f : Nat → Option Value) (hf : ∀ g v, f g = some v → pureOf C n g = some v) : (C.lit f).Ok := by
  refine ⟨hC.ty, hC.fn, hC.x1, hC.x2, fun g vs v h => ?_⟩
  change litOf f g vs = some v at h
  unfold litOf at h
  split at h
  · exact (Cfg.pure_ok hC hmix n (fun _ => true)).pc g [] v (hf _ _ h)
  · cases h
end Go.Ev
