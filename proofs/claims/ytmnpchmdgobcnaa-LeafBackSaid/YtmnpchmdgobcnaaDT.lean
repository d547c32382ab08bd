/- Words of my own, printed by a program of mine. -/
import Derived.Test.YtmnpchmdgobcnaaHn
import Derived.Test.YtmnpchmdgobcnaaProg
set_option maxRecDepth 100000
namespace Go.Ev
open Go.Proofs
/-- The seat's program, for the rules. -/
noncomputable def cfg : Cfg := { P := Try.prog, ty := fun t => (Try.prog.info? t).bind fun i => (Try.prog.underlying t).bind fun d => some (i, d), fn := fun f => (Try.prog.funcs[f]?).bind fun F => if F.name = "runtime.NumGoroutine" then none else some F, xt := fun _ => none, pc := fun _ _ => none }
theorem cfg_ok : cfg.Ok := by
  refine ⟨fun t p h => ?_, fun t p h => ?_, fun g h => (by cases h), fun g h => (by cases h), fun g vs v h => (by cases h)⟩
  · obtain ⟨i, h1, h⟩ := bd h
    obtain ⟨d, h2, h⟩ := bd h
    obtain rfl := Option.some.inj h
    exact ⟨h1, h2⟩
  · obtain ⟨F, h1, h⟩ := bd h
    split at h
    · cases h
    · obtain rfl := Option.some.inj h
      exact ⟨h1, by assumption⟩
instance : Hv cfg := ⟨cfg_ok, by kernel_rfl, rfl⟩
theorem fn_of {f : Nat} {F : Func} (h : Try.prog.funcs[f]? = some F) (hn : F.name ≠ "runtime.NumGoroutine") : cfg.fn f = some F := by
  show (Try.prog.funcs[f]?).bind (fun F => if F.name = "runtime.NumGoroutine" then none else some F) = _
  rw [h]
  exact if_neg hn
theorem y3 : cfg.ty 3 = some (Try.t3, Try.t3.desc) := rfl
theorem y4 : cfg.ty 4 = some (Try.t4, Try.t4.desc) := rfl
theorem y5 : cfg.ty 5 = some (Try.t5, Try.t5.desc) := rfl
theorem y9 : cfg.ty 9 = some (Try.t9, Try.t9.desc) := rfl
theorem y22 : cfg.ty 22 = some (Try.t22, Try.t22.desc) := rfl
theorem y24 : cfg.ty 24 = some (Try.t24, Try.t24.desc) := rfl
theorem y25 : cfg.ty 25 = some (Try.t25, Try.t25.desc) := rfl
theorem y27 : cfg.ty 27 = some (Try.t27, Try.t26.desc) := rfl
theorem y35 : cfg.ty 35 = some (Try.t35, Try.t34.desc) := rfl
theorem y43 : cfg.ty 43 = some (Try.t43, Try.t43.desc) := rfl
theorem y81 : cfg.ty 81 = some (Try.t81, Try.t81.desc) := rfl
theorem y83 : cfg.ty 83 = some (Try.t83, Try.t34.desc) := rfl
theorem y89 : cfg.ty 89 = some (Try.t89, Try.t89.desc) := rfl
theorem y133 : cfg.ty 133 = some (Try.t133, Try.t132.desc) := rfl
theorem g4 : cfg.fn 4 = some Try.f4 := fn_of Try.func4 (by decide)
theorem g14 : cfg.fn 14 = some Try.f14 := fn_of Try.func14 (by decide)
theorem g15 : cfg.fn 15 = some Try.f15 := fn_of Try.func15 (by decide)
theorem g16 : cfg.fn 16 = some Try.f16 := fn_of Try.func16 (by decide)
theorem g18 : cfg.fn 18 = some Try.f18 := fn_of Try.func18 (by decide)
theorem g19 : cfg.fn 19 = some Try.f19 := fn_of Try.func19 (by decide)
theorem g20 : cfg.fn 20 = some Try.f20 := fn_of Try.func20 (by decide)
theorem g33 : cfg.fn 33 = some Try.f33 := fn_of Try.func33 (by decide)
theorem g48 : cfg.fn 48 = some Try.f48 := fn_of Try.func48 (by decide)
theorem g56 : cfg.fn 56 = some Try.f56 := fn_of Try.func56 (by decide)
theorem g57 : cfg.fn 57 = some Try.f57 := fn_of Try.func57 (by decide)
theorem g58 : cfg.fn 58 = some Try.f58 := fn_of Try.func58 (by decide)
theorem g59 : cfg.fn 59 = some Try.f59 := fn_of Try.func59 (by decide)
theorem g60 : cfg.fn 60 = some Try.f60 := fn_of Try.func60 (by decide)
theorem g61 : cfg.fn 61 = some Try.f61 := fn_of Try.func61 (by decide)
theorem g62 : cfg.fn 62 = some Try.f62 := fn_of Try.func62 (by decide)
theorem g66 : cfg.fn 66 = some Try.f66 := fn_of Try.func66 (by decide)
theorem g67 : cfg.fn 67 = some Try.f67 := fn_of Try.func67 (by decide)
theorem g68 : cfg.fn 68 = some Try.f68 := fn_of Try.func68 (by decide)
theorem g69 : cfg.fn 69 = some Try.f69 := fn_of Try.func69 (by decide)
theorem g70 : cfg.fn 70 = some Try.f70 := fn_of Try.func70 (by decide)
theorem g71 : cfg.fn 71 = some Try.f71 := fn_of Try.func71 (by decide)
theorem g112 : cfg.fn 112 = some Try.f112 := fn_of Try.func112 (by decide)
theorem g115 : cfg.fn 115 = some Try.f115 := fn_of Try.func115 (by decide)
theorem g116 : cfg.fn 116 = some Try.f116 := fn_of Try.func116 (by decide)
theorem g136 : cfg.fn 136 = some Try.f136 := fn_of Try.func136 (by decide)
theorem g139 : cfg.fn 139 = some Try.f139 := fn_of Try.func139 (by decide)
end Go.Ev
