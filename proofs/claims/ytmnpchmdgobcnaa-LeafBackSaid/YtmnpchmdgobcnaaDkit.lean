/- Words of my own, printed by a program of mine. -/
import Derived.Test.YtmnpchmdgobcnaaDleafo
set_option linter.unusedVariables false
set_option linter.unusedSimpArgs false
set_option maxRecDepth 8000
set_option maxHeartbeats 4000000
namespace Go.Ev
open Go.RowKit Go.Proofs
theorem eqt35 (p q : Item) (w : World) : (Op.equalIn 10000 35 (.agg ⟨kI p⟩) (.agg ⟨kI q⟩)).run cfg.P w = .ok (decide (p = q)) w := by
  have h := eqStruct_run (d := 9999) (xs := ⟨kI p⟩) (ys := ⟨kI q⟩) cfg_ok y35 (by kernel_rfl) (.one (by decide) y9 rfl rfl rfl (basicEq_run cfg_ok y9 rfl 9998) (.one (by decide) y9 rfl rfl rfl (basicEq_run cfg_ok y9 rfl 9998) (.one (by decide) y4 rfl rfl rfl (basicEq_run cfg_ok y4 rfl 9998) (.one (by decide) y3 rfl rfl rfl (basicEq_run cfg_ok y3 rfl 9998) (.one (by decide) y24 rfl rfl rfl (basicEq_run cfg_ok y24 rfl 9998) .nil))))) w
  rw [h]
  congr 1
  cases p; cases q
  rw [Bool.eq_iff_iff]
  first | (simp; done) | (simp [Int.ofNat_inj]; done) | (simp; intros; omega)
theorem samekI_W  {q0 : Nat} {f0 : Nat × Nat} {q1 : Nat} {f1 : Nat × Nat} {a b : List (Item)} (ha : a.length ≤ 2600000000000) :
    CW cfg 19 [.slice (some ⟨0, q0, some 5⟩) (a.length) 0, .slice (some ⟨1, q1, some 5⟩) (b.length) 0] ⟨[(1, .cells ⟨rowJ kI q1 (b)⟩ 35 f1), (0, .cells ⟨rowJ kI q0 (a)⟩ 35 f0)], 2, [], [], []⟩ fun v' s' => v' = .bool (decide (a = b)) ∧ s' = ⟨[(1, .cells ⟨rowJ kI q1 (b)⟩ 35 f1), (0, .cells ⟨rowJ kI q0 (a)⟩ 35 f0)], 2, [], [], []⟩ := by
  refine CW.of_WP cfg_ok g19 rfl rfl rfl ?_
  refine WP.seq ?_
  refine WP.region ?_
  refine OW.st (st_as rfl) rfl rfl ?_
  refine OW.nil ?_
  refine WP.seq ?_
  refine WP.seq ?_
  refine WP.region ?_
  refine OW.st (st_mv rfl) rfl rfl ?_
  refine OW.st (st_lenL y22 rfl) rfl rfl ?_
  refine OW.st (st_mv rfl) rfl rfl ?_
  refine OW.st (st_lenL y22 rfl) rfl rfl ?_
  refine OW.st (st_ne rfl rfl) rfl rfl ?_
  refine OW.nil ?_
  refine WP.condD rfl (fun h1 => ?_) (fun h1 => ?_)
  · skip
    refine WP.seq ?_
    refine WP.region ?_
    refine OW.st (st_as rfl) rfl rfl ?_
    refine OW.nil ?_
    refine WP.ret ?_
    exact FinQ.ret (v0 := .bool (decide (a = b))) (s0 := ⟨[(1, .cells ⟨rowJ kI q1 (b)⟩ 35 f1), (0, .cells ⟨rowJ kI q0 (a)⟩ 35 f0)], 2, [], [], []⟩) rfl rfl rfl rfl (Rnm.mk' [(1, 1), (0, 0)] rfl rfl rfl rfl (.cons rfl (.of_eq (by first | exact bool_is (same_len (by omega)) | exact bool_is (same_ne hx hy (by first | omega | simpa using hxy)) | exact bool_is (same_end hpp.2.2 hpp.2.1)) rfl) .nil) (.cons rfl rfl (.cells (RNs_rowJ_of (rfl))) (.cons rfl rfl (.cells (RNs_rowJ_of (rfl))) .nil)) .nil) ⟨rfl, rfl⟩
  · skip
    replace h1 := Decidable.not_not.1 h1
    refine WP.skip ?_
    refine WP.seq ?_
    refine WP.seq ?_
    refine WP.region ?_
    refine OW.st (st_as rfl) rfl rfl ?_
    refine OW.nil ?_
    refine WP.block ?_
    refine WP.loop (α := Nat) (fun (i : Nat) => i ≤ a.length ∧ a.length = b.length ∧ a.take i = b.take i) (fun (i : Nat) => a.length - i) (fun (i : Nat) => [(0, .slice (some ⟨0, q0, some 5⟩) (a.length) 0), (1, .slice (some ⟨1, q1, some 5⟩) (b.length) 0), (5, .int .i64 ((i : Nat) : Int))]) (fun (i : Nat) => ⟨[(1, .cells ⟨rowJ kI q1 (b)⟩ 35 f1), (0, .cells ⟨rowJ kI q0 (a)⟩ 35 f0)], 2, [], [], []⟩) (0) ?_ ?_ ?_
    · exact ⟨Nat.zero_le _, by omega, rfl⟩
    · skip
      exact Rnm.mk' [(1, 1), (0, 0)] rfl rfl rfl rfl (.cons rfl (.sliceE rfl (by first | rfl | omega | (simp; done) | (simp; omega))) (.cons rfl (.sliceE rfl (by first | rfl | omega | (simp; done) | (simp; omega))) (.cons rfl (.flat rfl) .nil))) (.cons rfl rfl (.cells (RNs_rowJ_of (rfl))) (.cons rfl rfl (.cells (RNs_rowJ_of (rfl))) .nil)) .nil
    intro i hp
    have hpp := hp
    obtain ⟨hp1, hp2, hp3⟩ := hp
    refine WP.seq ?_
    refine WP.seq ?_
    refine WP.region ?_
    refine OW.st (st_mv rfl) rfl rfl ?_
    refine OW.st (st_mv rfl) rfl rfl ?_
    refine OW.st (st_lenL y22 rfl) rfl rfl ?_
    refine OW.st (st_lt rfl rfl) rfl rfl ?_
    refine OW.nil ?_
    refine WP.condD rfl (fun h2 => ?_) (fun h2 => ?_)
    · skip
      refine WP.skip ?_
      refine WP.seq ?_
      refine WP.block ?_
      refine WP.seq ?_
      refine WP.drawn Hv.mix rfl ?_ rfl rfl
      refine DW.t (st_mv rfl) rfl ?_
      refine DW.t (st_mv rfl) rfl ?_
      obtain ⟨x, hx⟩ := ex_at (l := a) (i := i) (by omega)
      refine DW.t (st_iaO y22 y35 rfl rfl rfl (by omega)) rfl ?_
      refine DW.p (st_lA y35 rfl rfl rfl (rowJ_at hx) rfl) rfl (by kernel_rfl) ?_
      refine DW.t (st_mv rfl) rfl ?_
      refine DW.t (st_mv rfl) rfl ?_
      obtain ⟨y, hy⟩ := ex_at (l := b) (i := i) (by omega)
      refine DW.t (st_iaO y22 y35 rfl rfl rfl (by omega)) rfl ?_
      refine DW.p (st_lA y35 rfl rfl rfl (rowJ_at hy) rfl) rfl (by kernel_rfl) ?_
      refine DW.t (st_neA rfl rfl rfl rfl (by kernel_rfl) (eqt35 x y)) rfl ?_
      refine DW.nil ⟨rfl, ?_⟩
      refine WP.cond rfl (fun hxy => ?_) (fun hxy => ?_)
      · skip
        refine WP.seq ?_
        refine WP.region ?_
        refine OW.st (st_as rfl) rfl rfl ?_
        refine OW.nil ?_
        refine WP.ret ?_
        exact FinQ.ret (v0 := .bool (decide (a = b))) (s0 := ⟨[(1, .cells ⟨rowJ kI q1 (b)⟩ 35 f1), (0, .cells ⟨rowJ kI q0 (a)⟩ 35 f0)], 2, [], [], []⟩) rfl rfl rfl rfl (Rnm.mk' [(1, 1), (0, 0)] rfl rfl rfl rfl (.cons rfl (.of_eq (by first | exact bool_is (same_len (by omega)) | exact bool_is (same_ne hx hy (by first | omega | simpa using hxy)) | exact bool_is (same_end hpp.2.2 hpp.2.1)) rfl) .nil) (.cons rfl rfl (.cells (RNs_rowJ_of (rfl))) (.cons rfl rfl (.cells (RNs_rowJ_of (rfl))) .nil)) .nil) ⟨rfl, rfl⟩
      · skip
        refine WP.skip ?_
        refine WP.region ?_
        refine OW.st (st_mv rfl) rfl rfl ?_
        refine OW.st (st_add (c := ((i + 1 : Nat) : Int)) rfl rfl (by unfold sm; omega)) rfl rfl ?_
        refine OW.st (st_as rfl) rfl rfl ?_
        refine OW.nil ?_
        refine ⟨i + 1, ⟨by omega, hp2, by obtain rfl : x = y := (by first | exact hxy | omega | simpa using hxy); exact take_eq_succ hp3 hx hy⟩, by omega, ?_⟩
        exact Rnm.mk' [(1, 1), (0, 0)] rfl rfl rfl rfl (.cons rfl (.sliceE rfl (by first | rfl | omega | (simp; done) | (simp; omega))) (.cons rfl (.sliceE rfl (by first | rfl | omega | (simp; done) | (simp; omega))) (.cons rfl (.flat rfl) .nil))) (.cons rfl rfl (.cells (RNs_rowJ_of (rfl))) (.cons rfl rfl (.cells (RNs_rowJ_of (rfl))) .nil)) .nil
    · skip
      obtain rfl : a.length = i := by omega
      refine WP.exit ?_
      refine WP.seq ?_
      refine WP.region ?_
      refine OW.st (st_as rfl) rfl rfl ?_
      refine OW.nil ?_
      refine WP.ret ?_
      exact FinQ.ret (v0 := .bool (decide (a = b))) (s0 := ⟨[(1, .cells ⟨rowJ kI q1 (b)⟩ 35 f1), (0, .cells ⟨rowJ kI q0 (a)⟩ 35 f0)], 2, [], [], []⟩) rfl rfl rfl rfl (Rnm.mk' [(1, 1), (0, 0)] rfl rfl rfl rfl (.cons rfl (.of_eq (by first | exact bool_is (same_len (by omega)) | exact bool_is (same_ne hx hy (by first | omega | simpa using hxy)) | exact bool_is (same_end hpp.2.2 hpp.2.1)) rfl) .nil) (.cons rfl rfl (.cells (RNs_rowJ_of (rfl))) (.cons rfl rfl (.cells (RNs_rowJ_of (rfl))) .nil)) .nil) ⟨rfl, rfl⟩
theorem samekI_R {h : List (Nat × Obj)} {nx a0 a1 : Nat} {q0 : Nat} {f0 : Nat × Nat} {q1 : Nat} {f1 : Nat × Nat} {a b : List (Item)} {m0 : Nat} (l0 : a.length = m0) {m1 : Nat} (l1 : b.length = m1) (o0 : aget h a0 = some (.cells ⟨rowJ kI q0 (a)⟩ 35 f0)) (o1 : aget h a1 = some (.cells ⟨rowJ kI q1 (b)⟩ 35 f1)) (e01 : a0 ≠ a1) (ha : a.length ≤ 2600000000000) : CallR cfg 19 [.slice (some ⟨a0, q0, some 5⟩) m0 0, .slice (some ⟨a1, q1, some 5⟩) m1 0] ⟨h, nx, [], [], []⟩ (.bool (decide (a = b))) ⟨h, nx + 0, [a0, a1], [], []⟩ :=
  by subst l0; subst l1; exact (CallR.lay (m := 0) (news0 := []) (news := []) [(0, a0), (1, a1)] (samekI_W ha) rfl rfl ((.cons (.slice rfl) (.cons (.slice rfl) .nil))) ((.cons rfl rfl o0 (.cells RNs_rowJ) (by intro c hc; simp only [aget_cons, aget_nil] at hc; (repeat' split at hc) <;> first | exact absurd (Option.some.inj hc).symm e01 | cases hc) (.cons rfl rfl o1 (.cells RNs_rowJ) (fun c hc => by cases hc) .nil))) (.flat rfl) (.nil))
theorem samekI_R01 {h : List (Nat × Obj)} {nx a0 : Nat} {q0 : Nat} {f0 : Nat × Nat} {a : List (Item)} {m0 : Nat} (l0 : a.length = m0) (o0 : aget h a0 = some (.cells ⟨rowJ kI q0 (a)⟩ 35 f0))  (ha : a.length ≤ 2600000000000) : CallR cfg 19 [.slice (some ⟨a0, q0, some 5⟩) m0 0, .slice none 0 0] ⟨h, nx, [], [], []⟩ (.bool (decide (a = (([] : List (Item)))))) ⟨h, nx + 0, [a0], [], []⟩ :=
  by subst l0; exact (CallR.lay (m := 0) (news0 := []) (news := []) [(0, a0)] (samekI_W (b := ([] : List (Item))) (q1 := 0) (f1 := (0, 0)) ha) rfl rfl ((.cons (.slice rfl) (.cons (.nilS rfl) .nil))) ((.cons rfl rfl o0 (.cells RNs_rowJ) (fun c hc => by cases hc) .nil)) (.flat rfl) (.nil))
theorem samekI_R10 {h : List (Nat × Obj)} {nx a1 : Nat} {q1 : Nat} {f1 : Nat × Nat} {b : List (Item)} {m1 : Nat} (l1 : b.length = m1) (o1 : aget h a1 = some (.cells ⟨rowJ kI q1 (b)⟩ 35 f1))  (ha : (([] : List (Item))).length ≤ 2600000000000) : CallR cfg 19 [.slice none 0 0, .slice (some ⟨a1, q1, some 5⟩) m1 0] ⟨h, nx, [], [], []⟩ (.bool (decide ((([] : List (Item))) = b))) ⟨h, nx + 0, [a1], [], []⟩ :=
  by subst l1; exact (CallR.lay (m := 0) (news0 := []) (news := []) [(1, a1)] (samekI_W (a := ([] : List (Item))) (q0 := 0) (f0 := (0, 0)) ha) rfl rfl ((.cons (.nilS rfl) (.cons (.slice rfl) .nil))) ((.cons rfl rfl o1 (.cells RNs_rowJ) (fun c hc => by cases hc) .nil)) (.flat rfl) (.nil))
theorem samekI_R11 {h : List (Nat × Obj)} {nx  : Nat}     (ha : (([] : List (Item))).length ≤ 2600000000000) : CallR cfg 19 [.slice none 0 0, .slice none 0 0] ⟨h, nx, [], [], []⟩ (.bool (decide ((([] : List (Item))) = (([] : List (Item)))))) ⟨h, nx + 0, [], [], []⟩ :=
  (CallR.lay (m := 0) (news0 := []) (news := []) [] (samekI_W (a := ([] : List (Item))) (q0 := 0) (f0 := (0, 0)) (b := ([] : List (Item))) (q1 := 0) (f1 := (0, 0)) ha) rfl rfl ((.cons (.nilS rfl) (.cons (.nilS rfl) .nil))) (.nil) (.flat rfl) (.nil))
theorem samekU_W  {q0 : Nat} {f0 : Nat × Nat} {q1 : Nat} {f1 : Nat × Nat} {a b : List (Nat)} (ha : a.length ≤ 2600000000000) :
    CW cfg 48 [.slice (some ⟨0, q0, some 1⟩) (a.length) 0, .slice (some ⟨1, q1, some 1⟩) (b.length) 0] ⟨[(1, .cells ⟨rowJ kU q1 (b)⟩ 24 f1), (0, .cells ⟨rowJ kU q0 (a)⟩ 24 f0)], 2, [], [], []⟩ fun v' s' => v' = .bool (decide (a = b)) ∧ s' = ⟨[(1, .cells ⟨rowJ kU q1 (b)⟩ 24 f1), (0, .cells ⟨rowJ kU q0 (a)⟩ 24 f0)], 2, [], [], []⟩ := by
  refine CW.of_WP cfg_ok g48 rfl rfl rfl ?_
  refine WP.seq ?_
  refine WP.region ?_
  refine OW.st (st_as rfl) rfl rfl ?_
  refine OW.nil ?_
  refine WP.seq ?_
  refine WP.seq ?_
  refine WP.region ?_
  refine OW.st (st_mv rfl) rfl rfl ?_
  refine OW.st (st_lenL y43 rfl) rfl rfl ?_
  refine OW.st (st_mv rfl) rfl rfl ?_
  refine OW.st (st_lenL y43 rfl) rfl rfl ?_
  refine OW.st (st_ne rfl rfl) rfl rfl ?_
  refine OW.nil ?_
  refine WP.condD rfl (fun h1 => ?_) (fun h1 => ?_)
  · skip
    refine WP.seq ?_
    refine WP.region ?_
    refine OW.st (st_as rfl) rfl rfl ?_
    refine OW.nil ?_
    refine WP.ret ?_
    exact FinQ.ret (v0 := .bool (decide (a = b))) (s0 := ⟨[(1, .cells ⟨rowJ kU q1 (b)⟩ 24 f1), (0, .cells ⟨rowJ kU q0 (a)⟩ 24 f0)], 2, [], [], []⟩) rfl rfl rfl rfl (Rnm.mk' [(1, 1), (0, 0)] rfl rfl rfl rfl (.cons rfl (.of_eq (by first | exact bool_is (same_len (by omega)) | exact bool_is (same_ne hx hy (by first | omega | simpa using hxy)) | exact bool_is (same_end hpp.2.2 hpp.2.1)) rfl) .nil) (.cons rfl rfl (.cells (RNs_rowJ_of (rfl))) (.cons rfl rfl (.cells (RNs_rowJ_of (rfl))) .nil)) .nil) ⟨rfl, rfl⟩
  · skip
    replace h1 := Decidable.not_not.1 h1
    refine WP.skip ?_
    refine WP.seq ?_
    refine WP.seq ?_
    refine WP.region ?_
    refine OW.st (st_as rfl) rfl rfl ?_
    refine OW.nil ?_
    refine WP.block ?_
    refine WP.loop (α := Nat) (fun (i : Nat) => i ≤ a.length ∧ a.length = b.length ∧ a.take i = b.take i) (fun (i : Nat) => a.length - i) (fun (i : Nat) => [(0, .slice (some ⟨0, q0, some 1⟩) (a.length) 0), (1, .slice (some ⟨1, q1, some 1⟩) (b.length) 0), (5, .int .i64 ((i : Nat) : Int))]) (fun (i : Nat) => ⟨[(1, .cells ⟨rowJ kU q1 (b)⟩ 24 f1), (0, .cells ⟨rowJ kU q0 (a)⟩ 24 f0)], 2, [], [], []⟩) (0) ?_ ?_ ?_
    · exact ⟨Nat.zero_le _, by omega, rfl⟩
    · skip
      exact Rnm.mk' [(1, 1), (0, 0)] rfl rfl rfl rfl (.cons rfl (.sliceE rfl (by first | rfl | omega | (simp; done) | (simp; omega))) (.cons rfl (.sliceE rfl (by first | rfl | omega | (simp; done) | (simp; omega))) (.cons rfl (.flat rfl) .nil))) (.cons rfl rfl (.cells (RNs_rowJ_of (rfl))) (.cons rfl rfl (.cells (RNs_rowJ_of (rfl))) .nil)) .nil
    intro i hp
    have hpp := hp
    obtain ⟨hp1, hp2, hp3⟩ := hp
    refine WP.seq ?_
    refine WP.seq ?_
    refine WP.region ?_
    refine OW.st (st_mv rfl) rfl rfl ?_
    refine OW.st (st_mv rfl) rfl rfl ?_
    refine OW.st (st_lenL y43 rfl) rfl rfl ?_
    refine OW.st (st_lt rfl rfl) rfl rfl ?_
    refine OW.nil ?_
    refine WP.condD rfl (fun h2 => ?_) (fun h2 => ?_)
    · skip
      refine WP.skip ?_
      refine WP.seq ?_
      refine WP.block ?_
      refine WP.seq ?_
      refine WP.drawn Hv.mix rfl ?_ rfl rfl
      refine DW.t (st_mv rfl) rfl ?_
      refine DW.t (st_mv rfl) rfl ?_
      obtain ⟨x, hx⟩ := ex_at (l := a) (i := i) (by omega)
      refine DW.t (st_iaO y43 y24 rfl rfl rfl (by omega)) rfl ?_
      refine DW.p (st_ld y24 rfl rfl rfl (rowJ_nth0 hx rfl)) rfl (by kernel_rfl) ?_
      refine DW.t (st_mv rfl) rfl ?_
      refine DW.t (st_mv rfl) rfl ?_
      obtain ⟨y, hy⟩ := ex_at (l := b) (i := i) (by omega)
      refine DW.t (st_iaO y43 y24 rfl rfl rfl (by omega)) rfl ?_
      refine DW.p (st_ld y24 rfl rfl rfl (rowJ_nth0 hy rfl)) rfl (by kernel_rfl) ?_
      refine DW.t (st_ne rfl rfl) rfl ?_
      refine DW.nil ⟨rfl, ?_⟩
      refine WP.condD rfl (fun hxy => ?_) (fun hxy => ?_)
      · skip
        refine WP.seq ?_
        refine WP.region ?_
        refine OW.st (st_as rfl) rfl rfl ?_
        refine OW.nil ?_
        refine WP.ret ?_
        exact FinQ.ret (v0 := .bool (decide (a = b))) (s0 := ⟨[(1, .cells ⟨rowJ kU q1 (b)⟩ 24 f1), (0, .cells ⟨rowJ kU q0 (a)⟩ 24 f0)], 2, [], [], []⟩) rfl rfl rfl rfl (Rnm.mk' [(1, 1), (0, 0)] rfl rfl rfl rfl (.cons rfl (.of_eq (by first | exact bool_is (same_len (by omega)) | exact bool_is (same_ne hx hy (by first | omega | simpa using hxy)) | exact bool_is (same_end hpp.2.2 hpp.2.1)) rfl) .nil) (.cons rfl rfl (.cells (RNs_rowJ_of (rfl))) (.cons rfl rfl (.cells (RNs_rowJ_of (rfl))) .nil)) .nil) ⟨rfl, rfl⟩
      · skip
        replace hxy := Decidable.not_not.1 hxy
        refine WP.skip ?_
        refine WP.region ?_
        refine OW.st (st_mv rfl) rfl rfl ?_
        refine OW.st (st_add (c := ((i + 1 : Nat) : Int)) rfl rfl (by unfold sm; omega)) rfl rfl ?_
        refine OW.st (st_as rfl) rfl rfl ?_
        refine OW.nil ?_
        refine ⟨i + 1, ⟨by omega, hp2, by obtain rfl : x = y := (by first | exact hxy | omega | simpa using hxy); exact take_eq_succ hp3 hx hy⟩, by omega, ?_⟩
        exact Rnm.mk' [(1, 1), (0, 0)] rfl rfl rfl rfl (.cons rfl (.sliceE rfl (by first | rfl | omega | (simp; done) | (simp; omega))) (.cons rfl (.sliceE rfl (by first | rfl | omega | (simp; done) | (simp; omega))) (.cons rfl (.flat rfl) .nil))) (.cons rfl rfl (.cells (RNs_rowJ_of (rfl))) (.cons rfl rfl (.cells (RNs_rowJ_of (rfl))) .nil)) .nil
    · skip
      obtain rfl : a.length = i := by omega
      refine WP.exit ?_
      refine WP.seq ?_
      refine WP.region ?_
      refine OW.st (st_as rfl) rfl rfl ?_
      refine OW.nil ?_
      refine WP.ret ?_
      exact FinQ.ret (v0 := .bool (decide (a = b))) (s0 := ⟨[(1, .cells ⟨rowJ kU q1 (b)⟩ 24 f1), (0, .cells ⟨rowJ kU q0 (a)⟩ 24 f0)], 2, [], [], []⟩) rfl rfl rfl rfl (Rnm.mk' [(1, 1), (0, 0)] rfl rfl rfl rfl (.cons rfl (.of_eq (by first | exact bool_is (same_len (by omega)) | exact bool_is (same_ne hx hy (by first | omega | simpa using hxy)) | exact bool_is (same_end hpp.2.2 hpp.2.1)) rfl) .nil) (.cons rfl rfl (.cells (RNs_rowJ_of (rfl))) (.cons rfl rfl (.cells (RNs_rowJ_of (rfl))) .nil)) .nil) ⟨rfl, rfl⟩
theorem samekU_R {h : List (Nat × Obj)} {nx a0 a1 : Nat} {q0 : Nat} {f0 : Nat × Nat} {q1 : Nat} {f1 : Nat × Nat} {a b : List (Nat)} {m0 : Nat} (l0 : a.length = m0) {m1 : Nat} (l1 : b.length = m1) (o0 : aget h a0 = some (.cells ⟨rowJ kU q0 (a)⟩ 24 f0)) (o1 : aget h a1 = some (.cells ⟨rowJ kU q1 (b)⟩ 24 f1)) (e01 : a0 ≠ a1) (ha : a.length ≤ 2600000000000) : CallR cfg 48 [.slice (some ⟨a0, q0, some 1⟩) m0 0, .slice (some ⟨a1, q1, some 1⟩) m1 0] ⟨h, nx, [], [], []⟩ (.bool (decide (a = b))) ⟨h, nx + 0, [a0, a1], [], []⟩ :=
  by subst l0; subst l1; exact (CallR.lay (m := 0) (news0 := []) (news := []) [(0, a0), (1, a1)] (samekU_W ha) rfl rfl ((.cons (.slice rfl) (.cons (.slice rfl) .nil))) ((.cons rfl rfl o0 (.cells RNs_rowJ) (by intro c hc; simp only [aget_cons, aget_nil] at hc; (repeat' split at hc) <;> first | exact absurd (Option.some.inj hc).symm e01 | cases hc) (.cons rfl rfl o1 (.cells RNs_rowJ) (fun c hc => by cases hc) .nil))) (.flat rfl) (.nil))
theorem samekU_R01 {h : List (Nat × Obj)} {nx a0 : Nat} {q0 : Nat} {f0 : Nat × Nat} {a : List (Nat)} {m0 : Nat} (l0 : a.length = m0) (o0 : aget h a0 = some (.cells ⟨rowJ kU q0 (a)⟩ 24 f0))  (ha : a.length ≤ 2600000000000) : CallR cfg 48 [.slice (some ⟨a0, q0, some 1⟩) m0 0, .slice none 0 0] ⟨h, nx, [], [], []⟩ (.bool (decide (a = (([] : List (Nat)))))) ⟨h, nx + 0, [a0], [], []⟩ :=
  by subst l0; exact (CallR.lay (m := 0) (news0 := []) (news := []) [(0, a0)] (samekU_W (b := ([] : List (Nat))) (q1 := 0) (f1 := (0, 0)) ha) rfl rfl ((.cons (.slice rfl) (.cons (.nilS rfl) .nil))) ((.cons rfl rfl o0 (.cells RNs_rowJ) (fun c hc => by cases hc) .nil)) (.flat rfl) (.nil))
theorem samekU_R10 {h : List (Nat × Obj)} {nx a1 : Nat} {q1 : Nat} {f1 : Nat × Nat} {b : List (Nat)} {m1 : Nat} (l1 : b.length = m1) (o1 : aget h a1 = some (.cells ⟨rowJ kU q1 (b)⟩ 24 f1))  (ha : (([] : List (Nat))).length ≤ 2600000000000) : CallR cfg 48 [.slice none 0 0, .slice (some ⟨a1, q1, some 1⟩) m1 0] ⟨h, nx, [], [], []⟩ (.bool (decide ((([] : List (Nat))) = b))) ⟨h, nx + 0, [a1], [], []⟩ :=
  by subst l1; exact (CallR.lay (m := 0) (news0 := []) (news := []) [(1, a1)] (samekU_W (a := ([] : List (Nat))) (q0 := 0) (f0 := (0, 0)) ha) rfl rfl ((.cons (.nilS rfl) (.cons (.slice rfl) .nil))) ((.cons rfl rfl o1 (.cells RNs_rowJ) (fun c hc => by cases hc) .nil)) (.flat rfl) (.nil))
theorem samekU_R11 {h : List (Nat × Obj)} {nx  : Nat}     (ha : (([] : List (Nat))).length ≤ 2600000000000) : CallR cfg 48 [.slice none 0 0, .slice none 0 0] ⟨h, nx, [], [], []⟩ (.bool (decide ((([] : List (Nat))) = (([] : List (Nat)))))) ⟨h, nx + 0, [], [], []⟩ :=
  (CallR.lay (m := 0) (news0 := []) (news := []) [] (samekU_W (a := ([] : List (Nat))) (q0 := 0) (f0 := (0, 0)) (b := ([] : List (Nat))) (q1 := 0) (f1 := (0, 0)) ha) rfl rfl ((.cons (.nilS rfl) (.cons (.nilS rfl) .nil))) (.nil) (.flat rfl) (.nil))
theorem lightit_W  {q0 : Nat} {f0 : Nat × Nat} {l : List Item} {m b : Int} (hm : m ≤ 1000000) (hb : b ≤ 1000000) (hb0 : 0 ≤ b) (hs : ∀ x ∈ l, x.key.length + x.value.length ≤ 281474976710656) :
    CW cfg 62 [.slice (some ⟨0, q0, some 5⟩) (l.length) 0, .int .i64 (m : Int), .int .i64 (b : Int)] ⟨[(0, .cells ⟨rowJ kI q0 (l)⟩ 35 f0)], 1, [], [], []⟩ fun v' s' => v' = .bool (lightN l m b) ∧ s' = ⟨[(0, .cells ⟨rowJ kI q0 (l)⟩ 35 f0)], 1, [], [], []⟩ := by
  refine CW.of_WP cfg_ok g62 rfl rfl rfl ?_
  refine WP.seq ?_
  refine WP.region ?_
  refine OW.st (st_as rfl) rfl rfl ?_
  refine OW.nil ?_
  refine WP.seq ?_
  refine WP.seq ?_
  refine WP.region ?_
  refine OW.st (st_mv rfl) rfl rfl ?_
  refine OW.st (st_lenL y22 rfl) rfl rfl ?_
  refine OW.st (st_mv rfl) rfl rfl ?_
  refine OW.st (st_gt rfl rfl) rfl rfl ?_
  refine OW.nil ?_
  refine WP.condD rfl (fun h1 => ?_) (fun h1 => ?_)
  · skip
    refine WP.seq ?_
    refine WP.region ?_
    refine OW.st (st_as rfl) rfl rfl ?_
    refine OW.nil ?_
    refine WP.ret ?_
    exact FinQ.ret (v0 := .bool (lightN l m b)) (s0 := ⟨[(0, .cells ⟨rowJ kI q0 (l)⟩ 35 f0)], 1, [], [], []⟩) rfl rfl rfl rfl (Rnm.mk' [(0, 0)] rfl rfl rfl rfl (.cons rfl (.of_eq (by first | exact bool_is (light_most (by omega)) | exact bool_is (light_big (by omega)) | exact bool_is (light_end (by omega) (by omega))) rfl) .nil) (.cons rfl rfl (.cells (RNs_rowJ_of (rfl))) .nil) .nil) ⟨rfl, rfl⟩
  · skip
    refine WP.skip ?_
    refine WP.seq ?_
    refine WP.region ?_
    refine OW.st (st_as rfl) rfl rfl ?_
    refine OW.nil ?_
    refine WP.seq ?_
    refine WP.seq ?_
    refine WP.region ?_
    refine OW.st (st_as rfl) rfl rfl ?_
    refine OW.nil ?_
    refine WP.block ?_
    refine WP.loop (α := Nat) (fun (i : Nat) => i ≤ l.length ∧ (itsz (l.take i) : Int) ≤ b) (fun (i : Nat) => l.length - i) (fun (i : Nat) => [(0, .slice (some ⟨0, q0, some 5⟩) (l.length) 0), (1, .int .i64 (m : Int)), (2, .int .i64 (b : Int)), (8, .int .i64 ((i : Nat) : Int)), (7, .int .i64 ((itsz (List.take i l) : Nat) : Int))]) (fun (i : Nat) => ⟨[(0, .cells ⟨rowJ kI q0 (l)⟩ 35 f0)], 1, [], [], []⟩) (0) ?_ ?_ ?_
    · exact ⟨Nat.zero_le _, hb0⟩
    · skip
      exact Rnm.mk' [(0, 0)] rfl rfl rfl rfl (.cons rfl (.sliceE rfl (by first | rfl | omega | (simp; done) | (simp; omega))) (.cons rfl (.flat rfl) (.cons rfl (.flat rfl) (.cons rfl (.flat rfl) (.cons rfl (.flat rfl) .nil))))) (.cons rfl rfl (.cells (RNs_rowJ_of (rfl))) .nil) .nil
    intro i hp
    obtain ⟨hp1, hp2⟩ := hp
    refine WP.seq ?_
    refine WP.seq ?_
    refine WP.region ?_
    refine OW.st (st_mv rfl) rfl rfl ?_
    refine OW.st (st_mv rfl) rfl rfl ?_
    refine OW.st (st_lenL y22 rfl) rfl rfl ?_
    refine OW.st (st_lt rfl rfl) rfl rfl ?_
    refine OW.nil ?_
    refine WP.condD rfl (fun h2 => ?_) (fun h2 => ?_)
    · skip
      refine WP.skip ?_
      refine WP.seq ?_
      refine WP.block ?_
      refine WP.seq ?_
      refine WP.drawn Hv.mix rfl ?_ rfl rfl
      refine DW.t (st_mv rfl) rfl ?_
      refine DW.t (st_mv rfl) rfl ?_
      refine DW.t (st_mv rfl) rfl ?_
      obtain ⟨x, hx⟩ := ex_at (l := l) (i := i) (by omega)
      refine DW.t (st_iaO y22 y35 rfl rfl rfl (by omega)) rfl ?_
      refine DW.t (st_fa y35 rfl rfl y9 rfl) rfl ?_
      refine DW.p (st_ld y9 rfl rfl rfl (rowJ_nth hx rfl)) rfl (by kernel_rfl) ?_
      refine DW.t (st_lenS y9 rfl) rfl ?_
      have hxm := hs x (List.mem_of_getElem? hx)
      refine DW.t (st_add (c := (((itsz (List.take i l)) + (List.length (x.key)) : Nat) : Int)) rfl rfl (by unfold sm; omega)) rfl ?_
      refine DW.t (st_mv rfl) rfl ?_
      refine DW.t (st_mv rfl) rfl ?_
      obtain ⟨y, hy⟩ := ex_at (l := l) (i := i) (by omega)
      refine DW.t (st_iaO y22 y35 rfl rfl rfl (by omega)) rfl ?_
      refine DW.t (st_fa y35 rfl rfl y9 rfl) rfl ?_
      refine DW.p (st_ld y9 rfl rfl rfl (rowJ_nth hy rfl)) rfl (by kernel_rfl) ?_
      refine DW.t (st_lenS y9 rfl) rfl ?_
      obtain rfl : x = y := Option.some.inj (hx.symm.trans hy)
      have hlz := itsz_succ hx
      refine DW.t (st_add (c := ((itsz (List.take (i + 1) l) : Nat) : Int)) rfl rfl (by rw [hlz]; unfold sm; omega)) rfl ?_
      refine DW.t (st_as rfl) rfl ?_
      refine DW.nil ⟨rfl, ?_⟩
      refine WP.seq ?_
      refine WP.region ?_
      refine OW.st (st_mv rfl) rfl rfl ?_
      refine OW.st (st_mv rfl) rfl rfl ?_
      refine OW.st (st_gt rfl rfl) rfl rfl ?_
      refine OW.nil ?_
      refine WP.condD rfl (fun h3 => ?_) (fun h3 => ?_)
      · skip
        refine WP.seq ?_
        refine WP.region ?_
        refine OW.st (st_as rfl) rfl rfl ?_
        refine OW.nil ?_
        refine WP.ret ?_
        exact FinQ.ret (v0 := .bool (lightN l m b)) (s0 := ⟨[(0, .cells ⟨rowJ kI q0 (l)⟩ 35 f0)], 1, [], [], []⟩) rfl rfl rfl rfl (Rnm.mk' [(0, 0)] rfl rfl rfl rfl (.cons rfl (.of_eq (by first | exact bool_is (light_most (by omega)) | exact bool_is (light_big (by omega)) | exact bool_is (light_end (by omega) (by omega))) rfl) .nil) (.cons rfl rfl (.cells (RNs_rowJ_of (rfl))) .nil) .nil) ⟨rfl, rfl⟩
      · skip
        refine WP.skip ?_
        refine WP.region ?_
        refine OW.st (st_mv rfl) rfl rfl ?_
        refine OW.st (st_add (c := ((i + 1 : Nat) : Int)) rfl rfl (by unfold sm; omega)) rfl rfl ?_
        refine OW.st (st_as rfl) rfl rfl ?_
        refine OW.nil ?_
        refine ⟨i + 1, ⟨by omega, by omega⟩, by omega, ?_⟩
        exact Rnm.mk' [(0, 0)] rfl rfl rfl rfl (.cons rfl (.sliceE rfl (by first | rfl | omega | (simp; done) | (simp; omega))) (.cons rfl (.flat rfl) (.cons rfl (.flat rfl) (.cons rfl (.flat rfl) (.cons rfl (.flat rfl) .nil))))) (.cons rfl rfl (.cells (RNs_rowJ_of (rfl))) .nil) .nil
    · skip
      obtain rfl : l.length = i := by omega
      refine WP.exit ?_
      refine WP.seq ?_
      refine WP.region ?_
      refine OW.st (st_as rfl) rfl rfl ?_
      refine OW.nil ?_
      refine WP.ret ?_
      exact FinQ.ret (v0 := .bool (lightN l m b)) (s0 := ⟨[(0, .cells ⟨rowJ kI q0 (l)⟩ 35 f0)], 1, [], [], []⟩) rfl rfl rfl rfl (Rnm.mk' [(0, 0)] rfl rfl rfl rfl (.cons rfl (.of_eq (by first | exact bool_is (light_most (by omega)) | exact bool_is (light_big (by omega)) | exact bool_is (light_end (by omega) (by omega))) rfl) .nil) (.cons rfl rfl (.cells (RNs_rowJ_of (rfl))) .nil) .nil) ⟨rfl, rfl⟩
theorem lightit_R {h : List (Nat × Obj)} {nx a0 : Nat} {q0 : Nat} {f0 : Nat × Nat} {l : List Item} {m b : Int} {m0 : Nat} (l0 : l.length = m0) (o0 : aget h a0 = some (.cells ⟨rowJ kI q0 (l)⟩ 35 f0))  (hm : m ≤ 1000000) (hb : b ≤ 1000000) (hb0 : 0 ≤ b) (hs : ∀ x ∈ l, x.key.length + x.value.length ≤ 281474976710656) : CallR cfg 62 [.slice (some ⟨a0, q0, some 5⟩) m0 0, .int .i64 (m : Int), .int .i64 (b : Int)] ⟨h, nx, [], [], []⟩ (.bool (lightN l m b)) ⟨h, nx + 0, [a0], [], []⟩ :=
  by subst l0; exact (CallR.lay (m := 0) (news0 := []) (news := []) [(0, a0)] (lightit_W hm hb hb0 hs) rfl rfl ((.cons (.slice rfl) (.cons (.flat rfl) (.cons (.flat rfl) .nil)))) ((.cons rfl rfl o0 (.cells RNs_rowJ) (fun c hc => by cases hc) .nil)) (.flat rfl) (.nil))
theorem lightit_R1 {h : List (Nat × Obj)} {nx  : Nat} {m b : Int}    (hm : m ≤ 1000000) (hb : b ≤ 1000000) (hb0 : 0 ≤ b) (hs : ∀ x ∈ (([] : List Item)), x.key.length + x.value.length ≤ 281474976710656) : CallR cfg 62 [.slice none 0 0, .int .i64 (m : Int), .int .i64 (b : Int)] ⟨h, nx, [], [], []⟩ (.bool (lightN (([] : List Item)) m b)) ⟨h, nx + 0, [], [], []⟩ :=
  (CallR.lay (m := 0) (news0 := []) (news := []) [] (lightit_W (l := ([] : List Item)) (q0 := 0) (f0 := (0, 0)) hm hb hb0 hs) rfl rfl ((.cons (.nilS rfl) (.cons (.flat rfl) (.cons (.flat rfl) .nil)))) (.nil) (.flat rfl) (.nil))
end Go.Ev
