/- Words of my own, printed by a program of mine. -/
import Derived.Test.YtmnpchmdgobcnaaDleafi
set_option linter.unusedVariables false
set_option linter.unusedSimpArgs false
set_option maxRecDepth 8000
set_option maxHeartbeats 4000000
namespace Go.Ev
open Go.RowKit Go.Proofs
theorem eqt27 (p q : Pg) (w : World) : (Op.equalIn 10000 27 (.agg ⟨kP p⟩) (.agg ⟨kP q⟩)).run cfg.P w = .ok (decide (p = q)) w := by
  have h := eqStruct_run (d := 9999) (xs := ⟨kP p⟩) (ys := ⟨kP q⟩) cfg_ok y27 (by kernel_rfl) (.one (by decide) y3 rfl rfl rfl (basicEq_run cfg_ok y3 rfl 9998) (.one (by decide) y3 rfl rfl rfl (basicEq_run cfg_ok y3 rfl 9998) (.one (by decide) y24 rfl rfl rfl (basicEq_run cfg_ok y24 rfl 9998) (.one (by decide) y24 rfl rfl rfl (basicEq_run cfg_ok y24 rfl 9998) (.one (by decide) y25 rfl rfl rfl (basicEq_run cfg_ok y25 rfl 9998) (.one (by decide) y9 rfl rfl rfl (basicEq_run cfg_ok y9 rfl 9998) .nil)))))) w
  rw [h]
  congr 1
  cases p; cases q
  rw [Bool.eq_iff_iff]
  first | (simp; done) | (simp [Int.ofNat_inj]; done) | (simp; intros; omega)
theorem ofone_W  {l : List UInt8} (hl : l.length ≤ 1000000) :
    CW cfg 68 [.pointer (some ⟨0, 0, none⟩)] ⟨[(1, .cells ⟨[str (l)]⟩ 133 (0, 0)), (0, .cells ⟨[.pointer (some ⟨1, 0, none⟩)]⟩ 89 (0, 0))], 2, [], [], []⟩ fun v' s' => v' = .tuple ⟨[.agg ⟨[str ((itemP l).1.key), str ((itemP l).1.value), .bool ((itemP l).1.over), .int .i64 ((itemP l).1.len : Int), .int .u32 (((itemP l).1.head : Nat) : Int)]⟩, .int .i64 (((itemP l).2.1 : Nat) : Int)]⟩ ∧ s' = ⟨[(1, .cells ⟨[str ((itemP l).2.2)]⟩ 133 (0, 0)), (0, .cells ⟨[.pointer (some ⟨1, 0, none⟩)]⟩ 89 (0, 0))], 2, [], [], []⟩ := by
  refine CW.of_WP cfg_ok g68 rfl rfl rfl ?_
  refine WP.seq ?_
  refine WP.region ?_
  refine OW.st (st_al y35 rfl rfl rfl) rfl rfl ?_
  refine OW.st (st_as rfl) rfl rfl ?_
  refine OW.nil ?_
  refine WP.seq ?_
  refine WP.region ?_
  refine OW.st (st_ld y89 rfl rfl rfl rfl) rfl rfl ?_
  refine OW.st (Stp.call Hv.ok rfl rfl rfl rfl rfl (item_R rfl rfl (by omega))) rfl rfl ?_
  refine OW.st (st_ex rfl rfl) rfl rfl ?_
  refine OW.st (st_ex rfl rfl) rfl rfl ?_
  refine OW.st0 (st_st y35 rfl rfl rfl rfl rfl rfl (Nat.le_of_ble_eq_true rfl) rfl rfl) rfl ?_
  refine OW.st (st_as rfl) rfl rfl ?_
  refine OW.nil ?_
  refine WP.ret ?_
  exact FinQ.ret (v0 := .tuple ⟨[.agg ⟨[str ((itemP l).1.key), str ((itemP l).1.value), .bool ((itemP l).1.over), .int .i64 ((itemP l).1.len : Int), .int .u32 (((itemP l).1.head : Nat) : Int)]⟩, .int .i64 (((itemP l).2.1 : Nat) : Int)]⟩) (s0 := ⟨[(1, .cells ⟨[str ((itemP l).2.2)]⟩ 133 (0, 0)), (0, .cells ⟨[.pointer (some ⟨1, 0, none⟩)]⟩ 89 (0, 0))], 2, [], [], []⟩) rfl rfl rfl rfl (Rnm.mk' [(1, 1), (0, 0)] rfl rfl rfl rfl (.cons rfl (.tupleL ((.cons (.aggL ((.cons (.flat rfl) (.cons (.flat rfl) (.cons (.flat rfl) (.cons (.flat rfl) (.cons (.flat rfl) .nil))))))) (.cons (.flat rfl) .nil)))) .nil) (.cons rfl rfl (.cells (.cons (.flat rfl) .nil)) (.cons rfl rfl (.cells (.cons (.ptr rfl) .nil)) .nil)) .nil) ⟨rfl, rfl⟩
theorem ofone_R {h h' : List (Nat × Obj)} {nx a0 a1 : Nat} {l : List UInt8}  (o0 : aget h a0 = some (.cells ⟨[.pointer (some ⟨a1, 0, none⟩)]⟩ 89 (0, 0))) (o1 : aget h a1 = some (.cells ⟨[str (l)]⟩ 133 (0, 0))) (u : aput h a1 (.cells ⟨[str ((itemP l).2.2)]⟩ 133 (0, 0)) = h') (e01 : a0 ≠ a1) (hl : l.length ≤ 1000000) : CallR cfg 68 [.pointer (some ⟨a0, 0, none⟩)] ⟨h, nx, [], [], []⟩ (.tuple ⟨[.agg ⟨[str ((itemP l).1.key), str ((itemP l).1.value), .bool ((itemP l).1.over), .int .i64 ((itemP l).1.len : Int), .int .u32 (((itemP l).1.head : Nat) : Int)]⟩, .int .i64 (((itemP l).2.1 : Nat) : Int)]⟩) ⟨h', nx + 0, [a0, a1], [a1], []⟩ :=
  (CallR.lay2 (m := 0) (news0 := []) (news := []) (b0 := 1) [(0, a0), (1, a1)] (ofone_W hl) rfl rfl ((.cons (.ptr rfl) .nil)) ((.cons rfl rfl o0 (.cells (.cons (.ptr rfl) .nil)) (by intro c hc; simp only [aget_cons, aget_nil] at hc; (repeat' split at hc) <;> first | exact absurd (Option.some.inj hc).symm e01 | cases hc) (.cons rfl rfl o1 (.cells (.cons (.flat rfl) .nil)) (fun c hc => by cases hc) .nil))) (.tupleL ((.cons (.aggL ((.cons (.flat rfl) (.cons (.flat rfl) (.cons (.flat rfl) (.cons (.flat rfl) (.cons (.flat rfl) .nil))))))) (.cons (.flat rfl) .nil)))) (.nil) rfl rfl (fun b hb => by simp only [aget_cons, aget_nil, if_neg hb]) (.cells (.cons (.flat rfl) .nil)) u)
theorem each_W  {n : Int} {l : List UInt8} (hl : l.length ≤ 1000000) :
    CW cfg 67 [.int .i64 (n : Int), .func (.func 68) #[] ⟨[.pointer (some ⟨0, 0, none⟩)]⟩] ⟨[(1, .cells ⟨[str (l)]⟩ 133 (0, 0)), (0, .cells ⟨[.pointer (some ⟨1, 0, none⟩)]⟩ 89 (0, 0))], 2, [], [], []⟩ fun v' s' => v' = .tuple ⟨[.slice (some ⟨2, 0, some 5⟩) ((eachP n l).1.length) 0, .int .i64 (((eachP n l).2.1 : Nat) : Int)]⟩ ∧ s' = ⟨[(2, .cells ⟨rowV kI ((eachP n l).1)⟩ 35 (0, 0)), (1, .cells ⟨[str ((eachP n l).2.2)]⟩ 133 (0, 0)), (0, .cells ⟨[.pointer (some ⟨1, 0, none⟩)]⟩ 89 (0, 0))], 3, [], [], []⟩ := by
  refine CW.of_WP cfg_ok g67 rfl rfl rfl ?_
  refine WP.seq ?_
  refine WP.region ?_
  refine OW.st (st_as rfl) rfl rfl ?_
  refine OW.st (st_as rfl) rfl rfl ?_
  refine OW.nil ?_
  refine WP.seq ?_
  refine WP.seq ?_
  refine WP.region ?_
  refine OW.st (st_mv rfl) rfl rfl ?_
  refine OW.st (st_mv rfl) rfl rfl ?_
  refine OW.nil ?_
  refine WP.block ?_
  refine WP.loop (α := Nat × List UInt8 × List Item) (fun (zz : Nat × List UInt8 × List Item) => match zz with | (i, r, acc) => eachP n l = eachR (n.toNat - i) r acc ∧ r.length + 2 * i ≤ l.length ∧ acc.length = i) (fun (zz : Nat × List UInt8 × List Item) => match zz with | (i, r, acc) => r.length) (fun (zz : Nat × List UInt8 × List Item) => match zz with | (i, r, acc) => [(0, .int .i64 (n : Int)), (1, .func (.func 68) #[] ⟨[.pointer (some ⟨0, 0, none⟩)]⟩), (8, .int .i64 (n : Int)), (9, .int .i64 ((i : Nat) : Int)), (4, .slice (some ⟨2, 0, some 5⟩) (i) 0)]) (fun (zz : Nat × List UInt8 × List Item) => match zz with | (i, r, acc) => ⟨[(2, .cells ⟨rowV kI (acc)⟩ 35 (0, 0)), (1, .cells ⟨[str (r)]⟩ 133 (0, 0)), (0, .cells ⟨[.pointer (some ⟨1, 0, none⟩)]⟩ 89 (0, 0))], 3, [], [], []⟩) ((0, l, [])) ?_ ?_ ?_
  · exact ⟨rfl, by omega, rfl⟩
  · skip
    exact Rnm.mk' [(1, 1), (0, 0)] rfl rfl rfl rfl (.cons rfl (.flat rfl) (.cons rfl (.fnL ((.cons (.ptr rfl) .nil))) (.cons rfl (.flat rfl) (.cons rfl (.flat rfl) (.cons rfl (.nilE (by first | rfl | (rw [hi] <;> rfl) | omega | (simp; done))) .nil))))) (.ghost rfl rfl (.cons rfl rfl (.cells (.cons (.flat rfl) .nil)) (.cons rfl rfl (.cells (.cons (.ptr rfl) .nil)) .nil))) .nil
  intro zz hp
  obtain ⟨i, r, acc⟩ := zz
  dsimp only at hp ⊢
  obtain ⟨hp1, hp2, hp3⟩ := hp
  refine WP.seq ?_
  refine WP.region ?_
  refine OW.st (st_lt rfl rfl) rfl rfl ?_
  refine OW.nil ?_
  refine WP.seq ?_
  refine WP.condD rfl (fun h1 => ?_) (fun h1 => ?_)
  · skip
    refine WP.skip ?_
    refine WP.seq ?_
    refine WP.block ?_
    refine WP.seq ?_
    refine WP.region ?_
    refine OW.st (st_mv rfl) rfl rfl ?_
    refine OW.st (Stp.call Hv.ok rfl rfl rfl rfl rfl (ofone_R rfl rfl rfl (by decide) (by omega))) rfl rfl ?_
    refine OW.st (st_mv rfl) rfl rfl ?_
    refine OW.st (st_ex rfl rfl) rfl rfl ?_
    refine OW.st (st_ex rfl rfl) rfl rfl ?_
    refine OW.st (st_al y35 rfl rfl rfl) rfl rfl ?_
    refine OW.st0 (st_st y35 rfl rfl rfl rfl rfl rfl (Nat.le_of_ble_eq_true rfl) rfl rfl) rfl ?_
    refine OW.st (st_as rfl) rfl rfl ?_
    refine OW.nil ?_
    refine WP.seq ?_
    refine WP.seq ?_
    refine WP.region ?_
    refine OW.st (st_mv rfl) rfl rfl ?_
    refine OW.st (st_ne rfl rfl) rfl rfl ?_
    refine OW.nil ?_
    refine WP.condD rfl (fun h2 => ?_) (fun h2 => ?_)
    · skip
      have hi := each_bad hp1 (by omega) (by omega)
      refine WP.seq ?_
      refine WP.region ?_
      refine OW.st (st_mv rfl) rfl rfl ?_
      refine OW.st (st_as rfl) rfl rfl ?_
      refine OW.st (st_as rfl) rfl rfl ?_
      refine OW.nil ?_
      refine WP.ret ?_
      exact FinQ.ret (v0 := .tuple ⟨[.slice (some ⟨2, 0, some 5⟩) ((eachP n l).1.length) 0, .int .i64 (((eachP n l).2.1 : Nat) : Int)]⟩) (s0 := ⟨[(2, .cells ⟨rowV kI ((eachP n l).1)⟩ 35 (0, 0)), (1, .cells ⟨[str ((eachP n l).2.2)]⟩ 133 (0, 0)), (0, .cells ⟨[.pointer (some ⟨1, 0, none⟩)]⟩ 89 (0, 0))], 3, [], [], []⟩) rfl rfl rfl rfl (Rnm.mk' [(1, 1), (0, 0)] rfl rfl rfl rfl (.cons rfl (.tupleL ((.cons (.nilE (by first | rfl | (rw [hi] <;> rfl) | omega | (simp; done))) (.cons (.of_eq (by rw [hi] <;> rfl) rfl) .nil)))) .nil) (.ghost rfl rfl (.cons rfl rfl (.cells (.cons (.of_eq (by rw [hi] <;> rfl) rfl) .nil)) (.cons rfl rfl (.cells (.cons (.ptr rfl) .nil)) .nil))) .nil) ⟨rfl, rfl⟩
    · skip
      replace h2 := Decidable.not_not.1 h2
      refine WP.skip ?_
      refine WP.region ?_
      refine OW.st (st_mv rfl) rfl rfl ?_
      refine OW.st (st_lA y35 rfl rfl rfl rfl rfl) rfl rfl ?_
      refine OW.st (st_bs1 y22 y35 rfl rfl rfl rfl rfl (by decide) (by decide) rfl rfl rfl) rfl rfl ?_
      refine OW.st (st_app (z := 5) (c1 := rowV kI (acc ++ [(itemP r).1])) y22 y35 rfl rfl rfl (by decide) rfl rfl (apd_row y22 rfl rfl rfl rfl) rfl (by rw [rowV_length]; omega) (ones_rowV _) (by first | omega | (simp; omega)) (rowV_push _ _) rfl (fun h => nomatch h)) rfl rfl ?_
      refine OW.st (st_as rfl) rfl rfl ?_
      refine OW.nil ?_
      refine WP.region ?_
      refine OW.st (st_add (c := ((i + 1 : Nat) : Int)) rfl rfl (by unfold sm; omega)) rfl rfl ?_
      refine OW.st (st_mv rfl) rfl rfl ?_
      refine OW.nil ?_
      refine ⟨((i + 1), (itemP r).2.2, acc ++ [(itemP r).1]), by dsimp only; exact ⟨each_step hp1 (by omega) (by omega), by have := itemP_two (l := r) (by omega); omega, by simp; omega⟩, by dsimp only; exact (by have := itemP_two (l := r) (by omega); omega), ?_⟩
      exact Rnm.mk' [(2, 5), (1, 1), (0, 0)] rfl rfl rfl rfl (.cons rfl (.flat rfl) (.cons rfl (.fnL ((.cons (.ptr rfl) .nil))) (.cons rfl (.flat rfl) (.cons rfl (.flat rfl) (.cons rfl (.sliceE rfl (by first | rfl | omega | (rw [hi] <;> rfl) | (simp; done) | (simp; omega))) .nil))))) (.cons rfl rfl (.cells (.of_eq rfl (flats_rowV _))) (.cons rfl rfl (.cells (.cons (.flat rfl) .nil)) (.cons rfl rfl (.cells (.cons (.ptr rfl) .nil)) .nil))) .nil
  · skip
    have hi := each_end hp1 (by omega)
    subst hp3
    refine WP.exit ?_
    refine WP.seq ?_
    refine WP.region ?_
    refine OW.st (st_mv rfl) rfl rfl ?_
    refine OW.st (st_as rfl) rfl rfl ?_
    refine OW.st (st_as rfl) rfl rfl ?_
    refine OW.nil ?_
    refine WP.ret ?_
    exact FinQ.ret (v0 := .tuple ⟨[.slice (some ⟨2, 0, some 5⟩) ((eachP n l).1.length) 0, .int .i64 (((eachP n l).2.1 : Nat) : Int)]⟩) (s0 := ⟨[(2, .cells ⟨rowV kI ((eachP n l).1)⟩ 35 (0, 0)), (1, .cells ⟨[str ((eachP n l).2.2)]⟩ 133 (0, 0)), (0, .cells ⟨[.pointer (some ⟨1, 0, none⟩)]⟩ 89 (0, 0))], 3, [], [], []⟩) rfl rfl rfl rfl (Rnm.mk' [(2, 2), (1, 1), (0, 0)] rfl rfl rfl rfl (.cons rfl (.tupleL ((.cons (.sliceE rfl (by first | rfl | omega | (rw [hi] <;> rfl) | (simp; done) | (simp; omega))) (.cons (.of_eq (by rw [hi] <;> rfl) rfl) .nil)))) .nil) (.cons rfl rfl (.cells (.of_eq (congrArg (rowV _) (by rw [hi])) (flats_rowV _))) (.cons rfl rfl (.cells (.cons (.of_eq (by rw [hi] <;> rfl) rfl) .nil)) (.cons rfl rfl (.cells (.cons (.ptr rfl) .nil)) .nil))) .nil) ⟨rfl, rfl⟩
theorem each_R {h h' : List (Nat × Obj)} {nx a0 a1 : Nat} {n : Int} {l : List UInt8}  (o0 : aget h a0 = some (.cells ⟨[.pointer (some ⟨a1, 0, none⟩)]⟩ 89 (0, 0))) (o1 : aget h a1 = some (.cells ⟨[str (l)]⟩ 133 (0, 0))) (u : aput h a1 (.cells ⟨[str ((eachP n l).2.2)]⟩ 133 (0, 0)) = h') (e01 : a0 ≠ a1) (hl : l.length ≤ 1000000) : CallR cfg 67 [.int .i64 (n : Int), .func (.func 68) #[] ⟨[.pointer (some ⟨a0, 0, none⟩)]⟩] ⟨h, nx, [], [], []⟩ (.tuple ⟨[.slice (some ⟨nx, 0, some 5⟩) ((eachP n l).1.length) 0, .int .i64 (((eachP n l).2.1 : Nat) : Int)]⟩) ⟨(nx, .cells ⟨rowV kI ((eachP n l).1)⟩ 35 (0, 0)) :: h', nx + 1, [a0, a1], [a1], []⟩ :=
  (CallR.lay2 (m := 1) (news0 := [(2 + 0, .cells ⟨rowV kI ((eachP n l).1)⟩ 35 (0, 0))]) (news := [(nx + 0, .cells ⟨rowV kI ((eachP n l).1)⟩ 35 (0, 0))]) (b0 := 1) [(0, a0), (1, a1)] (each_W hl) rfl rfl ((.cons (.flat rfl) (.cons (.fnL ((.cons (.ptr rfl) .nil))) .nil))) ((.cons rfl rfl o0 (.cells (.cons (.ptr rfl) .nil)) (by intro c hc; simp only [aget_cons, aget_nil] at hc; (repeat' split at hc) <;> first | exact absurd (Option.some.inj hc).symm e01 | cases hc) (.cons rfl rfl o1 (.cells (.cons (.flat rfl) .nil)) (fun c hc => by cases hc) .nil))) (.tupleL ((.cons (.slice rfl) (.cons (.flat rfl) .nil)))) ((.cons (.cells (.flats (flats_rowV _))) .nil)) rfl rfl (fun b hb => by simp only [aget_cons, aget_nil, if_neg hb]) (.cells (.cons (.flat rfl) .nil)) u)
theorem lof_W  {p : Pg} (hb : p.body.length ≤ 1000000) :
    CW cfg 18 [.agg ⟨[.int .i64 (p.kind : Int), .int .i64 (p.count : Int), .int .u32 ((p.page : Nat) : Int), .int .u32 ((p.link : Nat) : Int), .int .u64 ((p.tx : Nat) : Int), str (p.body)]⟩] ⟨[], 0, [], [], []⟩ fun v' s' => v' = .tuple ⟨[.slice (some ⟨0, 0, some 5⟩) ((ofP p).1.length) 0, .int .i64 (((ofP p).2 : Nat) : Int)]⟩ ∧ s' = ⟨[(0, .cells ⟨rowV kI ((ofP p).1)⟩ 35 (0, 0))], 1, [], [], []⟩ := by
  refine CW.of_WP cfg_ok g18 rfl rfl rfl ?_
  refine WP.seq ?_
  refine WP.region ?_
  refine OW.st (st_bx rfl rfl) rfl rfl ?_
  refine OW.st (st_as rfl) rfl rfl ?_
  refine OW.st (st_as rfl) rfl rfl ?_
  refine OW.nil ?_
  refine WP.seq ?_
  refine WP.region ?_
  refine OW.st (st_fa y27 rfl rfl y9 rfl) rfl rfl ?_
  refine OW.st (st_ld y9 rfl rfl rfl rfl) rfl rfl ?_
  refine OW.st (Stp.call Hv.ok rfl rfl rfl rfl rfl (new_R)) rfl rfl ?_
  refine OW.st (st_al y89 rfl rfl rfl) rfl rfl ?_
  refine OW.st0 (st_st y89 rfl rfl rfl rfl rfl rfl (Nat.le_of_ble_eq_true rfl) rfl rfl) rfl ?_
  refine OW.nil ?_
  refine WP.seq ?_
  refine WP.region ?_
  refine OW.st (st_fa y27 rfl rfl y3 rfl) rfl rfl ?_
  refine OW.st (st_ld y3 rfl rfl rfl rfl) rfl rfl ?_
  refine OW.st (st_mf rfl) rfl rfl ?_
  refine OW.st (Stp.call Hv.ok rfl rfl rfl rfl rfl (each_R rfl rfl rfl (by decide) (by omega))) rfl rfl ?_
  refine OW.st (st_mv rfl) rfl rfl ?_
  refine OW.st (st_ex rfl rfl) rfl rfl ?_
  refine OW.st (st_ex rfl rfl) rfl rfl ?_
  refine OW.st (st_as rfl) rfl rfl ?_
  refine OW.st (st_as rfl) rfl rfl ?_
  refine OW.nil ?_
  refine WP.seq ?_
  refine WP.seq ?_
  refine WP.region ?_
  refine OW.st (st_mv rfl) rfl rfl ?_
  refine OW.st (st_ne rfl rfl) rfl rfl ?_
  refine OW.nil ?_
  refine WP.condD rfl (fun h1 => ?_) (fun h1 => ?_)
  · skip
    refine WP.seq ?_
    refine WP.region ?_
    refine OW.st (st_as rfl) rfl rfl ?_
    refine OW.st (st_as rfl) rfl rfl ?_
    refine OW.nil ?_
    refine WP.ret ?_
    have hi : ofP p = ([], 4) := by unfold ofP; (repeat' split) <;> first | rfl | (exfalso; simp_all; done) | (exfalso; omega)
    exact FinQ.ret (v0 := .tuple ⟨[.slice (some ⟨0, 0, some 5⟩) ((ofP p).1.length) 0, .int .i64 (((ofP p).2 : Nat) : Int)]⟩) (s0 := ⟨[(0, .cells ⟨rowV kI ((ofP p).1)⟩ 35 (0, 0))], 1, [], [], []⟩) rfl rfl rfl rfl (Rnm.mk' [] rfl rfl rfl rfl (.cons rfl (.tupleL ((.cons (.nilE (by first | rfl | (rw [hi] <;> rfl) | omega | (simp; done))) (.cons (.of_eq (by rw [hi] <;> rfl) rfl) .nil)))) .nil) (.ghost rfl rfl .nil) .nil) ⟨rfl, rfl⟩
  · skip
    replace h1 := Decidable.not_not.1 h1
    refine WP.skip ?_
    refine WP.seq ?_
    refine WP.seq ?_
    refine WP.region ?_
    refine OW.st (st_fa y27 rfl rfl y9 rfl) rfl rfl ?_
    refine OW.st (st_ld y9 rfl rfl rfl rfl) rfl rfl ?_
    refine OW.st (st_lenS y9 rfl) rfl rfl ?_
    refine OW.st (st_add (c := (((List.length (p.body)) + 24 : Nat) : Int)) rfl rfl (by unfold sm; omega)) rfl rfl ?_
    refine OW.st (st_fa y27 rfl rfl y24 rfl) rfl rfl ?_
    refine OW.st (st_ld y24 rfl rfl rfl rfl) rfl rfl ?_
    refine OW.st (st_fa y27 rfl rfl y25 rfl) rfl rfl ?_
    refine OW.st (st_ld y25 rfl rfl rfl rfl) rfl rfl ?_
    refine OW.st (st_mv rfl) rfl rfl ?_
    refine OW.st (Stp.call Hv.ok rfl rfl rfl rfl rfl (lpage_R (q0 := 0) (l := (eachP p.count p.body).1) (by first | rfl | (simp; done) | (simp; omega)) rfl (by have := eachP_len p.count p.body; omega))) rfl rfl ?_
    refine OW.st (st_mv rfl) rfl rfl ?_
    refine OW.st (st_ex rfl rfl) rfl rfl ?_
    refine OW.st (st_ex rfl rfl) rfl rfl ?_
    refine OW.st (st_al y27 rfl rfl rfl) rfl rfl ?_
    refine OW.st0 (st_st y27 rfl rfl rfl rfl rfl rfl (Nat.le_of_ble_eq_true rfl) rfl rfl) rfl ?_
    refine OW.st (st_as rfl) rfl rfl ?_
    refine OW.nil ?_
    refine WP.seq ?_
    refine WP.region ?_
    refine OW.st (st_mv rfl) rfl rfl ?_
    refine OW.stB (st_ne rfl rfl) rfl rfl (fun h2 => ?_) (fun h2 => ?_)
    · skip
      refine OW.st (st_mv rfl) rfl rfl ?_
      refine OW.st (Stp.no rfl rfl) rfl rfl ?_
      refine OW.st (Stp.no rfl rfl) rfl rfl ?_
      refine OW.st (Stp.no rfl rfl) rfl rfl ?_
      refine OW.st (st_pkT rfl rfl) rfl rfl ?_
      refine OW.nil ?_
      refine WP.condT rfl ?_
      refine WP.seq ?_
      refine WP.region ?_
      refine OW.st (st_as rfl) rfl rfl ?_
      refine OW.st (st_as rfl) rfl rfl ?_
      refine OW.nil ?_
      refine WP.ret ?_
      have hi : ofP p = ([], 4) := by unfold ofP; (repeat' split) <;> first | rfl | (exfalso; simp_all; done) | (exfalso; omega)
      exact FinQ.ret (v0 := .tuple ⟨[.slice (some ⟨0, 0, some 5⟩) ((ofP p).1.length) 0, .int .i64 (((ofP p).2 : Nat) : Int)]⟩) (s0 := ⟨[(0, .cells ⟨rowV kI ((ofP p).1)⟩ 35 (0, 0))], 1, [], [], []⟩) rfl rfl rfl rfl (Rnm.mk' [] rfl rfl rfl rfl (.cons rfl (.tupleL ((.cons (.nilE (by first | rfl | (rw [hi] <;> rfl) | omega | (simp; done))) (.cons (.of_eq (by rw [hi] <;> rfl) rfl) .nil)))) .nil) (.ghost rfl rfl .nil) .nil) ⟨rfl, rfl⟩
    · skip
      replace h2 := Decidable.not_not.1 h2
      refine OW.st (st_mv rfl) rfl rfl ?_
      refine OW.st (Stp.yes rfl rfl (st_lA y27 rfl rfl rfl rfl rfl)) rfl rfl ?_
      refine OW.st (Stp.yes rfl rfl (st_lA y27 rfl rfl rfl rfl rfl)) rfl rfl ?_
      refine OW.st (Stp.yes rfl rfl (st_neA rfl rfl rfl rfl (by kernel_rfl) (eqt27 (lpg ((((List.length (p.body)) + 24 : Nat) : Int)) p.page p.tx ((eachP p.count p.body).1)) p))) rfl rfl ?_
      refine OW.st (st_pkF rfl rfl) rfl rfl ?_
      refine OW.nil ?_
      refine WP.cond rfl (fun h3 => ?_) (fun h3 => ?_)
      · skip
        refine WP.seq ?_
        refine WP.region ?_
        refine OW.st (st_as rfl) rfl rfl ?_
        refine OW.st (st_as rfl) rfl rfl ?_
        refine OW.nil ?_
        refine WP.ret ?_
        have hi : ofP p = ([], 4) := by unfold ofP; (repeat' split) <;> first | rfl | (exfalso; simp_all; done) | (exfalso; omega)
        exact FinQ.ret (v0 := .tuple ⟨[.slice (some ⟨0, 0, some 5⟩) ((ofP p).1.length) 0, .int .i64 (((ofP p).2 : Nat) : Int)]⟩) (s0 := ⟨[(0, .cells ⟨rowV kI ((ofP p).1)⟩ 35 (0, 0))], 1, [], [], []⟩) rfl rfl rfl rfl (Rnm.mk' [] rfl rfl rfl rfl (.cons rfl (.tupleL ((.cons (.nilE (by first | rfl | (rw [hi] <;> rfl) | omega | (simp; done))) (.cons (.of_eq (by rw [hi] <;> rfl) rfl) .nil)))) .nil) (.ghost rfl rfl .nil) .nil) ⟨rfl, rfl⟩
      · skip
        refine WP.skip ?_
        refine WP.seq ?_
        refine WP.region ?_
        refine OW.st (st_mv rfl) rfl rfl ?_
        refine OW.st (st_as rfl) rfl rfl ?_
        refine OW.st (st_as rfl) rfl rfl ?_
        refine OW.nil ?_
        refine WP.ret ?_
        have hi : ofP p = ((eachP p.count p.body).1, 0) := by unfold ofP; (repeat' split) <;> first | rfl | (exfalso; simp_all; done) | (exfalso; omega)
        exact FinQ.ret (v0 := .tuple ⟨[.slice (some ⟨0, 0, some 5⟩) ((ofP p).1.length) 0, .int .i64 (((ofP p).2 : Nat) : Int)]⟩) (s0 := ⟨[(0, .cells ⟨rowV kI ((ofP p).1)⟩ 35 (0, 0))], 1, [], [], []⟩) rfl rfl rfl rfl (Rnm.mk' [(0, 3)] rfl rfl rfl rfl (.cons rfl (.tupleL ((.cons (.sliceE rfl (by first | rfl | omega | (rw [hi] <;> rfl) | (simp; done) | (simp; omega))) (.cons (.of_eq (by rw [hi] <;> rfl) rfl) .nil)))) .nil) (.cons rfl rfl (.cells (.of_eq (congrArg (rowV _) (by rw [hi])) (flats_rowV _))) .nil) .nil) ⟨rfl, rfl⟩
theorem lof_R {h : List (Nat × Obj)} {nx  : Nat} {p : Pg}    (hb : p.body.length ≤ 1000000) : CallR cfg 18 [.agg ⟨[.int .i64 (p.kind : Int), .int .i64 (p.count : Int), .int .u32 ((p.page : Nat) : Int), .int .u32 ((p.link : Nat) : Int), .int .u64 ((p.tx : Nat) : Int), str (p.body)]⟩] ⟨h, nx, [], [], []⟩ (.tuple ⟨[.slice (some ⟨nx, 0, some 5⟩) ((ofP p).1.length) 0, .int .i64 (((ofP p).2 : Nat) : Int)]⟩) ⟨(nx, .cells ⟨rowV kI ((ofP p).1)⟩ 35 (0, 0)) :: h, nx + 1, [], [], []⟩ :=
  (CallR.lay (m := 1) (news0 := [(0 + 0, .cells ⟨rowV kI ((ofP p).1)⟩ 35 (0, 0))]) (news := [(nx + 0, .cells ⟨rowV kI ((ofP p).1)⟩ 35 (0, 0))]) [] (lof_W hb) rfl rfl ((.cons (.aggL ((.cons (.flat rfl) (.cons (.flat rfl) (.cons (.flat rfl) (.cons (.flat rfl) (.cons (.flat rfl) (.cons (.flat rfl) .nil)))))))) .nil)) (.nil) (.tupleL ((.cons (.slice rfl) (.cons (.flat rfl) .nil)))) ((.cons (.cells (.flats (flats_rowV _))) .nil)))
end Go.Ev
