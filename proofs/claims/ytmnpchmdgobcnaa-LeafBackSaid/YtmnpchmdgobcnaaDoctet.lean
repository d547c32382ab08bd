/- Words of my own, printed by a program of mine. -/
import Derived.Test.YtmnpchmdgobcnaaDT
set_option linter.unusedVariables false
set_option linter.unusedSimpArgs false
set_option maxRecDepth 8000
set_option maxHeartbeats 4000000
namespace Go.Ev
open Go.RowKit Go.Proofs
theorem put_W  {l : List UInt8} {n k : Nat} (hl : l.length ≤ 1000000) (hk : 1 ≤ k ∧ k ≤ 8) :
    CW cfg 59 [.slice (some ⟨0, 0, some 1⟩) (l.length) 0, .int .u64 ((n : Nat) : Int), .int .i64 ((k : Nat) : Int)] ⟨[(0, .cells ⟨rowV kB (l)⟩ 5 (0, 0))], 1, [], [], []⟩ fun v' s' => v' = .slice (some ⟨1, 0, some 1⟩) (l.length + k) 0 ∧ s' = ⟨[(1, .cells ⟨rowV kB (l ++ le n k)⟩ 5 (0, 0)), (0, .cells ⟨rowV kB (l)⟩ 5 (0, 0))], 2, [], [], []⟩ := by
  refine CW.of_WP cfg_ok g59 rfl rfl rfl ?_
  refine WP.seq ?_
  refine WP.region ?_
  refine OW.st (st_as rfl) rfl rfl ?_
  refine OW.nil ?_
  refine WP.seq ?_
  refine WP.region ?_
  refine OW.st (st_mv rfl) rfl rfl ?_
  refine OW.st (st_lenL y81 rfl) rfl rfl ?_
  refine OW.st (st_add (c := ((l.length + 8 : Nat) : Int)) rfl rfl (by unfold sm; omega)) rfl rfl ?_
  refine OW.st (st_ms0 (r := rowV kB []) y81 y5 rfl rfl rfl rfl rfl (by decide) rfl rfl (by omega) rfl) rfl rfl ?_
  refine OW.st (st_mv rfl) rfl rfl ?_
  refine OW.st (st_app (z := 1) (c1 := rowV kB (l)) y81 y5 rfl rfl rfl (by decide) rfl rfl (apd_rowV y81 rfl (by simp [le_length])) rfl (by simp [rowV_length, le_length]) (ones_rowV _) (by omega) rfl rfl (rowV_empty (by simp [le_length]))) rfl rfl ?_
  refine OW.st (st_as rfl) rfl rfl ?_
  refine OW.nil ?_
  refine WP.seq ?_
  refine WP.seq ?_
  refine WP.region ?_
  refine OW.st (st_mv rfl) rfl rfl ?_
  refine OW.stB (st_lt rfl rfl) rfl rfl (fun h1 => absurd h1 (by omega)) (fun h1 => ?_)
  refine OW.st (st_mv rfl) rfl rfl ?_
  refine OW.st (Stp.yes rfl rfl (st_mv rfl)) rfl rfl ?_
  refine OW.stB (Stp.yes rfl rfl (st_gt rfl rfl)) rfl rfl (fun h2 => absurd h2 (by omega)) (fun h2 => ?_)
  refine OW.st (st_pkF rfl rfl) rfl rfl ?_
  refine OW.nil ?_
  refine WP.condF rfl ?_
  refine WP.skip ?_
  refine WP.seq ?_
  refine WP.seq ?_
  refine WP.region ?_
  refine OW.st (st_mv rfl) rfl rfl ?_
  refine OW.st (st_mv rfl) rfl rfl ?_
  refine OW.nil ?_
  refine WP.block ?_
  refine WP.loop (α := Nat) (fun (i : Nat) => i ≤ k) (fun (i : Nat) => k - i) (fun (i : Nat) => [(1, .int .u64 ((n : Nat) : Int)), (22, .int .i64 ((k : Nat) : Int)), (23, .int .i64 ((i : Nat) : Int)), (7, .slice (some ⟨2, 0, some 1⟩) (l.length + i) 0)]) (fun (i : Nat) => ⟨[(2, .cells ⟨rowV kB (l ++ le n i)⟩ 5 (0, 0)), (0, .cells ⟨rowV kB (l)⟩ 5 (0, 0))], 3, [], [], []⟩) (0) ?_ ?_ ?_
  · omega
  · skip
    exact Rnm.mk' [(2, 2), (0, 0)] rfl rfl rfl rfl (.cons rfl (.flat rfl) (.cons rfl (.flat rfl) (.cons rfl (.flat rfl) (.cons rfl (.sliceE rfl (by first | rfl | omega | (simp; done) | (simp; omega))) .nil)))) (.cons rfl rfl (.cells (.of_eq (congrArg (rowV _) (by simp [le_zero])) (flats_rowV _))) (.cons rfl rfl (.cells (.of_eq rfl (flats_rowV _))) .nil)) .nil
  intro i hp
  refine WP.seq ?_
  refine WP.region ?_
  refine OW.st (st_lt rfl rfl) rfl rfl ?_
  refine OW.nil ?_
  refine WP.seq ?_
  refine WP.condD rfl (fun h3 => ?_) (fun h3 => ?_)
  · skip
    refine WP.skip ?_
    refine WP.seq ?_
    refine WP.block ?_
    refine WP.seq ?_
    refine WP.region ?_
    refine OW.st (st_mv rfl) rfl rfl ?_
    refine OW.st (st_as rfl) rfl rfl ?_
    refine OW.nil ?_
    refine WP.region ?_
    refine OW.st (st_mv rfl) rfl rfl ?_
    refine OW.st (st_mv rfl) rfl rfl ?_
    refine OW.st (st_mv rfl) rfl rfl ?_
    refine OW.st (st_mul (c := ((8 * i : Nat) : Int)) rfl rfl (by unfold sm; omega)) rfl rfl ?_
    refine OW.st (st_shr rfl rfl (by show 8 * i ≤ 64; omega)) rfl rfl ?_
    refine OW.st (st_cv y25 y5 rfl) rfl rfl ?_
    refine OW.st (st_bs1 y81 y5 rfl rfl rfl rfl rfl (by decide) (by decide) rfl rfl rfl) rfl rfl ?_
    refine OW.st (st_app (z := 1) (c1 := rowV kB (l ++ le n (i + 1))) y81 y5 rfl rfl rfl (by decide) rfl rfl (apd_row y81 rfl rfl rfl rfl) rfl (by simp [rowV_length, le_length]) (ones_rowV _) (by first | omega | (simp [le_length]; omega)) (by rw [le_succ, ← List.append_assoc]; exact push_of (congrArg (fun v => [v]) (byte_of n i))) rfl (fun h => nomatch h)) rfl rfl ?_
    refine OW.st (st_as rfl) rfl rfl ?_
    refine OW.nil ?_
    refine WP.region ?_
    refine OW.st (st_add (c := ((i + 1 : Nat) : Int)) rfl rfl (by unfold sm; omega)) rfl rfl ?_
    refine OW.st (st_mv rfl) rfl rfl ?_
    refine OW.nil ?_
    refine ⟨i + 1, by omega, by omega, ?_⟩
    exact Rnm.mk' [(2, 4), (0, 0)] rfl rfl rfl rfl (.cons rfl (.flat rfl) (.cons rfl (.flat rfl) (.cons rfl (.flat rfl) (.cons rfl (.sliceE rfl (by first | rfl | omega | (simp; done) | (simp; omega))) .nil)))) (.cons rfl rfl (.cells (.of_eq rfl (flats_rowV _))) (.cons rfl rfl (.cells (.of_eq rfl (flats_rowV _))) .nil)) .nil
  · skip
    obtain rfl : k = i := by omega
    refine WP.exit ?_
    refine WP.seq ?_
    refine WP.region ?_
    refine OW.st (st_mv rfl) rfl rfl ?_
    refine OW.st (st_as rfl) rfl rfl ?_
    refine OW.nil ?_
    refine WP.ret ?_
    exact FinQ.ret (v0 := .slice (some ⟨1, 0, some 1⟩) (l.length + k) 0) (s0 := ⟨[(1, .cells ⟨rowV kB (l ++ le n k)⟩ 5 (0, 0)), (0, .cells ⟨rowV kB (l)⟩ 5 (0, 0))], 2, [], [], []⟩) rfl rfl rfl rfl (Rnm.mk' [(1, 2), (0, 0)] rfl rfl rfl rfl (.cons rfl (.sliceE rfl (by first | rfl | omega | (simp; done) | (simp; omega))) .nil) (.cons rfl rfl (.cells (.of_eq rfl (flats_rowV _))) (.cons rfl rfl (.cells (.of_eq rfl (flats_rowV _))) .nil)) .nil) ⟨rfl, rfl⟩
theorem put_R {h : List (Nat × Obj)} {nx a0 : Nat} {l : List UInt8} {n k : Nat} {m0 : Nat} (l0 : l.length = m0) (o0 : aget h a0 = some (.cells ⟨rowV kB (l)⟩ 5 (0, 0)))  (hl : l.length ≤ 1000000) (hk : 1 ≤ k ∧ k ≤ 8) : CallR cfg 59 [.slice (some ⟨a0, 0, some 1⟩) m0 0, .int .u64 ((n : Nat) : Int), .int .i64 ((k : Nat) : Int)] ⟨h, nx, [], [], []⟩ (.slice (some ⟨nx, 0, some 1⟩) (l.length + k) 0) ⟨(nx, .cells ⟨rowV kB (l ++ le n k)⟩ 5 (0, 0)) :: h, nx + 1, [a0], [], []⟩ :=
  by subst l0; exact (CallR.lay (m := 1) (news0 := [(1 + 0, .cells ⟨rowV kB (l ++ le n k)⟩ 5 (0, 0))]) (news := [(nx + 0, .cells ⟨rowV kB (l ++ le n k)⟩ 5 (0, 0))]) [(0, a0)] (put_W hl hk) rfl rfl ((.cons (.slice rfl) (.cons (.flat rfl) (.cons (.flat rfl) .nil)))) ((.cons rfl rfl o0 (.cells (.flats (flats_rowV _))) (fun c hc => by cases hc) .nil)) (.slice rfl) ((.cons (.cells (.flats (flats_rowV _))) .nil)))
theorem put_R1 {h : List (Nat × Obj)} {nx  : Nat} {n k : Nat}    (hl : (([] : List UInt8)).length ≤ 1000000) (hk : 1 ≤ k ∧ k ≤ 8) : CallR cfg 59 [.slice none 0 0, .int .u64 ((n : Nat) : Int), .int .i64 ((k : Nat) : Int)] ⟨h, nx, [], [], []⟩ (.slice (some ⟨nx, 0, some 1⟩) ((([] : List UInt8)).length + k) 0) ⟨(nx, .cells ⟨rowV kB ((([] : List UInt8)) ++ le n k)⟩ 5 (0, 0)) :: h, nx + 1, [], [], []⟩ :=
  (CallR.lay (m := 1) (news0 := [(1 + 0, .cells ⟨rowV kB ((([] : List UInt8)) ++ le n k)⟩ 5 (0, 0))]) (news := [(nx + 0, .cells ⟨rowV kB ((([] : List UInt8)) ++ le n k)⟩ 5 (0, 0))]) [] (put_W hl hk) rfl rfl ((.cons (.nilS rfl) (.cons (.flat rfl) (.cons (.flat rfl) .nil)))) (.nil) (.slice rfl) ((.cons (.cells (.flats (flats_rowV _))) .nil)))
theorem new_W  {l : List UInt8} :
    CW cfg 66 [str (l)] ⟨[], 0, [], [], []⟩ fun v' s' => v' = .pointer (some ⟨0, 0, none⟩) ∧ s' = ⟨[(0, .cells ⟨[str (l)]⟩ 133 (0, 0))], 1, [], [], []⟩ := by
  refine CW.of_WP cfg_ok g66 rfl rfl rfl ?_
  refine WP.seq ?_
  refine WP.region ?_
  refine OW.st (st_as rfl) rfl rfl ?_
  refine OW.nil ?_
  refine WP.seq ?_
  refine WP.region ?_
  refine OW.st (st_mv rfl) rfl rfl ?_
  refine OW.st (st_bdS y133 rfl rfl rfl rfl rfl rfl) rfl rfl ?_
  refine OW.st (st_bx rfl rfl) rfl rfl ?_
  refine OW.st (st_as rfl) rfl rfl ?_
  refine OW.nil ?_
  refine WP.ret ?_
  exact FinQ.ret (v0 := .pointer (some ⟨0, 0, none⟩)) (s0 := ⟨[(0, .cells ⟨[str (l)]⟩ 133 (0, 0))], 1, [], [], []⟩) rfl rfl rfl rfl (Rnm.mk' [(0, 0)] rfl rfl rfl rfl (.cons rfl (.ptr rfl) .nil) (.cons rfl rfl (.cells (.cons (.flat rfl) .nil)) .nil) .nil) ⟨rfl, rfl⟩
theorem new_R {h : List (Nat × Obj)} {nx  : Nat} {l : List UInt8}     : CallR cfg 66 [str (l)] ⟨h, nx, [], [], []⟩ (.pointer (some ⟨nx, 0, none⟩)) ⟨(nx, .cells ⟨[str (l)]⟩ 133 (0, 0)) :: h, nx + 1, [], [], []⟩ :=
  (CallR.lay (m := 1) (news0 := [(0 + 0, .cells ⟨[str (l)]⟩ 133 (0, 0))]) (news := [(nx + 0, .cells ⟨[str (l)]⟩ 133 (0, 0))]) [] (new_W) rfl rfl ((.cons (.flat rfl) .nil)) (.nil) (.ptr rfl) ((.cons (.cells (.cons (.flat rfl) .nil)) .nil)))
theorem take_W  {l : List UInt8} {k : Nat} (hl : l.length ≤ 1000000) (hk : k ≤ 1000) :
    CW cfg 139 [.pointer (some ⟨0, 0, none⟩), .int .i64 ((k : Nat) : Int)] ⟨[(0, .cells ⟨[str (l)]⟩ 133 (0, 0))], 1, [], [], []⟩ fun v' s' => v' = .tuple ⟨[str (takeV l k), .int .i64 ((takeE l k : Nat) : Int)]⟩ ∧ s' = ⟨[(0, .cells ⟨[str (takeR l k)]⟩ 133 (0, 0))], 1, [], [], []⟩ := by
  refine CW.of_WP cfg_ok g139 rfl rfl rfl ?_
  refine WP.seq ?_
  refine WP.region ?_
  refine OW.st (st_as rfl) rfl rfl ?_
  refine OW.st (st_as rfl) rfl rfl ?_
  refine OW.nil ?_
  refine WP.seq ?_
  refine WP.seq ?_
  refine WP.region ?_
  refine OW.st (st_mv rfl) rfl rfl ?_
  refine OW.st (st_mv rfl) rfl rfl ?_
  refine OW.st (st_nc rfl) rfl rfl ?_
  refine OW.st (st_fa y133 rfl rfl y9 rfl) rfl rfl ?_
  refine OW.st (st_ld y9 rfl rfl rfl rfl) rfl rfl ?_
  refine OW.st (st_lenS y9 rfl) rfl rfl ?_
  refine OW.st (st_gt rfl rfl) rfl rfl ?_
  refine OW.nil ?_
  refine WP.condD rfl (fun h1 => ?_) (fun h1 => ?_)
  · skip
    refine WP.seq ?_
    refine WP.region ?_
    refine OW.st (st_as rfl) rfl rfl ?_
    refine OW.st (st_as rfl) rfl rfl ?_
    refine OW.nil ?_
    refine WP.ret ?_
    exact FinQ.ret (v0 := .tuple ⟨[str (takeV l k), .int .i64 ((takeE l k : Nat) : Int)]⟩) (s0 := ⟨[(0, .cells ⟨[str (takeR l k)]⟩ 133 (0, 0))], 1, [], [], []⟩) rfl rfl rfl rfl (Rnm.mk' [(0, 0)] rfl rfl rfl rfl (.cons rfl (.tupleL ((.cons (.of_eq (by first | rfl | (simp [takeV, takeE, takeR, show ¬ k ≤ l.length by omega]; done) | (simp [takeV, takeE, takeR, show k ≤ l.length by omega]; done)) rfl) (.cons (.of_eq (by first | rfl | (simp [takeV, takeE, takeR, show ¬ k ≤ l.length by omega]; done) | (simp [takeV, takeE, takeR, show k ≤ l.length by omega]; done)) rfl) .nil)))) .nil) (.cons rfl rfl (.cells (.cons (.of_eq (by first | rfl | (simp [takeV, takeE, takeR, show ¬ k ≤ l.length by omega]; done) | (simp [takeV, takeE, takeR, show k ≤ l.length by omega]; done)) rfl) .nil)) .nil) .nil) ⟨rfl, rfl⟩
  · skip
    refine WP.skip ?_
    refine WP.seq ?_
    refine WP.region ?_
    refine OW.st (st_mv rfl) rfl rfl ?_
    refine OW.st (st_nc rfl) rfl rfl ?_
    refine OW.st (st_fa y133 rfl rfl y9 rfl) rfl rfl ?_
    refine OW.st (st_ld y9 rfl rfl rfl rfl) rfl rfl ?_
    refine OW.st (st_mv rfl) rfl rfl ?_
    refine OW.st (st_cutT y9 rfl rfl (by omega)) rfl rfl ?_
    refine OW.st (st_as rfl) rfl rfl ?_
    refine OW.nil ?_
    refine WP.seq ?_
    refine WP.region ?_
    refine OW.st (st_mv rfl) rfl rfl ?_
    refine OW.st (st_mv rfl) rfl rfl ?_
    refine OW.st (st_nc rfl) rfl rfl ?_
    refine OW.st (st_fa y133 rfl rfl y9 rfl) rfl rfl ?_
    refine OW.st (st_ld y9 rfl rfl rfl rfl) rfl rfl ?_
    refine OW.st (st_mv rfl) rfl rfl ?_
    refine OW.st (st_cutF y9 rfl rfl (by omega)) rfl rfl ?_
    refine OW.st (st_nc rfl) rfl rfl ?_
    refine OW.st (st_fa y133 rfl rfl y9 rfl) rfl rfl ?_
    refine OW.st0 (st_st y9 rfl rfl rfl rfl rfl rfl (Nat.le_of_ble_eq_true rfl) rfl rfl) rfl ?_
    refine OW.nil ?_
    refine WP.seq ?_
    refine WP.region ?_
    refine OW.st (st_mv rfl) rfl rfl ?_
    refine OW.st (st_as rfl) rfl rfl ?_
    refine OW.st (st_as rfl) rfl rfl ?_
    refine OW.nil ?_
    refine WP.ret ?_
    exact FinQ.ret (v0 := .tuple ⟨[str (takeV l k), .int .i64 ((takeE l k : Nat) : Int)]⟩) (s0 := ⟨[(0, .cells ⟨[str (takeR l k)]⟩ 133 (0, 0))], 1, [], [], []⟩) rfl rfl rfl rfl (Rnm.mk' [(0, 0)] rfl rfl rfl rfl (.cons rfl (.tupleL ((.cons (.of_eq (by first | rfl | (simp [takeV, takeE, takeR, show ¬ k ≤ l.length by omega]; done) | (simp [takeV, takeE, takeR, show k ≤ l.length by omega]; done)) rfl) (.cons (.of_eq (by first | rfl | (simp [takeV, takeE, takeR, show ¬ k ≤ l.length by omega]; done) | (simp [takeV, takeE, takeR, show k ≤ l.length by omega]; done)) rfl) .nil)))) .nil) (.cons rfl rfl (.cells (.cons (.of_eq (by first | rfl | (simp [takeV, takeE, takeR, show ¬ k ≤ l.length by omega]; done) | (simp [takeV, takeE, takeR, show k ≤ l.length by omega]; done)) rfl) .nil)) .nil) .nil) ⟨rfl, rfl⟩
theorem take_R {h h' : List (Nat × Obj)} {nx a0 : Nat} {l : List UInt8} {k : Nat}  (o0 : aget h a0 = some (.cells ⟨[str (l)]⟩ 133 (0, 0))) (u : aput h a0 (.cells ⟨[str (takeR l k)]⟩ 133 (0, 0)) = h')  (hl : l.length ≤ 1000000) (hk : k ≤ 1000) : CallR cfg 139 [.pointer (some ⟨a0, 0, none⟩), .int .i64 ((k : Nat) : Int)] ⟨h, nx, [], [], []⟩ (.tuple ⟨[str (takeV l k), .int .i64 ((takeE l k : Nat) : Int)]⟩) ⟨h', nx + 0, [a0], [a0], []⟩ :=
  (CallR.lay2 (m := 0) (news0 := []) (news := []) (b0 := 0) [(0, a0)] (take_W hl hk) rfl rfl ((.cons (.ptr rfl) (.cons (.flat rfl) .nil))) ((.cons rfl rfl o0 (.cells (.cons (.flat rfl) .nil)) (fun c hc => by cases hc) .nil)) (.tupleL ((.cons (.flat rfl) (.cons (.flat rfl) .nil)))) (.nil) rfl rfl (fun b hb => by simp only [aget_cons, aget_nil, if_neg hb]) (.cells (.cons (.flat rfl) .nil)) u)
theorem number_W  {l : List UInt8} {k : Nat} (hl : l.length ≤ 1000000) (hk : 1 ≤ k ∧ k ≤ 8) :
    CW cfg 115 [.pointer (some ⟨0, 0, none⟩), .int .i64 ((k : Nat) : Int)] ⟨[(0, .cells ⟨[str (l)]⟩ 133 (0, 0))], 1, [], [], []⟩ fun v' s' => v' = .tuple ⟨[.int .u64 ((numV l k : Nat) : Int), .int .i64 ((takeE l k : Nat) : Int)]⟩ ∧ s' = ⟨[(0, .cells ⟨[str (takeR l k)]⟩ 133 (0, 0))], 1, [], [], []⟩ := by
  refine CW.of_WP cfg_ok g115 rfl rfl rfl ?_
  refine WP.seq ?_
  refine WP.region ?_
  refine OW.st (st_as rfl) rfl rfl ?_
  refine OW.st (st_as rfl) rfl rfl ?_
  refine OW.nil ?_
  refine WP.seq ?_
  refine WP.block ?_
  refine WP.seq ?_
  refine WP.region ?_
  refine OW.st (st_mv rfl) rfl rfl ?_
  refine OW.st (st_pn y89 rfl rfl) rfl rfl ?_
  refine OW.st (st_as rfl) rfl rfl ?_
  refine OW.nil ?_
  refine WP.condF rfl ?_
  refine WP.seq ?_
  refine WP.region ?_
  refine OW.st (st_mv rfl) rfl rfl ?_
  refine OW.stB (st_lt rfl rfl) rfl rfl (fun h1 => absurd h1 (by omega)) (fun h1 => ?_)
  refine OW.st (st_mv rfl) rfl rfl ?_
  refine OW.st (Stp.yes rfl rfl (st_mv rfl)) rfl rfl ?_
  refine OW.stB (Stp.yes rfl rfl (st_gt rfl rfl)) rfl rfl (fun h2 => absurd h2 (by omega)) (fun h2 => ?_)
  refine OW.st (st_pkF rfl rfl) rfl rfl ?_
  refine OW.st (st_as rfl) rfl rfl ?_
  refine OW.nil ?_
  refine WP.condF rfl ?_
  refine WP.skip ?_
  refine WP.seq ?_
  refine WP.region ?_
  refine OW.st (st_mv rfl) rfl rfl ?_
  refine OW.st (st_mv rfl) rfl rfl ?_
  refine OW.st (Stp.call Hv.ok rfl rfl rfl rfl rfl (take_R rfl rfl (by omega) (by omega))) rfl rfl ?_
  refine OW.st (st_mv rfl) rfl rfl ?_
  refine OW.st (st_ex rfl rfl) rfl rfl ?_
  refine OW.st (st_ex rfl rfl) rfl rfl ?_
  refine OW.st (st_as rfl) rfl rfl ?_
  refine OW.st (st_as rfl) rfl rfl ?_
  refine OW.nil ?_
  refine WP.seq ?_
  refine WP.seq ?_
  refine WP.region ?_
  refine OW.st (st_mv rfl) rfl rfl ?_
  refine OW.st (st_lenS y9 rfl) rfl rfl ?_
  refine OW.st (st_mv rfl) rfl rfl ?_
  refine OW.nil ?_
  refine WP.block ?_
  refine WP.loop (α := Nat) (fun (i : Nat) => i ≤ (takeV l k).length) (fun (i : Nat) => (takeV l k).length - i) (fun (i : Nat) => [(5, .int .i64 ((takeE l k : Nat) : Int)), (6, str (takeV l k)), (26, .int .i64 ((i : Nat) : Int)), (25, .int .i64 ((List.length (takeV l k) : Nat) : Int)), (4, .int .u64 ((ofLe (List.take i (takeV l k)) : Nat) : Int))]) (fun (i : Nat) => ⟨[(0, .cells ⟨[str (takeR l k)]⟩ 133 (0, 0))], 1, [], [], []⟩) (0) ?_ ?_ ?_
  · omega
  · skip
    have := takeV_length (l := l) (k := k)
    exact Rnm.mk' [(0, 0)] rfl rfl rfl rfl (.cons rfl (.flat rfl) (.cons rfl (.flat rfl) (.cons rfl (.flat rfl) (.cons rfl (.flat rfl) (.cons rfl (.flat rfl) .nil))))) (.cons rfl rfl (.cells (.cons (.flat rfl) .nil)) .nil) .nil
  intro i hp
  have hkl := takeV_length (l := l) (k := k)
  refine WP.seq ?_
  refine WP.region ?_
  refine OW.st (st_lt rfl rfl) rfl rfl ?_
  refine OW.nil ?_
  refine WP.seq ?_
  refine WP.condD rfl (fun h3 => ?_) (fun h3 => ?_)
  · skip
    refine WP.skip ?_
    refine WP.seq ?_
    refine WP.block ?_
    refine WP.seq ?_
    refine WP.region ?_
    refine OW.st (st_mv rfl) rfl rfl ?_
    refine OW.st (st_as rfl) rfl rfl ?_
    refine OW.nil ?_
    refine WP.region ?_
    refine OW.st (st_mv rfl) rfl rfl ?_
    refine OW.st (st_mv rfl) rfl rfl ?_
    refine OW.st (st_mv rfl) rfl rfl ?_
    obtain ⟨x1, hx1⟩ := ex_at (l := takeV l k) (i := i) (by omega)
    refine OW.st (st_ibN y9 rfl rfl hx1) rfl rfl ?_
    refine OW.st (st_cvi y5 y25 rfl (u64_u8 _)) rfl rfl ?_
    refine OW.st (st_mv rfl) rfl rfl ?_
    refine OW.st (st_mul (c := ((8 * i : Nat) : Int)) rfl rfl (by unfold sm; omega)) rfl rfl ?_
    refine OW.st (st_shlE rfl rfl (by show 8 * i ≤ 64; omega) (shl_u8 (by omega))) rfl rfl ?_
    refine OW.st (st_orE rfl rfl (ofLe_or hx1 (by omega))) rfl rfl ?_
    refine OW.st (st_as rfl) rfl rfl ?_
    refine OW.nil ?_
    refine WP.region ?_
    refine OW.st (st_add (c := ((i + 1 : Nat) : Int)) rfl rfl (by unfold sm; omega)) rfl rfl ?_
    refine OW.st (st_mv rfl) rfl rfl ?_
    refine OW.nil ?_
    refine ⟨i + 1, by omega, by omega, ?_⟩
    exact Rnm.mk' [(0, 0)] rfl rfl rfl rfl (.cons rfl (.flat rfl) (.cons rfl (.flat rfl) (.cons rfl (.flat rfl) (.cons rfl (.flat rfl) (.cons rfl (.flat rfl) .nil))))) (.cons rfl rfl (.cells (.cons (.flat rfl) .nil)) .nil) .nil
  · skip
    obtain rfl : (takeV l k).length = i := by omega
    refine WP.exit ?_
    refine WP.seq ?_
    refine WP.region ?_
    refine OW.st (st_mv rfl) rfl rfl ?_
    refine OW.st (st_mv rfl) rfl rfl ?_
    refine OW.st (st_as rfl) rfl rfl ?_
    refine OW.st (st_as rfl) rfl rfl ?_
    refine OW.nil ?_
    refine WP.ret ?_
    exact FinQ.ret (v0 := .tuple ⟨[.int .u64 ((numV l k : Nat) : Int), .int .i64 ((takeE l k : Nat) : Int)]⟩) (s0 := ⟨[(0, .cells ⟨[str (takeR l k)]⟩ 133 (0, 0))], 1, [], [], []⟩) rfl rfl rfl rfl (Rnm.mk' [(0, 0)] rfl rfl rfl rfl (.cons rfl (.tupleL ((.cons (.of_eq (by first | rfl | exact int_of (by rw [numV, List.take_length])) rfl) (.cons (.of_eq (by first | rfl | exact int_of (by rw [numV, List.take_length])) rfl) .nil)))) .nil) (.cons rfl rfl (.cells (.cons (.of_eq (by first | rfl | exact int_of (by rw [numV, List.take_length])) rfl) .nil)) .nil) .nil) ⟨rfl, rfl⟩
theorem number_R {h h' : List (Nat × Obj)} {nx a0 : Nat} {l : List UInt8} {k : Nat}  (o0 : aget h a0 = some (.cells ⟨[str (l)]⟩ 133 (0, 0))) (u : aput h a0 (.cells ⟨[str (takeR l k)]⟩ 133 (0, 0)) = h')  (hl : l.length ≤ 1000000) (hk : 1 ≤ k ∧ k ≤ 8) : CallR cfg 115 [.pointer (some ⟨a0, 0, none⟩), .int .i64 ((k : Nat) : Int)] ⟨h, nx, [], [], []⟩ (.tuple ⟨[.int .u64 ((numV l k : Nat) : Int), .int .i64 ((takeE l k : Nat) : Int)]⟩) ⟨h', nx + 0, [a0], [a0], []⟩ :=
  (CallR.lay2 (m := 0) (news0 := []) (news := []) (b0 := 0) [(0, a0)] (number_W hl hk) rfl rfl ((.cons (.ptr rfl) (.cons (.flat rfl) .nil))) ((.cons rfl rfl o0 (.cells (.cons (.flat rfl) .nil)) (fun c hc => by cases hc) .nil)) (.tupleL ((.cons (.flat rfl) (.cons (.flat rfl) .nil)))) (.nil) rfl rfl (fun b hb => by simp only [aget_cons, aget_nil, if_neg hb]) (.cells (.cons (.flat rfl) .nil)) u)
theorem rbytes_W  {l : List UInt8} {k : Nat} (hl : l.length ≤ 1000000) (hk : k ≤ 1000) :
    CW cfg 116 [.pointer (some ⟨0, 0, none⟩), .int .i64 ((k : Nat) : Int)] ⟨[(0, .cells ⟨[str (l)]⟩ 133 (0, 0))], 1, [], [], []⟩ fun v' s' => v' = .tuple ⟨[str (takeV l k), .int .i64 ((takeE l k : Nat) : Int)]⟩ ∧ s' = ⟨[(0, .cells ⟨[str (takeR l k)]⟩ 133 (0, 0))], 1, [], [], []⟩ := by
  refine CW.of_WP cfg_ok g116 rfl rfl rfl ?_
  refine WP.seq ?_
  refine WP.region ?_
  refine OW.st (st_as rfl) rfl rfl ?_
  refine OW.st (st_as rfl) rfl rfl ?_
  refine OW.nil ?_
  refine WP.seq ?_
  refine WP.block ?_
  refine WP.seq ?_
  refine WP.region ?_
  refine OW.st (st_mv rfl) rfl rfl ?_
  refine OW.st (st_pn y89 rfl rfl) rfl rfl ?_
  refine OW.st (st_as rfl) rfl rfl ?_
  refine OW.nil ?_
  refine WP.condF rfl ?_
  refine WP.seq ?_
  refine WP.region ?_
  refine OW.st (st_mv rfl) rfl rfl ?_
  refine OW.stB (st_lt rfl rfl) rfl rfl (fun h1 => absurd h1 (by omega)) (fun h1 => ?_)
  refine OW.st (st_as rfl) rfl rfl ?_
  refine OW.nil ?_
  refine WP.condF rfl ?_
  refine WP.skip ?_
  refine WP.seq ?_
  refine WP.region ?_
  refine OW.st (st_mv rfl) rfl rfl ?_
  refine OW.st (st_mv rfl) rfl rfl ?_
  refine OW.st (Stp.call Hv.ok rfl rfl rfl rfl rfl (take_R rfl rfl (by omega) (by omega))) rfl rfl ?_
  refine OW.st (st_ex rfl rfl) rfl rfl ?_
  refine OW.st (st_ex rfl rfl) rfl rfl ?_
  refine OW.st (st_as rfl) rfl rfl ?_
  refine OW.st (st_as rfl) rfl rfl ?_
  refine OW.nil ?_
  refine WP.ret ?_
  exact FinQ.ret (v0 := .tuple ⟨[str (takeV l k), .int .i64 ((takeE l k : Nat) : Int)]⟩) (s0 := ⟨[(0, .cells ⟨[str (takeR l k)]⟩ 133 (0, 0))], 1, [], [], []⟩) rfl rfl rfl rfl (Rnm.mk' [(0, 0)] rfl rfl rfl rfl (.cons rfl (.tupleL ((.cons (.flat rfl) (.cons (.flat rfl) .nil)))) .nil) (.cons rfl rfl (.cells (.cons (.flat rfl) .nil)) .nil) .nil) ⟨rfl, rfl⟩
theorem rbytes_R {h h' : List (Nat × Obj)} {nx a0 : Nat} {l : List UInt8} {k : Nat}  (o0 : aget h a0 = some (.cells ⟨[str (l)]⟩ 133 (0, 0))) (u : aput h a0 (.cells ⟨[str (takeR l k)]⟩ 133 (0, 0)) = h')  (hl : l.length ≤ 1000000) (hk : k ≤ 1000) : CallR cfg 116 [.pointer (some ⟨a0, 0, none⟩), .int .i64 ((k : Nat) : Int)] ⟨h, nx, [], [], []⟩ (.tuple ⟨[str (takeV l k), .int .i64 ((takeE l k : Nat) : Int)]⟩) ⟨h', nx + 0, [a0], [a0], []⟩ :=
  (CallR.lay2 (m := 0) (news0 := []) (news := []) (b0 := 0) [(0, a0)] (rbytes_W hl hk) rfl rfl ((.cons (.ptr rfl) (.cons (.flat rfl) .nil))) ((.cons rfl rfl o0 (.cells (.cons (.flat rfl) .nil)) (fun c hc => by cases hc) .nil)) (.tupleL ((.cons (.flat rfl) (.cons (.flat rfl) .nil)))) (.nil) rfl rfl (fun b hb => by simp only [aget_cons, aget_nil, if_neg hb]) (.cells (.cons (.flat rfl) .nil)) u)
end Go.Ev
