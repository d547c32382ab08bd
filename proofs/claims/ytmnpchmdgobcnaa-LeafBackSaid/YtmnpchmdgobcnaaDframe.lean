/- Words of my own, printed by a program of mine. -/
import Derived.Test.YtmnpchmdgobcnaaDoctet
set_option linter.unusedVariables false
set_option linter.unusedSimpArgs false
set_option maxRecDepth 8000
set_option maxHeartbeats 4000000
namespace Go.Ev
open Go.RowKit Go.Proofs
theorem good_W  {s : Int} :
    CW cfg 71 [.int .i64 (s : Int)] ⟨[], 0, [], [], []⟩ fun v' s' => v' = .bool (goodB s) ∧ s' = ⟨[], 0, [], [], []⟩ := by
  refine CW.of_WP cfg_ok g71 rfl rfl rfl ?_
  refine WP.seq ?_
  refine WP.region ?_
  refine OW.st (st_as rfl) rfl rfl ?_
  refine OW.nil ?_
  refine WP.seq ?_
  refine WP.region ?_
  refine OW.st (st_mv rfl) rfl rfl ?_
  refine OW.stB (st_ge rfl rfl) rfl rfl (fun h1 => ?_) (fun h1 => ?_)
  · skip
    refine OW.st (st_mv rfl) rfl rfl ?_
    refine OW.st (Stp.yes rfl rfl (st_mv rfl)) rfl rfl ?_
    refine OW.stB (Stp.yes rfl rfl (st_le rfl rfl)) rfl rfl (fun h2 => ?_) (fun h2 => ?_)
    · skip
      refine OW.st (st_pkT rfl rfl) rfl rfl ?_
      refine OW.st (st_mv rfl) rfl rfl ?_
      refine OW.st (Stp.yes rfl rfl (st_mv rfl)) rfl rfl ?_
      refine OW.st (Stp.yes rfl rfl (st_rem rfl rfl (by omega))) rfl rfl ?_
      refine OW.st (Stp.yes rfl rfl (st_eq rfl rfl)) rfl rfl ?_
      refine OW.st (st_pkT rfl rfl) rfl rfl ?_
      refine OW.st (st_as rfl) rfl rfl ?_
      refine OW.nil ?_
      refine WP.ret ?_
      exact FinQ.ret (v0 := .bool (goodB s)) (s0 := ⟨[], 0, [], [], []⟩) rfl rfl rfl rfl (Rnm.mk' [] rfl rfl rfl rfl (.cons rfl (.of_eq (by exact bool_of (by simp [goodB]; omega)) rfl) .nil) .nil .nil) ⟨rfl, rfl⟩
    · skip
      refine OW.st (st_pkT rfl rfl) rfl rfl ?_
      refine OW.st (st_mv rfl) rfl rfl ?_
      refine OW.st (Stp.no rfl rfl) rfl rfl ?_
      refine OW.st (Stp.no rfl rfl) rfl rfl ?_
      refine OW.st (Stp.no rfl rfl) rfl rfl ?_
      refine OW.st (st_pkF rfl rfl) rfl rfl ?_
      refine OW.st (st_as rfl) rfl rfl ?_
      refine OW.nil ?_
      refine WP.ret ?_
      exact FinQ.ret (v0 := .bool (goodB s)) (s0 := ⟨[], 0, [], [], []⟩) rfl rfl rfl rfl (Rnm.mk' [] rfl rfl rfl rfl (.cons rfl (.of_eq (by exact bool_of (by simp [goodB]; omega)) rfl) .nil) .nil .nil) ⟨rfl, rfl⟩
  · skip
    refine OW.st (st_mv rfl) rfl rfl ?_
    refine OW.st (Stp.no rfl rfl) rfl rfl ?_
    refine OW.st (Stp.no rfl rfl) rfl rfl ?_
    refine OW.st (st_pkF rfl rfl) rfl rfl ?_
    refine OW.st (st_mv rfl) rfl rfl ?_
    refine OW.st (Stp.no rfl rfl) rfl rfl ?_
    refine OW.st (Stp.no rfl rfl) rfl rfl ?_
    refine OW.st (Stp.no rfl rfl) rfl rfl ?_
    refine OW.st (st_pkF rfl rfl) rfl rfl ?_
    refine OW.st (st_as rfl) rfl rfl ?_
    refine OW.nil ?_
    refine WP.ret ?_
    exact FinQ.ret (v0 := .bool (goodB s)) (s0 := ⟨[], 0, [], [], []⟩) rfl rfl rfl rfl (Rnm.mk' [] rfl rfl rfl rfl (.cons rfl (.of_eq (by exact bool_of (by simp [goodB]; omega)) rfl) .nil) .nil .nil) ⟨rfl, rfl⟩
theorem good_R {s : Int} (σ : St) : CallR cfg 71 [.int .i64 (s : Int)] σ (.bool (goodB s)) σ :=
  CallR.plain rfl rfl (good_W) (fun v' s' h => h.1) σ
theorem room_W  {s : Int} :
    CW cfg 57 [.int .i64 (s : Int)] ⟨[], 0, [], [], []⟩ fun v' s' => v' = .int .i64 ((room s : Nat) : Int) ∧ s' = ⟨[], 0, [], [], []⟩ := by
  refine CW.of_WP cfg_ok g57 rfl rfl rfl ?_
  refine WP.seq ?_
  refine WP.region ?_
  refine OW.st (st_as rfl) rfl rfl ?_
  refine OW.nil ?_
  refine WP.seq ?_
  refine WP.seq ?_
  refine WP.region ?_
  refine OW.st (st_mv rfl) rfl rfl ?_
  refine OW.st (Stp.call Hv.ok rfl rfl rfl rfl rfl (good_R _)) rfl rfl ?_
  refine OW.st (st_not rfl) rfl rfl ?_
  refine OW.nil ?_
  refine WP.cond rfl (fun h1 => ?_) (fun h1 => ?_)
  · skip
    have h2 : goodB s = false := by simpa using h1
    refine WP.seq ?_
    refine WP.region ?_
    refine OW.st (st_as rfl) rfl rfl ?_
    refine OW.nil ?_
    refine WP.ret ?_
    exact FinQ.ret (v0 := .int .i64 ((room s : Nat) : Int)) (s0 := ⟨[], 0, [], [], []⟩) rfl rfl rfl rfl (Rnm.mk' [] rfl rfl rfl rfl (.cons rfl (.of_eq (by first | rfl | exact int_of (by simp [room_bad h2])) rfl) .nil) .nil .nil) ⟨rfl, rfl⟩
  · skip
    have h2 : goodB s = true := by simpa using h1
    obtain ⟨h3, h4, h5⟩ := goodB_le h2
    refine WP.skip ?_
    refine WP.seq ?_
    refine WP.region ?_
    refine OW.st (st_mv rfl) rfl rfl ?_
    refine OW.st (st_sub (c := ((room s : Nat) : Int)) rfl rfl (by unfold sm; omega)) rfl rfl ?_
    refine OW.st (st_as rfl) rfl rfl ?_
    refine OW.nil ?_
    refine WP.ret ?_
    exact FinQ.ret (v0 := .int .i64 ((room s : Nat) : Int)) (s0 := ⟨[], 0, [], [], []⟩) rfl rfl rfl rfl (Rnm.mk' [] rfl rfl rfl rfl (.cons rfl (.of_eq (by first | rfl | exact int_of (by simp [room_bad h2])) rfl) .nil) .nil .nil) ⟨rfl, rfl⟩
theorem room_R {s : Int} (σ : St) : CallR cfg 57 [.int .i64 (s : Int)] σ (.int .i64 ((room s : Nat) : Int)) σ :=
  CallR.plain rfl rfl (room_W) (fun v' s' h => h.1) σ
theorem body_W  {s : Int} {l : List UInt8} (hl : l.length ≤ 1000000) :
    CW cfg 61 [.int .i64 (s : Int), .slice (some ⟨0, 0, some 1⟩) (l.length) 0] ⟨[(0, .cells ⟨rowV kB (l)⟩ 5 (0, 0))], 1, [], [], []⟩ fun v' s' => v' = .tuple ⟨[str (bodyS s l), .int .i64 ((bodyE s l : Nat) : Int)]⟩ ∧ s' = ⟨[(0, .cells ⟨rowV kB (l)⟩ 5 (0, 0))], 1, [], [], []⟩ := by
  refine CW.of_WP cfg_ok g61 rfl rfl rfl ?_
  refine WP.seq ?_
  refine WP.region ?_
  refine OW.st (st_as rfl) rfl rfl ?_
  refine OW.st (st_as rfl) rfl rfl ?_
  refine OW.nil ?_
  refine WP.seq ?_
  refine WP.block ?_
  refine WP.seq ?_
  refine WP.region ?_
  refine OW.st (st_mv rfl) rfl rfl ?_
  refine OW.st (Stp.call Hv.ok rfl rfl rfl rfl rfl (good_R _)) rfl rfl ?_
  refine OW.st (st_not rfl) rfl rfl ?_
  refine OW.st (st_as rfl) rfl rfl ?_
  refine OW.nil ?_
  refine WP.cond rfl (fun h1 => ?_) (fun h1 => ?_)
  · skip
    have h2 : goodB s = false := by simpa using h1
    refine WP.seq ?_
    refine WP.region ?_
    refine OW.st (st_as rfl) rfl rfl ?_
    refine OW.st (st_as rfl) rfl rfl ?_
    refine OW.nil ?_
    refine WP.ret ?_
    exact FinQ.ret (v0 := .tuple ⟨[str (bodyS s l), .int .i64 ((bodyE s l : Nat) : Int)]⟩) (s0 := ⟨[(0, .cells ⟨rowV kB (l)⟩ 5 (0, 0))], 1, [], [], []⟩) rfl rfl rfl rfl (Rnm.mk' [(0, 0)] rfl rfl rfl rfl (.cons rfl (.tupleL ((.cons (.of_eq (by first | exact str_of (body_bad h2).1 | exact int_of (congrArg Nat.cast (body_bad h2).2) | exact str_of (body_long h2 (by omega)).1 | exact int_of (congrArg Nat.cast (body_long h2 (by omega)).2) | exact str_of (body_ok h2 (by omega)).1 | exact int_of (congrArg Nat.cast (body_ok h2 (by omega)).2)) rfl) (.cons (.of_eq (by first | exact str_of (body_bad h2).1 | exact int_of (congrArg Nat.cast (body_bad h2).2) | exact str_of (body_long h2 (by omega)).1 | exact int_of (congrArg Nat.cast (body_long h2 (by omega)).2) | exact str_of (body_ok h2 (by omega)).1 | exact int_of (congrArg Nat.cast (body_ok h2 (by omega)).2)) rfl) .nil)))) .nil) (.cons rfl rfl (.cells (.of_eq rfl (flats_rowV _))) .nil) .nil) ⟨rfl, rfl⟩
  · skip
    have h2 : goodB s = true := by simpa using h1
    obtain ⟨h3, h4, h5⟩ := goodB_le h2
    refine WP.seq ?_
    refine WP.region ?_
    refine OW.st (st_mv rfl) rfl rfl ?_
    refine OW.st (st_lenL y81 rfl) rfl rfl ?_
    refine OW.st (st_mv rfl) rfl rfl ?_
    refine OW.st (Stp.call Hv.ok rfl rfl rfl rfl rfl (room_R _)) rfl rfl ?_
    refine OW.st (st_gt rfl rfl) rfl rfl ?_
    refine OW.st (st_as rfl) rfl rfl ?_
    refine OW.nil ?_
    refine WP.condD rfl (fun h6 => ?_) (fun h6 => ?_)
    · skip
      refine WP.seq ?_
      refine WP.region ?_
      refine OW.st (st_as rfl) rfl rfl ?_
      refine OW.st (st_as rfl) rfl rfl ?_
      refine OW.nil ?_
      refine WP.ret ?_
      exact FinQ.ret (v0 := .tuple ⟨[str (bodyS s l), .int .i64 ((bodyE s l : Nat) : Int)]⟩) (s0 := ⟨[(0, .cells ⟨rowV kB (l)⟩ 5 (0, 0))], 1, [], [], []⟩) rfl rfl rfl rfl (Rnm.mk' [(0, 0)] rfl rfl rfl rfl (.cons rfl (.tupleL ((.cons (.of_eq (by first | exact str_of (body_bad h2).1 | exact int_of (congrArg Nat.cast (body_bad h2).2) | exact str_of (body_long h2 (by omega)).1 | exact int_of (congrArg Nat.cast (body_long h2 (by omega)).2) | exact str_of (body_ok h2 (by omega)).1 | exact int_of (congrArg Nat.cast (body_ok h2 (by omega)).2)) rfl) (.cons (.of_eq (by first | exact str_of (body_bad h2).1 | exact int_of (congrArg Nat.cast (body_bad h2).2) | exact str_of (body_long h2 (by omega)).1 | exact int_of (congrArg Nat.cast (body_long h2 (by omega)).2) | exact str_of (body_ok h2 (by omega)).1 | exact int_of (congrArg Nat.cast (body_ok h2 (by omega)).2)) rfl) .nil)))) .nil) (.cons rfl rfl (.cells (.of_eq rfl (flats_rowV _))) .nil) .nil) ⟨rfl, rfl⟩
    · skip
      refine WP.skip ?_
      refine WP.seq ?_
      refine WP.region ?_
      refine OW.st (st_mv rfl) rfl rfl ?_
      refine OW.st (Stp.call Hv.ok rfl rfl rfl rfl rfl (room_R _)) rfl rfl ?_
      refine OW.st (st_msB y81 y5 rfl rfl (by decide) rfl rfl (by omega)) rfl rfl ?_
      refine OW.st (st_as rfl) rfl rfl ?_
      refine OW.nil ?_
      refine WP.seq ?_
      refine WP.region ?_
      refine OW.st (st_mv rfl) rfl rfl ?_
      refine OW.st (st_mv rfl) rfl rfl ?_
      refine OW.st (st_cp (z := 1) (n := l.length) (c1 := rowV kB (padL s l)) y81 y5 rfl rfl rfl (cp_row y81 rfl (Nat.min_eq_left (by omega)) (rowV_whole l)) (by rw [ones_rowV, len_eq', rowV_length, show Nat.beq (l.length * 1) (Nat.mul l.length 1) = true from Nat.beq_refl _]; rfl) rfl (by omega) (by rw [rowV_length]; simp; omega) (copy_pad (by omega)) rfl) rfl rfl ?_
      refine OW.nil ?_
      refine WP.seq ?_
      refine WP.region ?_
      refine OW.st (st_mv rfl) rfl rfl ?_
      refine OW.st (st_cBS y81 y9 y5 rfl rfl (by rw [List.drop_zero, List.take_of_length_le (by rw [rowV_length, padL_length (by omega)]; omega)]) (padL_length (by omega))) rfl rfl ?_
      refine OW.st (st_as rfl) rfl rfl ?_
      refine OW.st (st_as rfl) rfl rfl ?_
      refine OW.nil ?_
      refine WP.ret ?_
      exact FinQ.ret (v0 := .tuple ⟨[str (bodyS s l), .int .i64 ((bodyE s l : Nat) : Int)]⟩) (s0 := ⟨[(0, .cells ⟨rowV kB (l)⟩ 5 (0, 0))], 1, [], [], []⟩) rfl rfl rfl rfl (Rnm.mk' [(0, 0)] rfl rfl rfl rfl (.cons rfl (.tupleL ((.cons (.of_eq (by first | exact str_of (body_bad h2).1 | exact int_of (congrArg Nat.cast (body_bad h2).2) | exact str_of (body_long h2 (by omega)).1 | exact int_of (congrArg Nat.cast (body_long h2 (by omega)).2) | exact str_of (body_ok h2 (by omega)).1 | exact int_of (congrArg Nat.cast (body_ok h2 (by omega)).2)) rfl) (.cons (.of_eq (by first | exact str_of (body_bad h2).1 | exact int_of (congrArg Nat.cast (body_bad h2).2) | exact str_of (body_long h2 (by omega)).1 | exact int_of (congrArg Nat.cast (body_long h2 (by omega)).2) | exact str_of (body_ok h2 (by omega)).1 | exact int_of (congrArg Nat.cast (body_ok h2 (by omega)).2)) rfl) .nil)))) .nil) (.cons rfl rfl (.cells (.of_eq rfl (flats_rowV _))) .nil) .nil) ⟨rfl, rfl⟩
theorem body_R {h : List (Nat × Obj)} {nx a0 : Nat} {s : Int} {l : List UInt8} {m0 : Nat} (l0 : l.length = m0) (o0 : aget h a0 = some (.cells ⟨rowV kB (l)⟩ 5 (0, 0)))  (hl : l.length ≤ 1000000) : CallR cfg 61 [.int .i64 (s : Int), .slice (some ⟨a0, 0, some 1⟩) m0 0] ⟨h, nx, [], [], []⟩ (.tuple ⟨[str (bodyS s l), .int .i64 ((bodyE s l : Nat) : Int)]⟩) ⟨h, nx + 0, [a0], [], []⟩ :=
  by subst l0; exact (CallR.lay (m := 0) (news0 := []) (news := []) [(0, a0)] (body_W hl) rfl rfl ((.cons (.flat rfl) (.cons (.slice rfl) .nil))) ((.cons rfl rfl o0 (.cells (.flats (flats_rowV _))) (fun c hc => by cases hc) .nil)) (.tupleL ((.cons (.flat rfl) (.cons (.flat rfl) .nil)))) (.nil))
theorem body_R1 {h : List (Nat × Obj)} {nx  : Nat} {s : Int}    (hl : (([] : List UInt8)).length ≤ 1000000) : CallR cfg 61 [.int .i64 (s : Int), .slice none 0 0] ⟨h, nx, [], [], []⟩ (.tuple ⟨[str (bodyS s (([] : List UInt8))), .int .i64 ((bodyE s (([] : List UInt8)) : Nat) : Int)]⟩) ⟨h, nx + 0, [], [], []⟩ :=
  (CallR.lay (m := 0) (news0 := []) (news := []) [] (body_W hl) rfl rfl ((.cons (.flat rfl) (.cons (.nilS rfl) .nil))) (.nil) (.tupleL ((.cons (.flat rfl) (.cons (.flat rfl) .nil)))) (.nil))
end Go.Ev
