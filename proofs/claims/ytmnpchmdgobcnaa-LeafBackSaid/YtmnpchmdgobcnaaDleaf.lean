/- Words of my own, printed by a program of mine. -/
import Derived.Test.YtmnpchmdgobcnaaDframe
set_option linter.unusedVariables false
set_option linter.unusedSimpArgs false
set_option maxRecDepth 8000
set_option maxHeartbeats 4000000
namespace Go.Ev
open Go.RowKit Go.Proofs
theorem bkey_W  {k : List UInt8} :
    CW cfg 136 [str (k)] ⟨[], 0, [], [], []⟩ fun v' s' => v' = .bool (keyB k) ∧ s' = ⟨[], 0, [], [], []⟩ := by
  refine CW.of_WP cfg_ok g136 rfl rfl rfl ?_
  refine WP.seq ?_
  refine WP.region ?_
  refine OW.st (st_as rfl) rfl rfl ?_
  refine OW.nil ?_
  refine WP.seq ?_
  refine WP.region ?_
  refine OW.st (st_mv rfl) rfl rfl ?_
  refine OW.st (st_lenS y9 rfl) rfl rfl ?_
  refine OW.st (st_le rfl rfl) rfl rfl ?_
  refine OW.st (st_as rfl) rfl rfl ?_
  refine OW.nil ?_
  refine WP.ret ?_
  exact FinQ.ret (v0 := .bool (keyB k)) (s0 := ⟨[], 0, [], [], []⟩) rfl rfl rfl rfl (Rnm.mk' [] rfl rfl rfl rfl (.cons rfl (.of_eq (by exact bool_of (by simp [keyB] <;> omega)) rfl) .nil) .nil .nil) ⟨rfl, rfl⟩
theorem bkey_R {k : List UInt8} (σ : St) : CallR cfg 136 [str (k)] σ (.bool (keyB k)) σ :=
  CallR.plain rfl rfl (bkey_W) (fun v' s' h => h.1) σ
theorem lnumber_W  {n : Nat} :
    CW cfg 58 [.int .u32 ((n : Nat) : Int)] ⟨[], 0, [], [], []⟩ fun v' s' => v' = .bool (numB n) ∧ s' = ⟨[], 0, [], [], []⟩ := by
  refine CW.of_WP cfg_ok g58 rfl rfl rfl ?_
  refine WP.seq ?_
  refine WP.region ?_
  refine OW.st (st_as rfl) rfl rfl ?_
  refine OW.nil ?_
  refine WP.seq ?_
  refine WP.region ?_
  refine OW.st (st_mv rfl) rfl rfl ?_
  refine OW.stB (st_ge rfl rfl) rfl rfl (fun h1 => ?_) (fun h1 => ?_)
  · skip
    refine OW.st (st_mv rfl) rfl rfl ?_
    refine OW.st (Stp.yes rfl rfl (st_mv rfl)) rfl rfl ?_
    refine OW.st (Stp.yes rfl rfl (st_le rfl rfl)) rfl rfl ?_
    refine OW.st (st_pkT rfl rfl) rfl rfl ?_
    refine OW.st (st_as rfl) rfl rfl ?_
    refine OW.nil ?_
    refine WP.ret ?_
    exact FinQ.ret (v0 := .bool (numB n)) (s0 := ⟨[], 0, [], [], []⟩) rfl rfl rfl rfl (Rnm.mk' [] rfl rfl rfl rfl (.cons rfl (.of_eq (by exact bool_of (by simp [numB] <;> omega)) rfl) .nil) .nil .nil) ⟨rfl, rfl⟩
  · skip
    refine OW.st (st_mv rfl) rfl rfl ?_
    refine OW.st (Stp.no rfl rfl) rfl rfl ?_
    refine OW.st (Stp.no rfl rfl) rfl rfl ?_
    refine OW.st (st_pkF rfl rfl) rfl rfl ?_
    refine OW.st (st_as rfl) rfl rfl ?_
    refine OW.nil ?_
    refine WP.ret ?_
    exact FinQ.ret (v0 := .bool (numB n)) (s0 := ⟨[], 0, [], [], []⟩) rfl rfl rfl rfl (Rnm.mk' [] rfl rfl rfl rfl (.cons rfl (.of_eq (by exact bool_of (by simp [numB] <;> omega)) rfl) .nil) .nil .nil) ⟨rfl, rfl⟩
theorem lnumber_R {n : Nat} (σ : St) : CallR cfg 58 [.int .u32 ((n : Nat) : Int)] σ (.bool (numB n)) σ :=
  CallR.plain rfl rfl (lnumber_W) (fun v' s' h => h.1) σ
theorem vsize_W  {x : Item} (hx : x.value.length ≤ 1000000) :
    CW cfg 70 [.agg ⟨[str (x.key), str (x.value), .bool (x.over), .int .i64 (x.len : Int), .int .u32 ((x.head : Nat) : Int)]⟩] ⟨[], 0, [], [], []⟩ fun v' s' => v' = .int .i64 ((vsz x : Nat) : Int) ∧ s' = ⟨[], 0, [], [], []⟩ := by
  refine CW.of_WP cfg_ok g70 rfl rfl rfl ?_
  refine WP.seq ?_
  refine WP.region ?_
  refine OW.st (st_bx rfl rfl) rfl rfl ?_
  refine OW.st (st_as rfl) rfl rfl ?_
  refine OW.nil ?_
  refine WP.seq ?_
  refine WP.seq ?_
  refine WP.region ?_
  refine OW.st (st_fa y83 rfl rfl y4 rfl) rfl rfl ?_
  refine OW.st (st_ld y4 rfl rfl rfl rfl) rfl rfl ?_
  refine OW.nil ?_
  refine WP.cond rfl (fun h1 => ?_) (fun h1 => ?_)
  · skip
    refine WP.seq ?_
    refine WP.region ?_
    refine OW.st (st_as rfl) rfl rfl ?_
    refine OW.nil ?_
    refine WP.ret ?_
    exact FinQ.ret (v0 := .int .i64 ((vsz x : Nat) : Int)) (s0 := ⟨[], 0, [], [], []⟩) rfl rfl rfl rfl (Rnm.mk' [] rfl rfl rfl rfl (.cons rfl (.of_eq (by exact int_of (by simp [vsz, *])) rfl) .nil) .nil .nil) ⟨rfl, rfl⟩
  · skip
    refine WP.skip ?_
    refine WP.seq ?_
    refine WP.region ?_
    refine OW.st (st_fa y83 rfl rfl y9 rfl) rfl rfl ?_
    refine OW.st (st_ld y9 rfl rfl rfl rfl) rfl rfl ?_
    refine OW.st (st_lenS y9 rfl) rfl rfl ?_
    refine OW.st (st_add (c := ((1 + (List.length (x.value)) : Nat) : Int)) rfl rfl (by unfold sm; omega)) rfl rfl ?_
    refine OW.st (st_as rfl) rfl rfl ?_
    refine OW.nil ?_
    refine WP.ret ?_
    exact FinQ.ret (v0 := .int .i64 ((vsz x : Nat) : Int)) (s0 := ⟨[], 0, [], [], []⟩) rfl rfl rfl rfl (Rnm.mk' [] rfl rfl rfl rfl (.cons rfl (.of_eq (by exact int_of (by simp [vsz, *])) rfl) .nil) .nil .nil) ⟨rfl, rfl⟩
theorem vsize_R {x : Item} (hx : x.value.length ≤ 1000000) (σ : St) : CallR cfg 70 [.agg ⟨[str (x.key), str (x.value), .bool (x.over), .int .i64 (x.len : Int), .int .u32 ((x.head : Nat) : Int)]⟩] σ (.int .i64 ((vsz x : Nat) : Int)) σ :=
  CallR.plain rfl rfl (vsize_W hx) (fun v' s' h => h.1) σ
theorem vmay_W  {x : Item} :
    CW cfg 112 [.agg ⟨[str (x.key), str (x.value), .bool (x.over), .int .i64 (x.len : Int), .int .u32 ((x.head : Nat) : Int)]⟩] ⟨[], 0, [], [], []⟩ fun v' s' => v' = .bool (vmayB x) ∧ s' = ⟨[], 0, [], [], []⟩ := by
  refine CW.of_WP cfg_ok g112 rfl rfl rfl ?_
  refine WP.seq ?_
  refine WP.region ?_
  refine OW.st (st_bx rfl rfl) rfl rfl ?_
  refine OW.st (st_as rfl) rfl rfl ?_
  refine OW.nil ?_
  refine WP.seq ?_
  refine WP.seq ?_
  refine WP.region ?_
  refine OW.st (st_fa y83 rfl rfl y9 rfl) rfl rfl ?_
  refine OW.st (st_ld y9 rfl rfl rfl rfl) rfl rfl ?_
  refine OW.st (Stp.call Hv.ok rfl rfl rfl rfl rfl (bkey_R _)) rfl rfl ?_
  refine OW.st (st_not rfl) rfl rfl ?_
  refine OW.nil ?_
  refine WP.cond rfl (fun h1 => ?_) (fun h1 => ?_)
  · skip
    refine WP.seq ?_
    refine WP.region ?_
    refine OW.st (st_as rfl) rfl rfl ?_
    refine OW.nil ?_
    refine WP.ret ?_
    exact FinQ.ret (v0 := .bool (vmayB x)) (s0 := ⟨[], 0, [], [], []⟩) rfl rfl rfl rfl (Rnm.mk' [] rfl rfl rfl rfl (.cons rfl (.of_eq (by exact bool_of (by simp_all [vmayB] <;> omega)) rfl) .nil) .nil .nil) ⟨rfl, rfl⟩
  · skip
    refine WP.skip ?_
    refine WP.seq ?_
    refine WP.seq ?_
    refine WP.region ?_
    refine OW.st (st_fa y83 rfl rfl y4 rfl) rfl rfl ?_
    refine OW.st (st_ld y4 rfl rfl rfl rfl) rfl rfl ?_
    refine OW.nil ?_
    refine WP.cond rfl (fun h2 => ?_) (fun h2 => ?_)
    · skip
      refine WP.seq ?_
      refine WP.region ?_
      refine OW.st (st_fa y83 rfl rfl y9 rfl) rfl rfl ?_
      refine OW.st (st_ld y9 rfl rfl rfl rfl) rfl rfl ?_
      refine OW.stB (st_eqS rfl rfl) rfl rfl (fun h3 => ?_) (fun h3 => ?_)
      · skip
        refine OW.st (st_mv rfl) rfl rfl ?_
        refine OW.st (Stp.yes rfl rfl (st_fa y83 rfl rfl y3 rfl)) rfl rfl ?_
        refine OW.st (Stp.yes rfl rfl (st_ld y3 rfl rfl rfl rfl)) rfl rfl ?_
        refine OW.stB (Stp.yes rfl rfl (st_ge rfl rfl)) rfl rfl (fun h4 => ?_) (fun h4 => ?_)
        · skip
          refine OW.st (st_pkT rfl rfl) rfl rfl ?_
          refine OW.st (st_mv rfl) rfl rfl ?_
          refine OW.st (Stp.yes rfl rfl (st_fa y83 rfl rfl y3 rfl)) rfl rfl ?_
          refine OW.st (Stp.yes rfl rfl (st_ld y3 rfl rfl rfl rfl)) rfl rfl ?_
          refine OW.stB (Stp.yes rfl rfl (st_le rfl rfl)) rfl rfl (fun h5 => ?_) (fun h5 => ?_)
          · skip
            refine OW.st (st_pkT rfl rfl) rfl rfl ?_
            refine OW.st (st_mv rfl) rfl rfl ?_
            refine OW.st (Stp.yes rfl rfl (st_fa y83 rfl rfl y24 rfl)) rfl rfl ?_
            refine OW.st (Stp.yes rfl rfl (st_ld y24 rfl rfl rfl rfl)) rfl rfl ?_
            refine OW.st (Stp.yes rfl rfl (Stp.call Hv.ok rfl rfl rfl rfl rfl (lnumber_R _))) rfl rfl ?_
            refine OW.st (st_pkT rfl rfl) rfl rfl ?_
            refine OW.st (st_as rfl) rfl rfl ?_
            refine OW.nil ?_
            refine WP.ret ?_
            exact FinQ.ret (v0 := .bool (vmayB x)) (s0 := ⟨[], 0, [], [], []⟩) rfl rfl rfl rfl (Rnm.mk' [] rfl rfl rfl rfl (.cons rfl (.of_eq (by exact bool_of (by simp_all [vmayB] <;> omega)) rfl) .nil) .nil .nil) ⟨rfl, rfl⟩
          · skip
            refine OW.st (st_pkT rfl rfl) rfl rfl ?_
            refine OW.st (st_mv rfl) rfl rfl ?_
            refine OW.st (Stp.no rfl rfl) rfl rfl ?_
            refine OW.st (Stp.no rfl rfl) rfl rfl ?_
            refine OW.st (Stp.no rfl rfl) rfl rfl ?_
            refine OW.st (st_pkF rfl rfl) rfl rfl ?_
            refine OW.st (st_as rfl) rfl rfl ?_
            refine OW.nil ?_
            refine WP.ret ?_
            exact FinQ.ret (v0 := .bool (vmayB x)) (s0 := ⟨[], 0, [], [], []⟩) rfl rfl rfl rfl (Rnm.mk' [] rfl rfl rfl rfl (.cons rfl (.of_eq (by exact bool_of (by simp_all [vmayB] <;> omega)) rfl) .nil) .nil .nil) ⟨rfl, rfl⟩
        · skip
          refine OW.st (st_pkT rfl rfl) rfl rfl ?_
          refine OW.st (st_mv rfl) rfl rfl ?_
          refine OW.st (Stp.no rfl rfl) rfl rfl ?_
          refine OW.st (Stp.no rfl rfl) rfl rfl ?_
          refine OW.st (Stp.no rfl rfl) rfl rfl ?_
          refine OW.st (st_pkF rfl rfl) rfl rfl ?_
          refine OW.st (st_mv rfl) rfl rfl ?_
          refine OW.st (Stp.no rfl rfl) rfl rfl ?_
          refine OW.st (Stp.no rfl rfl) rfl rfl ?_
          refine OW.st (Stp.no rfl rfl) rfl rfl ?_
          refine OW.st (st_pkF rfl rfl) rfl rfl ?_
          refine OW.st (st_as rfl) rfl rfl ?_
          refine OW.nil ?_
          refine WP.ret ?_
          exact FinQ.ret (v0 := .bool (vmayB x)) (s0 := ⟨[], 0, [], [], []⟩) rfl rfl rfl rfl (Rnm.mk' [] rfl rfl rfl rfl (.cons rfl (.of_eq (by exact bool_of (by simp_all [vmayB] <;> omega)) rfl) .nil) .nil .nil) ⟨rfl, rfl⟩
      · skip
        refine OW.st (st_mv rfl) rfl rfl ?_
        refine OW.st (Stp.no rfl rfl) rfl rfl ?_
        refine OW.st (Stp.no rfl rfl) rfl rfl ?_
        refine OW.st (Stp.no rfl rfl) rfl rfl ?_
        refine OW.st (st_pkF rfl rfl) rfl rfl ?_
        refine OW.st (st_mv rfl) rfl rfl ?_
        refine OW.st (Stp.no rfl rfl) rfl rfl ?_
        refine OW.st (Stp.no rfl rfl) rfl rfl ?_
        refine OW.st (Stp.no rfl rfl) rfl rfl ?_
        refine OW.st (st_pkF rfl rfl) rfl rfl ?_
        refine OW.st (st_mv rfl) rfl rfl ?_
        refine OW.st (Stp.no rfl rfl) rfl rfl ?_
        refine OW.st (Stp.no rfl rfl) rfl rfl ?_
        refine OW.st (Stp.no rfl rfl) rfl rfl ?_
        refine OW.st (st_pkF rfl rfl) rfl rfl ?_
        refine OW.st (st_as rfl) rfl rfl ?_
        refine OW.nil ?_
        refine WP.ret ?_
        exact FinQ.ret (v0 := .bool (vmayB x)) (s0 := ⟨[], 0, [], [], []⟩) rfl rfl rfl rfl (Rnm.mk' [] rfl rfl rfl rfl (.cons rfl (.of_eq (by exact bool_of (by simp_all [vmayB] <;> omega)) rfl) .nil) .nil .nil) ⟨rfl, rfl⟩
    · skip
      refine WP.skip ?_
      refine WP.seq ?_
      refine WP.region ?_
      refine OW.st (st_fa y83 rfl rfl y9 rfl) rfl rfl ?_
      refine OW.st (st_ld y9 rfl rfl rfl rfl) rfl rfl ?_
      refine OW.st (st_lenS y9 rfl) rfl rfl ?_
      refine OW.stB (st_le rfl rfl) rfl rfl (fun h6 => ?_) (fun h6 => ?_)
      · skip
        refine OW.st (st_mv rfl) rfl rfl ?_
        refine OW.st (Stp.yes rfl rfl (st_fa y83 rfl rfl y3 rfl)) rfl rfl ?_
        refine OW.st (Stp.yes rfl rfl (st_ld y3 rfl rfl rfl rfl)) rfl rfl ?_
        refine OW.stB (Stp.yes rfl rfl (st_eq rfl rfl)) rfl rfl (fun h7 => ?_) (fun h7 => ?_)
        · skip
          refine OW.st (st_pkT rfl rfl) rfl rfl ?_
          refine OW.st (st_mv rfl) rfl rfl ?_
          refine OW.st (Stp.yes rfl rfl (st_fa y83 rfl rfl y24 rfl)) rfl rfl ?_
          refine OW.st (Stp.yes rfl rfl (st_ld y24 rfl rfl rfl rfl)) rfl rfl ?_
          refine OW.st (Stp.yes rfl rfl (st_eq rfl rfl)) rfl rfl ?_
          refine OW.st (st_pkT rfl rfl) rfl rfl ?_
          refine OW.st (st_as rfl) rfl rfl ?_
          refine OW.nil ?_
          refine WP.ret ?_
          exact FinQ.ret (v0 := .bool (vmayB x)) (s0 := ⟨[], 0, [], [], []⟩) rfl rfl rfl rfl (Rnm.mk' [] rfl rfl rfl rfl (.cons rfl (.of_eq (by exact bool_of (by simp_all [vmayB] <;> omega)) rfl) .nil) .nil .nil) ⟨rfl, rfl⟩
        · skip
          refine OW.st (st_pkT rfl rfl) rfl rfl ?_
          refine OW.st (st_mv rfl) rfl rfl ?_
          refine OW.st (Stp.no rfl rfl) rfl rfl ?_
          refine OW.st (Stp.no rfl rfl) rfl rfl ?_
          refine OW.st (Stp.no rfl rfl) rfl rfl ?_
          refine OW.st (st_pkF rfl rfl) rfl rfl ?_
          refine OW.st (st_as rfl) rfl rfl ?_
          refine OW.nil ?_
          refine WP.ret ?_
          exact FinQ.ret (v0 := .bool (vmayB x)) (s0 := ⟨[], 0, [], [], []⟩) rfl rfl rfl rfl (Rnm.mk' [] rfl rfl rfl rfl (.cons rfl (.of_eq (by exact bool_of (by simp_all [vmayB] <;> omega)) rfl) .nil) .nil .nil) ⟨rfl, rfl⟩
      · skip
        refine OW.st (st_mv rfl) rfl rfl ?_
        refine OW.st (Stp.no rfl rfl) rfl rfl ?_
        refine OW.st (Stp.no rfl rfl) rfl rfl ?_
        refine OW.st (Stp.no rfl rfl) rfl rfl ?_
        refine OW.st (st_pkF rfl rfl) rfl rfl ?_
        refine OW.st (st_mv rfl) rfl rfl ?_
        refine OW.st (Stp.no rfl rfl) rfl rfl ?_
        refine OW.st (Stp.no rfl rfl) rfl rfl ?_
        refine OW.st (Stp.no rfl rfl) rfl rfl ?_
        refine OW.st (st_pkF rfl rfl) rfl rfl ?_
        refine OW.st (st_as rfl) rfl rfl ?_
        refine OW.nil ?_
        refine WP.ret ?_
        exact FinQ.ret (v0 := .bool (vmayB x)) (s0 := ⟨[], 0, [], [], []⟩) rfl rfl rfl rfl (Rnm.mk' [] rfl rfl rfl rfl (.cons rfl (.of_eq (by exact bool_of (by simp_all [vmayB] <;> omega)) rfl) .nil) .nil .nil) ⟨rfl, rfl⟩
theorem vmay_R {x : Item} (σ : St) : CallR cfg 112 [.agg ⟨[str (x.key), str (x.value), .bool (x.over), .int .i64 (x.len : Int), .int .u32 ((x.head : Nat) : Int)]⟩] σ (.bool (vmayB x)) σ :=
  CallR.plain rfl rfl (vmay_W) (fun v' s' h => h.1) σ
theorem lsize_W  {q0 : Nat} {f0 : Nat × Nat} {l : List Item} (hl : l.length ≤ 2600000000000) (hs : ∀ x ∈ l, x.key.length + x.value.length ≤ 1000000) :
    CW cfg 20 [.slice (some ⟨0, q0, some 5⟩) (l.length) 0] ⟨[(0, .cells ⟨rowJ kI q0 (l)⟩ 35 f0)], 1, [], [], []⟩ fun v' s' => v' = .int .i64 ((lsz l : Nat) : Int) ∧ s' = ⟨[(0, .cells ⟨rowJ kI q0 (l)⟩ 35 f0)], 1, [], [], []⟩ := by
  refine CW.of_WP cfg_ok g20 rfl rfl rfl ?_
  refine WP.seq ?_
  refine WP.region ?_
  refine OW.st (st_as rfl) rfl rfl ?_
  refine OW.nil ?_
  refine WP.seq ?_
  refine WP.seq ?_
  refine WP.region ?_
  refine OW.st (st_mv rfl) rfl rfl ?_
  refine OW.st (st_lenL y22 rfl) rfl rfl ?_
  refine OW.st (st_mv rfl) rfl rfl ?_
  refine OW.nil ?_
  refine WP.block ?_
  refine WP.loop (α := Nat) (fun (i : Nat) => i ≤ l.length ∧ lsz (l.take i) ≤ 1100000 * i) (fun (i : Nat) => l.length - i) (fun (i : Nat) => [(0, .slice (some ⟨0, q0, some 5⟩) (l.length) 0), (5, .slice (some ⟨0, q0, some 5⟩) (l.length) 0), (6, .int .i64 ((l.length : Nat) : Int)), (7, .int .i64 ((i : Nat) : Int)), (2, .int .i64 ((lsz (List.take i l) : Nat) : Int))]) (fun (i : Nat) => ⟨[(0, .cells ⟨rowJ kI q0 (l)⟩ 35 f0)], 1, [], [], []⟩) (0) ?_ ?_ ?_
  · exact ⟨Nat.zero_le _, Nat.le_refl _⟩
  · skip
    exact Rnm.mk' [(0, 0)] rfl rfl rfl rfl (.cons rfl (.sliceE rfl (by first | rfl | omega | (simp; done) | (simp; omega))) (.cons rfl (.sliceE rfl (by first | rfl | omega | (simp; done) | (simp; omega))) (.cons rfl (.flat rfl) (.cons rfl (.flat rfl) (.cons rfl (.flat rfl) .nil))))) (.cons rfl rfl (.cells (RNs_rowJ_of (rfl))) .nil) .nil
  intro i hp
  refine WP.seq ?_
  refine WP.region ?_
  refine OW.st (st_lt rfl rfl) rfl rfl ?_
  refine OW.nil ?_
  refine WP.seq ?_
  refine WP.condD rfl (fun h1 => ?_) (fun h1 => ?_)
  · skip
    refine WP.skip ?_
    refine WP.seq ?_
    refine WP.block ?_
    refine WP.seq ?_
    refine WP.region ?_
    obtain ⟨x, hx⟩ := ex_at (l := l) (i := i) (by omega)
    refine OW.st (st_iaO y22 y35 rfl rfl rfl (by omega)) rfl rfl ?_
    refine OW.st (st_lA y35 rfl rfl rfl (rowJ_at hx) rfl) rfl rfl ?_
    refine OW.st (st_al y35 rfl rfl rfl) rfl rfl ?_
    refine OW.st0 (st_st y35 rfl rfl rfl rfl rfl rfl (Nat.le_of_ble_eq_true rfl) rfl rfl) rfl ?_
    refine OW.nil ?_
    refine WP.drawn Hv.mix rfl ?_ rfl rfl
    refine DW.t (st_mv rfl) rfl ?_
    refine DW.t (st_fa y35 rfl rfl y9 rfl) rfl ?_
    have hxm := hs x (List.mem_of_getElem? hx)
    have hvs := vsz_le x
    refine DW.p (st_ld y9 rfl rfl rfl rfl) rfl (by kernel_rfl) ?_
    refine DW.t (st_lenS y9 rfl) rfl ?_
    refine DW.t (st_add (c := ((2 + (List.length (x.key)) : Nat) : Int)) rfl rfl (by unfold sm; omega)) rfl ?_
    refine DW.p (st_lA y35 rfl rfl rfl rfl rfl) rfl (by kernel_rfl) ?_
    refine DW.t (Stp.call Hv.ok rfl rfl rfl rfl rfl (vsize_R (by omega) _)) rfl ?_
    refine DW.t (st_add (c := (((2 + (List.length (x.key))) + (vsz x) : Nat) : Int)) rfl rfl (by unfold sm; omega)) rfl ?_
    refine DW.t (st_add (c := ((lsz (List.take (i + 1) l) : Nat) : Int)) rfl rfl (by rw [lsz_succ hx]; unfold sm; omega)) rfl ?_
    have hlz := lsz_succ hx
    refine DW.t (st_as rfl) rfl ?_
    refine DW.nil ⟨rfl, ?_⟩
    refine WP.region ?_
    refine OW.st (st_add (c := ((i + 1 : Nat) : Int)) rfl rfl (by unfold sm; omega)) rfl rfl ?_
    refine OW.st (st_mv rfl) rfl rfl ?_
    refine OW.nil ?_
    refine ⟨i + 1, ⟨by omega, by omega⟩, by omega, ?_⟩
    exact Rnm.mk' [(0, 0)] rfl rfl rfl rfl (.cons rfl (.sliceE rfl (by first | rfl | omega | (simp; done) | (simp; omega))) (.cons rfl (.sliceE rfl (by first | rfl | omega | (simp; done) | (simp; omega))) (.cons rfl (.flat rfl) (.cons rfl (.flat rfl) (.cons rfl (.flat rfl) .nil))))) (.cons rfl rfl (.cells (RNs_rowJ_of (rfl))) .nil) .nil
  · skip
    obtain rfl : l.length = i := by omega
    refine WP.exit ?_
    refine WP.seq ?_
    refine WP.region ?_
    refine OW.st (st_mv rfl) rfl rfl ?_
    refine OW.st (st_as rfl) rfl rfl ?_
    refine OW.nil ?_
    refine WP.ret ?_
    exact FinQ.ret (v0 := .int .i64 ((lsz l : Nat) : Int)) (s0 := ⟨[(0, .cells ⟨rowJ kI q0 (l)⟩ 35 f0)], 1, [], [], []⟩) rfl rfl rfl rfl (Rnm.mk' [(0, 0)] rfl rfl rfl rfl (.cons rfl (.of_eq (by exact int_of (by rw [List.take_length])) rfl) .nil) (.cons rfl rfl (.cells (RNs_rowJ_of (rfl))) .nil) .nil) ⟨rfl, rfl⟩
theorem lsize_R {h : List (Nat × Obj)} {nx a0 : Nat} {q0 : Nat} {f0 : Nat × Nat} {l : List Item} {m0 : Nat} (l0 : l.length = m0) (o0 : aget h a0 = some (.cells ⟨rowJ kI q0 (l)⟩ 35 f0))  (hl : l.length ≤ 2600000000000) (hs : ∀ x ∈ l, x.key.length + x.value.length ≤ 1000000) : CallR cfg 20 [.slice (some ⟨a0, q0, some 5⟩) m0 0] ⟨h, nx, [], [], []⟩ (.int .i64 ((lsz l : Nat) : Int)) ⟨h, nx + 0, [a0], [], []⟩ :=
  by subst l0; exact (CallR.lay (m := 0) (news0 := []) (news := []) [(0, a0)] (lsize_W hl hs) rfl rfl ((.cons (.slice rfl) .nil)) ((.cons rfl rfl o0 (.cells RNs_rowJ) (fun c hc => by cases hc) .nil)) (.flat rfl) (.nil))
theorem lsize_R1 {h : List (Nat × Obj)} {nx  : Nat}     (hl : (([] : List Item)).length ≤ 2600000000000) (hs : ∀ x ∈ (([] : List Item)), x.key.length + x.value.length ≤ 1000000) : CallR cfg 20 [.slice none 0 0] ⟨h, nx, [], [], []⟩ (.int .i64 ((lsz (([] : List Item)) : Nat) : Int)) ⟨h, nx + 0, [], [], []⟩ :=
  (CallR.lay (m := 0) (news0 := []) (news := []) [] (lsize_W (l := ([] : List Item)) (q0 := 0) (f0 := (0, 0)) hl hs) rfl rfl ((.cons (.nilS rfl) .nil)) (.nil) (.flat rfl) (.nil))
theorem vput_W  {x : Item} {l : List UInt8} (hl : l.length ≤ 100000) (hv : x.value.length ≤ 100000) :
    CW cfg 60 [.agg ⟨[str (x.key), str (x.value), .bool (x.over), .int .i64 (x.len : Int), .int .u32 ((x.head : Nat) : Int)]⟩, .slice (some ⟨0, 0, some 1⟩) (l.length) 0] ⟨[(0, .cells ⟨rowV kB (l)⟩ 5 (0, 0))], 1, [], [], []⟩ fun v' s' => v' = .slice (some ⟨1, 0, some 1⟩) (l.length + vsz x) 0 ∧ s' = ⟨[(1, .cells ⟨rowV kB (l ++ vput x)⟩ 5 (0, 0)), (0, .cells ⟨rowV kB (l)⟩ 5 (0, 0))], 2, [], [], []⟩ := by
  refine CW.of_WP cfg_ok g60 rfl rfl rfl ?_
  refine WP.seq ?_
  refine WP.region ?_
  refine OW.st (st_bx rfl rfl) rfl rfl ?_
  refine OW.st (st_as rfl) rfl rfl ?_
  refine OW.nil ?_
  refine WP.seq ?_
  refine WP.seq ?_
  refine WP.region ?_
  refine OW.st (st_fa y83 rfl rfl y4 rfl) rfl rfl ?_
  refine OW.st (st_ld y4 rfl rfl rfl rfl) rfl rfl ?_
  refine OW.nil ?_
  refine WP.cond rfl (fun h1 => ?_) (fun h1 => ?_)
  · skip
    refine WP.seq ?_
    refine WP.drawn Hv.mix rfl ?_ rfl rfl
    refine DW.t (st_mv rfl) rfl ?_
    refine DW.t (st_fa y83 rfl rfl y3 rfl) rfl ?_
    refine DW.p (st_ld y3 rfl rfl rfl rfl) rfl (by kernel_rfl) ?_
    refine DW.t (st_cvU y3 y25 rfl) rfl ?_
    refine DW.p (Stp.call Hv.ok rfl rfl rfl rfl rfl (put_R (k := 4) (by first | rfl | (simp [le_length]; done) | (simp [le_length]; omega)) rfl (by first | omega | (simp [List.length_append, le_length]; omega)) (by first | omega | decide))) rfl (by kernel_rfl) ?_
    refine DW.t (st_fa y83 rfl rfl y24 rfl) rfl ?_
    refine DW.p (st_ld y24 rfl rfl rfl rfl) rfl (by kernel_rfl) ?_
    refine DW.t (st_cvU y24 y25 rfl) rfl ?_
    refine DW.p (Stp.call Hv.ok rfl rfl rfl rfl rfl (put_R (k := 4) (by first | rfl | (simp [le_length]; done) | (simp [le_length]; omega)) rfl (by first | omega | (simp [List.length_append, le_length]; omega)) (by first | omega | decide))) rfl (by kernel_rfl) ?_
    refine DW.t (st_as rfl) rfl ?_
    refine DW.nil ⟨rfl, ?_⟩
    refine WP.ret ?_
    exact FinQ.ret (v0 := .slice (some ⟨1, 0, some 1⟩) (l.length + vsz x) 0) (s0 := ⟨[(1, .cells ⟨rowV kB (l ++ vput x)⟩ 5 (0, 0)), (0, .cells ⟨rowV kB (l)⟩ 5 (0, 0))], 2, [], [], []⟩) rfl rfl rfl rfl (Rnm.mk' [(1, 3), (0, 0)] rfl rfl rfl rfl (.cons rfl (.sliceE rfl (by simp [vsz, le_length, *] <;> omega)) .nil) (.cons rfl rfl (.cells (.of_eq (congrArg (rowV _) (by simp [vput, *])) (flats_rowV _))) (.cons rfl rfl (.cells (.of_eq rfl (flats_rowV _))) .nil)) .nil) ⟨rfl, rfl⟩
  · skip
    refine WP.skip ?_
    refine WP.seq ?_
    refine WP.drawn Hv.mix rfl ?_ rfl rfl
    refine DW.t (st_mv rfl) rfl ?_
    refine DW.t (st_fa y83 rfl rfl y9 rfl) rfl ?_
    refine DW.p (st_ld y9 rfl rfl rfl rfl) rfl (by kernel_rfl) ?_
    refine DW.t (st_lenS y9 rfl) rfl ?_
    refine DW.t (st_cvi y3 y25 rfl (u64_sm (by omega))) rfl ?_
    refine DW.p (Stp.call Hv.ok rfl rfl rfl rfl rfl (put_R (k := 1) (by first | rfl | (simp [le_length]; done) | (simp [le_length]; omega)) rfl (by first | omega | (simp [List.length_append, le_length]; omega)) (by first | omega | decide))) rfl (by kernel_rfl) ?_
    refine DW.t (st_fa y83 rfl rfl y9 rfl) rfl ?_
    refine DW.p (st_ld y9 rfl rfl rfl rfl) rfl (by kernel_rfl) ?_
    refine DW.p (st_app (z := 1) (c1 := rowV kB (l ++ le (List.length (x.value)) 1 ++ x.value)) y81 y5 rfl rfl rfl (by decide) rfl rfl (apd_str y9) rfl (by simp [rowV_length, le_length]) (ones_rowV _) (by first | omega | (simp [le_length]; omega)) (rowV_append _ _).symm rfl (rowV_empty rfl)) rfl (by kernel_rfl) ?_
    refine DW.t (st_as rfl) rfl ?_
    refine DW.nil ⟨rfl, ?_⟩
    refine WP.ret ?_
    exact FinQ.ret (v0 := .slice (some ⟨1, 0, some 1⟩) (l.length + vsz x) 0) (s0 := ⟨[(1, .cells ⟨rowV kB (l ++ vput x)⟩ 5 (0, 0)), (0, .cells ⟨rowV kB (l)⟩ 5 (0, 0))], 2, [], [], []⟩) rfl rfl rfl rfl (Rnm.mk' [(1, 3), (0, 0)] rfl rfl rfl rfl (.cons rfl (.sliceE rfl (by simp [vsz, le_length, *] <;> omega)) .nil) (.cons rfl rfl (.cells (.of_eq (congrArg (rowV _) (by simp [vput, *])) (flats_rowV _))) (.cons rfl rfl (.cells (.of_eq rfl (flats_rowV _))) .nil)) .nil) ⟨rfl, rfl⟩
theorem vput_R {h : List (Nat × Obj)} {nx a0 : Nat} {x : Item} {l : List UInt8} {m0 : Nat} (l0 : l.length = m0) (o0 : aget h a0 = some (.cells ⟨rowV kB (l)⟩ 5 (0, 0)))  (hl : l.length ≤ 100000) (hv : x.value.length ≤ 100000) : CallR cfg 60 [.agg ⟨[str (x.key), str (x.value), .bool (x.over), .int .i64 (x.len : Int), .int .u32 ((x.head : Nat) : Int)]⟩, .slice (some ⟨a0, 0, some 1⟩) m0 0] ⟨h, nx, [], [], []⟩ (.slice (some ⟨nx, 0, some 1⟩) (l.length + vsz x) 0) ⟨(nx, .cells ⟨rowV kB (l ++ vput x)⟩ 5 (0, 0)) :: h, nx + 1, [a0], [], []⟩ :=
  by subst l0; exact (CallR.lay (m := 1) (news0 := [(1 + 0, .cells ⟨rowV kB (l ++ vput x)⟩ 5 (0, 0))]) (news := [(nx + 0, .cells ⟨rowV kB (l ++ vput x)⟩ 5 (0, 0))]) [(0, a0)] (vput_W hl hv) rfl rfl ((.cons (.aggL ((.cons (.flat rfl) (.cons (.flat rfl) (.cons (.flat rfl) (.cons (.flat rfl) (.cons (.flat rfl) .nil))))))) (.cons (.slice rfl) .nil))) ((.cons rfl rfl o0 (.cells (.flats (flats_rowV _))) (fun c hc => by cases hc) .nil)) (.slice rfl) ((.cons (.cells (.flats (flats_rowV _))) .nil)))
theorem vput_R1 {h : List (Nat × Obj)} {nx  : Nat} {x : Item}    (hl : (([] : List UInt8)).length ≤ 100000) (hv : x.value.length ≤ 100000) : CallR cfg 60 [.agg ⟨[str (x.key), str (x.value), .bool (x.over), .int .i64 (x.len : Int), .int .u32 ((x.head : Nat) : Int)]⟩, .slice none 0 0] ⟨h, nx, [], [], []⟩ (.slice (some ⟨nx, 0, some 1⟩) ((([] : List UInt8)).length + vsz x) 0) ⟨(nx, .cells ⟨rowV kB ((([] : List UInt8)) ++ vput x)⟩ 5 (0, 0)) :: h, nx + 1, [], [], []⟩ :=
  (CallR.lay (m := 1) (news0 := [(1 + 0, .cells ⟨rowV kB ((([] : List UInt8)) ++ vput x)⟩ 5 (0, 0))]) (news := [(nx + 0, .cells ⟨rowV kB ((([] : List UInt8)) ++ vput x)⟩ 5 (0, 0))]) [] (vput_W hl hv) rfl rfl ((.cons (.aggL ((.cons (.flat rfl) (.cons (.flat rfl) (.cons (.flat rfl) (.cons (.flat rfl) (.cons (.flat rfl) .nil))))))) (.cons (.nilS rfl) .nil))) (.nil) (.slice rfl) ((.cons (.cells (.flats (flats_rowV _))) .nil)))
theorem lmay_W  {q0 : Nat} {f0 : Nat × Nat} {l : List Item} (hl : l.length ≤ 2600000000000) :
    CW cfg 56 [.slice (some ⟨0, q0, some 5⟩) (l.length) 0] ⟨[(0, .cells ⟨rowJ kI q0 (l)⟩ 35 f0)], 1, [], [], []⟩ fun v' s' => v' = .bool (lmayB l) ∧ s' = ⟨[(0, .cells ⟨rowJ kI q0 (l)⟩ 35 f0)], 1, [], [], []⟩ := by
  refine CW.of_WP cfg_ok g56 rfl rfl rfl ?_
  refine WP.seq ?_
  refine WP.region ?_
  refine OW.st (st_as rfl) rfl rfl ?_
  refine OW.nil ?_
  refine WP.seq ?_
  refine WP.seq ?_
  refine WP.region ?_
  refine OW.st (st_mv rfl) rfl rfl ?_
  refine OW.st (st_lenL y22 rfl) rfl rfl ?_
  refine OW.st (st_mv rfl) rfl rfl ?_
  refine OW.nil ?_
  refine WP.block ?_
  refine WP.loop (α := Nat) (fun (i : Nat) => i ≤ l.length ∧ ∀ j, j < i → okAt l j = true) (fun (i : Nat) => l.length - i) (fun (i : Nat) => [(0, .slice (some ⟨0, q0, some 5⟩) (l.length) 0), (5, .slice (some ⟨0, q0, some 5⟩) (l.length) 0), (6, .int .i64 ((l.length : Nat) : Int)), (7, .int .i64 ((i : Nat) : Int))]) (fun (i : Nat) => ⟨[(0, .cells ⟨rowJ kI q0 (l)⟩ 35 f0)], 1, [], [], []⟩) (0) ?_ ?_ ?_
  · exact ⟨Nat.zero_le _, fun j hj => absurd hj (Nat.not_lt_zero _)⟩
  · skip
    exact Rnm.mk' [(0, 0)] rfl rfl rfl rfl (.cons rfl (.sliceE rfl (by first | rfl | omega | (simp; done) | (simp; omega))) (.cons rfl (.sliceE rfl (by first | rfl | omega | (simp; done) | (simp; omega))) (.cons rfl (.flat rfl) (.cons rfl (.flat rfl) .nil)))) (.cons rfl rfl (.cells (RNs_rowJ_of (rfl))) .nil) .nil
  intro i hp
  refine WP.seq ?_
  refine WP.region ?_
  refine OW.st (st_lt rfl rfl) rfl rfl ?_
  refine OW.nil ?_
  refine WP.seq ?_
  refine WP.condD rfl (fun h1 => ?_) (fun h1 => ?_)
  · skip
    refine WP.skip ?_
    refine WP.seq ?_
    refine WP.block ?_
    refine WP.seq ?_
    refine WP.region ?_
    refine OW.st (st_mv rfl) rfl rfl ?_
    obtain ⟨x, hx⟩ := ex_at (l := l) (i := i) (by omega)
    refine OW.st (st_iaO y22 y35 rfl rfl rfl (by omega)) rfl rfl ?_
    refine OW.st (st_lA y35 rfl rfl rfl (rowJ_at hx) rfl) rfl rfl ?_
    refine OW.st (st_al y35 rfl rfl rfl) rfl rfl ?_
    refine OW.st (st_as rfl) rfl rfl ?_
    refine OW.st0 (st_st y35 rfl rfl rfl rfl rfl rfl (Nat.le_of_ble_eq_true rfl) rfl rfl) rfl ?_
    refine OW.nil ?_
    refine WP.seq ?_
    refine WP.drawn Hv.mix rfl ?_ rfl rfl
    refine DW.p (st_lA y35 rfl rfl rfl rfl rfl) rfl (by kernel_rfl) ?_
    refine DW.stb (Stp.call Hv.ok rfl rfl rfl rfl rfl (vmay_R _)) rfl (fun h2 => ?_) (fun h2 => ?_)
    · skip
      refine DW.t (st_not rfl) rfl ?_
      refine DW.t (st_mv rfl) rfl ?_
      refine DW.t (Stp.yes rfl rfl (st_mv rfl)) rfl ?_
      refine DW.stB (Stp.yes rfl rfl (st_gt rfl rfl)) rfl (fun h3 => ?_) (fun h3 => ?_)
      · skip
        refine DW.t (Stp.yes rfl rfl (st_mv rfl)) rfl ?_
        refine DW.t (Stp.yes rfl rfl (st_mv rfl)) rfl ?_
        refine DW.t (Stp.yes rfl rfl (st_mv rfl)) rfl ?_
        refine DW.t (Stp.yes rfl rfl (st_sub (c := ((i - 1 : Nat) : Int)) rfl rfl (by unfold sm; omega))) rfl ?_
        obtain ⟨y, hy⟩ := ex_at (l := l) (i := i - 1) (by omega)
        refine DW.t (Stp.yes rfl rfl (st_iaO y22 y35 rfl rfl rfl (by omega))) rfl ?_
        refine DW.t (Stp.yes rfl rfl (st_fa y35 rfl rfl y9 rfl)) rfl ?_
        refine DW.p (Stp.yes rfl rfl (st_ld y9 rfl rfl rfl (rowJ_nth hy rfl))) rfl (by kernel_rfl) ?_
        refine DW.t (Stp.yes rfl rfl (st_fa y35 rfl rfl y9 rfl)) rfl ?_
        refine DW.p (Stp.yes rfl rfl (st_ld y9 rfl rfl rfl rfl)) rfl (by kernel_rfl) ?_
        refine DW.t (Stp.yes rfl rfl (st_geS rfl rfl)) rfl ?_
        refine DW.t (Stp.yes rfl rfl (st_pkT rfl rfl)) rfl ?_
        refine DW.t (st_pkF rfl rfl) rfl ?_
        refine DW.nil ⟨rfl, ?_⟩
        refine WP.cond rfl (fun h4 => ?_) (fun h4 => ?_)
        · skip
          refine WP.seq ?_
          refine WP.region ?_
          refine OW.st (st_as rfl) rfl rfl ?_
          refine OW.nil ?_
          refine WP.ret ?_
          exact FinQ.ret (v0 := .bool (lmayB l)) (s0 := ⟨[(0, .cells ⟨rowJ kI q0 (l)⟩ 35 f0)], 1, [], [], []⟩) rfl rfl rfl rfl (Rnm.mk' [(0, 0)] rfl rfl rfl rfl (.cons rfl (.of_eq (by first | exact bool_of (by rw [lmay_end hp.2]; simp) | exact bool_of (by rw [lmay_bad (i := i) (by omega) (by first | (simp_all [okAt]; done) | (simp_all [okAt]; omega))])) rfl) .nil) (.cons rfl rfl (.cells (RNs_rowJ_of (rfl))) .nil) .nil) ⟨rfl, rfl⟩
        · skip
          refine WP.skip ?_
          refine WP.region ?_
          refine OW.st (st_add (c := ((i + 1 : Nat) : Int)) rfl rfl (by unfold sm; omega)) rfl rfl ?_
          refine OW.st (st_mv rfl) rfl rfl ?_
          refine OW.nil ?_
          refine ⟨i + 1, ⟨by omega, all_succ hp.2 (by first | (simp_all [okAt]; done) | (simp_all [okAt]; omega))⟩, by omega, ?_⟩
          exact Rnm.mk' [(0, 0)] rfl rfl rfl rfl (.cons rfl (.sliceE rfl (by first | rfl | omega | (simp; done) | (simp; omega))) (.cons rfl (.sliceE rfl (by first | rfl | omega | (simp; done) | (simp; omega))) (.cons rfl (.flat rfl) (.cons rfl (.flat rfl) .nil)))) (.cons rfl rfl (.cells (RNs_rowJ_of (rfl))) .nil) .nil
      · skip
        refine DW.t (Stp.yes rfl rfl (st_mv rfl)) rfl ?_
        refine DW.t (Stp.no rfl rfl) rfl ?_
        refine DW.t (Stp.no rfl rfl) rfl ?_
        refine DW.t (Stp.no rfl rfl) rfl ?_
        refine DW.t (Stp.no rfl rfl) rfl ?_
        refine DW.t (Stp.no rfl rfl) rfl ?_
        refine DW.t (Stp.no rfl rfl) rfl ?_
        refine DW.t (Stp.no rfl rfl) rfl ?_
        refine DW.t (Stp.no rfl rfl) rfl ?_
        refine DW.t (Stp.no rfl rfl) rfl ?_
        refine DW.t (Stp.yes rfl rfl (st_pkF rfl rfl)) rfl ?_
        refine DW.t (st_pkF rfl rfl) rfl ?_
        refine DW.nil ⟨rfl, ?_⟩
        refine WP.condF rfl ?_
        refine WP.skip ?_
        refine WP.region ?_
        refine OW.st (st_add (c := ((i + 1 : Nat) : Int)) rfl rfl (by unfold sm; omega)) rfl rfl ?_
        refine OW.st (st_mv rfl) rfl rfl ?_
        refine OW.nil ?_
        refine ⟨i + 1, ⟨by omega, all_succ hp.2 (by first | (simp_all [okAt]; done) | (simp_all [okAt]; omega))⟩, by omega, ?_⟩
        exact Rnm.mk' [(0, 0)] rfl rfl rfl rfl (.cons rfl (.sliceE rfl (by first | rfl | omega | (simp; done) | (simp; omega))) (.cons rfl (.sliceE rfl (by first | rfl | omega | (simp; done) | (simp; omega))) (.cons rfl (.flat rfl) (.cons rfl (.flat rfl) .nil)))) (.cons rfl rfl (.cells (RNs_rowJ_of (rfl))) .nil) .nil
    · skip
      refine DW.t (st_not rfl) rfl ?_
      refine DW.t (st_mv rfl) rfl ?_
      refine DW.t (Stp.no rfl rfl) rfl ?_
      refine DW.t (Stp.no rfl rfl) rfl ?_
      refine DW.t (Stp.no rfl rfl) rfl ?_
      refine DW.t (Stp.nou rfl) rfl ?_
      refine DW.t (Stp.nou rfl) rfl ?_
      refine DW.t (Stp.nou rfl) rfl ?_
      refine DW.t (Stp.nou rfl) rfl ?_
      refine DW.t (Stp.nou rfl) rfl ?_
      refine DW.t (Stp.nou rfl) rfl ?_
      refine DW.t (Stp.nou rfl) rfl ?_
      refine DW.t (Stp.nou rfl) rfl ?_
      refine DW.t (Stp.nou rfl) rfl ?_
      refine DW.t (Stp.no rfl rfl) rfl ?_
      refine DW.t (st_pkT rfl rfl) rfl ?_
      refine DW.nil ⟨rfl, ?_⟩
      refine WP.condT rfl ?_
      refine WP.seq ?_
      refine WP.region ?_
      refine OW.st (st_as rfl) rfl rfl ?_
      refine OW.nil ?_
      refine WP.ret ?_
      exact FinQ.ret (v0 := .bool (lmayB l)) (s0 := ⟨[(0, .cells ⟨rowJ kI q0 (l)⟩ 35 f0)], 1, [], [], []⟩) rfl rfl rfl rfl (Rnm.mk' [(0, 0)] rfl rfl rfl rfl (.cons rfl (.of_eq (by first | exact bool_of (by rw [lmay_end hp.2]; simp) | exact bool_of (by rw [lmay_bad (i := i) (by omega) (by first | (simp_all [okAt]; done) | (simp_all [okAt]; omega))])) rfl) .nil) (.cons rfl rfl (.cells (RNs_rowJ_of (rfl))) .nil) .nil) ⟨rfl, rfl⟩
  · skip
    obtain rfl : l.length = i := by omega
    refine WP.exit ?_
    refine WP.seq ?_
    refine WP.region ?_
    refine OW.st (st_mv rfl) rfl rfl ?_
    refine OW.st (st_lenL y22 rfl) rfl rfl ?_
    refine OW.st (st_gt rfl rfl) rfl rfl ?_
    refine OW.st (st_as rfl) rfl rfl ?_
    refine OW.nil ?_
    refine WP.ret ?_
    exact FinQ.ret (v0 := .bool (lmayB l)) (s0 := ⟨[(0, .cells ⟨rowJ kI q0 (l)⟩ 35 f0)], 1, [], [], []⟩) rfl rfl rfl rfl (Rnm.mk' [(0, 0)] rfl rfl rfl rfl (.cons rfl (.of_eq (by first | exact bool_of (by rw [lmay_end hp.2]; simp) | exact bool_of (by rw [lmay_bad (i := i) (by omega) (by first | (simp_all [okAt]; done) | (simp_all [okAt]; omega))])) rfl) .nil) (.cons rfl rfl (.cells (RNs_rowJ_of (rfl))) .nil) .nil) ⟨rfl, rfl⟩
theorem lmay_R {h : List (Nat × Obj)} {nx a0 : Nat} {q0 : Nat} {f0 : Nat × Nat} {l : List Item} {m0 : Nat} (l0 : l.length = m0) (o0 : aget h a0 = some (.cells ⟨rowJ kI q0 (l)⟩ 35 f0))  (hl : l.length ≤ 2600000000000) : CallR cfg 56 [.slice (some ⟨a0, q0, some 5⟩) m0 0] ⟨h, nx, [], [], []⟩ (.bool (lmayB l)) ⟨h, nx + 0, [a0], [], []⟩ :=
  by subst l0; exact (CallR.lay (m := 0) (news0 := []) (news := []) [(0, a0)] (lmay_W hl) rfl rfl ((.cons (.slice rfl) .nil)) ((.cons rfl rfl o0 (.cells RNs_rowJ) (fun c hc => by cases hc) .nil)) (.flat rfl) (.nil))
theorem lmay_R1 {h : List (Nat × Obj)} {nx  : Nat}     (hl : (([] : List Item)).length ≤ 2600000000000) : CallR cfg 56 [.slice none 0 0] ⟨h, nx, [], [], []⟩ (.bool (lmayB (([] : List Item)))) ⟨h, nx + 0, [], [], []⟩ :=
  (CallR.lay (m := 0) (news0 := []) (news := []) [] (lmay_W (l := ([] : List Item)) (q0 := 0) (f0 := (0, 0)) hl) rfl rfl ((.cons (.nilS rfl) .nil)) (.nil) (.flat rfl) (.nil))
theorem lpage_W  {q0 : Nat} {f0 : Nat × Nat} {s : Int} {n tx : Nat} {l : List Item} (hl : l.length ≤ 2600000000000) :
    CW cfg 15 [.int .i64 (s : Int), .int .u32 ((n : Nat) : Int), .int .u64 ((tx : Nat) : Int), .slice (some ⟨0, q0, some 5⟩) (l.length) 0] ⟨[(0, .cells ⟨rowJ kI q0 (l)⟩ 35 f0)], 1, [], [], []⟩ fun v' s' => v' = .tuple ⟨[.agg ⟨[.int .i64 ((lpg s n tx l).kind : Int), .int .i64 ((lpg s n tx l).count : Int), .int .u32 (((lpg s n tx l).page : Nat) : Int), .int .u32 (((lpg s n tx l).link : Nat) : Int), .int .u64 (((lpg s n tx l).tx : Nat) : Int), str ((lpg s n tx l).body)]⟩, .int .i64 ((lpgE s n tx l : Nat) : Int)]⟩ ∧ s' = ⟨[(0, .cells ⟨rowJ kI q0 (l)⟩ 35 f0)], 1, [], [], []⟩ := by
  refine CW.of_WP cfg_ok g15 rfl rfl rfl ?_
  refine WP.seq ?_
  refine WP.region ?_
  refine OW.st (st_al y27 rfl rfl rfl) rfl rfl ?_
  refine OW.st (st_as rfl) rfl rfl ?_
  refine OW.nil ?_
  refine WP.seq ?_
  refine WP.seq ?_
  refine WP.region ?_
  refine OW.st (st_mv rfl) rfl rfl ?_
  refine OW.stb (Stp.call Hv.ok rfl rfl rfl rfl rfl (lmay_R (q0 := q0) (l := l) (by first | rfl | (simp [le_length]; done) | (simp [le_length]; omega)) rfl (by omega))) rfl rfl (fun h1 => ?_) (fun h1 => ?_)
  · skip
    refine OW.st (st_not rfl) rfl rfl ?_
    refine OW.st (st_mv rfl) rfl rfl ?_
    refine OW.st (Stp.yes rfl rfl (st_mv rfl)) rfl rfl ?_
    refine OW.st (Stp.yes rfl rfl (Stp.call Hv.ok rfl rfl rfl rfl rfl (lsize_R (q0 := q0) (l := l) (by first | rfl | (simp [le_length]; done) | (simp [le_length]; omega)) rfl (hl) (lmay_sz (by simp_all))))) rfl rfl ?_
    refine OW.st (Stp.yes rfl rfl (st_mv rfl)) rfl rfl ?_
    refine OW.st (Stp.yes rfl rfl (Stp.call Hv.ok rfl rfl rfl rfl rfl (room_R _))) rfl rfl ?_
    refine OW.stB (Stp.yes rfl rfl (st_gt rfl rfl)) rfl rfl (fun h2 => ?_) (fun h2 => ?_)
    · skip
      refine OW.st (st_pkF rfl rfl) rfl rfl ?_
      refine OW.st (st_mv rfl) rfl rfl ?_
      refine OW.st (Stp.no rfl rfl) rfl rfl ?_
      refine OW.st (Stp.no rfl rfl) rfl rfl ?_
      refine OW.st (Stp.no rfl rfl) rfl rfl ?_
      refine OW.st (st_pkT rfl rfl) rfl rfl ?_
      refine OW.st (st_mv rfl) rfl rfl ?_
      refine OW.st (Stp.no rfl rfl) rfl rfl ?_
      refine OW.st (Stp.no rfl rfl) rfl rfl ?_
      refine OW.st (st_pkT rfl rfl) rfl rfl ?_
      refine OW.nil ?_
      refine WP.condT rfl ?_
      have hok : lpgOk s n tx l = false := by simp_all [lpgOk] <;> omega
      refine WP.seq ?_
      refine WP.region ?_
      refine OW.st (st_bdS y27 rfl rfl rfl rfl rfl rfl) rfl rfl ?_
      refine OW.st0 (st_st y27 rfl rfl rfl rfl rfl rfl (Nat.le_of_ble_eq_true rfl) rfl rfl) rfl ?_
      refine OW.st (st_as rfl) rfl rfl ?_
      refine OW.nil ?_
      refine WP.ret ?_
      exact FinQ.ret (v0 := .tuple ⟨[.agg ⟨[.int .i64 ((lpg s n tx l).kind : Int), .int .i64 ((lpg s n tx l).count : Int), .int .u32 (((lpg s n tx l).page : Nat) : Int), .int .u32 (((lpg s n tx l).link : Nat) : Int), .int .u64 (((lpg s n tx l).tx : Nat) : Int), str ((lpg s n tx l).body)]⟩, .int .i64 ((lpgE s n tx l : Nat) : Int)]⟩) (s0 := ⟨[(0, .cells ⟨rowJ kI q0 (l)⟩ 35 f0)], 1, [], [], []⟩) rfl rfl rfl rfl (Rnm.mk' [(0, 0)] rfl rfl rfl rfl (.cons rfl (.tupleL ((.cons (.aggL ((.cons (.of_eq (by first | (rw [(lpg_ok hok).1] <;> rfl) | (rw [(lpg_ok hok).1, List.take_length] <;> rfl) | (rw [(lpg_bad hok).1] <;> rfl) | (rw [(lpg_ok hok).2] <;> rfl) | (rw [(lpg_bad hok).2] <;> rfl)) rfl) (.cons (.of_eq (by first | (rw [(lpg_ok hok).1] <;> rfl) | (rw [(lpg_ok hok).1, List.take_length] <;> rfl) | (rw [(lpg_bad hok).1] <;> rfl) | (rw [(lpg_ok hok).2] <;> rfl) | (rw [(lpg_bad hok).2] <;> rfl)) rfl) (.cons (.of_eq (by first | (rw [(lpg_ok hok).1] <;> rfl) | (rw [(lpg_ok hok).1, List.take_length] <;> rfl) | (rw [(lpg_bad hok).1] <;> rfl) | (rw [(lpg_ok hok).2] <;> rfl) | (rw [(lpg_bad hok).2] <;> rfl)) rfl) (.cons (.of_eq (by first | (rw [(lpg_ok hok).1] <;> rfl) | (rw [(lpg_ok hok).1, List.take_length] <;> rfl) | (rw [(lpg_bad hok).1] <;> rfl) | (rw [(lpg_ok hok).2] <;> rfl) | (rw [(lpg_bad hok).2] <;> rfl)) rfl) (.cons (.of_eq (by first | (rw [(lpg_ok hok).1] <;> rfl) | (rw [(lpg_ok hok).1, List.take_length] <;> rfl) | (rw [(lpg_bad hok).1] <;> rfl) | (rw [(lpg_ok hok).2] <;> rfl) | (rw [(lpg_bad hok).2] <;> rfl)) rfl) (.cons (.of_eq (by first | (rw [(lpg_ok hok).1] <;> rfl) | (rw [(lpg_ok hok).1, List.take_length] <;> rfl) | (rw [(lpg_bad hok).1] <;> rfl) | (rw [(lpg_ok hok).2] <;> rfl) | (rw [(lpg_bad hok).2] <;> rfl)) rfl) .nil)))))))) (.cons (.of_eq (by first | (rw [(lpg_ok hok).1] <;> rfl) | (rw [(lpg_ok hok).1, List.take_length] <;> rfl) | (rw [(lpg_bad hok).1] <;> rfl) | (rw [(lpg_ok hok).2] <;> rfl) | (rw [(lpg_bad hok).2] <;> rfl)) rfl) .nil)))) .nil) (.cons rfl rfl (.cells (RNs_rowJ_of (rfl))) .nil) .nil) ⟨rfl, rfl⟩
    · skip
      refine OW.st (st_pkF rfl rfl) rfl rfl ?_
      refine OW.st (st_mv rfl) rfl rfl ?_
      refine OW.st (Stp.yes rfl rfl (st_mv rfl)) rfl rfl ?_
      refine OW.stb (Stp.yes rfl rfl (Stp.call Hv.ok rfl rfl rfl rfl rfl (lnumber_R _))) rfl rfl (fun h3 => ?_) (fun h3 => ?_)
      · skip
        refine OW.st (Stp.yes rfl rfl (st_not rfl)) rfl rfl ?_
        refine OW.st (st_pkF rfl rfl) rfl rfl ?_
        refine OW.st (st_mv rfl) rfl rfl ?_
        refine OW.st (Stp.yes rfl rfl (st_mv rfl)) rfl rfl ?_
        refine OW.st (Stp.yes rfl rfl (st_gt rfl rfl)) rfl rfl ?_
        refine OW.st (st_pkF rfl rfl) rfl rfl ?_
        refine OW.nil ?_
        refine WP.condD rfl (fun h4 => ?_) (fun h4 => ?_)
        · skip
          have hok : lpgOk s n tx l = false := by simp_all [lpgOk] <;> omega
          refine WP.seq ?_
          refine WP.region ?_
          refine OW.st (st_bdS y27 rfl rfl rfl rfl rfl rfl) rfl rfl ?_
          refine OW.st0 (st_st y27 rfl rfl rfl rfl rfl rfl (Nat.le_of_ble_eq_true rfl) rfl rfl) rfl ?_
          refine OW.st (st_as rfl) rfl rfl ?_
          refine OW.nil ?_
          refine WP.ret ?_
          exact FinQ.ret (v0 := .tuple ⟨[.agg ⟨[.int .i64 ((lpg s n tx l).kind : Int), .int .i64 ((lpg s n tx l).count : Int), .int .u32 (((lpg s n tx l).page : Nat) : Int), .int .u32 (((lpg s n tx l).link : Nat) : Int), .int .u64 (((lpg s n tx l).tx : Nat) : Int), str ((lpg s n tx l).body)]⟩, .int .i64 ((lpgE s n tx l : Nat) : Int)]⟩) (s0 := ⟨[(0, .cells ⟨rowJ kI q0 (l)⟩ 35 f0)], 1, [], [], []⟩) rfl rfl rfl rfl (Rnm.mk' [(0, 0)] rfl rfl rfl rfl (.cons rfl (.tupleL ((.cons (.aggL ((.cons (.of_eq (by first | (rw [(lpg_ok hok).1] <;> rfl) | (rw [(lpg_ok hok).1, List.take_length] <;> rfl) | (rw [(lpg_bad hok).1] <;> rfl) | (rw [(lpg_ok hok).2] <;> rfl) | (rw [(lpg_bad hok).2] <;> rfl)) rfl) (.cons (.of_eq (by first | (rw [(lpg_ok hok).1] <;> rfl) | (rw [(lpg_ok hok).1, List.take_length] <;> rfl) | (rw [(lpg_bad hok).1] <;> rfl) | (rw [(lpg_ok hok).2] <;> rfl) | (rw [(lpg_bad hok).2] <;> rfl)) rfl) (.cons (.of_eq (by first | (rw [(lpg_ok hok).1] <;> rfl) | (rw [(lpg_ok hok).1, List.take_length] <;> rfl) | (rw [(lpg_bad hok).1] <;> rfl) | (rw [(lpg_ok hok).2] <;> rfl) | (rw [(lpg_bad hok).2] <;> rfl)) rfl) (.cons (.of_eq (by first | (rw [(lpg_ok hok).1] <;> rfl) | (rw [(lpg_ok hok).1, List.take_length] <;> rfl) | (rw [(lpg_bad hok).1] <;> rfl) | (rw [(lpg_ok hok).2] <;> rfl) | (rw [(lpg_bad hok).2] <;> rfl)) rfl) (.cons (.of_eq (by first | (rw [(lpg_ok hok).1] <;> rfl) | (rw [(lpg_ok hok).1, List.take_length] <;> rfl) | (rw [(lpg_bad hok).1] <;> rfl) | (rw [(lpg_ok hok).2] <;> rfl) | (rw [(lpg_bad hok).2] <;> rfl)) rfl) (.cons (.of_eq (by first | (rw [(lpg_ok hok).1] <;> rfl) | (rw [(lpg_ok hok).1, List.take_length] <;> rfl) | (rw [(lpg_bad hok).1] <;> rfl) | (rw [(lpg_ok hok).2] <;> rfl) | (rw [(lpg_bad hok).2] <;> rfl)) rfl) .nil)))))))) (.cons (.of_eq (by first | (rw [(lpg_ok hok).1] <;> rfl) | (rw [(lpg_ok hok).1, List.take_length] <;> rfl) | (rw [(lpg_bad hok).1] <;> rfl) | (rw [(lpg_ok hok).2] <;> rfl) | (rw [(lpg_bad hok).2] <;> rfl)) rfl) .nil)))) .nil) (.cons rfl rfl (.cells (RNs_rowJ_of (rfl))) .nil) .nil) ⟨rfl, rfl⟩
        · skip
          have hok : lpgOk s n tx l = true := by simp_all [lpgOk] <;> omega
          have hmay : lmayB l = true := by simp_all
          have hrl := room_le s
          have hsz : lsz l ≤ room s := by omega
          refine WP.skip ?_
          refine WP.seq ?_
          refine WP.region ?_
          refine OW.st (st_as rfl) rfl rfl ?_
          refine OW.nil ?_
          refine WP.seq ?_
          refine WP.seq ?_
          refine WP.region ?_
          refine OW.st (st_mv rfl) rfl rfl ?_
          refine OW.st (st_lenL y22 rfl) rfl rfl ?_
          refine OW.st (st_mv rfl) rfl rfl ?_
          refine OW.nil ?_
          refine WP.block ?_
          refine WP.loop (α := Nat) (fun (i : Nat) => i ≤ l.length) (fun (i : Nat) => l.length - i) (fun (i : Nat) => [(0, .int .i64 (s : Int)), (1, .int .u32 ((n : Nat) : Int)), (2, .int .u64 ((tx : Nat) : Int)), (3, .slice (some ⟨0, q0, some 5⟩) (l.length) 0), (8, .pointer (some ⟨1, 0, none⟩)), (36, .slice (some ⟨0, q0, some 5⟩) (l.length) 0), (37, .int .i64 ((l.length : Nat) : Int)), (38, .int .i64 ((i : Nat) : Int)), (10, .slice (some ⟨2, 0, some 1⟩) (List.length (lbytes (List.take i l))) 0)]) (fun (i : Nat) => ⟨[(2, .cells ⟨rowV kB (lbytes (List.take i l))⟩ 5 (0, 0)), (1, .cells ⟨[.int .i64 (0 : Int), .int .i64 (0 : Int), .int .u32 ((0 : Nat) : Int), .int .u32 ((0 : Nat) : Int), .int .u64 ((0 : Nat) : Int), str ([])]⟩ 27 (0, 0)), (0, .cells ⟨rowJ kI q0 (l)⟩ 35 f0)], 3, [], [], []⟩) (0) ?_ ?_ ?_
          · omega
          · skip
            exact Rnm.mk' [(1, 1), (0, 0)] rfl rfl rfl rfl (.cons rfl (.flat rfl) (.cons rfl (.flat rfl) (.cons rfl (.flat rfl) (.cons rfl (.sliceE rfl (by first | rfl | omega | (simp; done) | (simp; omega))) (.cons rfl (.ptr rfl) (.cons rfl (.sliceE rfl (by first | rfl | omega | (simp; done) | (simp; omega))) (.cons rfl (.flat rfl) (.cons rfl (.flat rfl) (.cons rfl (.nilE (by first | rfl | omega | (simp; done))) .nil))))))))) (.ghost rfl rfl (.cons rfl rfl (.cells (.cons (.flat rfl) (.cons (.flat rfl) (.cons (.flat rfl) (.cons (.flat rfl) (.cons (.flat rfl) (.cons (.flat rfl) .nil))))))) (.cons rfl rfl (.cells (RNs_rowJ_of (rfl))) .nil))) .nil
          intro i hp
          have hbl : (lbytes (List.take i l)).length ≤ 4072 := by rw [lbytes_length]; have := lsz_take_le l i; omega
          refine WP.seq ?_
          refine WP.region ?_
          refine OW.st (st_lt rfl rfl) rfl rfl ?_
          refine OW.nil ?_
          refine WP.seq ?_
          refine WP.condD rfl (fun h5 => ?_) (fun h5 => ?_)
          · skip
            refine WP.skip ?_
            refine WP.seq ?_
            refine WP.block ?_
            refine WP.seq ?_
            refine WP.region ?_
            obtain ⟨x, hx⟩ := ex_at (l := l) (i := i) (by omega)
            refine OW.st (st_iaO y22 y35 rfl rfl rfl (by omega)) rfl rfl ?_
            refine OW.st (st_lA y35 rfl rfl rfl (rowJ_at hx) rfl) rfl rfl ?_
            refine OW.st (st_al y35 rfl rfl rfl) rfl rfl ?_
            refine OW.st0 (st_st y35 rfl rfl rfl rfl rfl rfl (Nat.le_of_ble_eq_true rfl) rfl rfl) rfl ?_
            have hxm := vmay_le (lmay_at hmay hx)
            refine OW.nil ?_
            refine WP.seq ?_
            refine WP.region ?_
            refine OW.st (st_as rfl) rfl rfl ?_
            refine OW.nil ?_
            refine WP.seq ?_
            refine WP.seq ?_
            refine WP.region ?_
            refine OW.st (st_fa y35 rfl rfl y4 rfl) rfl rfl ?_
            refine OW.st (st_ld y4 rfl rfl rfl rfl) rfl rfl ?_
            refine OW.nil ?_
            refine WP.cond rfl (fun hov => ?_) (fun hov => ?_)
            · skip
              refine WP.region ?_
              refine OW.st (st_as rfl) rfl rfl ?_
              refine OW.nil ?_
              refine WP.seq ?_
              refine WP.drawn Hv.mix rfl ?_ rfl rfl
              refine DW.t (st_mv rfl) rfl ?_
              refine DW.t (st_mv rfl) rfl ?_
              refine DW.p (Stp.call Hv.ok rfl rfl rfl rfl rfl (put_R (n := 1) (k := 1) (by first | rfl | (simp [le_length]; done) | (simp [le_length]; omega)) rfl (by first | omega | (simp [List.length_append, le_length]; omega)) (by first | omega | decide))) rfl (by kernel_rfl) ?_
              refine DW.t (st_fa y35 rfl rfl y9 rfl) rfl ?_
              refine DW.p (st_ld y9 rfl rfl rfl rfl) rfl (by kernel_rfl) ?_
              refine DW.t (st_lenS y9 rfl) rfl ?_
              refine DW.t (st_cvi y3 y25 rfl (u64_sm (by omega))) rfl ?_
              refine DW.p (Stp.call Hv.ok rfl rfl rfl rfl rfl (put_R (k := 1) (by first | rfl | (simp [le_length]; done) | (simp [le_length]; omega)) rfl (by first | omega | (simp [List.length_append, le_length]; omega)) (by first | omega | decide))) rfl (by kernel_rfl) ?_
              refine DW.t (st_as rfl) rfl ?_
              refine DW.nil ⟨rfl, ?_⟩
              refine WP.drawn Hv.mix rfl ?_ rfl rfl
              refine DW.p (st_lA y35 rfl rfl rfl rfl rfl) rfl (by kernel_rfl) ?_
              refine DW.t (st_mv rfl) rfl ?_
              refine DW.t (st_fa y35 rfl rfl y9 rfl) rfl ?_
              refine DW.p (st_ld y9 rfl rfl rfl rfl) rfl (by kernel_rfl) ?_
              refine DW.p (st_app (z := 1) (c1 := rowV kB (((lbytes (List.take i l)) ++ le 1 1) ++ le (List.length (x.key)) 1 ++ x.key)) y81 y5 rfl rfl rfl (by decide) rfl rfl (apd_str y9) rfl (by simp [rowV_length, le_length]) (ones_rowV _) (by first | omega | (simp [le_length]; omega)) (rowV_append _ _).symm rfl (rowV_empty rfl)) rfl (by kernel_rfl) ?_
              refine DW.p (Stp.call Hv.ok rfl rfl rfl rfl rfl (vput_R (by first | rfl | (simp [le_length]; done) | (simp [le_length]; omega)) rfl (by first | omega | (simp [le_length]; omega)) (by omega))) rfl (by kernel_rfl) ?_
              refine DW.t (st_as rfl) rfl ?_
              refine DW.nil ⟨rfl, ?_⟩
              refine WP.region ?_
              refine OW.st (st_add (c := ((i + 1 : Nat) : Int)) rfl rfl (by unfold sm; omega)) rfl rfl ?_
              refine OW.st (st_mv rfl) rfl rfl ?_
              refine OW.nil ?_
              refine ⟨i + 1, by omega, by omega, ?_⟩
              exact Rnm.mk' [(2, 7), (1, 1), (0, 0)] rfl rfl rfl rfl (.cons rfl (.flat rfl) (.cons rfl (.flat rfl) (.cons rfl (.flat rfl) (.cons rfl (.sliceE rfl (by first | rfl | omega | (simp; done) | (simp; omega))) (.cons rfl (.ptr rfl) (.cons rfl (.sliceE rfl (by first | rfl | omega | (simp; done) | (simp; omega))) (.cons rfl (.flat rfl) (.cons rfl (.flat rfl) (.cons rfl (.sliceE rfl (by rw [lbytes_succ hx]; simp [ibytes, le_length, vput_length]; omega)) .nil))))))))) (.cons rfl rfl (.cells (.of_eq (congrArg (rowV _) (by rw [lbytes_succ hx]; simp [ibytes, *])) (flats_rowV _))) (.cons rfl rfl (.cells (.cons (.flat rfl) (.cons (.flat rfl) (.cons (.flat rfl) (.cons (.flat rfl) (.cons (.flat rfl) (.cons (.flat rfl) .nil))))))) (.cons rfl rfl (.cells (RNs_rowJ_of (rfl))) .nil))) .nil
            · skip
              refine WP.skip ?_
              refine WP.seq ?_
              refine WP.drawn Hv.mix rfl ?_ rfl rfl
              refine DW.t (st_mv rfl) rfl ?_
              refine DW.t (st_mv rfl) rfl ?_
              refine DW.p (Stp.call Hv.ok rfl rfl rfl rfl rfl (put_R (n := 0) (k := 1) (by first | rfl | (simp [le_length]; done) | (simp [le_length]; omega)) rfl (by first | omega | (simp [List.length_append, le_length]; omega)) (by first | omega | decide))) rfl (by kernel_rfl) ?_
              refine DW.t (st_fa y35 rfl rfl y9 rfl) rfl ?_
              refine DW.p (st_ld y9 rfl rfl rfl rfl) rfl (by kernel_rfl) ?_
              refine DW.t (st_lenS y9 rfl) rfl ?_
              refine DW.t (st_cvi y3 y25 rfl (u64_sm (by omega))) rfl ?_
              refine DW.p (Stp.call Hv.ok rfl rfl rfl rfl rfl (put_R (k := 1) (by first | rfl | (simp [le_length]; done) | (simp [le_length]; omega)) rfl (by first | omega | (simp [List.length_append, le_length]; omega)) (by first | omega | decide))) rfl (by kernel_rfl) ?_
              refine DW.t (st_as rfl) rfl ?_
              refine DW.nil ⟨rfl, ?_⟩
              refine WP.drawn Hv.mix rfl ?_ rfl rfl
              refine DW.p (st_lA y35 rfl rfl rfl rfl rfl) rfl (by kernel_rfl) ?_
              refine DW.t (st_mv rfl) rfl ?_
              refine DW.t (st_fa y35 rfl rfl y9 rfl) rfl ?_
              refine DW.p (st_ld y9 rfl rfl rfl rfl) rfl (by kernel_rfl) ?_
              refine DW.p (st_app (z := 1) (c1 := rowV kB (((lbytes (List.take i l)) ++ le 0 1) ++ le (List.length (x.key)) 1 ++ x.key)) y81 y5 rfl rfl rfl (by decide) rfl rfl (apd_str y9) rfl (by simp [rowV_length, le_length]) (ones_rowV _) (by first | omega | (simp [le_length]; omega)) (rowV_append _ _).symm rfl (rowV_empty rfl)) rfl (by kernel_rfl) ?_
              refine DW.p (Stp.call Hv.ok rfl rfl rfl rfl rfl (vput_R (by first | rfl | (simp [le_length]; done) | (simp [le_length]; omega)) rfl (by first | omega | (simp [le_length]; omega)) (by omega))) rfl (by kernel_rfl) ?_
              refine DW.t (st_as rfl) rfl ?_
              refine DW.nil ⟨rfl, ?_⟩
              refine WP.region ?_
              refine OW.st (st_add (c := ((i + 1 : Nat) : Int)) rfl rfl (by unfold sm; omega)) rfl rfl ?_
              refine OW.st (st_mv rfl) rfl rfl ?_
              refine OW.nil ?_
              refine ⟨i + 1, by omega, by omega, ?_⟩
              exact Rnm.mk' [(2, 7), (1, 1), (0, 0)] rfl rfl rfl rfl (.cons rfl (.flat rfl) (.cons rfl (.flat rfl) (.cons rfl (.flat rfl) (.cons rfl (.sliceE rfl (by first | rfl | omega | (simp; done) | (simp; omega))) (.cons rfl (.ptr rfl) (.cons rfl (.sliceE rfl (by first | rfl | omega | (simp; done) | (simp; omega))) (.cons rfl (.flat rfl) (.cons rfl (.flat rfl) (.cons rfl (.sliceE rfl (by rw [lbytes_succ hx]; simp [ibytes, le_length, vput_length]; omega)) .nil))))))))) (.cons rfl rfl (.cells (.of_eq (congrArg (rowV _) (by rw [lbytes_succ hx]; simp [ibytes, *])) (flats_rowV _))) (.cons rfl rfl (.cells (.cons (.flat rfl) (.cons (.flat rfl) (.cons (.flat rfl) (.cons (.flat rfl) (.cons (.flat rfl) (.cons (.flat rfl) .nil))))))) (.cons rfl rfl (.cells (RNs_rowJ_of (rfl))) .nil))) .nil
          · skip
            obtain rfl : l.length = i := by omega
            refine WP.exit ?_
            refine WP.seq ?_
            refine WP.region ?_
            refine OW.st (st_mv rfl) rfl rfl ?_
            refine OW.st (st_mv rfl) rfl rfl ?_
            refine OW.st (Stp.call Hv.ok rfl rfl rfl rfl rfl (body_R (by first | rfl | (simp [le_length]; done) | (simp [le_length]; omega)) rfl (by omega))) rfl rfl ?_
            refine OW.st (st_mv rfl) rfl rfl ?_
            refine OW.st (st_ex rfl rfl) rfl rfl ?_
            refine OW.st (st_ex rfl rfl) rfl rfl ?_
            refine OW.st (st_as rfl) rfl rfl ?_
            refine OW.st (st_as rfl) rfl rfl ?_
            refine OW.nil ?_
            refine WP.seq ?_
            refine WP.region ?_
            refine OW.st (st_mv rfl) rfl rfl ?_
            refine OW.st (st_lenL y22 rfl) rfl rfl ?_
            refine OW.st (st_mv rfl) rfl rfl ?_
            refine OW.st (st_mv rfl) rfl rfl ?_
            refine OW.st (st_mv rfl) rfl rfl ?_
            refine OW.st (st_bdS y27 rfl rfl rfl rfl rfl rfl) rfl rfl ?_
            refine OW.st0 (st_st y27 rfl rfl rfl rfl rfl rfl (Nat.le_of_ble_eq_true rfl) rfl rfl) rfl ?_
            refine OW.st (st_as rfl) rfl rfl ?_
            refine OW.nil ?_
            refine WP.ret ?_
            exact FinQ.ret (v0 := .tuple ⟨[.agg ⟨[.int .i64 ((lpg s n tx l).kind : Int), .int .i64 ((lpg s n tx l).count : Int), .int .u32 (((lpg s n tx l).page : Nat) : Int), .int .u32 (((lpg s n tx l).link : Nat) : Int), .int .u64 (((lpg s n tx l).tx : Nat) : Int), str ((lpg s n tx l).body)]⟩, .int .i64 ((lpgE s n tx l : Nat) : Int)]⟩) (s0 := ⟨[(0, .cells ⟨rowJ kI q0 (l)⟩ 35 f0)], 1, [], [], []⟩) rfl rfl rfl rfl (Rnm.mk' [(0, 0)] rfl rfl rfl rfl (.cons rfl (.tupleL ((.cons (.aggL ((.cons (.of_eq (by first | (rw [(lpg_ok hok).1] <;> rfl) | (rw [(lpg_ok hok).1, List.take_length] <;> rfl) | (rw [(lpg_bad hok).1] <;> rfl) | (rw [(lpg_ok hok).2] <;> rfl) | (rw [(lpg_bad hok).2] <;> rfl)) rfl) (.cons (.of_eq (by first | (rw [(lpg_ok hok).1] <;> rfl) | (rw [(lpg_ok hok).1, List.take_length] <;> rfl) | (rw [(lpg_bad hok).1] <;> rfl) | (rw [(lpg_ok hok).2] <;> rfl) | (rw [(lpg_bad hok).2] <;> rfl)) rfl) (.cons (.of_eq (by first | (rw [(lpg_ok hok).1] <;> rfl) | (rw [(lpg_ok hok).1, List.take_length] <;> rfl) | (rw [(lpg_bad hok).1] <;> rfl) | (rw [(lpg_ok hok).2] <;> rfl) | (rw [(lpg_bad hok).2] <;> rfl)) rfl) (.cons (.of_eq (by first | (rw [(lpg_ok hok).1] <;> rfl) | (rw [(lpg_ok hok).1, List.take_length] <;> rfl) | (rw [(lpg_bad hok).1] <;> rfl) | (rw [(lpg_ok hok).2] <;> rfl) | (rw [(lpg_bad hok).2] <;> rfl)) rfl) (.cons (.of_eq (by first | (rw [(lpg_ok hok).1] <;> rfl) | (rw [(lpg_ok hok).1, List.take_length] <;> rfl) | (rw [(lpg_bad hok).1] <;> rfl) | (rw [(lpg_ok hok).2] <;> rfl) | (rw [(lpg_bad hok).2] <;> rfl)) rfl) (.cons (.of_eq (by first | (rw [(lpg_ok hok).1] <;> rfl) | (rw [(lpg_ok hok).1, List.take_length] <;> rfl) | (rw [(lpg_bad hok).1] <;> rfl) | (rw [(lpg_ok hok).2] <;> rfl) | (rw [(lpg_bad hok).2] <;> rfl)) rfl) .nil)))))))) (.cons (.of_eq (by first | (rw [(lpg_ok hok).1] <;> rfl) | (rw [(lpg_ok hok).1, List.take_length] <;> rfl) | (rw [(lpg_bad hok).1] <;> rfl) | (rw [(lpg_ok hok).2] <;> rfl) | (rw [(lpg_bad hok).2] <;> rfl)) rfl) .nil)))) .nil) (.cons rfl rfl (.cells (RNs_rowJ_of (rfl))) .nil) .nil) ⟨rfl, rfl⟩
      · skip
        refine OW.st (Stp.yes rfl rfl (st_not rfl)) rfl rfl ?_
        refine OW.st (st_pkF rfl rfl) rfl rfl ?_
        refine OW.st (st_mv rfl) rfl rfl ?_
        refine OW.st (Stp.no rfl rfl) rfl rfl ?_
        refine OW.st (Stp.no rfl rfl) rfl rfl ?_
        refine OW.st (st_pkT rfl rfl) rfl rfl ?_
        refine OW.nil ?_
        refine WP.condT rfl ?_
        have hok : lpgOk s n tx l = false := by simp_all [lpgOk] <;> omega
        refine WP.seq ?_
        refine WP.region ?_
        refine OW.st (st_bdS y27 rfl rfl rfl rfl rfl rfl) rfl rfl ?_
        refine OW.st0 (st_st y27 rfl rfl rfl rfl rfl rfl (Nat.le_of_ble_eq_true rfl) rfl rfl) rfl ?_
        refine OW.st (st_as rfl) rfl rfl ?_
        refine OW.nil ?_
        refine WP.ret ?_
        exact FinQ.ret (v0 := .tuple ⟨[.agg ⟨[.int .i64 ((lpg s n tx l).kind : Int), .int .i64 ((lpg s n tx l).count : Int), .int .u32 (((lpg s n tx l).page : Nat) : Int), .int .u32 (((lpg s n tx l).link : Nat) : Int), .int .u64 (((lpg s n tx l).tx : Nat) : Int), str ((lpg s n tx l).body)]⟩, .int .i64 ((lpgE s n tx l : Nat) : Int)]⟩) (s0 := ⟨[(0, .cells ⟨rowJ kI q0 (l)⟩ 35 f0)], 1, [], [], []⟩) rfl rfl rfl rfl (Rnm.mk' [(0, 0)] rfl rfl rfl rfl (.cons rfl (.tupleL ((.cons (.aggL ((.cons (.of_eq (by first | (rw [(lpg_ok hok).1] <;> rfl) | (rw [(lpg_ok hok).1, List.take_length] <;> rfl) | (rw [(lpg_bad hok).1] <;> rfl) | (rw [(lpg_ok hok).2] <;> rfl) | (rw [(lpg_bad hok).2] <;> rfl)) rfl) (.cons (.of_eq (by first | (rw [(lpg_ok hok).1] <;> rfl) | (rw [(lpg_ok hok).1, List.take_length] <;> rfl) | (rw [(lpg_bad hok).1] <;> rfl) | (rw [(lpg_ok hok).2] <;> rfl) | (rw [(lpg_bad hok).2] <;> rfl)) rfl) (.cons (.of_eq (by first | (rw [(lpg_ok hok).1] <;> rfl) | (rw [(lpg_ok hok).1, List.take_length] <;> rfl) | (rw [(lpg_bad hok).1] <;> rfl) | (rw [(lpg_ok hok).2] <;> rfl) | (rw [(lpg_bad hok).2] <;> rfl)) rfl) (.cons (.of_eq (by first | (rw [(lpg_ok hok).1] <;> rfl) | (rw [(lpg_ok hok).1, List.take_length] <;> rfl) | (rw [(lpg_bad hok).1] <;> rfl) | (rw [(lpg_ok hok).2] <;> rfl) | (rw [(lpg_bad hok).2] <;> rfl)) rfl) (.cons (.of_eq (by first | (rw [(lpg_ok hok).1] <;> rfl) | (rw [(lpg_ok hok).1, List.take_length] <;> rfl) | (rw [(lpg_bad hok).1] <;> rfl) | (rw [(lpg_ok hok).2] <;> rfl) | (rw [(lpg_bad hok).2] <;> rfl)) rfl) (.cons (.of_eq (by first | (rw [(lpg_ok hok).1] <;> rfl) | (rw [(lpg_ok hok).1, List.take_length] <;> rfl) | (rw [(lpg_bad hok).1] <;> rfl) | (rw [(lpg_ok hok).2] <;> rfl) | (rw [(lpg_bad hok).2] <;> rfl)) rfl) .nil)))))))) (.cons (.of_eq (by first | (rw [(lpg_ok hok).1] <;> rfl) | (rw [(lpg_ok hok).1, List.take_length] <;> rfl) | (rw [(lpg_bad hok).1] <;> rfl) | (rw [(lpg_ok hok).2] <;> rfl) | (rw [(lpg_bad hok).2] <;> rfl)) rfl) .nil)))) .nil) (.cons rfl rfl (.cells (RNs_rowJ_of (rfl))) .nil) .nil) ⟨rfl, rfl⟩
  · skip
    refine OW.st (st_not rfl) rfl rfl ?_
    refine OW.st (st_mv rfl) rfl rfl ?_
    refine OW.st (Stp.no rfl rfl) rfl rfl ?_
    refine OW.st (Stp.no rfl rfl) rfl rfl ?_
    refine OW.st (Stp.no rfl rfl) rfl rfl ?_
    refine OW.st (Stp.no rfl rfl) rfl rfl ?_
    refine OW.st (Stp.no rfl rfl) rfl rfl ?_
    refine OW.st (st_pkT rfl rfl) rfl rfl ?_
    refine OW.st (st_mv rfl) rfl rfl ?_
    refine OW.st (Stp.no rfl rfl) rfl rfl ?_
    refine OW.st (Stp.no rfl rfl) rfl rfl ?_
    refine OW.st (Stp.no rfl rfl) rfl rfl ?_
    refine OW.st (st_pkT rfl rfl) rfl rfl ?_
    refine OW.st (st_mv rfl) rfl rfl ?_
    refine OW.st (Stp.no rfl rfl) rfl rfl ?_
    refine OW.st (Stp.no rfl rfl) rfl rfl ?_
    refine OW.st (st_pkT rfl rfl) rfl rfl ?_
    refine OW.nil ?_
    refine WP.condT rfl ?_
    have hok : lpgOk s n tx l = false := by simp_all [lpgOk] <;> omega
    refine WP.seq ?_
    refine WP.region ?_
    refine OW.st (st_bdS y27 rfl rfl rfl rfl rfl rfl) rfl rfl ?_
    refine OW.st0 (st_st y27 rfl rfl rfl rfl rfl rfl (Nat.le_of_ble_eq_true rfl) rfl rfl) rfl ?_
    refine OW.st (st_as rfl) rfl rfl ?_
    refine OW.nil ?_
    refine WP.ret ?_
    exact FinQ.ret (v0 := .tuple ⟨[.agg ⟨[.int .i64 ((lpg s n tx l).kind : Int), .int .i64 ((lpg s n tx l).count : Int), .int .u32 (((lpg s n tx l).page : Nat) : Int), .int .u32 (((lpg s n tx l).link : Nat) : Int), .int .u64 (((lpg s n tx l).tx : Nat) : Int), str ((lpg s n tx l).body)]⟩, .int .i64 ((lpgE s n tx l : Nat) : Int)]⟩) (s0 := ⟨[(0, .cells ⟨rowJ kI q0 (l)⟩ 35 f0)], 1, [], [], []⟩) rfl rfl rfl rfl (Rnm.mk' [(0, 0)] rfl rfl rfl rfl (.cons rfl (.tupleL ((.cons (.aggL ((.cons (.of_eq (by first | (rw [(lpg_ok hok).1] <;> rfl) | (rw [(lpg_ok hok).1, List.take_length] <;> rfl) | (rw [(lpg_bad hok).1] <;> rfl) | (rw [(lpg_ok hok).2] <;> rfl) | (rw [(lpg_bad hok).2] <;> rfl)) rfl) (.cons (.of_eq (by first | (rw [(lpg_ok hok).1] <;> rfl) | (rw [(lpg_ok hok).1, List.take_length] <;> rfl) | (rw [(lpg_bad hok).1] <;> rfl) | (rw [(lpg_ok hok).2] <;> rfl) | (rw [(lpg_bad hok).2] <;> rfl)) rfl) (.cons (.of_eq (by first | (rw [(lpg_ok hok).1] <;> rfl) | (rw [(lpg_ok hok).1, List.take_length] <;> rfl) | (rw [(lpg_bad hok).1] <;> rfl) | (rw [(lpg_ok hok).2] <;> rfl) | (rw [(lpg_bad hok).2] <;> rfl)) rfl) (.cons (.of_eq (by first | (rw [(lpg_ok hok).1] <;> rfl) | (rw [(lpg_ok hok).1, List.take_length] <;> rfl) | (rw [(lpg_bad hok).1] <;> rfl) | (rw [(lpg_ok hok).2] <;> rfl) | (rw [(lpg_bad hok).2] <;> rfl)) rfl) (.cons (.of_eq (by first | (rw [(lpg_ok hok).1] <;> rfl) | (rw [(lpg_ok hok).1, List.take_length] <;> rfl) | (rw [(lpg_bad hok).1] <;> rfl) | (rw [(lpg_ok hok).2] <;> rfl) | (rw [(lpg_bad hok).2] <;> rfl)) rfl) (.cons (.of_eq (by first | (rw [(lpg_ok hok).1] <;> rfl) | (rw [(lpg_ok hok).1, List.take_length] <;> rfl) | (rw [(lpg_bad hok).1] <;> rfl) | (rw [(lpg_ok hok).2] <;> rfl) | (rw [(lpg_bad hok).2] <;> rfl)) rfl) .nil)))))))) (.cons (.of_eq (by first | (rw [(lpg_ok hok).1] <;> rfl) | (rw [(lpg_ok hok).1, List.take_length] <;> rfl) | (rw [(lpg_bad hok).1] <;> rfl) | (rw [(lpg_ok hok).2] <;> rfl) | (rw [(lpg_bad hok).2] <;> rfl)) rfl) .nil)))) .nil) (.cons rfl rfl (.cells (RNs_rowJ_of (rfl))) .nil) .nil) ⟨rfl, rfl⟩
theorem lpage_R {h : List (Nat × Obj)} {nx a0 : Nat} {q0 : Nat} {f0 : Nat × Nat} {s : Int} {n tx : Nat} {l : List Item} {m0 : Nat} (l0 : l.length = m0) (o0 : aget h a0 = some (.cells ⟨rowJ kI q0 (l)⟩ 35 f0))  (hl : l.length ≤ 2600000000000) : CallR cfg 15 [.int .i64 (s : Int), .int .u32 ((n : Nat) : Int), .int .u64 ((tx : Nat) : Int), .slice (some ⟨a0, q0, some 5⟩) m0 0] ⟨h, nx, [], [], []⟩ (.tuple ⟨[.agg ⟨[.int .i64 ((lpg s n tx l).kind : Int), .int .i64 ((lpg s n tx l).count : Int), .int .u32 (((lpg s n tx l).page : Nat) : Int), .int .u32 (((lpg s n tx l).link : Nat) : Int), .int .u64 (((lpg s n tx l).tx : Nat) : Int), str ((lpg s n tx l).body)]⟩, .int .i64 ((lpgE s n tx l : Nat) : Int)]⟩) ⟨h, nx + 0, [a0], [], []⟩ :=
  by subst l0; exact (CallR.lay (m := 0) (news0 := []) (news := []) [(0, a0)] (lpage_W hl) rfl rfl ((.cons (.flat rfl) (.cons (.flat rfl) (.cons (.flat rfl) (.cons (.slice rfl) .nil))))) ((.cons rfl rfl o0 (.cells RNs_rowJ) (fun c hc => by cases hc) .nil)) (.tupleL ((.cons (.aggL ((.cons (.flat rfl) (.cons (.flat rfl) (.cons (.flat rfl) (.cons (.flat rfl) (.cons (.flat rfl) (.cons (.flat rfl) .nil)))))))) (.cons (.flat rfl) .nil)))) (.nil))
theorem lpage_R1 {h : List (Nat × Obj)} {nx  : Nat} {s : Int} {n tx : Nat}    (hl : (([] : List Item)).length ≤ 2600000000000) : CallR cfg 15 [.int .i64 (s : Int), .int .u32 ((n : Nat) : Int), .int .u64 ((tx : Nat) : Int), .slice none 0 0] ⟨h, nx, [], [], []⟩ (.tuple ⟨[.agg ⟨[.int .i64 ((lpg s n tx (([] : List Item))).kind : Int), .int .i64 ((lpg s n tx (([] : List Item))).count : Int), .int .u32 (((lpg s n tx (([] : List Item))).page : Nat) : Int), .int .u32 (((lpg s n tx (([] : List Item))).link : Nat) : Int), .int .u64 (((lpg s n tx (([] : List Item))).tx : Nat) : Int), str ((lpg s n tx (([] : List Item))).body)]⟩, .int .i64 ((lpgE s n tx (([] : List Item)) : Nat) : Int)]⟩) ⟨h, nx + 0, [], [], []⟩ :=
  (CallR.lay (m := 0) (news0 := []) (news := []) [] (lpage_W (l := ([] : List Item)) (q0 := 0) (f0 := (0, 0)) hl) rfl rfl ((.cons (.flat rfl) (.cons (.flat rfl) (.cons (.flat rfl) (.cons (.nilS rfl) .nil))))) (.nil) (.tupleL ((.cons (.aggL ((.cons (.flat rfl) (.cons (.flat rfl) (.cons (.flat rfl) (.cons (.flat rfl) (.cons (.flat rfl) (.cons (.flat rfl) .nil)))))))) (.cons (.flat rfl) .nil)))) (.nil))
end Go.Ev
