/- Words of my own, printed by a program of mine. -/
import Derived.Test.YtmnpchmdgobcnaaDkit
set_option linter.unusedVariables false
set_option linter.unusedSimpArgs false
set_option maxRecDepth 8000
set_option maxHeartbeats 4000000
namespace Go.Ev
open Go.RowKit Go.Proofs
theorem lin_W  {s n : Int} :
    CW cfg 33 [.int .i64 (s : Int), .int .i64 (n : Int)] ⟨[], 0, [], [], []⟩ fun v' s' => v' = .bool (inB s n) ∧ s' = ⟨[], 0, [], [], []⟩ := by
  refine CW.of_WP cfg_ok g33 rfl rfl rfl ?_
  refine WP.seq ?_
  refine WP.region ?_
  refine OW.st (st_as rfl) rfl rfl ?_
  refine OW.nil ?_
  refine WP.seq ?_
  refine WP.region ?_
  refine OW.st (st_mv rfl) rfl rfl ?_
  refine OW.stB (st_ge rfl rfl) rfl rfl (fun h1 => ?_) (fun h1 => ?_)
  · skip
    refine OW.st (st_mv rfl) rfl rfl ?_
    refine OW.st (Stp.yes rfl rfl (st_mv rfl)) rfl rfl ?_
    refine OW.st (Stp.yes rfl rfl (st_mv rfl)) rfl rfl ?_
    refine OW.st (Stp.yes rfl rfl (st_quo rfl rfl (by omega))) rfl rfl ?_
    refine OW.st (Stp.yes rfl rfl (st_min rfl rfl)) rfl rfl ?_
    refine OW.st (Stp.yes rfl rfl (st_le rfl rfl)) rfl rfl ?_
    refine OW.st (st_pkT rfl rfl) rfl rfl ?_
    refine OW.st (st_as rfl) rfl rfl ?_
    refine OW.nil ?_
    refine WP.ret ?_
    exact FinQ.ret (v0 := .bool (inB s n)) (s0 := ⟨[], 0, [], [], []⟩) rfl rfl rfl rfl (Rnm.mk' [] rfl rfl rfl rfl (.cons rfl (.of_eq (by exact bool_is (by simp [inB, *] <;> omega)) rfl) .nil) .nil .nil) ⟨rfl, rfl⟩
  · skip
    refine OW.st (st_mv rfl) rfl rfl ?_
    refine OW.st (Stp.no rfl rfl) rfl rfl ?_
    refine OW.st (Stp.no rfl rfl) rfl rfl ?_
    refine OW.st (Stp.no rfl rfl) rfl rfl ?_
    refine OW.st (Stp.no rfl rfl) rfl rfl ?_
    refine OW.st (Stp.no rfl rfl) rfl rfl ?_
    refine OW.st (st_pkF rfl rfl) rfl rfl ?_
    refine OW.st (st_as rfl) rfl rfl ?_
    refine OW.nil ?_
    refine WP.ret ?_
    exact FinQ.ret (v0 := .bool (inB s n)) (s0 := ⟨[], 0, [], [], []⟩) rfl rfl rfl rfl (Rnm.mk' [] rfl rfl rfl rfl (.cons rfl (.of_eq (by exact bool_is (by simp [inB, *] <;> omega)) rfl) .nil) .nil .nil) ⟨rfl, rfl⟩
theorem lin_R {s n : Int} (σ : St) : CallR cfg 33 [.int .i64 (s : Int), .int .i64 (n : Int)] σ (.bool (inB s n)) σ :=
  CallR.plain rfl rfl (lin_W) (fun v' s' h => h.1) σ
theorem lives8_W   :
    CW cfg 14 [] ⟨[], 0, [], [], []⟩ fun v' s' => v' = .bool true ∧ s' = ⟨[], 0, [], [], []⟩ := by
  refine CW.of_WP cfg_ok g14 rfl rfl rfl ?_
  refine WP.seq ?_
  refine WP.region ?_
  refine OW.st (st_as rfl) rfl rfl ?_
  refine OW.nil ?_
  refine WP.seq ?_
  refine WP.region ?_
  refine OW.st (st_bdS y35 rfl rfl rfl rfl rfl rfl) rfl rfl ?_
  refine OW.st (st_bs1 y22 y35 rfl rfl rfl rfl rfl (by decide) (by decide) rfl rfl rfl) rfl rfl ?_
  refine OW.st (Stp.call Hv.ok rfl rfl rfl rfl rfl (lsize_R (q0 := 0) (l := [(Item.mk ([107]) ([118]) false 0 0)]) (by first | rfl | (simp; done) | (simp; omega)) rfl (by decide) (by decide))) rfl rfl ?_
  refine OW.stB (st_eq rfl rfl) rfl rfl (fun h1 => ?_) (fun h1 => absurd h1 (Decidable.not_not.2 (by decide)))
  refine OW.st (st_mv rfl) rfl rfl ?_
  refine OW.stb (Stp.yes rfl rfl (Stp.call Hv.ok rfl rfl rfl rfl rfl (lin_R (s := 128) (n := 16) _))) rfl rfl (fun h2 => ?_) (fun h2 => absurd h2 (by decide))
  refine OW.st (st_pkT rfl rfl) rfl rfl ?_
  refine OW.st (st_mv rfl) rfl rfl ?_
  refine OW.stb (Stp.yes rfl rfl (Stp.call Hv.ok rfl rfl rfl rfl rfl (lin_R (s := 128) (n := 17) _))) rfl rfl (fun h3 => absurd h3 (by decide)) (fun h3 => ?_)
  refine OW.st (Stp.yes rfl rfl (st_not rfl)) rfl rfl ?_
  refine OW.st (st_pkT rfl rfl) rfl rfl ?_
  refine OW.st (st_mv rfl) rfl rfl ?_
  refine OW.stb (Stp.yes rfl rfl (Stp.call Hv.ok rfl rfl rfl rfl rfl (lin_R (s := 4096) (n := 255) _))) rfl rfl (fun h4 => ?_) (fun h4 => absurd h4 (by decide))
  refine OW.st (st_pkT rfl rfl) rfl rfl ?_
  refine OW.st (st_mv rfl) rfl rfl ?_
  refine OW.stb (Stp.yes rfl rfl (Stp.call Hv.ok rfl rfl rfl rfl rfl (lin_R (s := 4096) (n := 256) _))) rfl rfl (fun h5 => absurd h5 (by decide)) (fun h5 => ?_)
  refine OW.st (Stp.yes rfl rfl (st_not rfl)) rfl rfl ?_
  refine OW.st (st_pkT rfl rfl) rfl rfl ?_
  refine OW.st (st_as rfl) rfl rfl ?_
  refine OW.nil ?_
  refine WP.ret ?_
  exact FinQ.ret (v0 := .bool true) (s0 := ⟨[], 0, [], [], []⟩) rfl rfl rfl rfl (Rnm.mk' [] rfl rfl rfl rfl (.cons rfl (.of_eq (by first | rfl | exact bool_is (by decide)) rfl) .nil) .nil .nil) ⟨rfl, rfl⟩
theorem lives8_R  (σ : St) : CallR cfg 14 [] σ (.bool true) σ :=
  CallR.plain rfl rfl (lives8_W) (fun v' s' h => h.1) σ
theorem light8_W  {q0 : Nat} {f0 : Nat × Nat} {l : List Item} (hs : ∀ x ∈ l, x.key.length + x.value.length ≤ 281474976710656) :
    CW cfg 16 [.slice (some ⟨0, q0, some 5⟩) (l.length) 0] ⟨[(0, .cells ⟨rowJ kI q0 (l)⟩ 35 f0)], 1, [], [], []⟩ fun v' s' => v' = .bool (lightN l 100 4000) ∧ s' = ⟨[(0, .cells ⟨rowJ kI q0 (l)⟩ 35 f0)], 1, [], [], []⟩ := by
  refine CW.of_WP cfg_ok g16 rfl rfl rfl ?_
  refine WP.seq ?_
  refine WP.region ?_
  refine OW.st (st_as rfl) rfl rfl ?_
  refine OW.nil ?_
  refine WP.seq ?_
  refine WP.region ?_
  refine OW.st (st_mv rfl) rfl rfl ?_
  refine OW.st (Stp.call Hv.ok rfl rfl rfl rfl rfl (lightit_R (m := 100) (b := 4000) (q0 := q0) (l := l) (by first | rfl | (simp; done) | (simp; omega)) rfl (by omega) (by omega) (by omega) (hs))) rfl rfl ?_
  refine OW.st (st_as rfl) rfl rfl ?_
  refine OW.nil ?_
  refine WP.ret ?_
  exact FinQ.ret (v0 := .bool (lightN l 100 4000)) (s0 := ⟨[(0, .cells ⟨rowJ kI q0 (l)⟩ 35 f0)], 1, [], [], []⟩) rfl rfl rfl rfl (Rnm.mk' [(0, 0)] rfl rfl rfl rfl (.cons rfl (.flat rfl) .nil) (.cons rfl rfl (.cells (RNs_rowJ_of (rfl))) .nil) .nil) ⟨rfl, rfl⟩
theorem light8_R {h : List (Nat × Obj)} {nx a0 : Nat} {q0 : Nat} {f0 : Nat × Nat} {l : List Item} {m0 : Nat} (l0 : l.length = m0) (o0 : aget h a0 = some (.cells ⟨rowJ kI q0 (l)⟩ 35 f0))  (hs : ∀ x ∈ l, x.key.length + x.value.length ≤ 281474976710656) : CallR cfg 16 [.slice (some ⟨a0, q0, some 5⟩) m0 0] ⟨h, nx, [], [], []⟩ (.bool (lightN l 100 4000)) ⟨h, nx + 0, [a0], [], []⟩ :=
  by subst l0; exact (CallR.lay (m := 0) (news0 := []) (news := []) [(0, a0)] (light8_W hs) rfl rfl ((.cons (.slice rfl) .nil)) ((.cons rfl rfl o0 (.cells RNs_rowJ) (fun c hc => by cases hc) .nil)) (.flat rfl) (.nil))
theorem light8_R1 {h : List (Nat × Obj)} {nx  : Nat}     (hs : ∀ x ∈ (([] : List Item)), x.key.length + x.value.length ≤ 281474976710656) : CallR cfg 16 [.slice none 0 0] ⟨h, nx, [], [], []⟩ (.bool (lightN (([] : List Item)) 100 4000)) ⟨h, nx + 0, [], [], []⟩ :=
  (CallR.lay (m := 0) (news0 := []) (news := []) [] (light8_W (l := ([] : List Item)) (q0 := 0) (f0 := (0, 0)) hs) rfl rfl ((.cons (.nilS rfl) .nil)) (.nil) (.flat rfl) (.nil))
theorem leafBack_W  {q0 : Nat} {s : Int} {n tx : Nat} {l : List Item} {p : Pg} (hl : l.length ≤ 2600000000000) (hs : ∀ x ∈ l, x.key.length + x.value.length ≤ 281474976710656) :
    CW cfg 4 [.int .i64 (s : Int), .int .u32 ((n : Nat) : Int), .int .u64 ((tx : Nat) : Int), .slice (some ⟨0, q0, some 5⟩) (l.length) 0, .agg ⟨[.int .i64 (p.kind : Int), .int .i64 (p.count : Int), .int .u32 ((p.page : Nat) : Int), .int .u32 ((p.link : Nat) : Int), .int .u64 ((p.tx : Nat) : Int), str (p.body)]⟩] ⟨[(0, .cells ⟨rowJ kI q0 (l)⟩ 35 (1, 0))], 1, [], [], []⟩ fun v' s' => v' = .bool true ∧ s' = ⟨[(0, .cells ⟨rowJ kI q0 (l)⟩ 35 (1, 0))], 1, [], [], []⟩ := by
  refine CW.of_WP cfg_ok g4 rfl rfl rfl ?_
  refine WP.seq ?_
  refine WP.region ?_
  refine OW.st (st_bx rfl rfl) rfl rfl ?_
  refine OW.st (st_as rfl) rfl rfl ?_
  refine OW.nil ?_
  refine WP.seq ?_
  refine WP.seq ?_
  refine WP.region ?_
  refine OW.st (Stp.call Hv.ok rfl rfl rfl rfl rfl (lives8_R _)) rfl rfl ?_
  refine OW.st (st_not rfl) rfl rfl ?_
  refine OW.nil ?_
  refine WP.condF rfl ?_
  refine WP.skip ?_
  refine WP.seq ?_
  refine WP.seq ?_
  refine WP.region ?_
  refine OW.st (st_mv rfl) rfl rfl ?_
  refine OW.stb (Stp.call Hv.ok rfl rfl rfl rfl rfl (light8_R (q0 := q0) (l := l) (by first | rfl | (simp; done) | (simp; omega)) rfl (hs))) rfl rfl (fun h1 => ?_) (fun h1 => ?_)
  · skip
    refine OW.st (st_not rfl) rfl rfl ?_
    refine OW.st (st_mv rfl) rfl rfl ?_
    refine OW.st (Stp.yes rfl rfl (st_fa y27 rfl rfl y9 rfl)) rfl rfl ?_
    refine OW.st (Stp.yes rfl rfl (st_ld y9 rfl rfl rfl rfl)) rfl rfl ?_
    refine OW.st (Stp.yes rfl rfl (st_lenS y9 rfl)) rfl rfl ?_
    refine OW.st (Stp.yes rfl rfl (st_gt rfl rfl)) rfl rfl ?_
    refine OW.st (st_pkF rfl rfl) rfl rfl ?_
    refine OW.nil ?_
    refine WP.condD rfl (fun h2 => ?_) (fun h2 => ?_)
    · skip
      refine WP.seq ?_
      refine WP.region ?_
      refine OW.st (st_as rfl) rfl rfl ?_
      refine OW.nil ?_
      refine WP.ret ?_
      exact FinQ.ret (v0 := .bool true) (s0 := ⟨[(0, .cells ⟨rowJ kI q0 (l)⟩ 35 (1, 0))], 1, [], [], []⟩) rfl rfl rfl rfl (Rnm.mk' [(0, 0)] rfl rfl rfl rfl (.cons rfl (.of_eq (by first | rfl | exact bool_is (by rw [hbad]; rfl) | exact bool_is (by rw [hgood.2]; simp) | exact bool_is (by simp_all) | exact bool_is (by simp_all; omega)) rfl) .nil) (.cons rfl rfl (.cells (RNs_rowJ_of (rfl))) .nil) .nil) ⟨rfl, rfl⟩
    · skip
      refine WP.skip ?_
      refine WP.seq ?_
      refine WP.region ?_
      refine OW.st (st_mv rfl) rfl rfl ?_
      refine OW.st (st_mv rfl) rfl rfl ?_
      refine OW.st (st_mv rfl) rfl rfl ?_
      refine OW.st (st_mv rfl) rfl rfl ?_
      refine OW.st (Stp.call Hv.ok rfl rfl rfl rfl rfl (lpage_R (q0 := q0) (l := l) (by first | rfl | (simp; done) | (simp; omega)) rfl (by omega))) rfl rfl ?_
      refine OW.st (st_mv rfl) rfl rfl ?_
      refine OW.st (st_ex rfl rfl) rfl rfl ?_
      refine OW.st (st_ex rfl rfl) rfl rfl ?_
      refine OW.st (st_al y27 rfl rfl rfl) rfl rfl ?_
      refine OW.st0 (st_st y27 rfl rfl rfl rfl rfl rfl (Nat.le_of_ble_eq_true rfl) rfl rfl) rfl ?_
      refine OW.st (st_as rfl) rfl rfl ?_
      refine OW.nil ?_
      refine WP.seq ?_
      refine WP.seq ?_
      refine WP.region ?_
      refine OW.st (st_mv rfl) rfl rfl ?_
      refine OW.st (st_eq rfl rfl) rfl rfl ?_
      refine OW.nil ?_
      refine WP.condD rfl (fun h3 => ?_) (fun h3 => ?_)
      · skip
        have hok : lpgOk s n tx l = true := lpgE_ok.1 (by omega)
        have hof := of_lpg hok
        have hbl := (lpg_body hok).2
        have hrm := (lpgOk_iff.1 hok).2.1
        have hps := lmay_pos (lpgOk_iff.1 hok).1
        have hok1 := lpgE_ok.2 (lpgOk_take hok (k := 1) (by omega))
        refine WP.seq ?_
        refine WP.region ?_
        refine OW.st (st_lA y27 rfl rfl rfl rfl rfl) rfl rfl ?_
        refine OW.st (Stp.call Hv.ok rfl rfl rfl rfl rfl (lof_R (by have := lpg_blen (s := s) (n := n) (tx := tx) (l := l); omega))) rfl rfl ?_
        refine OW.st (st_mv rfl) rfl rfl ?_
        refine OW.st (st_ex rfl rfl) rfl rfl ?_
        refine OW.st (st_ex rfl rfl) rfl rfl ?_
        refine OW.st (st_as rfl) rfl rfl ?_
        refine OW.st (st_as rfl) rfl rfl ?_
        refine OW.nil ?_
        refine WP.seq ?_
        refine WP.seq ?_
        refine WP.drawn Hv.mix rfl ?_ rfl rfl
        refine DW.t (st_mv rfl) rfl ?_
        refine DW.stB (st_ne rfl rfl) rfl (fun h4 => absurd h4 (Decidable.not_not.2 (by rw [hof]; rfl))) (fun h4 => ?_)
        replace h4 := Decidable.not_not.1 h4
        refine DW.t (st_mv rfl) rfl ?_
        refine DW.t (Stp.yes rfl rfl (st_mv rfl)) rfl ?_
        refine DW.t (Stp.yes rfl rfl (st_mv rfl)) rfl ?_
        refine DW.pb (Stp.yes rfl rfl (Stp.call Hv.ok rfl rfl rfl rfl rfl (samekI_R (q0 := 0) (a := (ofP ((lpg s n tx l))).1) (q1 := q0) (b := l) (by first | rfl | (simp; done) | (simp; omega)) (by first | rfl | (simp; done) | (simp; omega)) rfl rfl (by decide) (by have := ofP_len (lpg s n tx l); have := lpg_blen (s := s) (n := n) (tx := tx) (l := l); omega)))) rfl (by kernel_rfl) (fun h5 => ?_) (fun h5 => ?_)
        · skip
          refine DW.t (Stp.yes rfl rfl (st_not rfl)) rfl ?_
          refine DW.t (st_pkF rfl rfl) rfl ?_
          refine DW.t (st_mv rfl) rfl ?_
          refine DW.t (Stp.yes rfl rfl (st_mv rfl)) rfl ?_
          refine DW.p (Stp.yes rfl rfl (Stp.call Hv.ok rfl rfl rfl rfl rfl (lsize_R (q0 := q0) (l := l) (by first | rfl | (simp; done) | (simp; omega)) rfl (by omega) (lmay_sz (lpgOk_iff.1 hok).1)))) rfl (by kernel_rfl) ?_
          refine DW.t (Stp.yes rfl rfl (st_fa y27 rfl rfl y9 rfl)) rfl ?_
          refine DW.p (Stp.yes rfl rfl (st_ld y9 rfl rfl rfl rfl)) rfl (by kernel_rfl) ?_
          refine DW.t (Stp.yes rfl rfl (st_lenS y9 rfl)) rfl ?_
          refine DW.stB (Stp.yes rfl rfl (st_gt rfl rfl)) rfl (fun h6 => absurd h6 (by omega)) (fun h6 => ?_)
          refine DW.t (st_pkF rfl rfl) rfl ?_
          refine DW.nil ⟨rfl, ?_⟩
          refine WP.condF rfl ?_
          refine WP.skip ?_
          refine WP.seq ?_
          refine WP.region ?_
          refine OW.st (st_mv rfl) rfl rfl ?_
          refine OW.st (st_mv rfl) rfl rfl ?_
          refine OW.st (st_mv rfl) rfl rfl ?_
          refine OW.st (st_mv rfl) rfl rfl ?_
          refine OW.st (st_view (k := kI) (i := 0) (j := 1) (o := q0) (l := l) y22 y35 rfl rfl rfl rfl rfl rfl (by omega) (by omega) (by first | rfl | (simp; done) | (simp; omega)) rfl) rfl rfl ?_
          refine OW.st (Stp.call Hv.ok rfl rfl rfl rfl rfl (lpage_R (q0 := q0) (l := List.take 1 l) (by first | rfl | (simp; done) | (simp; omega)) rfl (by simp; omega))) rfl rfl ?_
          refine OW.st (st_mv rfl) rfl rfl ?_
          refine OW.st (st_ex rfl rfl) rfl rfl ?_
          refine OW.st (st_ex rfl rfl) rfl rfl ?_
          refine OW.st (st_al y27 rfl rfl rfl) rfl rfl ?_
          refine OW.st0 (st_st y27 rfl rfl rfl rfl rfl rfl (Nat.le_of_ble_eq_true rfl) rfl rfl) rfl ?_
          refine OW.st (st_as rfl) rfl rfl ?_
          refine OW.nil ?_
          refine WP.seq ?_
          refine WP.region ?_
          refine OW.st (st_mv rfl) rfl rfl ?_
          refine OW.stB (st_ne rfl rfl) rfl rfl (fun h7 => absurd h7 (by omega)) (fun h7 => ?_)
          replace h7 := Decidable.not_not.1 h7
          refine OW.nil ?_
          refine WP.condF rfl ?_
          refine WP.skip ?_
          refine WP.seq ?_
          refine WP.region ?_
          refine OW.st (st_lA y27 rfl rfl rfl rfl rfl) rfl rfl ?_
          refine OW.st (Stp.call Hv.ok rfl rfl rfl rfl rfl (lof_R (by omega))) rfl rfl ?_
          refine OW.st (st_mv rfl) rfl rfl ?_
          refine OW.st (st_ex rfl rfl) rfl rfl ?_
          refine OW.st (st_ex rfl rfl) rfl rfl ?_
          refine OW.st (st_as rfl) rfl rfl ?_
          refine OW.st (st_as rfl) rfl rfl ?_
          refine OW.nil ?_
          refine WP.seq ?_
          refine WP.seq ?_
          refine WP.region ?_
          refine OW.st (st_mv rfl) rfl rfl ?_
          refine OW.st (st_ne rfl rfl) rfl rfl ?_
          refine OW.nil ?_
          refine WP.condD rfl (fun h8 => ?_) (fun h8 => ?_)
          · skip
            have hbad := of_bad (p := p) (by omega)
            refine WP.seq ?_
            refine WP.region ?_
            refine OW.st (st_mv rfl) rfl rfl ?_
            refine OW.st (st_lenL y22 rfl) rfl rfl ?_
            refine OW.st (st_eq rfl rfl) rfl rfl ?_
            refine OW.st (st_as rfl) rfl rfl ?_
            refine OW.nil ?_
            refine WP.ret ?_
            exact FinQ.ret (v0 := .bool true) (s0 := ⟨[(0, .cells ⟨rowJ kI q0 (l)⟩ 35 (1, 0))], 1, [], [], []⟩) rfl rfl rfl rfl (Rnm.mk' [(0, 0)] rfl rfl rfl rfl (.cons rfl (.of_eq (by first | rfl | exact bool_is (by rw [hbad]; rfl) | exact bool_is (by rw [hgood.2]; simp) | exact bool_is (by simp_all) | exact bool_is (by simp_all; omega)) rfl) .nil) (.cons rfl rfl (.cells (RNs_rowJ_of (rfl))) .nil) .nil) ⟨rfl, rfl⟩
          · skip
            replace h8 := Decidable.not_not.1 h8
            have hgood := of_ok (p := p) (by omega)
            refine WP.skip ?_
            refine WP.seq ?_
            refine WP.region ?_
            refine OW.st (st_fa y27 rfl rfl y9 rfl) rfl rfl ?_
            refine OW.st (st_ld y9 rfl rfl rfl rfl) rfl rfl ?_
            refine OW.st (st_lenS y9 rfl) rfl rfl ?_
            refine OW.st (st_add (c := (((List.length (p.body)) + 24 : Nat) : Int)) rfl rfl (by unfold sm; omega)) rfl rfl ?_
            refine OW.st (st_fa y27 rfl rfl y24 rfl) rfl rfl ?_
            refine OW.st (st_ld y24 rfl rfl rfl rfl) rfl rfl ?_
            refine OW.st (st_fa y27 rfl rfl y25 rfl) rfl rfl ?_
            refine OW.st (st_ld y25 rfl rfl rfl rfl) rfl rfl ?_
            refine OW.st (st_mv rfl) rfl rfl ?_
            refine OW.st (Stp.call Hv.ok rfl rfl rfl rfl rfl (lpage_R (q0 := 0) (l := (ofP p).1) (by first | rfl | (simp; done) | (simp; omega)) rfl (by have := ofP_len p; omega))) rfl rfl ?_
            refine OW.st (st_mv rfl) rfl rfl ?_
            refine OW.st (st_ex rfl rfl) rfl rfl ?_
            refine OW.st (st_ex rfl rfl) rfl rfl ?_
            refine OW.st (st_al y27 rfl rfl rfl) rfl rfl ?_
            refine OW.st0 (st_st y27 rfl rfl rfl rfl rfl rfl (Nat.le_of_ble_eq_true rfl) rfl rfl) rfl ?_
            refine OW.st (st_as rfl) rfl rfl ?_
            refine OW.nil ?_
            refine WP.seq ?_
            refine WP.region ?_
            refine OW.st (st_mv rfl) rfl rfl ?_
            refine OW.stB (st_eq rfl rfl) rfl rfl (fun h9 => ?_) (fun h9 => ?_)
            · skip
              refine OW.st (st_mv rfl) rfl rfl ?_
              refine OW.st (Stp.yes rfl rfl (st_lA y27 rfl rfl rfl rfl rfl)) rfl rfl ?_
              refine OW.st (Stp.yes rfl rfl (st_lA y27 rfl rfl rfl rfl rfl)) rfl rfl ?_
              refine OW.st (Stp.yes rfl rfl (st_eqA rfl rfl rfl rfl (by kernel_rfl) (eqt27 (lpg ((((List.length (p.body)) + 24 : Nat) : Int)) p.page p.tx ((ofP p).1)) p))) rfl rfl ?_
              refine OW.st (st_pkT rfl rfl) rfl rfl ?_
              refine OW.st (st_as rfl) rfl rfl ?_
              refine OW.nil ?_
              refine WP.ret ?_
              exact FinQ.ret (v0 := .bool true) (s0 := ⟨[(0, .cells ⟨rowJ kI q0 (l)⟩ 35 (1, 0))], 1, [], [], []⟩) rfl rfl rfl rfl (Rnm.mk' [(0, 0)] rfl rfl rfl rfl (.cons rfl (.of_eq (by first | rfl | exact bool_is (by rw [hbad]; rfl) | exact bool_is (by rw [hgood.2]; simp) | exact bool_is (by simp_all) | exact bool_is (by simp_all; omega)) rfl) .nil) (.cons rfl rfl (.cells (RNs_rowJ_of (rfl))) .nil) .nil) ⟨rfl, rfl⟩
            · skip
              refine OW.st (st_mv rfl) rfl rfl ?_
              refine OW.st (Stp.no rfl rfl) rfl rfl ?_
              refine OW.st (Stp.no rfl rfl) rfl rfl ?_
              refine OW.st (Stp.no rfl rfl) rfl rfl ?_
              refine OW.st (st_pkF rfl rfl) rfl rfl ?_
              refine OW.st (st_as rfl) rfl rfl ?_
              refine OW.nil ?_
              refine WP.ret ?_
              exact FinQ.ret (v0 := .bool true) (s0 := ⟨[(0, .cells ⟨rowJ kI q0 (l)⟩ 35 (1, 0))], 1, [], [], []⟩) rfl rfl rfl rfl (Rnm.mk' [(0, 0)] rfl rfl rfl rfl (.cons rfl (.of_eq (by first | rfl | exact bool_is (by rw [hbad]; rfl) | exact bool_is (by rw [hgood.2]; simp) | exact bool_is (by simp_all) | exact bool_is (by simp_all; omega)) rfl) .nil) (.cons rfl rfl (.cells (RNs_rowJ_of (rfl))) .nil) .nil) ⟨rfl, rfl⟩
        · skip
          refine DW.t (Stp.yes rfl rfl (st_not rfl)) rfl ?_
          refine DW.t (st_pkF rfl rfl) rfl ?_
          refine DW.t (st_mv rfl) rfl ?_
          refine DW.t (Stp.no rfl rfl) rfl ?_
          refine DW.t (Stp.no rfl rfl) rfl ?_
          refine DW.t (Stp.no rfl rfl) rfl ?_
          refine DW.t (Stp.no rfl rfl) rfl ?_
          refine DW.t (Stp.no rfl rfl) rfl ?_
          refine DW.t (Stp.no rfl rfl) rfl ?_
          refine DW.t (st_pkT rfl rfl) rfl ?_
          refine DW.nil ⟨rfl, ?_⟩
          refine WP.condT rfl ?_
          refine WP.seq ?_
          refine WP.region ?_
          refine OW.st (st_as rfl) rfl rfl ?_
          refine OW.nil ?_
          refine WP.ret ?_
          exact FinQ.ret (v0 := .bool true) (s0 := ⟨[(0, .cells ⟨rowJ kI q0 (l)⟩ 35 (1, 0))], 1, [], [], []⟩) rfl rfl rfl rfl (Rnm.mk' [(0, 0)] rfl rfl rfl rfl (.cons rfl (.of_eq (by first | rfl | exact bool_is (by rw [hbad]; rfl) | exact bool_is (by rw [hgood.2]; simp) | exact bool_is (by simp_all) | exact bool_is (by simp_all; omega)) rfl) .nil) (.cons rfl rfl (.cells (RNs_rowJ_of (rfl))) .nil) .nil) ⟨rfl, rfl⟩
      · skip
        refine WP.skip ?_
        refine WP.seq ?_
        refine WP.region ?_
        refine OW.st (st_lA y27 rfl rfl rfl rfl rfl) rfl rfl ?_
        refine OW.st (Stp.call Hv.ok rfl rfl rfl rfl rfl (lof_R (by omega))) rfl rfl ?_
        refine OW.st (st_mv rfl) rfl rfl ?_
        refine OW.st (st_ex rfl rfl) rfl rfl ?_
        refine OW.st (st_ex rfl rfl) rfl rfl ?_
        refine OW.st (st_as rfl) rfl rfl ?_
        refine OW.st (st_as rfl) rfl rfl ?_
        refine OW.nil ?_
        refine WP.seq ?_
        refine WP.seq ?_
        refine WP.region ?_
        refine OW.st (st_mv rfl) rfl rfl ?_
        refine OW.st (st_ne rfl rfl) rfl rfl ?_
        refine OW.nil ?_
        refine WP.condD rfl (fun h10 => ?_) (fun h10 => ?_)
        · skip
          have hbad := of_bad (p := p) (by omega)
          refine WP.seq ?_
          refine WP.region ?_
          refine OW.st (st_mv rfl) rfl rfl ?_
          refine OW.st (st_lenL y22 rfl) rfl rfl ?_
          refine OW.st (st_eq rfl rfl) rfl rfl ?_
          refine OW.st (st_as rfl) rfl rfl ?_
          refine OW.nil ?_
          refine WP.ret ?_
          exact FinQ.ret (v0 := .bool true) (s0 := ⟨[(0, .cells ⟨rowJ kI q0 (l)⟩ 35 (1, 0))], 1, [], [], []⟩) rfl rfl rfl rfl (Rnm.mk' [(0, 0)] rfl rfl rfl rfl (.cons rfl (.of_eq (by first | rfl | exact bool_is (by rw [hbad]; rfl) | exact bool_is (by rw [hgood.2]; simp) | exact bool_is (by simp_all) | exact bool_is (by simp_all; omega)) rfl) .nil) (.cons rfl rfl (.cells (RNs_rowJ_of (rfl))) .nil) .nil) ⟨rfl, rfl⟩
        · skip
          replace h10 := Decidable.not_not.1 h10
          have hgood := of_ok (p := p) (by omega)
          refine WP.skip ?_
          refine WP.seq ?_
          refine WP.region ?_
          refine OW.st (st_fa y27 rfl rfl y9 rfl) rfl rfl ?_
          refine OW.st (st_ld y9 rfl rfl rfl rfl) rfl rfl ?_
          refine OW.st (st_lenS y9 rfl) rfl rfl ?_
          refine OW.st (st_add (c := (((List.length (p.body)) + 24 : Nat) : Int)) rfl rfl (by unfold sm; omega)) rfl rfl ?_
          refine OW.st (st_fa y27 rfl rfl y24 rfl) rfl rfl ?_
          refine OW.st (st_ld y24 rfl rfl rfl rfl) rfl rfl ?_
          refine OW.st (st_fa y27 rfl rfl y25 rfl) rfl rfl ?_
          refine OW.st (st_ld y25 rfl rfl rfl rfl) rfl rfl ?_
          refine OW.st (st_mv rfl) rfl rfl ?_
          refine OW.st (Stp.call Hv.ok rfl rfl rfl rfl rfl (lpage_R (q0 := 0) (l := (ofP p).1) (by first | rfl | (simp; done) | (simp; omega)) rfl (by have := ofP_len p; omega))) rfl rfl ?_
          refine OW.st (st_mv rfl) rfl rfl ?_
          refine OW.st (st_ex rfl rfl) rfl rfl ?_
          refine OW.st (st_ex rfl rfl) rfl rfl ?_
          refine OW.st (st_al y27 rfl rfl rfl) rfl rfl ?_
          refine OW.st0 (st_st y27 rfl rfl rfl rfl rfl rfl (Nat.le_of_ble_eq_true rfl) rfl rfl) rfl ?_
          refine OW.st (st_as rfl) rfl rfl ?_
          refine OW.nil ?_
          refine WP.seq ?_
          refine WP.region ?_
          refine OW.st (st_mv rfl) rfl rfl ?_
          refine OW.stB (st_eq rfl rfl) rfl rfl (fun h11 => ?_) (fun h11 => ?_)
          · skip
            refine OW.st (st_mv rfl) rfl rfl ?_
            refine OW.st (Stp.yes rfl rfl (st_lA y27 rfl rfl rfl rfl rfl)) rfl rfl ?_
            refine OW.st (Stp.yes rfl rfl (st_lA y27 rfl rfl rfl rfl rfl)) rfl rfl ?_
            refine OW.st (Stp.yes rfl rfl (st_eqA rfl rfl rfl rfl (by kernel_rfl) (eqt27 (lpg ((((List.length (p.body)) + 24 : Nat) : Int)) p.page p.tx ((ofP p).1)) p))) rfl rfl ?_
            refine OW.st (st_pkT rfl rfl) rfl rfl ?_
            refine OW.st (st_as rfl) rfl rfl ?_
            refine OW.nil ?_
            refine WP.ret ?_
            exact FinQ.ret (v0 := .bool true) (s0 := ⟨[(0, .cells ⟨rowJ kI q0 (l)⟩ 35 (1, 0))], 1, [], [], []⟩) rfl rfl rfl rfl (Rnm.mk' [(0, 0)] rfl rfl rfl rfl (.cons rfl (.of_eq (by first | rfl | exact bool_is (by rw [hbad]; rfl) | exact bool_is (by rw [hgood.2]; simp) | exact bool_is (by simp_all) | exact bool_is (by simp_all; omega)) rfl) .nil) (.cons rfl rfl (.cells (RNs_rowJ_of (rfl))) .nil) .nil) ⟨rfl, rfl⟩
          · skip
            refine OW.st (st_mv rfl) rfl rfl ?_
            refine OW.st (Stp.no rfl rfl) rfl rfl ?_
            refine OW.st (Stp.no rfl rfl) rfl rfl ?_
            refine OW.st (Stp.no rfl rfl) rfl rfl ?_
            refine OW.st (st_pkF rfl rfl) rfl rfl ?_
            refine OW.st (st_as rfl) rfl rfl ?_
            refine OW.nil ?_
            refine WP.ret ?_
            exact FinQ.ret (v0 := .bool true) (s0 := ⟨[(0, .cells ⟨rowJ kI q0 (l)⟩ 35 (1, 0))], 1, [], [], []⟩) rfl rfl rfl rfl (Rnm.mk' [(0, 0)] rfl rfl rfl rfl (.cons rfl (.of_eq (by first | rfl | exact bool_is (by rw [hbad]; rfl) | exact bool_is (by rw [hgood.2]; simp) | exact bool_is (by simp_all) | exact bool_is (by simp_all; omega)) rfl) .nil) (.cons rfl rfl (.cells (RNs_rowJ_of (rfl))) .nil) .nil) ⟨rfl, rfl⟩
  · skip
    refine OW.st (st_not rfl) rfl rfl ?_
    refine OW.st (st_mv rfl) rfl rfl ?_
    refine OW.st (Stp.no rfl rfl) rfl rfl ?_
    refine OW.st (Stp.no rfl rfl) rfl rfl ?_
    refine OW.st (Stp.no rfl rfl) rfl rfl ?_
    refine OW.st (Stp.no rfl rfl) rfl rfl ?_
    refine OW.st (st_pkT rfl rfl) rfl rfl ?_
    refine OW.nil ?_
    refine WP.condT rfl ?_
    refine WP.seq ?_
    refine WP.region ?_
    refine OW.st (st_as rfl) rfl rfl ?_
    refine OW.nil ?_
    refine WP.ret ?_
    exact FinQ.ret (v0 := .bool true) (s0 := ⟨[(0, .cells ⟨rowJ kI q0 (l)⟩ 35 (1, 0))], 1, [], [], []⟩) rfl rfl rfl rfl (Rnm.mk' [(0, 0)] rfl rfl rfl rfl (.cons rfl (.of_eq (by first | rfl | exact bool_is (by rw [hbad]; rfl) | exact bool_is (by rw [hgood.2]; simp) | exact bool_is (by simp_all) | exact bool_is (by simp_all; omega)) rfl) .nil) (.cons rfl rfl (.cells (RNs_rowJ_of (rfl))) .nil) .nil) ⟨rfl, rfl⟩
end Go.Ev
