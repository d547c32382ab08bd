/- Words of my own, printed by a program of mine. -/
import Derived.Test.YtmnpchmdgobcnaaDleaf
set_option linter.unusedVariables false
set_option linter.unusedSimpArgs false
set_option maxRecDepth 8000
set_option maxHeartbeats 4000000
namespace Go.Ev
open Go.RowKit Go.Proofs
theorem item_W  {l : List UInt8} (hl : l.length ≤ 1000000) :
    CW cfg 69 [.pointer (some ⟨0, 0, none⟩)] ⟨[(0, .cells ⟨[str (l)]⟩ 133 (0, 0))], 1, [], [], []⟩ fun v' s' => v' = .tuple ⟨[.agg ⟨[str ((itemP l).1.key), str ((itemP l).1.value), .bool ((itemP l).1.over), .int .i64 ((itemP l).1.len : Int), .int .u32 (((itemP l).1.head : Nat) : Int)]⟩, .int .i64 (((itemP l).2.1 : Nat) : Int)]⟩ ∧ s' = ⟨[(0, .cells ⟨[str ((itemP l).2.2)]⟩ 133 (0, 0))], 1, [], [], []⟩ := by
  refine CW.of_WP cfg_ok g69 rfl rfl rfl ?_
  refine WP.seq ?_
  refine WP.region ?_
  refine OW.st (st_al y35 rfl rfl rfl) rfl rfl ?_
  refine OW.st (st_as rfl) rfl rfl ?_
  refine OW.nil ?_
  refine WP.seq ?_
  refine WP.region ?_
  refine OW.st (st_mv rfl) rfl rfl ?_
  refine OW.st (Stp.call Hv.ok rfl rfl rfl rfl rfl (number_R (k := 1) rfl rfl (by repeat (first | omega | refine takeR_le' ?_)) (by first | omega | decide))) rfl rfl ?_
  refine OW.st (st_mv rfl) rfl rfl ?_
  refine OW.st (st_ex rfl rfl) rfl rfl ?_
  refine OW.st (st_ex rfl rfl) rfl rfl ?_
  refine OW.st (st_as rfl) rfl rfl ?_
  refine OW.st (st_as rfl) rfl rfl ?_
  refine OW.nil ?_
  refine WP.seq ?_
  refine WP.region ?_
  refine OW.st (st_mv rfl) rfl rfl ?_
  refine OW.st (Stp.call Hv.ok rfl rfl rfl rfl rfl (number_R (k := 1) rfl rfl (by repeat (first | omega | refine takeR_le' ?_)) (by first | omega | decide))) rfl rfl ?_
  refine OW.st (st_mv rfl) rfl rfl ?_
  refine OW.st (st_ex rfl rfl) rfl rfl ?_
  refine OW.st (st_ex rfl rfl) rfl rfl ?_
  refine OW.st (st_as rfl) rfl rfl ?_
  refine OW.st (st_as rfl) rfl rfl ?_
  refine OW.nil ?_
  refine WP.seq ?_
  refine WP.seq ?_
  refine WP.region ?_
  refine OW.st (st_mv rfl) rfl rfl ?_
  refine OW.stB (st_ne rfl rfl) rfl rfl (fun h1 => ?_) (fun h1 => ?_)
  · skip
    refine OW.st (st_mv rfl) rfl rfl ?_
    refine OW.st (Stp.no rfl rfl) rfl rfl ?_
    refine OW.st (Stp.no rfl rfl) rfl rfl ?_
    refine OW.st (st_pkT rfl rfl) rfl rfl ?_
    refine OW.nil ?_
    refine WP.condT rfl ?_
    refine WP.seq ?_
    refine WP.region ?_
    refine OW.st (st_lA y35 rfl rfl rfl rfl rfl) rfl rfl ?_
    refine OW.st0 (st_st y35 rfl rfl rfl rfl rfl rfl (Nat.le_of_ble_eq_true rfl) rfl rfl) rfl ?_
    refine OW.st (st_as rfl) rfl rfl ?_
    refine OW.nil ?_
    refine WP.ret ?_
    have hi : itemP l = ((Item.mk ([]) ([]) false 0 0), 4, takeR (takeR l 1) 1) := by unfold itemP; (repeat' split) <;> first | rfl | (exfalso; omega) | (simp; omega)
    exact FinQ.ret (v0 := .tuple ⟨[.agg ⟨[str ((itemP l).1.key), str ((itemP l).1.value), .bool ((itemP l).1.over), .int .i64 ((itemP l).1.len : Int), .int .u32 (((itemP l).1.head : Nat) : Int)]⟩, .int .i64 (((itemP l).2.1 : Nat) : Int)]⟩) (s0 := ⟨[(0, .cells ⟨[str ((itemP l).2.2)]⟩ 133 (0, 0))], 1, [], [], []⟩) rfl rfl rfl rfl (Rnm.mk' [(0, 0)] rfl rfl rfl rfl (.cons rfl (.tupleL ((.cons (.aggL ((.cons (.of_eq (by rw [hi] <;> rfl) rfl) (.cons (.of_eq (by rw [hi] <;> rfl) rfl) (.cons (.of_eq (by rw [hi] <;> rfl) rfl) (.cons (.of_eq (by rw [hi] <;> rfl) rfl) (.cons (.of_eq (by rw [hi] <;> rfl) rfl) .nil))))))) (.cons (.of_eq (by rw [hi] <;> rfl) rfl) .nil)))) .nil) (.cons rfl rfl (.cells (.cons (.of_eq (by rw [hi] <;> rfl) rfl) .nil)) .nil) .nil) ⟨rfl, rfl⟩
  · skip
    replace h1 := Decidable.not_not.1 h1
    refine OW.st (st_mv rfl) rfl rfl ?_
    refine OW.st (Stp.yes rfl rfl (st_mv rfl)) rfl rfl ?_
    refine OW.st (Stp.yes rfl rfl (st_gt rfl rfl)) rfl rfl ?_
    refine OW.st (st_pkF rfl rfl) rfl rfl ?_
    refine OW.nil ?_
    refine WP.condD rfl (fun h2 => ?_) (fun h2 => ?_)
    · skip
      refine WP.seq ?_
      refine WP.region ?_
      refine OW.st (st_lA y35 rfl rfl rfl rfl rfl) rfl rfl ?_
      refine OW.st0 (st_st y35 rfl rfl rfl rfl rfl rfl (Nat.le_of_ble_eq_true rfl) rfl rfl) rfl ?_
      refine OW.st (st_as rfl) rfl rfl ?_
      refine OW.nil ?_
      refine WP.ret ?_
      have hi : itemP l = ((Item.mk ([]) ([]) false 0 0), 4, takeR (takeR l 1) 1) := by unfold itemP; (repeat' split) <;> first | rfl | (exfalso; omega) | (simp; omega)
      exact FinQ.ret (v0 := .tuple ⟨[.agg ⟨[str ((itemP l).1.key), str ((itemP l).1.value), .bool ((itemP l).1.over), .int .i64 ((itemP l).1.len : Int), .int .u32 (((itemP l).1.head : Nat) : Int)]⟩, .int .i64 (((itemP l).2.1 : Nat) : Int)]⟩) (s0 := ⟨[(0, .cells ⟨[str ((itemP l).2.2)]⟩ 133 (0, 0))], 1, [], [], []⟩) rfl rfl rfl rfl (Rnm.mk' [(0, 0)] rfl rfl rfl rfl (.cons rfl (.tupleL ((.cons (.aggL ((.cons (.of_eq (by rw [hi] <;> rfl) rfl) (.cons (.of_eq (by rw [hi] <;> rfl) rfl) (.cons (.of_eq (by rw [hi] <;> rfl) rfl) (.cons (.of_eq (by rw [hi] <;> rfl) rfl) (.cons (.of_eq (by rw [hi] <;> rfl) rfl) .nil))))))) (.cons (.of_eq (by rw [hi] <;> rfl) rfl) .nil)))) .nil) (.cons rfl rfl (.cells (.cons (.of_eq (by rw [hi] <;> rfl) rfl) .nil)) .nil) .nil) ⟨rfl, rfl⟩
    · skip
      refine WP.skip ?_
      refine WP.seq ?_
      refine WP.seq ?_
      refine WP.region ?_
      refine OW.st (st_mv rfl) rfl rfl ?_
      refine OW.st (st_mv rfl) rfl rfl ?_
      refine OW.st (st_cvi y25 y3 rfl (i64_num (by decide))) rfl rfl ?_
      refine OW.st (Stp.call Hv.ok rfl rfl rfl rfl rfl (rbytes_R rfl rfl (by repeat (first | omega | refine takeR_le' ?_)) (by first | omega | exact Nat.le_trans numV_le1 (by decide)))) rfl rfl ?_
      refine OW.st (st_mv rfl) rfl rfl ?_
      refine OW.st (st_ex rfl rfl) rfl rfl ?_
      refine OW.st (st_ex rfl rfl) rfl rfl ?_
      refine OW.st (st_fa y35 rfl rfl y9 rfl) rfl rfl ?_
      refine OW.st0 (st_st y9 rfl rfl rfl rfl rfl rfl (Nat.le_of_ble_eq_true rfl) rfl rfl) rfl ?_
      refine OW.st (st_as rfl) rfl rfl ?_
      refine OW.nil ?_
      refine WP.seq ?_
      refine WP.region ?_
      refine OW.st (st_mv rfl) rfl rfl ?_
      refine OW.st (st_ne rfl rfl) rfl rfl ?_
      refine OW.nil ?_
      refine WP.condD rfl (fun h3 => ?_) (fun h3 => ?_)
      · skip
        refine WP.seq ?_
        refine WP.region ?_
        refine OW.st (st_lA y35 rfl rfl rfl rfl rfl) rfl rfl ?_
        refine OW.st (st_mv rfl) rfl rfl ?_
        refine OW.st0 (st_st y35 rfl rfl rfl rfl rfl rfl (Nat.le_of_ble_eq_true rfl) rfl rfl) rfl ?_
        refine OW.st (st_as rfl) rfl rfl ?_
        refine OW.nil ?_
        refine WP.ret ?_
        have hi : itemP l = ((Item.mk (takeV (takeR (takeR l 1) 1) (numV (takeR l 1) 1)) ([]) false 0 0), takeE (takeR (takeR l 1) 1) (numV (takeR l 1) 1), takeR (takeR (takeR l 1) 1) (numV (takeR l 1) 1)) := by unfold itemP; (repeat' split) <;> first | rfl | (exfalso; omega) | (simp; omega)
        exact FinQ.ret (v0 := .tuple ⟨[.agg ⟨[str ((itemP l).1.key), str ((itemP l).1.value), .bool ((itemP l).1.over), .int .i64 ((itemP l).1.len : Int), .int .u32 (((itemP l).1.head : Nat) : Int)]⟩, .int .i64 (((itemP l).2.1 : Nat) : Int)]⟩) (s0 := ⟨[(0, .cells ⟨[str ((itemP l).2.2)]⟩ 133 (0, 0))], 1, [], [], []⟩) rfl rfl rfl rfl (Rnm.mk' [(0, 0)] rfl rfl rfl rfl (.cons rfl (.tupleL ((.cons (.aggL ((.cons (.of_eq (by rw [hi] <;> rfl) rfl) (.cons (.of_eq (by rw [hi] <;> rfl) rfl) (.cons (.of_eq (by rw [hi] <;> rfl) rfl) (.cons (.of_eq (by rw [hi] <;> rfl) rfl) (.cons (.of_eq (by rw [hi] <;> rfl) rfl) .nil))))))) (.cons (.of_eq (by rw [hi] <;> rfl) rfl) .nil)))) .nil) (.cons rfl rfl (.cells (.cons (.of_eq (by rw [hi] <;> rfl) rfl) .nil)) .nil) .nil) ⟨rfl, rfl⟩
      · skip
        replace h3 := Decidable.not_not.1 h3
        refine WP.skip ?_
        refine WP.seq ?_
        refine WP.seq ?_
        refine WP.region ?_
        refine OW.st (st_mv rfl) rfl rfl ?_
        refine OW.st (st_eq rfl rfl) rfl rfl ?_
        refine OW.st (st_fa y35 rfl rfl y4 rfl) rfl rfl ?_
        refine OW.st0 (st_st y4 rfl rfl rfl rfl rfl rfl (Nat.le_of_ble_eq_true rfl) rfl rfl) rfl ?_
        refine OW.nil ?_
        refine WP.seq ?_
        refine WP.region ?_
        refine OW.st (st_fa y35 rfl rfl y4 rfl) rfl rfl ?_
        refine OW.st (st_ld y4 rfl rfl rfl rfl) rfl rfl ?_
        refine OW.nil ?_
        refine WP.condD rfl (fun h4 => ?_) (fun h4 => ?_)
        · skip
          refine WP.seq ?_
          refine WP.region ?_
          refine OW.st (st_mv rfl) rfl rfl ?_
          refine OW.st (Stp.call Hv.ok rfl rfl rfl rfl rfl (number_R (k := 4) rfl rfl (by repeat (first | omega | refine takeR_le' ?_)) (by first | omega | decide))) rfl rfl ?_
          refine OW.st (st_mv rfl) rfl rfl ?_
          refine OW.st (st_ex rfl rfl) rfl rfl ?_
          refine OW.st (st_ex rfl rfl) rfl rfl ?_
          refine OW.st (st_as rfl) rfl rfl ?_
          refine OW.st (st_as rfl) rfl rfl ?_
          refine OW.nil ?_
          refine WP.seq ?_
          refine WP.region ?_
          refine OW.st (st_mv rfl) rfl rfl ?_
          refine OW.st (Stp.call Hv.ok rfl rfl rfl rfl rfl (number_R (k := 4) rfl rfl (by repeat (first | omega | refine takeR_le' ?_)) (by first | omega | decide))) rfl rfl ?_
          refine OW.st (st_mv rfl) rfl rfl ?_
          refine OW.st (st_ex rfl rfl) rfl rfl ?_
          refine OW.st (st_ex rfl rfl) rfl rfl ?_
          refine OW.st (st_as rfl) rfl rfl ?_
          refine OW.st (st_as rfl) rfl rfl ?_
          refine OW.nil ?_
          refine WP.seq ?_
          refine WP.region ?_
          refine OW.st (st_mv rfl) rfl rfl ?_
          refine OW.st (st_cvi y25 y3 rfl (i64_num (by decide))) rfl rfl ?_
          refine OW.st (st_mv rfl) rfl rfl ?_
          refine OW.st (st_cvi y25 y24 rfl u32_num) rfl rfl ?_
          refine OW.st (st_fa y35 rfl rfl y3 rfl) rfl rfl ?_
          refine OW.st0 (st_st y3 rfl rfl rfl rfl rfl rfl (Nat.le_of_ble_eq_true rfl) rfl rfl) rfl ?_
          refine OW.st (st_fa y35 rfl rfl y24 rfl) rfl rfl ?_
          refine OW.st0 (st_st y24 rfl rfl rfl rfl rfl rfl (Nat.le_of_ble_eq_true rfl) rfl rfl) rfl ?_
          refine OW.nil ?_
          refine WP.seq ?_
          refine WP.region ?_
          refine OW.st (st_lA y35 rfl rfl rfl rfl rfl) rfl rfl ?_
          refine OW.st (st_mv rfl) rfl rfl ?_
          refine OW.st0 (st_st y35 rfl rfl rfl rfl rfl rfl (Nat.le_of_ble_eq_true rfl) rfl rfl) rfl ?_
          refine OW.st (st_as rfl) rfl rfl ?_
          refine OW.nil ?_
          refine WP.ret ?_
          have hi : itemP l = ((Item.mk (takeV (takeR (takeR l 1) 1) (numV (takeR l 1) 1)) ([]) (decide (((numV l 1 : Nat) : Int) = (1 : Int))) (((numV (takeR (takeR (takeR l 1) 1) (numV (takeR l 1) 1)) 4 : Nat) : Int)) (numV (takeR (takeR (takeR (takeR l 1) 1) (numV (takeR l 1) 1)) 4) 4)), takeE (takeR (takeR (takeR (takeR l 1) 1) (numV (takeR l 1) 1)) 4) 4, takeR (takeR (takeR (takeR (takeR l 1) 1) (numV (takeR l 1) 1)) 4) 4) := by unfold itemP; (repeat' split) <;> first | rfl | (exfalso; omega) | (simp; omega)
          exact FinQ.ret (v0 := .tuple ⟨[.agg ⟨[str ((itemP l).1.key), str ((itemP l).1.value), .bool ((itemP l).1.over), .int .i64 ((itemP l).1.len : Int), .int .u32 (((itemP l).1.head : Nat) : Int)]⟩, .int .i64 (((itemP l).2.1 : Nat) : Int)]⟩) (s0 := ⟨[(0, .cells ⟨[str ((itemP l).2.2)]⟩ 133 (0, 0))], 1, [], [], []⟩) rfl rfl rfl rfl (Rnm.mk' [(0, 0)] rfl rfl rfl rfl (.cons rfl (.tupleL ((.cons (.aggL ((.cons (.of_eq (by rw [hi] <;> rfl) rfl) (.cons (.of_eq (by rw [hi] <;> rfl) rfl) (.cons (.of_eq (by rw [hi] <;> rfl) rfl) (.cons (.of_eq (by rw [hi] <;> rfl) rfl) (.cons (.of_eq (by rw [hi] <;> rfl) rfl) .nil))))))) (.cons (.of_eq (by rw [hi] <;> rfl) rfl) .nil)))) .nil) (.cons rfl rfl (.cells (.cons (.of_eq (by rw [hi] <;> rfl) rfl) .nil)) .nil) .nil) ⟨rfl, rfl⟩
        · skip
          refine WP.skip ?_
          refine WP.seq ?_
          refine WP.region ?_
          refine OW.st (st_mv rfl) rfl rfl ?_
          refine OW.st (Stp.call Hv.ok rfl rfl rfl rfl rfl (number_R (k := 1) rfl rfl (by repeat (first | omega | refine takeR_le' ?_)) (by first | omega | decide))) rfl rfl ?_
          refine OW.st (st_mv rfl) rfl rfl ?_
          refine OW.st (st_ex rfl rfl) rfl rfl ?_
          refine OW.st (st_ex rfl rfl) rfl rfl ?_
          refine OW.st (st_as rfl) rfl rfl ?_
          refine OW.st (st_as rfl) rfl rfl ?_
          refine OW.nil ?_
          refine WP.seq ?_
          refine WP.seq ?_
          refine WP.region ?_
          refine OW.st (st_mv rfl) rfl rfl ?_
          refine OW.st (st_ne rfl rfl) rfl rfl ?_
          refine OW.nil ?_
          refine WP.condD rfl (fun h5 => ?_) (fun h5 => ?_)
          · skip
            refine WP.seq ?_
            refine WP.region ?_
            refine OW.st (st_lA y35 rfl rfl rfl rfl rfl) rfl rfl ?_
            refine OW.st (st_mv rfl) rfl rfl ?_
            refine OW.st0 (st_st y35 rfl rfl rfl rfl rfl rfl (Nat.le_of_ble_eq_true rfl) rfl rfl) rfl ?_
            refine OW.st (st_as rfl) rfl rfl ?_
            refine OW.nil ?_
            refine WP.ret ?_
            have hi : itemP l = ((Item.mk (takeV (takeR (takeR l 1) 1) (numV (takeR l 1) 1)) ([]) (decide (((numV l 1 : Nat) : Int) = (1 : Int))) 0 0), takeE (takeR (takeR (takeR l 1) 1) (numV (takeR l 1) 1)) 1, takeR (takeR (takeR (takeR l 1) 1) (numV (takeR l 1) 1)) 1) := by unfold itemP; (repeat' split) <;> first | rfl | (exfalso; omega) | (simp; omega)
            exact FinQ.ret (v0 := .tuple ⟨[.agg ⟨[str ((itemP l).1.key), str ((itemP l).1.value), .bool ((itemP l).1.over), .int .i64 ((itemP l).1.len : Int), .int .u32 (((itemP l).1.head : Nat) : Int)]⟩, .int .i64 (((itemP l).2.1 : Nat) : Int)]⟩) (s0 := ⟨[(0, .cells ⟨[str ((itemP l).2.2)]⟩ 133 (0, 0))], 1, [], [], []⟩) rfl rfl rfl rfl (Rnm.mk' [(0, 0)] rfl rfl rfl rfl (.cons rfl (.tupleL ((.cons (.aggL ((.cons (.of_eq (by rw [hi] <;> rfl) rfl) (.cons (.of_eq (by rw [hi] <;> rfl) rfl) (.cons (.of_eq (by rw [hi] <;> rfl) rfl) (.cons (.of_eq (by rw [hi] <;> rfl) rfl) (.cons (.of_eq (by rw [hi] <;> rfl) rfl) .nil))))))) (.cons (.of_eq (by rw [hi] <;> rfl) rfl) .nil)))) .nil) (.cons rfl rfl (.cells (.cons (.of_eq (by rw [hi] <;> rfl) rfl) .nil)) .nil) .nil) ⟨rfl, rfl⟩
          · skip
            replace h5 := Decidable.not_not.1 h5
            refine WP.skip ?_
            refine WP.seq ?_
            refine WP.region ?_
            refine OW.st (st_mv rfl) rfl rfl ?_
            refine OW.st (st_mv rfl) rfl rfl ?_
            refine OW.st (st_cvi y25 y3 rfl (i64_num (by decide))) rfl rfl ?_
            refine OW.st (Stp.call Hv.ok rfl rfl rfl rfl rfl (rbytes_R rfl rfl (by repeat (first | omega | refine takeR_le' ?_)) (by first | omega | exact Nat.le_trans numV_le1 (by decide)))) rfl rfl ?_
            refine OW.st (st_mv rfl) rfl rfl ?_
            refine OW.st (st_ex rfl rfl) rfl rfl ?_
            refine OW.st (st_ex rfl rfl) rfl rfl ?_
            refine OW.st (st_fa y35 rfl rfl y9 rfl) rfl rfl ?_
            refine OW.st0 (st_st y9 rfl rfl rfl rfl rfl rfl (Nat.le_of_ble_eq_true rfl) rfl rfl) rfl ?_
            refine OW.st (st_as rfl) rfl rfl ?_
            refine OW.nil ?_
            refine WP.seq ?_
            refine WP.region ?_
            refine OW.st (st_lA y35 rfl rfl rfl rfl rfl) rfl rfl ?_
            refine OW.st (st_mv rfl) rfl rfl ?_
            refine OW.st0 (st_st y35 rfl rfl rfl rfl rfl rfl (Nat.le_of_ble_eq_true rfl) rfl rfl) rfl ?_
            refine OW.st (st_as rfl) rfl rfl ?_
            refine OW.nil ?_
            refine WP.ret ?_
            have hi : itemP l = ((Item.mk (takeV (takeR (takeR l 1) 1) (numV (takeR l 1) 1)) (takeV (takeR (takeR (takeR (takeR l 1) 1) (numV (takeR l 1) 1)) 1) (numV (takeR (takeR (takeR l 1) 1) (numV (takeR l 1) 1)) 1)) (decide (((numV l 1 : Nat) : Int) = (1 : Int))) 0 0), takeE (takeR (takeR (takeR (takeR l 1) 1) (numV (takeR l 1) 1)) 1) (numV (takeR (takeR (takeR l 1) 1) (numV (takeR l 1) 1)) 1), takeR (takeR (takeR (takeR (takeR l 1) 1) (numV (takeR l 1) 1)) 1) (numV (takeR (takeR (takeR l 1) 1) (numV (takeR l 1) 1)) 1)) := by unfold itemP; (repeat' split) <;> first | rfl | (exfalso; omega) | (simp; omega)
            exact FinQ.ret (v0 := .tuple ⟨[.agg ⟨[str ((itemP l).1.key), str ((itemP l).1.value), .bool ((itemP l).1.over), .int .i64 ((itemP l).1.len : Int), .int .u32 (((itemP l).1.head : Nat) : Int)]⟩, .int .i64 (((itemP l).2.1 : Nat) : Int)]⟩) (s0 := ⟨[(0, .cells ⟨[str ((itemP l).2.2)]⟩ 133 (0, 0))], 1, [], [], []⟩) rfl rfl rfl rfl (Rnm.mk' [(0, 0)] rfl rfl rfl rfl (.cons rfl (.tupleL ((.cons (.aggL ((.cons (.of_eq (by rw [hi] <;> rfl) rfl) (.cons (.of_eq (by rw [hi] <;> rfl) rfl) (.cons (.of_eq (by rw [hi] <;> rfl) rfl) (.cons (.of_eq (by rw [hi] <;> rfl) rfl) (.cons (.of_eq (by rw [hi] <;> rfl) rfl) .nil))))))) (.cons (.of_eq (by rw [hi] <;> rfl) rfl) .nil)))) .nil) (.cons rfl rfl (.cells (.cons (.of_eq (by rw [hi] <;> rfl) rfl) .nil)) .nil) .nil) ⟨rfl, rfl⟩
theorem item_R {h h' : List (Nat × Obj)} {nx a0 : Nat} {l : List UInt8}  (o0 : aget h a0 = some (.cells ⟨[str (l)]⟩ 133 (0, 0))) (u : aput h a0 (.cells ⟨[str ((itemP l).2.2)]⟩ 133 (0, 0)) = h')  (hl : l.length ≤ 1000000) : CallR cfg 69 [.pointer (some ⟨a0, 0, none⟩)] ⟨h, nx, [], [], []⟩ (.tuple ⟨[.agg ⟨[str ((itemP l).1.key), str ((itemP l).1.value), .bool ((itemP l).1.over), .int .i64 ((itemP l).1.len : Int), .int .u32 (((itemP l).1.head : Nat) : Int)]⟩, .int .i64 (((itemP l).2.1 : Nat) : Int)]⟩) ⟨h', nx + 0, [a0], [a0], []⟩ :=
  (CallR.lay2 (m := 0) (news0 := []) (news := []) (b0 := 0) [(0, a0)] (item_W hl) rfl rfl ((.cons (.ptr rfl) .nil)) ((.cons rfl rfl o0 (.cells (.cons (.flat rfl) .nil)) (fun c hc => by cases hc) .nil)) (.tupleL ((.cons (.aggL ((.cons (.flat rfl) (.cons (.flat rfl) (.cons (.flat rfl) (.cons (.flat rfl) (.cons (.flat rfl) .nil))))))) (.cons (.flat rfl) .nil)))) (.nil) rfl rfl (fun b hb => by simp only [aget_cons, aget_nil, if_neg hb]) (.cells (.cons (.flat rfl) .nil)) u)
end Go.Ev
