/- The texts that the statement's row rests on, one behind the other. -/
import Derived.Test.YtlnmdfffmflhgaaMFrameNames3
import Derived.Test.YtlnmdfffmflhgaaMFrameNames1
import Derived.Test.YtlnmdfffmflhgaaMFrameNames2
namespace Go.Proofs.Ytlnmdfffmflhgaa.P
open Go.RowKit Go.Proofs.YtlnmdfffmflhgaaW.PrintWords Go.Proofs.YtlnmdfffmflhgaaW.PrintLast Go.Proofs.YtlnmdfffmflhgaaW.PrintMore
attribute [local go_sem] max2_int min2_int max_two min_two max_three min_three max_four min_four   -- for this text's walks alone
open Go.Proofs.YtlnmdfffmflhgaaO
attribute [local go_sem] min2_str max2_str
set_option linter.unusedVariables false
set_option linter.unusedSimpArgs false
/-! ### frame_Get: function 19 (by hand) -/
/-- What a reader of heads panics with. -/
def faultP : List PanicEntry := [{ v := .iface 82 (.agg #[]), recovered := false }]
/-- Numbers of these widths, read behind one another: none, at the first that is too short. -/
def headR : List Int → ByteArray → Option (Option (List Int) × ByteArray)
  | [], s => some (some [], s)
  | n :: t, s => (octet_Reader_Number.f 12 s n).bind fun b => if b.2.1 = 0 then (headR t b.2.2).bind fun r => some (r.1.map (b.1 :: ·), r.2) else some (none, b.2.2)
def widL : List Int := [4, 1, 1, 2, 4, 4, 8]
/-- The cells while the numbers are read. -/
def headC (acc : List Int) : Array Value := ((acc.map (fun v => Value.int .u64 v)) ++ List.replicate (7 - acc.length) (Value.int .u64 0)).toArray
theorem headC_size {acc : List Int} (h : acc.length ≤ 7) : (headC acc).size = 7 := by
  simp [headC]
  omega
theorem headC_set {acc : List Int} (h : acc.length < 7) (v : Int) : (headC acc).setIfInBounds acc.length (.int .u64 v) = headC (acc ++ [v]) := by
  obtain ⟨m, hm⟩ : ∃ m, 7 - acc.length = m + 1 := ⟨7 - acc.length - 1, by omega⟩
  have h2 : 7 - (acc ++ [v]).length = m := by rw [List.length_append]; simp only [List.length_cons, List.length_nil]; omega
  unfold headC
  rw [h2, hm, List.setIfInBounds_toArray, List.replicate_succ, List.map_append, List.append_assoc]
  congr 1
  rw [List.set_append_right _ _ (by rw [List.length_map]; exact Nat.le_refl _), List.length_map, Nat.sub_self]
  rfl
theorem headC_get {acc : List Int} (h : acc.length < 7) : (headC acc)[acc.length]? = some (.int .u64 0) := by
  obtain ⟨m, hm⟩ : ∃ m, 7 - acc.length = m + 1 := ⟨7 - acc.length - 1, by omega⟩
  unfold headC
  rw [hm, List.replicate_succ, List.getElem?_toArray, List.getElem?_append_right (by rw [List.length_map]; exact Nat.le_refl _), List.length_map, Nat.sub_self]
  rfl
theorem headC_full {acc : List Int} (h : acc.length = 7) : headC acc = (acc.map (fun v => Value.int .u64 v)).toArray := by
  unfold headC
  rw [h]
  simp
theorem headC_one (acc : List Int) : ∀ v ∈ headC acc, v.oneCell' = true := by
  intro v hv
  unfold headC at hv
  rw [List.mem_toArray, List.mem_append] at hv
  rcases hv with hv | hv
  · obtain ⟨z, _, rfl⟩ := List.mem_map.1 hv
    rfl
  · obtain ⟨_, rfl⟩ := List.mem_replicate.1 hv
    rfl
theorem wid_at (n : Nat) (wd : Int) (t : List Int) (h : widL.drop n = wd :: t) : widV[n]? = some (.int .i64 wd) ∧ n < 7 ∧ widL.drop (n + 1) = t := by
  match n, h with
  | 0, h => simp [widL] at h; obtain ⟨rfl, rfl⟩ := h; exact ⟨rfl, by decide, rfl⟩
  | 1, h => simp [widL] at h; obtain ⟨rfl, rfl⟩ := h; exact ⟨rfl, by decide, rfl⟩
  | 2, h => simp [widL] at h; obtain ⟨rfl, rfl⟩ := h; exact ⟨rfl, by decide, rfl⟩
  | 3, h => simp [widL] at h; obtain ⟨rfl, rfl⟩ := h; exact ⟨rfl, by decide, rfl⟩
  | 4, h => simp [widL] at h; obtain ⟨rfl, rfl⟩ := h; exact ⟨rfl, by decide, rfl⟩
  | 5, h => simp [widL] at h; obtain ⟨rfl, rfl⟩ := h; exact ⟨rfl, by decide, rfl⟩
  | 6, h => simp [widL] at h; obtain ⟨rfl, rfl⟩ := h; exact ⟨rfl, by decide, rfl⟩
  | n + 7, h => simp [widL] at h
theorem wid_end (n : Nat) (h : n ≤ 7) (h2 : widL.drop n = []) : n = 7 := by
  have := congrArg List.length h2
  rw [List.length_drop] at this
  simp [widL] at this
  omega
theorem run_index_i64 {P : Program} {W : World} (t : TypeId) {n e : Nat} {k kk : IntKind} (ht : P.underlying t = some (.array n e)) (he : P.underlying e = some (.int k)) (hs : (P.info? e).map (·.size) = some 1) (vs : Array Value) {v : Value} (i : Int) (h0 : 0 ≤ i) (hn : i < n) (hv : vs[i.toNat]? = some v) :
    (Instr.index t (.agg vs) (.int kk i)).run P W = .ok v W := by
  obtain ⟨ie, hi, hs⟩ := Option.map_eq_some_iff.1 hs
  have hp : (part e vs (i.toNat * 1)).run P W = .ok v W := by simp [part, isAgg, run_underlying he, hv]
  rw [Nat.mul_one] at hp
  simp [Instr.index, asIntOf, run_underlying ht, h0, hn, sizeOf, typeInfo, hi, hs, hp]
/-- What holds while the head is read. -/
structure HeadInv (w0 w W : World) (g ga : Nat) (s : ByteArray) (acc : List Int) : Prop where
  hi : IsS94 w0 W g s
  hb : Below w0.heap.size w0 W
  hk : KeepBut w W g none
  ba : W.heap[ga]? = some (.cells (headC acc) 77 (0, 0))
  hg : w.heap.size ≤ ga
  h0 : w0.heap.size ≤ w.heap.size
theorem HeadInv.step {w0 w W W' : World} {g ga : Nat} {s s' : ByteArray} {acc : List Int} (h : HeadInv w0 w W g ga s acc) (hi : IsS94 w0 W' g s') (hb : Below w0.heap.size w0 W') (hk : KeepBut W W' g none) : HeadInv w0 w W' g ga s' acc :=
  ⟨hi, hb, KeepBut.trans h.hk hk (.inl rfl), KeepBut.blk hk h.ba (h.hi.ne_blk h.ba (by decide)).symm (by simp), h.hg, h.h0⟩
theorem HeadInv.below {w0 w W W' : World} {g ga : Nat} {s : ByteArray} {acc : List Int} (h : HeadInv w0 w W g ga s acc) (hb : Below W.heap.size W W') : HeadInv w0 w W' g ga s acc :=
  ⟨h.hi.below hb, below_then h.hb h.hb.size hb, KeepBut.trans h.hk (KeepBut.of_below hb g none) (.inl rfl), blk_below h.ba hb, h.hg, h.h0⟩
theorem HeadInv.set {w0 w W : World} {g ga : Nat} {s : ByteArray} {acc : List Int} (h : HeadInv w0 w W g ga s acc) (hl : acc.length < 7) (v : Int) : HeadInv w0 w (W.setCell ⟨ga, acc.length, none⟩ (.int .u64 v)) g ga s (acc ++ [v]) :=
  ⟨⟨blk_far h.hi.1 (h.hi.ne_blk h.ba (by decide)) _, h.hi.2⟩, h.hb.setCell (Nat.le_trans h.h0 h.hg) _, keep_far h.hk h.hg _, blk_put h.ba _ _ (headC_set hl v), h.hg, h.h0⟩
set_option maxHeartbeats 8000000 in
set_option maxRecDepth 100000 in
theorem head_ok (g : Nat) (s s' : ByteArray) (vs : List Int) (w0 w : World) (hI0 : IsS94 w0 w g s) (hB0 : Below w0.heap.size w0 w) (h : headR widL s = some (some vs, s')) :
    Calls Try.prog 49 #[.pointer (some ⟨g, 0, none⟩)] w fun e w' => e = .returned (.agg (vs.map (fun v => Value.int .u64 v)).toArray) ∧ IsS94 w0 w' g s' ∧ Below w0.heap.size w0 w' ∧ KeepBut w w' g none := by
  have hI := Aside0.mk hI0
  have hB := Aside0.mk hB0
  have HT := Aside0.mk h
  clear hI0 hB0 h
  go_enter Try.func49, Try.ntmps49
  go_wp2_with (first | ((with_reducible refine gate_dst (N := 2) rfl ?_); refine arr_alloc ?hg (N := 2) ?hd 77 ?ho (headC []) ?hz ?_; (case hd => rfl); (case hg => rfl); (case ho => rfl); (case hz => kernel_rfl); intro ga hg_ w1 hb hbel; have HV : HeadInv w0 w w1 g ga s [] := ⟨hI.out.below hbel, below_then hB.out hB.out.size hbel, KeepBut.of_below hbel g none, hb, by rw [hg_]; exact Nat.le_refl _, hB.out.size⟩; clear hg_ hb hbel) | (go_at_call 45; (with_reducible refine (frame_widths.runs _).mono ?_); rintro e w2 ⟨rfl, hb⟩; have n0_ := HV.below hb; clear HV hb; have HV := n0_; clear n0_))
  go_loopg [8] 7 (fun kq v8 w' => ∃ (acc ws vs2 : List Int) (s1 : ByteArray), v8 = .int .i64 (acc.length : Int) ∧ Aside0 (vs = acc ++ vs2) ∧ Aside0 (kq + acc.length = 7) ∧ Aside0 (widL.drop acc.length = ws) ∧ Aside0 (headR ws s1 = some (some vs2, s')) ∧ HeadInv w0 w w' g ga s1 acc)
  case atStart => exact ⟨[], widL, vs, s, rfl, ⟨rfl⟩, ⟨rfl⟩, ⟨rfl⟩, HT, HV⟩
  case round =>
    clear HV HT
    obtain ⟨acc, ws, vs2, s1, rfl, HS, HK, HW, HR, HV⟩ := hrel
    cases ws with
    | cons wd ws =>
      cases gk with
      | zero => have := HK.out; have := (wid_at _ _ _ HW.out).2.1; omega
      | succ k1 =>
      obtain ⟨hwv, hn, hwt⟩ := wid_at acc.length wd ws HW.out
      have hx1 : ∀ W, (Instr.index 78 (.agg widV) (.int .i64 (acc.length : Int))).run Try.prog W = .ok (.int .i64 wd) W := fun W => run_index_i64 78 Try.underlying78 Try.underlying3 (by kernel_rfl) _ (acc.length : Int) (by omega) (by omega) (by first | (simp; done) | (simp at hwv; done) | simpa using hwv)
      have hx2 : ∀ W, (Instr.indexAt 77 (.pointer (some ⟨ga, 0, none⟩)) (.int .i64 (acc.length : Int))).run Try.prog W = .ok (.pointer (some ⟨ga, acc.length, none⟩)) W := fun W => by have := run_indexAt_arr (P := Try.prog) (W := W) 77 Try.underlying77 (by kernel_rfl) ga .i64 (acc.length : Int) (by omega) (by omega); simpa using this
      have c1b : decide ((acc.length : Int) < 7) = true := decide_eq_true (by omega)
      have hw64 : wrap64 ((acc.length : Int) + 1) = ((acc.length + 1 : Nat) : Int) := by unfold wrap64; omega
      clear hwv
      have h := HR.out
      clear HR
      unfold headR at h
      obtain ⟨⟨v1, e1, s2⟩, h1, h⟩ := Option.bind_eq_some_iff.mp h
      simp only [] at h
      by_cases c1 : e1 = 0
      · rw [if_pos c1] at h
        subst c1
        obtain ⟨⟨r1, s3⟩, h2, h⟩ := Option.bind_eq_some_iff.mp h
        simp only [Option.some.injEq, Prod.mk.injEq] at h
        obtain ⟨h3, rfl⟩ := h
        cases r1 with
        | none => simp at h3
        | some vs3 =>
          simp only [Option.map_some, Option.some.injEq] at h3
          subst h3
          replace h1 := Aside0.mk h1
          have H2 := Aside0.mk h2
          clear h2
          go_wp2_with (first | (go_at_call 43; (with_reducible refine (octet_Reader_Number.calls 12 g s1 wd v1 _ s2 w0 _ ?side1 ?side2 h1.out).mono ?_); (case side1 => exact HV.hi); (case side2 => exact HV.hb); rintro e w3 ⟨rfl, hi, hb, hk⟩; have n0_ := HV.step hi hb hk; clear HV hi hb hk; have HV := n0_; clear n0_; have hcl : w3.cell? ⟨ga, acc.length, none⟩ = some (.int .u64 0) := (blk_cell HV.ba acc.length).trans (headC_get hn); have hfz := blk_frozen HV.ba acc.length))
          go_roundg k1
          case measure => omega
          case rel => exact ⟨acc ++ [v1], ws, vs3, s2, by congr 1; simp, ⟨by rw [HS.out, List.append_assoc]; rfl⟩, ⟨by rw [List.length_append]; have := HK.out; simp only [List.length_cons, List.length_nil]; omega⟩, ⟨by rw [List.length_append]; exact hwt⟩, H2, HV.set hn v1⟩
      · rw [if_neg c1] at h
        simp at h
    | nil =>
      have hn7 := wid_end acc.length (by have := HK.out; omega) HW.out
      have h := HR.out
      simp only [headR, Option.some.injEq, Prod.mk.injEq] at h
      obtain ⟨rfl, rfl⟩ := h
      have hvs : vs = acc := by rw [HS.out, List.append_nil]
      subst hvs
      have c1b : decide ((vs.length : Int) < 7) = false := decide_eq_false (by omega)
      go_wp2_with (first | ((with_reducible refine gate_dst (N := 26) rfl ?_); refine arr_load ?hg (N := 26) ?hd 77 (.tmp 2) ?ho Try.underlying77 (cs := headC vs) (by rw [headC_size (Nat.le_of_eq hn7)]; kernel_rfl) ?hx HV.ba ?_; (case hd => rfl); (case hg => rfl); (case ho => rfl); (case hx => rfl)) | (refine arr_store_same ?hg ?hd 77 (.tmp 2) (.tmp 26) ?ho (cs := headC vs) (by rw [headC_size (Nat.le_of_eq hn7)]; kernel_rfl) ?hx ?hy HV.ba (headC_one _) ?_; (case hd => rfl); (case hg => rfl); (case ho => rfl); (case hx => rfl); (case hy => rfl)))
      rw [← headC_full hn7]
      exact bodyPost_ret (v := .agg (headC vs)) (results_arr 77 rfl Try.underlying77 (cs := headC vs) (by rw [headC_size (Nat.le_of_eq hn7)]; kernel_rfl) rfl HV.ba) rfl ⟨rfl, HV.hi, HV.hb, HV.hk⟩
set_option maxHeartbeats 8000000 in
set_option maxRecDepth 100000 in
theorem head_bad (g : Nat) (s s' : ByteArray) (w0 w : World) (hI0 : IsS94 w0 w g s) (hB0 : Below w0.heap.size w0 w) (h : headR widL s = some (none, s')) :
    Calls Try.prog 49 #[.pointer (some ⟨g, 0, none⟩)] w fun e w' => e = .panicked faultP ∧ IsS94 w0 w' g s' ∧ Below w0.heap.size w0 w' ∧ KeepBut w w' g none := by
  have hI := Aside0.mk hI0
  have hB := Aside0.mk hB0
  have HT := Aside0.mk h
  clear hI0 hB0 h
  go_enter Try.func49, Try.ntmps49
  go_wp2_with (first | ((with_reducible refine gate_dst (N := 2) rfl ?_); refine arr_alloc ?hg (N := 2) ?hd 77 ?ho (headC []) ?hz ?_; (case hd => rfl); (case hg => rfl); (case ho => rfl); (case hz => kernel_rfl); intro ga hg_ w1 hb hbel; have HV : HeadInv w0 w w1 g ga s [] := ⟨hI.out.below hbel, below_then hB.out hB.out.size hbel, KeepBut.of_below hbel g none, hb, by rw [hg_]; exact Nat.le_refl _, hB.out.size⟩; clear hg_ hb hbel) | (go_at_call 45; (with_reducible refine (frame_widths.runs _).mono ?_); rintro e w2 ⟨rfl, hb⟩; have n0_ := HV.below hb; clear HV hb; have HV := n0_; clear n0_))
  go_loopg [8] 7 (fun kq v8 w' => ∃ (acc ws : List Int) (s1 : ByteArray), v8 = .int .i64 (acc.length : Int) ∧ Aside0 (kq + acc.length = 7) ∧ Aside0 (widL.drop acc.length = ws) ∧ Aside0 (headR ws s1 = some (none, s')) ∧ HeadInv w0 w w' g ga s1 acc)
  case atStart => exact ⟨[], widL, s, rfl, ⟨rfl⟩, ⟨rfl⟩, HT, HV⟩
  case round =>
    clear HV HT
    obtain ⟨acc, ws, s1, rfl, HK, HW, HR, HV⟩ := hrel
    cases ws with
    | cons wd ws =>
      cases gk with
      | zero => have := HK.out; have := (wid_at _ _ _ HW.out).2.1; omega
      | succ k1 =>
      obtain ⟨hwv, hn, hwt⟩ := wid_at acc.length wd ws HW.out
      have hx1 : ∀ W, (Instr.index 78 (.agg widV) (.int .i64 (acc.length : Int))).run Try.prog W = .ok (.int .i64 wd) W := fun W => run_index_i64 78 Try.underlying78 Try.underlying3 (by kernel_rfl) _ (acc.length : Int) (by omega) (by omega) (by first | (simp; done) | (simp at hwv; done) | simpa using hwv)
      have hx2 : ∀ W, (Instr.indexAt 77 (.pointer (some ⟨ga, 0, none⟩)) (.int .i64 (acc.length : Int))).run Try.prog W = .ok (.pointer (some ⟨ga, acc.length, none⟩)) W := fun W => by have := run_indexAt_arr (P := Try.prog) (W := W) 77 Try.underlying77 (by kernel_rfl) ga .i64 (acc.length : Int) (by omega) (by omega); simpa using this
      have c1b : decide ((acc.length : Int) < 7) = true := decide_eq_true (by omega)
      have hw64 : wrap64 ((acc.length : Int) + 1) = ((acc.length + 1 : Nat) : Int) := by unfold wrap64; omega
      clear hwv
      have h := HR.out
      clear HR
      unfold headR at h
      obtain ⟨⟨v1, e1, s2⟩, h1, h⟩ := Option.bind_eq_some_iff.mp h
      simp only [] at h
      by_cases c1 : e1 = 0
      · rw [if_pos c1] at h
        subst c1
        obtain ⟨⟨r1, s3⟩, h2, h⟩ := Option.bind_eq_some_iff.mp h
        simp only [Option.some.injEq, Prod.mk.injEq] at h
        obtain ⟨h3, rfl⟩ := h
        cases r1 with
        | some vs3 => simp at h3
        | none =>
          clear h3
          replace h1 := Aside0.mk h1
          have H2 := Aside0.mk h2
          clear h2
          go_wp2_with (first | (go_at_call 43; (with_reducible refine (octet_Reader_Number.calls 12 g s1 wd v1 _ s2 w0 _ ?side1 ?side2 h1.out).mono ?_); (case side1 => exact HV.hi); (case side2 => exact HV.hb); rintro e w3 ⟨rfl, hi, hb, hk⟩; have n0_ := HV.step hi hb hk; clear HV hi hb hk; have HV := n0_; clear n0_; have hcl : w3.cell? ⟨ga, acc.length, none⟩ = some (.int .u64 0) := (blk_cell HV.ba acc.length).trans (headC_get hn); have hfz := blk_frozen HV.ba acc.length))
          go_roundg k1
          case measure => omega
          case rel => exact ⟨acc ++ [v1], ws, s2, by congr 1; simp, ⟨by rw [List.length_append]; have := HK.out; simp only [List.length_cons, List.length_nil]; omega⟩, ⟨by rw [List.length_append]; exact hwt⟩, H2, HV.set hn v1⟩
      · rw [if_neg c1] at h
        simp only [Option.some.injEq, Prod.mk.injEq, true_and] at h
        subst h
        replace h1 := Aside0.mk h1
        have c1n : (e1 != 0) = true := bne_iff_ne.mpr c1
        have c1e : (e1 == 0) = false := beq_eq_false_iff_ne.mpr c1
        clear c1
        go_wp2_with (first | (go_at_call 43; (with_reducible refine (octet_Reader_Number.calls 12 g s1 wd v1 _ s2 w0 _ ?side1 ?side2 h1.out).mono ?_); (case side1 => exact HV.hi); (case side2 => exact HV.hb); rintro e w3 ⟨rfl, hi, hb, hk⟩; have n0_ := HV.step hi hb hk; clear HV hi hb hk; have HV := n0_; clear n0_; have hcl : w3.cell? ⟨ga, acc.length, none⟩ = some (.int .u64 0) := (blk_cell HV.ba acc.length).trans (headC_get hn); have hfz := blk_frozen HV.ba acc.length))
        exact ⟨rfl, rfl, HV.hi, HV.hb, HV.hk⟩
    | nil =>
      have h := HR.out
      simp [headR] at h
abbrev put6 (W : World) (gp : Nat) (u0 u1 u2 u3 u4 u5 : Value) : World := (World.setCell (World.setCell (World.setCell (World.setCell (World.setCell (World.setCell W ⟨gp, 0, none⟩ u0) ⟨gp, 1, none⟩ u1) ⟨gp, 2, none⟩ u2) ⟨gp, 3, none⟩ u3) ⟨gp, 4, none⟩ u4) ⟨gp, 5, none⟩ u5)
theorem put6_new {W : World} {gp : Nat} {v0 v1 v2 v3 v4 v5 : Value} (h : W.heap[gp]? = some (.cells #[v0, v1, v2, v3, v4, v5] 27 (0, 0))) (u0 u1 u2 u3 u4 u5 : Value) : (put6 W gp u0 u1 u2 u3 u4 u5).heap[gp]? = some (.cells #[u0, u1, u2, u3, u4, u5] 27 (0, 0)) :=
  blk_put (blk_put (blk_put (blk_put (blk_put (blk_put h 0 u0 rfl) 1 u1 rfl) 2 u2 rfl) 3 u3 rfl) 4 u4 rfl) 5 u5 rfl
theorem put6_far {W : World} {gp g t : Nat} {cs : Array Value} (h : W.heap[g]? = some (.cells cs t (0, 0))) (hne : g ≠ gp) (u0 u1 u2 u3 u4 u5 : Value) : (put6 W gp u0 u1 u2 u3 u4 u5).heap[g]? = some (.cells cs t (0, 0)) :=
  blk_far (blk_far (blk_far (blk_far (blk_far (blk_far h hne u0) hne u1) hne u2) hne u3) hne u4) hne u5
theorem put6_below {w W : World} {B gp : Nat} (h : Below B w W) (hg : B ≤ gp) (u0 u1 u2 u3 u4 u5 : Value) : Below B w (put6 W gp u0 u1 u2 u3 u4 u5) :=
  (((((h.setCell hg u0).setCell hg u1).setCell hg u2).setCell hg u3).setCell hg u4).setCell hg u5
set_option maxHeartbeats 8000000 in
theorem Get_idle (gp ge : Nat) (w : World) :
    CallsD Try.prog 47 #[.pointer (some ⟨gp, 0, none⟩), .pointer (some ⟨ge, 0, none⟩)] .returning w fun e u' w' => e = .returned (.tuple #[]) ∧ u' = .returning ∧ w' = w := by
  refine callsD_of_wpS Try.func47 rfl fun c₀ cs hu => ?_
  apply wpS_seq
  apply wpS_region
  simp [wpOpsS, go_sem, recoverD, hu, Try.ntmps47, Exit.thenS]
  refine wpS_of_wp ?_
  go_wp2
  cases c₀
  simp_all [bodyPostS, results, Try.results47]
theorem Get_ta (w : World) : (Instr.typeAssert (.iface 82 (.agg #[])) 20 82 true).run Try.prog w = .ok (.tuple #[.agg #[], .bool true]) w := by kernel_rfl
set_option maxRecDepth 100000 in
set_option maxHeartbeats 8000000 in
theorem Get_catch (gp ge : Nat) (older : List PanicEntry) (v0 v1 v2 v3 v4 v5 : Value) (w : World) (hl : w.heap[gp]? = some (.cells #[v0, v1, v2, v3, v4, v5] 27 (0, 0))) (he : w.heap[ge]? = some (.cells #[.int .i64 0] 29 (0, 0))) :
    CallsD Try.prog 47 #[.pointer (some ⟨gp, 0, none⟩), .pointer (some ⟨ge, 0, none⟩)] (.panicking ({ v := .iface 82 (.agg #[]), recovered := false } :: older)) w fun e u' w' => e = .returned (.tuple #[]) ∧ u' = .panicking ({ v := .iface 82 (.agg #[]), recovered := true } :: older) ∧ w'.heap[gp]? = some (.cells #[.int .i64 0, .int .i64 0, .int .u32 0, .int .u32 0, .int .u64 0, .string (⟨#[]⟩ : ByteArray)] 27 (0, 0)) ∧ w'.heap[ge]? = some (.cells #[.int .i64 4] 29 (0, 0)) ∧ ∀ B, B ≤ gp → B ≤ ge → B ≤ w.heap.size → Below B w w' := by
  refine callsD_of_wpS Try.func47 rfl fun c₀ cs hu => ?_
  apply wpS_seq
  apply wpS_region
  simp [wpOpsS, go_sem, recoverD, hu, Try.ntmps47, Exit.thenS]
  refine wpS_of_wp ?_
  have hta := fun w => Get_ta w
  have hne : ge ≠ gp := blk_ne he hl (by decide)
  have hne2 : gp ≠ ge := hne.symm
  have HL := Aside0.mk hl
  have HE := Aside0.mk he
  clear hl he
  go_wp2_with (first | ((with_reducible refine gate_dst (N := 3) rfl ?_); refine box_event ?hg (N := 3) ?hd (cs := #[]) (t := 82) ?hr ?_; (case hd => rfl); (case hg => rfl); (case hr => first | (go_simp; done) | (go_simp; rfl)); intro gs hg_ w1 hb hbel; have hl1 := Aside0.mk (blk_below HL.out hbel); have he1 := Aside0.mk (blk_below HE.out hbel); have B1 := Aside0.mk hbel; clear hg_ hb hbel; have hx0 : w1.cell? ⟨gp, 0, none⟩ = some (v0) := (blk_cell hl1.out 0).trans rfl; have hx1 : w1.cell? ⟨gp, 1, none⟩ = some (v1) := (blk_cell hl1.out 1).trans rfl; have hx2 : w1.cell? ⟨gp, 2, none⟩ = some (v2) := (blk_cell hl1.out 2).trans rfl; have hx3 : w1.cell? ⟨gp, 3, none⟩ = some (v3) := (blk_cell hl1.out 3).trans rfl; have hx4 : w1.cell? ⟨gp, 4, none⟩ = some (v4) := (blk_cell hl1.out 4).trans rfl; have hx5 : w1.cell? ⟨gp, 5, none⟩ = some (v5) := (blk_cell hl1.out 5).trans rfl; have hy0 := blk_frozen hl1.out 0; have hy1 := blk_frozen hl1.out 1; have hy2 := blk_frozen hl1.out 2; have hy3 := blk_frozen hl1.out 3; have hy4 := blk_frozen hl1.out 4; have hy5 := blk_frozen hl1.out 5; have hz0 : w1.cell? ⟨ge, 0, none⟩ = some (.int .i64 0) := (blk_cell he1.out 0).trans rfl; have hzf := blk_frozen he1.out 0))
  cases c₀
  simp only [bodyPostS]
  refine ⟨trivial, _, rfl, .tuple #[], ?_, rfl, rfl, ?_, ?_, ?_⟩
  · simp [results, Try.results47]
  · exact blk_far (put6_new hl1.out _ _ _ _ _ _) hne2 _
  · exact blk_set (put6_far he1.out hne _ _ _ _ _ _) 0 _
  · intro B h1 h2 h3
    exact (put6_below (below_then (Below.refl _ _) h3 B1.out) h1 _ _ _ _ _ _).setCell h2 _
/-- The end of reading a page. -/
def frame_Get.fin (a0 a1 : Int) (a2 s : ByteArray) (x0 x1 x2 x3 x4 x5 x6 : Int) : Option (Int × Int × Int × Int × Int × ByteArray × Int) := (frame_may.f a0 (wrap64 x1) (wrap64 x3) (x4 % 4294967296) (x5 % 4294967296) x6 s).bind fun m => if m = true then (if x2 = 1 then (if x4 % 4294967296 = a1 then (if 4 ≤ a2.size then (crc_Of.f (a2.extract 4 a2.size)).bind fun c => (if x0 = IntKind.u64.wrap c then some (wrap64 x1, wrap64 x3, x4 % 4294967296, x5 % 4294967296, x6, s, 0) else some (0, 0, 0, 0, 0, (⟨#[]⟩ : ByteArray), 4)) else none) else some (0, 0, 0, 0, 0, (⟨#[]⟩ : ByteArray), 4)) else some (0, 0, 0, 0, 0, (⟨#[]⟩ : ByteArray), 4)) else some (0, 0, 0, 0, 0, (⟨#[]⟩ : ByteArray), 4)
def frame_Get.f (a0 a1 : Int) (a2 : ByteArray) : Option (Int × Int × Int × Int × Int × ByteArray × Int) := (device_Good.f a0).bind fun gd => if gd = true then (if (a2.size : Int) = a0 then (headR widL a2).bind fun r => (match r.1 with
  | some [x0, x1, x2, x3, x4, x5, x6] => frame_Get.fin a0 a1 a2 r.2 x0 x1 x2 x3 x4 x5 x6
  | some _ => none
  | none => some (0, 0, 0, 0, 0, (⟨#[]⟩ : ByteArray), 4)) else some (0, 0, 0, 0, 0, (⟨#[]⟩ : ByteArray), 4)) else some (0, 0, 0, 0, 0, (⟨#[]⟩ : ByteArray), 2)
/-- What holds while a page is read. -/
structure GetInv (w W : World) (gp ge : Nat) (cs : Array Value) : Prop where
  hb : Below w.heap.size w W
  bp : W.heap[gp]? = some (.cells cs 27 (0, 0))
  be : W.heap[ge]? = some (.cells #[.int .i64 0] 29 (0, 0))
  hp : w.heap.size ≤ gp
  he : w.heap.size ≤ ge
theorem GetInv.below {w W W' : World} {gp ge : Nat} {cs : Array Value} (h : GetInv w W gp ge cs) (hb : Below W.heap.size W W') : GetInv w W' gp ge cs := ⟨below_step h.hb hb, blk_below h.bp hb, blk_below h.be hb, h.hp, h.he⟩
theorem GetInv.read {w W W' : World} {gp ge g : Nat} {cs : Array Value} {s : ByteArray} (h : GetInv w W gp ge cs) (hI : IsS94 w W g s) (hb : Below w.heap.size w W') (hk : KeepBut W W' g none) : GetInv w W' gp ge cs :=
  ⟨hb, KeepBut.blk hk h.bp (hI.ne_blk h.bp (by decide)).symm (by simp), KeepBut.blk hk h.be (hI.ne_blk h.be (by decide)).symm (by simp), h.hp, h.he⟩
theorem GetInv.ne {w W : World} {gp ge : Nat} {cs : Array Value} (h : GetInv w W gp ge cs) : gp ≠ ge := blk_ne h.bp h.be (by decide)
theorem GetInv.put {w W : World} {gp ge : Nat} {v0 v1 v2 v3 v4 v5 : Value} (h : GetInv w W gp ge #[v0, v1, v2, v3, v4, v5]) (u0 u1 u2 u3 u4 u5 : Value) : GetInv w (put6 W gp u0 u1 u2 u3 u4 u5) gp ge #[u0, u1, u2, u3, u4, u5] := ⟨put6_below h.hb h.hp _ _ _ _ _ _, put6_new h.bp _ _ _ _ _ _, put6_far h.be h.ne.symm _ _ _ _ _ _, h.hp, h.he⟩
theorem x7_one {x0 x1 x2 x3 x4 x5 x6 : Int} : ∀ v ∈ (#[.int .u64 x0, .int .u64 x1, .int .u64 x2, .int .u64 x3, .int .u64 x4, .int .u64 x5, .int .u64 x6] : Array Value), v.oneCell' = true := by
  intro v hv
  simp only [List.mem_toArray, List.mem_cons, List.not_mem_nil, or_false] at hv
  rcases hv with rfl | rfl | rfl | rfl | rfl | rfl | rfl <;> rfl
def frame_Get.B8 : List Nat := [0, 1, 3, 0, 8, 24, 0, 64, 192, 0, 512, 1536, 0, 4096, 0, 16384, 65535, 131071]
def frame_Get.T8 : Bool × List (List Nat × List Nat) := (true, [([], []), ([0], [0]), ([1], [1]), ([], []), ([3], [3]), ([4], [4]), ([], []), ([6], [6]), ([7], [7]), ([], []), ([9], [9]), ([10], [10]), ([], []), ([12], [12]), ([], []), ([14], [14]), ([2, 5, 8, 11, 13, 15], [2, 5, 8, 11, 13, 15]), ([16, 15, 0, 1, 2, 3, 4, 5, 6, 7, 8, 9, 10, 11, 12, 13, 14, 15, 16], [16])])
theorem frame_Get.tab8 : rtab .any (opsOf Try.f19 8) = frame_Get.T8 := by kernel_rfl
theorem frame_Get.bits8 : waitsOk frame_Get.T8.2 frame_Get.B8 = true := by kernel_rfl
def frame_Get.B9 : List Nat := [0, 0, 3, 7, 15, 31, 63, 127, 255, 511, 1023, 2047, 1023, 8191, 16383, 32767, 65535, 131071, 65535, 327679, 851967, 1900543, 4194303, 8388607]
def frame_Get.T9 : Bool × List (List Nat × List Nat) := (true, [([], []), ([], []), ([0, 1], [0, 1]), ([2], [2]), ([3, 2], [3]), ([4], [4]), ([5, 4], [4, 5]), ([6, 4], [4, 6]), ([4, 7], [4, 7]), ([8, 4], [8]), ([9], [9]), ([10, 9], [9, 10]), ([9], [9]), ([11, 12, 9], [9, 11, 12]), ([9, 13], [9, 13]), ([14, 9], [14]), ([15], [15]), ([16, 15], [15, 16]), ([15], [15]), ([18, 15], [15, 18]), ([19, 15, 15], [15, 19]), ([20, 15], [15, 20]), ([17, 21, 15], [15, 17, 21]), ([15, 22], [15, 22])])
theorem frame_Get.tab9 : rtab .any (opsOf Try.f19 9) = frame_Get.T9 := by kernel_rfl
theorem frame_Get.bits9 : waitsOk frame_Get.T9.2 frame_Get.B9 = true := by kernel_rfl
theorem GetInv.drew {w W : World} {gp ge : Nat} {cs : Array Value} (h : GetInv w W gp ge cs) : GetInv w W.drew gp ge cs := ⟨below_drew1 h.hb, h.bp, h.be, h.hp, h.he⟩
set_option maxHeartbeats 8000000 in
set_option maxRecDepth 100000 in
theorem frame_Get.calls (a0 a1 : Int) (a2 : ByteArray) (r1 r2 r3 r4 r5 : Int) (r6 : ByteArray) (r7 : Int) (w : World) (h : frame_Get.f a0 a1 a2 = some (r1, r2, r3, r4, r5, r6, r7)) :
    Calls Try.prog 19 #[.int .i64 a0, .int .u32 a1, .string a2] w fun e w' => e = .returned (.tuple #[.agg #[.int .i64 r1, .int .i64 r2, .int .u32 r3, .int .u32 r4, .int .u64 r5, .string r6], .int .i64 r7]) ∧ Below w.heap.size w w' := by
  unfold frame_Get.f at h
  obtain ⟨gd, h1, h⟩ := Option.bind_eq_some_iff.mp h
  have A1 := Aside0.mk h1
  clear h1
  have hmf : ∀ (fn : Fn) (first cap : Array Value) (w : World), (Instr.makeFunc fn first cap).run Try.prog w = .ok (.func fn first cap) w := fun _ _ _ _ => rfl
  cases gd with
  | false =>
    rw [if_neg (by decide)] at h
    simp only [Option.some.injEq, Prod.mk.injEq] at h
    obtain ⟨rfl, rfl, rfl, rfl, rfl, rfl, rfl⟩ := h
    go_enter_defers Try.func19, Try.ntmps19
    go_wp2_with (first | ((with_reducible refine gate_dst (N := 6) rfl ?_); refine box_event ?hg (N := 6) ?hd (cs := #[.int .i64 0, .int .i64 0, .int .u32 0, .int .u32 0, .int .u64 0, .string (⟨#[]⟩ : ByteArray)]) (t := 27) ?hr ?_; (case hd => rfl); (case hg => rfl); (case hr => first | (go_simp; done) | (go_simp; rfl)); intro gp hg_ w1 hb hbel; have BP := Aside0.mk hb; have HB := Aside0.mk hbel; have GP := Aside0.mk (by rw [hg_]; exact Nat.le_refl _ : w.heap.size ≤ gp); clear hg_ hb hbel) | ((with_reducible refine gate_dst (N := 7) rfl ?_); refine box_event ?hg (N := 7) ?hd (cs := #[.int .i64 0]) (t := 29) ?hr ?_; (case hd => rfl); (case hg => rfl); (case hr => first | (go_simp; done) | (go_simp; rfl)); intro ge hg_ w2 hb hbel; have HV : GetInv w w2 gp ge #[.int .i64 0, .int .i64 0, .int .u32 0, .int .u32 0, .int .u64 0, .string (⟨#[]⟩ : ByteArray)] := ⟨below_step HB.out hbel, blk_below BP.out hbel, hb, GP.out, by rw [hg_]; exact HB.out.size⟩; clear hg_ hb hbel BP HB GP) | (go_at_call 48; (with_reducible refine (device_Good.calls a0 false _ A1.out).mono ?_); rintro e w3 ⟨rfl, ⟨nd, rfl⟩⟩; have n0_ := HV.below (pw_below_drewN (Below.refl _ _) nd); clear HV; have HV := n0_; clear n0_; have nx := HV.ne; have nx2 := nx.symm; have hx0 : (w2.drewN nd).cell? ⟨gp, 0, none⟩ = some (.int .i64 0) := (blk_cell HV.bp 0).trans rfl; have hx1 : (w2.drewN nd).cell? ⟨gp, 1, none⟩ = some (.int .i64 0) := (blk_cell HV.bp 1).trans rfl; have hx2 : (w2.drewN nd).cell? ⟨gp, 2, none⟩ = some (.int .u32 0) := (blk_cell HV.bp 2).trans rfl; have hx3 : (w2.drewN nd).cell? ⟨gp, 3, none⟩ = some (.int .u32 0) := (blk_cell HV.bp 3).trans rfl; have hx4 : (w2.drewN nd).cell? ⟨gp, 4, none⟩ = some (.int .u64 0) := (blk_cell HV.bp 4).trans rfl; have hx5 : (w2.drewN nd).cell? ⟨gp, 5, none⟩ = some (.string (⟨#[]⟩ : ByteArray)) := (blk_cell HV.bp 5).trans rfl; have hy0 := blk_frozen HV.bp 0; have hy1 := blk_frozen HV.bp 1; have hy2 := blk_frozen HV.bp 2; have hy3 := blk_frozen HV.bp 3; have hy4 := blk_frozen HV.bp 4; have hy5 := blk_frozen HV.bp 5; have hz0 : (w2.drewN nd).cell? ⟨ge, 0, none⟩ = some (.int .i64 0) := (blk_cell HV.be 0).trans rfl; have hzf := blk_frozen HV.be 0))
    simp only [bodyPostD]
    refine leaves_cons (f := 47) (args := #[.pointer (some ⟨gp, 0, none⟩), .pointer (some ⟨ge, 0, none⟩)]) (by simp) (by simp [go_sem]) ?_
    refine (Get_idle gp ge _).mono ?_
    rintro e u' w8 ⟨rfl, rfl, rfl⟩
    show Leaves _ _ _ _ [] .returning _
    have h3 := HV.put (.int .i64 0) (.int .i64 0) (.int .u32 0) (.int .u32 0) (.int .u64 0) (.string (⟨#[]⟩ : ByteArray))
    have h4 := blk_far h3.bp h3.ne (p := ⟨ge, 0, none⟩) (.int .i64 2)
    have h5 := blk_set h3.be 0 (.int .i64 2)
    have q0 := (blk_cell h4 0).trans (show #[(.int .i64 0 : Value), (.int .i64 0 : Value), (.int .u32 0 : Value), (.int .u32 0 : Value), (.int .u64 0 : Value), (.string (⟨#[]⟩ : ByteArray) : Value)][0]? = some (.int .i64 0) from rfl)
    have q1 := (blk_cell h4 1).trans (show #[(.int .i64 0 : Value), (.int .i64 0 : Value), (.int .u32 0 : Value), (.int .u32 0 : Value), (.int .u64 0 : Value), (.string (⟨#[]⟩ : ByteArray) : Value)][1]? = some (.int .i64 0) from rfl)
    have q2 := (blk_cell h4 2).trans (show #[(.int .i64 0 : Value), (.int .i64 0 : Value), (.int .u32 0 : Value), (.int .u32 0 : Value), (.int .u64 0 : Value), (.string (⟨#[]⟩ : ByteArray) : Value)][2]? = some (.int .u32 0) from rfl)
    have q3 := (blk_cell h4 3).trans (show #[(.int .i64 0 : Value), (.int .i64 0 : Value), (.int .u32 0 : Value), (.int .u32 0 : Value), (.int .u64 0 : Value), (.string (⟨#[]⟩ : ByteArray) : Value)][3]? = some (.int .u32 0) from rfl)
    have q4 := (blk_cell h4 4).trans (show #[(.int .i64 0 : Value), (.int .i64 0 : Value), (.int .u32 0 : Value), (.int .u32 0 : Value), (.int .u64 0 : Value), (.string (⟨#[]⟩ : ByteArray) : Value)][4]? = some (.int .u64 0) from rfl)
    have q5 := (blk_cell h4 5).trans (show #[(.int .i64 0 : Value), (.int .i64 0 : Value), (.int .u32 0 : Value), (.int .u32 0 : Value), (.int .u64 0 : Value), (.string (⟨#[]⟩ : ByteArray) : Value)][5]? = some (.string (⟨#[]⟩ : ByteArray)) from rfl)
    have q6 := (blk_cell h5 0).trans (show #[(.int .i64 2 : Value)][0]? = some (.int .i64 2) from rfl)
    exact ⟨.tuple #[.agg #[.int .i64 0, .int .i64 0, .int .u32 0, .int .u32 0, .int .u64 0, .string (⟨#[]⟩ : ByteArray)], .int .i64 2], by simp [results, Try.results19, go_sem, Try.underlying27, q0, q1, q2, q3, q4, q5, q6], rfl, h3.hb.setCell h3.he _⟩
  | true =>
    rw [if_pos rfl] at h
    by_cases hsz : (a2.size : Int) = a0
    · rw [if_pos hsz] at h
      have hs1 : ((a2.size : Int) != a0) = false := bne_eq_false_iff_eq.mpr hsz
      have hs2 : ((a2.size : Int) == a0) = true := beq_iff_eq.mpr hsz
      clear hsz
      obtain ⟨⟨r, s1⟩, hr, h⟩ := Option.bind_eq_some_iff.mp h
      simp only [] at h
      have HR := Aside0.mk hr
      clear hr
      split at h
      · rename_i x0 x1 x2 x3 x4 x5 x6
        have HF := Aside0.mk h
        clear h
        go_enter_defers Try.func19, Try.ntmps19
        go_wp2_with (first | ((with_reducible refine gate_dst (N := 6) rfl ?_); refine box_event ?hg (N := 6) ?hd (cs := #[.int .i64 0, .int .i64 0, .int .u32 0, .int .u32 0, .int .u64 0, .string (⟨#[]⟩ : ByteArray)]) (t := 27) ?hr ?_; (case hd => rfl); (case hg => rfl); (case hr => first | (go_simp; done) | (go_simp; rfl)); intro gp hg_ w1 hb hbel; have BP := Aside0.mk hb; have HB := Aside0.mk hbel; have GP := Aside0.mk (by rw [hg_]; exact Nat.le_refl _ : w.heap.size ≤ gp); clear hg_ hb hbel) | ((with_reducible refine gate_dst (N := 7) rfl ?_); refine box_event ?hg (N := 7) ?hd (cs := #[.int .i64 0]) (t := 29) ?hr ?_; (case hd => rfl); (case hg => rfl); (case hr => first | (go_simp; done) | (go_simp; rfl)); intro ge hg_ w2 hb hbel; have HV : GetInv w w2 gp ge #[.int .i64 0, .int .i64 0, .int .u32 0, .int .u32 0, .int .u64 0, .string (⟨#[]⟩ : ByteArray)] := ⟨below_step HB.out hbel, blk_below BP.out hbel, hb, GP.out, by rw [hg_]; exact HB.out.size⟩; clear hg_ hb hbel BP HB GP) | (go_at_call 48; (with_reducible refine (device_Good.calls a0 true _ A1.out).mono ?_); rintro e w3 ⟨rfl, ⟨nd, rfl⟩⟩; have n0_ := HV.below (pw_below_drewN (Below.refl _ _) nd); clear HV; have HV := n0_; clear n0_; have nx := HV.ne; have nx2 := nx.symm; have hx0 : (w2.drewN nd).cell? ⟨gp, 0, none⟩ = some (.int .i64 0) := (blk_cell HV.bp 0).trans rfl; have hx1 : (w2.drewN nd).cell? ⟨gp, 1, none⟩ = some (.int .i64 0) := (blk_cell HV.bp 1).trans rfl; have hx2 : (w2.drewN nd).cell? ⟨gp, 2, none⟩ = some (.int .u32 0) := (blk_cell HV.bp 2).trans rfl; have hx3 : (w2.drewN nd).cell? ⟨gp, 3, none⟩ = some (.int .u32 0) := (blk_cell HV.bp 3).trans rfl; have hx4 : (w2.drewN nd).cell? ⟨gp, 4, none⟩ = some (.int .u64 0) := (blk_cell HV.bp 4).trans rfl; have hx5 : (w2.drewN nd).cell? ⟨gp, 5, none⟩ = some (.string (⟨#[]⟩ : ByteArray)) := (blk_cell HV.bp 5).trans rfl; have hy0 := blk_frozen HV.bp 0; have hy1 := blk_frozen HV.bp 1; have hy2 := blk_frozen HV.bp 2; have hy3 := blk_frozen HV.bp 3; have hy4 := blk_frozen HV.bp 4; have hy5 := blk_frozen HV.bp 5; have hz0 : (w2.drewN nd).cell? ⟨ge, 0, none⟩ = some (.int .i64 0) := (blk_cell HV.be 0).trans rfl; have hzf := blk_frozen HV.be 0) | (go_at_call 42; (with_reducible refine (octet_New.calls a2 a2 w _ ?side1 rfl).mono ?_); (case side1 => exact HV.hb); rintro e w4 ⟨g, rfl, hi, hb, hbel⟩; have n0_ := HV.below hbel; have HI := Aside0.mk hi; clear nx nx2 hx0 hy0 hx1 hy1 hx2 hy2 hx3 hy3 hx4 hy4 hx5 hy5 hz0 hzf; clear HV hi hb hbel; have HV := n0_; clear n0_) | (go_at_call 49; (with_reducible refine (head_ok g a2 s1 [x0, x1, x2, x3, x4, x5, x6] w _ ?side1 ?side2 HR.out).mono ?_); (case side1 => exact HI.out); (case side2 => exact HV.hb); rintro e w5 ⟨rfl, hi, hb, hk⟩; have n0_ := HV.read HI.out hb hk; clear HV HI hb hk; have HV := n0_; have HI := Aside0.mk hi; clear n0_ hi; try simp only [List.map_cons, List.map_nil]) | ((with_reducible refine gate_dst (N := 9) rfl ?_); refine arr_alloc ?hg (N := 9) ?hd 77 ?ho (headC []) ?hz ?_; (case hd => rfl); (case hg => rfl); (case ho => rfl); (case hz => kernel_rfl); intro gh hg_ w6 hb hbel; have HA := Aside0.mk hb; have GA := Aside0.mk (by rw [hg_]; exact Nat.le_refl _ : w5.heap.size ≤ gh); have BA := Aside0.mk hbel; clear hg_ hb hbel) | (refine arr_store (w0 := w5) ?hg ?hd 77 (.tmp 9) (.tmp 26) ?ho (cs := headC []) (cs' := #[.int .u64 x0, .int .u64 x1, .int .u64 x2, .int .u64 x3, .int .u64 x4, .int .u64 x5, .int .u64 x6]) (by kernel_rfl) ?hx ?hy HA.out rfl x7_one BA.out GA.out ?_; (case hd => rfl); (case hg => rfl); (case ho => rfl); (case hx => rfl); (case hy => rfl); intro w7 hr9 hb9; have n0_ := HV.below hb9; have n1_ := Aside0.mk (HI.out.below hb9); have HA9 := Aside0.mk hr9; clear HV HI HA GA BA hr9 hb9; have HV := n0_; have HI := n1_; clear n0_ n1_))
        have hia1 : ∀ W, (Instr.indexAt 77 (.pointer (some ⟨gh, 0, none⟩)) (.int .i64 1)).run Try.prog W = .ok (.pointer (some ⟨gh, 1, none⟩)) W := fun W => run_indexAt_arr (P := Try.prog) (W := W) 77 Try.underlying77 (by kernel_rfl) gh .i64 1 (by decide) (by decide)
        have hia3 : ∀ W, (Instr.indexAt 77 (.pointer (some ⟨gh, 0, none⟩)) (.int .i64 3)).run Try.prog W = .ok (.pointer (some ⟨gh, 3, none⟩)) W := fun W => run_indexAt_arr (P := Try.prog) (W := W) 77 Try.underlying77 (by kernel_rfl) gh .i64 3 (by decide) (by decide)
        have hia4 : ∀ W, (Instr.indexAt 77 (.pointer (some ⟨gh, 0, none⟩)) (.int .i64 4)).run Try.prog W = .ok (.pointer (some ⟨gh, 4, none⟩)) W := fun W => run_indexAt_arr (P := Try.prog) (W := W) 77 Try.underlying77 (by kernel_rfl) gh .i64 4 (by decide) (by decide)
        have hia5 : ∀ W, (Instr.indexAt 77 (.pointer (some ⟨gh, 0, none⟩)) (.int .i64 5)).run Try.prog W = .ok (.pointer (some ⟨gh, 5, none⟩)) W := fun W => run_indexAt_arr (P := Try.prog) (W := W) 77 Try.underlying77 (by kernel_rfl) gh .i64 5 (by decide) (by decide)
        have hia6 : ∀ W, (Instr.indexAt 77 (.pointer (some ⟨gh, 0, none⟩)) (.int .i64 6)).run Try.prog W = .ok (.pointer (some ⟨gh, 6, none⟩)) W := fun W => run_indexAt_arr (P := Try.prog) (W := W) 77 Try.underlying77 (by kernel_rfl) gh .i64 6 (by decide) (by decide)
        refine start_ (n := 18) (S := fun w' => w'.cell? ⟨gh, 1, none⟩ = some (.int .u64 x1) ∧ w'.cell? ⟨gh, 3, none⟩ = some (.int .u64 x3) ∧ w'.cell? ⟨gh, 4, none⟩ = some (.int .u64 x4) ∧ w'.cell? ⟨gh, 5, none⟩ = some (.int .u64 x5) ∧ w'.cell? ⟨gh, 6, none⟩ = some (.int .u64 x6)) (ds := [17]) #[false, false, false, false, false, false, false, false, false, false, false, false, false, false, false, false, false, false] (by kernel_rfl) rfl rfl ⟨(blk_cell HA9.out 1).trans rfl, (blk_cell HA9.out 3).trans rfl, (blk_cell HA9.out 4).trans rfl, (blk_cell HA9.out 5).trans rfl, (blk_cell HA9.out 6).trans rfl⟩ (fun hHeld => ?_)
        refine with_tabW frame_Get.tab8 frame_Get.bits8 (fun HT_ HW_ => ?_)
        have n0_ := HV.drew
        have n1_ : Aside0 (IsS94 w w7.drew g s1) := HI
        have n2_ : Aside0 (w7.drew.heap[gh]? = some (.cells #[.int .u64 x0, .int .u64 x1, .int .u64 x2, .int .u64 x3, .int .u64 x4, .int .u64 x5, .int .u64 x6] 77 (0, 0))) := HA9
        clear HV HI HA9
        have HV := n0_
        have HI := n1_
        have HA9 := n2_
        clear n0_ n1_ n2_
        generalize w7.drew = wd at HV HI HA9 hHeld ⊢
        refine pure_ (i := 0) (N := some 27) (v := ?_) (a' := ?_) #[true, false, false, false, false, false, false, false, false, false, false, false, false, false, false, false, false, false] rfl rfl (any_of HT_.out (by kernel_rfl)) (fun c_ a_ w_ h_ => panicD_put 27 _ (results_two (fn := Try.f19) rfl 27 _ (by decide) (by decide)) c_ a_ w_ h_) (Or.inl ⟨by rfl, ?_⟩) ?_ ?_
        rotate_left
        · intro w'
          go_simp
          with_reducible rfl
        rotate_left
        · skip
          simp only [Act.put, List.setIfInBounds_toArray, List.set_cons_zero, List.set_cons_succ, i64_w, i32_w]
          rfl
        refine pure_ (i := 3) (N := some 30) (v := ?_) (a' := ?_) #[true, false, false, true, false, false, false, false, false, false, false, false, false, false, false, false, false, false] rfl rfl (any_of HT_.out (by kernel_rfl)) (fun c_ a_ w_ h_ => panicD_put 30 _ (results_two (fn := Try.f19) rfl 30 _ (by decide) (by decide)) c_ a_ w_ h_) (Or.inl ⟨by rfl, ?_⟩) ?_ ?_
        rotate_left
        · intro w'
          go_simp
          with_reducible rfl
        rotate_left
        · skip
          simp only [Act.put, List.setIfInBounds_toArray, List.set_cons_zero, List.set_cons_succ, i64_w, i32_w]
          rfl
        refine pure_ (i := 6) (N := some 33) (v := ?_) (a' := ?_) #[true, false, false, true, false, false, true, false, false, false, false, false, false, false, false, false, false, false] rfl rfl (any_of HT_.out (by kernel_rfl)) (fun c_ a_ w_ h_ => panicD_put 33 _ (results_two (fn := Try.f19) rfl 33 _ (by decide) (by decide)) c_ a_ w_ h_) (Or.inl ⟨by rfl, ?_⟩) ?_ ?_
        rotate_left
        · intro w'
          go_simp
          with_reducible rfl
        rotate_left
        · skip
          simp only [Act.put, List.setIfInBounds_toArray, List.set_cons_zero, List.set_cons_succ, i64_w, i32_w]
          rfl
        refine pure_ (i := 9) (N := some 36) (v := ?_) (a' := ?_) #[true, false, false, true, false, false, true, false, false, true, false, false, false, false, false, false, false, false] rfl rfl (any_of HT_.out (by kernel_rfl)) (fun c_ a_ w_ h_ => panicD_put 36 _ (results_two (fn := Try.f19) rfl 36 _ (by decide) (by decide)) c_ a_ w_ h_) (Or.inl ⟨by rfl, ?_⟩) ?_ ?_
        rotate_left
        · intro w'
          go_simp
          with_reducible rfl
        rotate_left
        · skip
          simp only [Act.put, List.setIfInBounds_toArray, List.set_cons_zero, List.set_cons_succ, i64_w, i32_w]
          rfl
        refine pure_ (i := 12) (N := some 39) (v := ?_) (a' := ?_) #[true, false, false, true, false, false, true, false, false, true, false, false, true, false, false, false, false, false] rfl rfl (any_of HT_.out (by kernel_rfl)) (fun c_ a_ w_ h_ => panicD_put 39 _ (results_two (fn := Try.f19) rfl 39 _ (by decide) (by decide)) c_ a_ w_ h_) (Or.inl ⟨by rfl, ?_⟩) ?_ ?_
        rotate_left
        · intro w'
          go_simp
          with_reducible rfl
        rotate_left
        · skip
          simp only [Act.put, List.setIfInBounds_toArray, List.set_cons_zero, List.set_cons_succ, i64_w, i32_w]
          rfl
        refine pure_ (i := 14) (N := some 41) (v := ?_) (a' := ?_) #[true, false, false, true, false, false, true, false, false, true, false, false, true, false, true, false, false, false] rfl rfl (any_of HT_.out (by kernel_rfl)) (fun c_ a_ w_ h_ => panicD_put 41 _ (results_two (fn := Try.f19) rfl 41 _ (by decide) (by decide)) c_ a_ w_ h_) (Or.inl ⟨by rfl, ?_⟩) ?_ ?_
        rotate_left
        · intro w'
          go_simp
          with_reducible rfl
        rotate_left
        · skip
          simp only [Act.put, List.setIfInBounds_toArray, List.set_cons_zero, List.set_cons_succ, i64_w, i32_w]
          rfl
        refine take_ (i := 1) (N := some 28) (v := ?_) (a' := ?_) #[true, true, false, true, false, false, true, false, false, true, false, false, true, false, true, false, false, false] rfl rfl (take_ofW HT_.out HW_.out (by kernel_rfl)) (fun c_ a_ w_ h_ => panicD_put 28 _ (results_two (fn := Try.f19) rfl 28 _ (by decide) (by decide)) c_ a_ w_ h_) (Or.inl ⟨by rfl, ?_⟩) hHeld ?_ ?_
        rotate_left
        · rintro w' ⟨s0, s1, s2, s3, s4⟩
          go_simp
          with_reducible rfl
        rotate_left
        · skip
          simp only [Act.put, List.setIfInBounds_toArray, List.set_cons_zero, List.set_cons_succ, i64_w, i32_w]
          rfl
        refine take_ (i := 4) (N := some 31) (v := ?_) (a' := ?_) #[true, true, false, true, true, false, true, false, false, true, false, false, true, false, true, false, false, false] rfl rfl (take_ofW HT_.out HW_.out (by kernel_rfl)) (fun c_ a_ w_ h_ => panicD_put 31 _ (results_two (fn := Try.f19) rfl 31 _ (by decide) (by decide)) c_ a_ w_ h_) (Or.inl ⟨by rfl, ?_⟩) hHeld ?_ ?_
        rotate_left
        · rintro w' ⟨s0, s1, s2, s3, s4⟩
          go_simp
          with_reducible rfl
        rotate_left
        · skip
          simp only [Act.put, List.setIfInBounds_toArray, List.set_cons_zero, List.set_cons_succ, i64_w, i32_w]
          rfl
        refine take_ (i := 7) (N := some 34) (v := ?_) (a' := ?_) #[true, true, false, true, true, false, true, true, false, true, false, false, true, false, true, false, false, false] rfl rfl (take_ofW HT_.out HW_.out (by kernel_rfl)) (fun c_ a_ w_ h_ => panicD_put 34 _ (results_two (fn := Try.f19) rfl 34 _ (by decide) (by decide)) c_ a_ w_ h_) (Or.inl ⟨by rfl, ?_⟩) hHeld ?_ ?_
        rotate_left
        · rintro w' ⟨s0, s1, s2, s3, s4⟩
          go_simp
          with_reducible rfl
        rotate_left
        · skip
          simp only [Act.put, List.setIfInBounds_toArray, List.set_cons_zero, List.set_cons_succ, i64_w, i32_w]
          rfl
        refine take_ (i := 10) (N := some 37) (v := ?_) (a' := ?_) #[true, true, false, true, true, false, true, true, false, true, true, false, true, false, true, false, false, false] rfl rfl (take_ofW HT_.out HW_.out (by kernel_rfl)) (fun c_ a_ w_ h_ => panicD_put 37 _ (results_two (fn := Try.f19) rfl 37 _ (by decide) (by decide)) c_ a_ w_ h_) (Or.inl ⟨by rfl, ?_⟩) hHeld ?_ ?_
        rotate_left
        · rintro w' ⟨s0, s1, s2, s3, s4⟩
          go_simp
          with_reducible rfl
        rotate_left
        · skip
          simp only [Act.put, List.setIfInBounds_toArray, List.set_cons_zero, List.set_cons_succ, i64_w, i32_w]
          rfl
        refine take_ (i := 13) (N := some 40) (v := ?_) (a' := ?_) #[true, true, false, true, true, false, true, true, false, true, true, false, true, true, true, false, false, false] rfl rfl (take_ofW HT_.out HW_.out (by kernel_rfl)) (fun c_ a_ w_ h_ => panicD_put 40 _ (results_two (fn := Try.f19) rfl 40 _ (by decide) (by decide)) c_ a_ w_ h_) (Or.inl ⟨by rfl, ?_⟩) hHeld ?_ ?_
        rotate_left
        · rintro w' ⟨s0, s1, s2, s3, s4⟩
          go_simp
          with_reducible rfl
        rotate_left
        · skip
          simp only [Act.put, List.setIfInBounds_toArray, List.set_cons_zero, List.set_cons_succ, i64_w, i32_w]
          rfl
        refine pure_ (i := 2) (N := some 29) (v := ?_) (a' := ?_) #[true, true, true, true, true, false, true, true, false, true, true, false, true, true, true, false, false, false] rfl rfl (any_of HT_.out (by kernel_rfl)) (fun c_ a_ w_ h_ => panicD_put 29 _ (results_two (fn := Try.f19) rfl 29 _ (by decide) (by decide)) c_ a_ w_ h_) (Or.inl ⟨by rfl, ?_⟩) ?_ ?_
        rotate_left
        · intro w'
          go_simp
          with_reducible rfl
        rotate_left
        · skip
          simp only [Act.put, List.setIfInBounds_toArray, List.set_cons_zero, List.set_cons_succ, i64_w, i32_w]
          rfl
        refine pure_ (i := 5) (N := some 32) (v := ?_) (a' := ?_) #[true, true, true, true, true, true, true, true, false, true, true, false, true, true, true, false, false, false] rfl rfl (any_of HT_.out (by kernel_rfl)) (fun c_ a_ w_ h_ => panicD_put 32 _ (results_two (fn := Try.f19) rfl 32 _ (by decide) (by decide)) c_ a_ w_ h_) (Or.inl ⟨by rfl, ?_⟩) ?_ ?_
        rotate_left
        · intro w'
          go_simp
          with_reducible rfl
        rotate_left
        · skip
          simp only [Act.put, List.setIfInBounds_toArray, List.set_cons_zero, List.set_cons_succ, i64_w, i32_w]
          rfl
        refine pure_ (i := 8) (N := some 35) (v := ?_) (a' := ?_) #[true, true, true, true, true, true, true, true, true, true, true, false, true, true, true, false, false, false] rfl rfl (any_of HT_.out (by kernel_rfl)) (fun c_ a_ w_ h_ => panicD_put 35 _ (results_two (fn := Try.f19) rfl 35 _ (by decide) (by decide)) c_ a_ w_ h_) (Or.inl ⟨by rfl, ?_⟩) ?_ ?_
        rotate_left
        · intro w'
          go_simp
          with_reducible rfl
        rotate_left
        · skip
          simp only [Act.put, List.setIfInBounds_toArray, List.set_cons_zero, List.set_cons_succ, i64_w, i32_w]
          rfl
        refine pure_ (i := 11) (N := some 38) (v := ?_) (a' := ?_) #[true, true, true, true, true, true, true, true, true, true, true, true, true, true, true, false, false, false] rfl rfl (any_of HT_.out (by kernel_rfl)) (fun c_ a_ w_ h_ => panicD_put 38 _ (results_two (fn := Try.f19) rfl 38 _ (by decide) (by decide)) c_ a_ w_ h_) (Or.inl ⟨by rfl, ?_⟩) ?_ ?_
        rotate_left
        · intro w'
          go_simp
          with_reducible rfl
        rotate_left
        · skip
          simp only [Act.put, List.setIfInBounds_toArray, List.set_cons_zero, List.set_cons_succ, i64_w, i32_w]
          rfl
        refine one_ (i := 15) (N := some 42) #[true, true, true, true, true, true, true, true, true, true, true, true, true, true, true, true, false, false] rfl rfl (one_of HT_.out (by kernel_rfl)) (by decide) (fun K hK => ?_)
        refine goes_ Try.func50 (by kernel_rfl) rfl #[.pointer (some ⟨g, 0, none⟩)] (by rfl) rfl rfl (by (try simp only [List.map_toArray, List.map_cons, List.map_nil]); first | done | rfl) ?_
        with_reducible refine (octet_Reader_Rest.calls g s1 s1 w _ ?side1 ?side2 rfl).mono ?_
        (case side1 => exact HI.out)
        (case side2 => exact HV.hb)
        rintro e w8 ⟨rfl, hi, hb, hk⟩
        refine ⟨_, rfl, ?_⟩
        have n0_ := HV.read HI.out hb hk
        have n1_ := Aside0.mk (KeepBut.blk hk HA9.out (HI.out.ne_blk HA9.out (by decide)).symm (by simp))
        clear HV HI HA9 hi hb hk
        have HV := n0_
        have HA9 := n1_
        clear n0_ n1_
        refine hK.out _ _ ⟨(blk_cell HA9.out 1).trans rfl, (blk_cell HA9.out 3).trans rfl, (blk_cell HA9.out 4).trans rfl, (blk_cell HA9.out 5).trans rfl, (blk_cell HA9.out 6).trans rfl⟩ (fun hHeld => ?_)
        clear hK K
        refine norm_ (a' := ?_) ?_ ?_
        rotate_left
        · show Act.put _ (some 42) _ = _
          simp only [Act.put, List.setIfInBounds_toArray, List.set_cons_zero, List.set_cons_succ, i64_w, i32_w]
          rfl
        refine pure_ (i := 16) (N := some 43) (v := ?_) (a' := ?_) #[true, true, true, true, true, true, true, true, true, true, true, true, true, true, true, true, true, false] rfl rfl (any_of HT_.out (by kernel_rfl)) (fun c_ a_ w_ h_ => panicD_put 43 _ (results_two (fn := Try.f19) rfl 43 _ (by decide) (by decide)) c_ a_ w_ h_) (Or.inl ⟨by rfl, ?_⟩) ?_ ?_
        rotate_left
        · intro w'
          go_simp
          with_reducible rfl
        rotate_left
        · skip
          simp only [Act.put, List.setIfInBounds_toArray, List.set_cons_zero, List.set_cons_succ, i64_w, i32_w]
          rfl
        have nx := HV.ne
        have nx2 := nx.symm
        have hx0 : w8.cell? ⟨gp, 0, none⟩ = some (.int .i64 0) := (blk_cell HV.bp 0).trans rfl
        have hx1 : w8.cell? ⟨gp, 1, none⟩ = some (.int .i64 0) := (blk_cell HV.bp 1).trans rfl
        have hx2 : w8.cell? ⟨gp, 2, none⟩ = some (.int .u32 0) := (blk_cell HV.bp 2).trans rfl
        have hx3 : w8.cell? ⟨gp, 3, none⟩ = some (.int .u32 0) := (blk_cell HV.bp 3).trans rfl
        have hx4 : w8.cell? ⟨gp, 4, none⟩ = some (.int .u64 0) := (blk_cell HV.bp 4).trans rfl
        have hx5 : w8.cell? ⟨gp, 5, none⟩ = some (.string (⟨#[]⟩ : ByteArray)) := (blk_cell HV.bp 5).trans rfl
        have hy0 := blk_frozen HV.bp 0
        have hy1 := blk_frozen HV.bp 1
        have hy2 := blk_frozen HV.bp 2
        have hy3 := blk_frozen HV.bp 3
        have hy4 := blk_frozen HV.bp 4
        have hy5 := blk_frozen HV.bp 5
        refine last_ (i := 17) (N := none) #[true, true, true, true, true, true, true, true, true, true, true, true, true, true, true, true, true, true] rfl rfl (one_of HT_.out (by kernel_rfl)) (by decide) (fun K hK => ?_)
        refine skip_ (w1 := ?_) (by rfl) rfl ?_ ?_
        rotate_left
        · go_simp
          rfl
        refine hK.out _ _ ?_
        clear hK K hHeld hx0 hy0 hx1 hy1 hx2 hy2 hx3 hy3 hx4 hy4 hx5 hy5 nx nx2
        refine done_ (done_of HT_.out (by kernel_rfl)) ?_
        clear HT_ HW_ hia1 hia3 hia4 hia5 hia6
        have n0_ : GetInv w (World.setCell (World.setCell (World.setCell (World.setCell (World.setCell (World.setCell w8 ⟨gp, 0, none⟩ (.int .i64 (wrap64 x1))) ⟨gp, 1, none⟩ (.int .i64 (wrap64 x3))) ⟨gp, 2, none⟩ (.int .u32 (IntKind.u32.wrap x4))) ⟨gp, 3, none⟩ (.int .u32 (IntKind.u32.wrap x5))) ⟨gp, 4, none⟩ (.int .u64 x6)) ⟨gp, 5, none⟩ (.string s1)) gp ge #[.int .i64 (wrap64 x1), .int .i64 (wrap64 x3), .int .u32 (IntKind.u32.wrap x4), .int .u32 (IntKind.u32.wrap x5), .int .u64 x6, .string s1] := HV.put (.int .i64 (wrap64 x1)) (.int .i64 (wrap64 x3)) (.int .u32 (IntKind.u32.wrap x4)) (.int .u32 (IntKind.u32.wrap x5)) (.int .u64 x6) (.string s1)
        have n1_ : Aside0 ((World.setCell (World.setCell (World.setCell (World.setCell (World.setCell (World.setCell w8 ⟨gp, 0, none⟩ (.int .i64 (wrap64 x1))) ⟨gp, 1, none⟩ (.int .i64 (wrap64 x3))) ⟨gp, 2, none⟩ (.int .u32 (IntKind.u32.wrap x4))) ⟨gp, 3, none⟩ (.int .u32 (IntKind.u32.wrap x5))) ⟨gp, 4, none⟩ (.int .u64 x6)) ⟨gp, 5, none⟩ (.string s1)).heap[gh]? = some (.cells #[.int .u64 x0, .int .u64 x1, .int .u64 x2, .int .u64 x3, .int .u64 x4, .int .u64 x5, .int .u64 x6] 77 (0, 0))) := ⟨put6_far HA9.out (blk_ne HA9.out HV.bp (by decide)) _ _ _ _ _ _⟩
        clear HV HA9
        have HV := n0_
        have HA9 := n1_
        clear n0_ n1_
        generalize (World.setCell (World.setCell (World.setCell (World.setCell (World.setCell (World.setCell w8 ⟨gp, 0, none⟩ (.int .i64 (wrap64 x1))) ⟨gp, 1, none⟩ (.int .i64 (wrap64 x3))) ⟨gp, 2, none⟩ (.int .u32 (IntKind.u32.wrap x4))) ⟨gp, 3, none⟩ (.int .u32 (IntKind.u32.wrap x5))) ⟨gp, 4, none⟩ (.int .u64 x6)) ⟨gp, 5, none⟩ (.string s1)) = wq at HV HA9 ⊢
        have H := HF.out
        clear HF
        unfold frame_Get.fin at H
        rw [← IntKind.wrap_u32 x4, ← IntKind.wrap_u32 x5] at H
        generalize wrap64 x1 = y1 at H HV ⊢
        generalize wrap64 x3 = y3 at H HV ⊢
        generalize IntKind.u32.wrap x4 = y4 at H HV ⊢
        generalize IntKind.u32.wrap x5 = y5 at H HV ⊢
        obtain ⟨m, hm, H⟩ := Option.bind_eq_some_iff.mp H
        have AM := Aside0.mk hm
        clear hm
        cases m with
        | false =>
          rw [if_neg (by decide)] at H
          simp only [Option.some.injEq, Prod.mk.injEq] at H
          obtain ⟨rfl, rfl, rfl, rfl, rfl, rfl, rfl⟩ := H
          go_wp2
          have hia2 : ∀ W, (Instr.indexAt 77 (.pointer (some ⟨gh, 0, none⟩)) (.int .i64 2)).run Try.prog W = .ok (.pointer (some ⟨gh, 2, none⟩)) W := fun W => run_indexAt_arr (P := Try.prog) (W := W) 77 Try.underlying77 (by kernel_rfl) gh .i64 2 (by decide) (by decide)
          have hia0 : ∀ W, (Instr.indexAt 77 (.pointer (some ⟨gh, 0, none⟩)) (.int .i64 0)).run Try.prog W = .ok (.pointer (some ⟨gh, 0, none⟩)) W := fun W => run_indexAt_arr (P := Try.prog) (W := W) 77 Try.underlying77 (by kernel_rfl) gh .i64 0 (by decide) (by decide)
          have n0_ := HV.drew
          have n2_ : Aside0 (wq.drew.heap[gh]? = some (.cells #[.int .u64 x0, .int .u64 x1, .int .u64 x2, .int .u64 x3, .int .u64 x4, .int .u64 x5, .int .u64 x6] 77 (0, 0))) := HA9
          clear HV HA9
          have HV := n0_
          have HA9 := n2_
          clear n0_ n2_
          have k0 : wq.drew.cell? ⟨gp, 0, none⟩ = some (.int .i64 y1) := (blk_cell HV.bp 0).trans rfl
          have k1 : wq.drew.cell? ⟨gp, 1, none⟩ = some (.int .i64 y3) := (blk_cell HV.bp 1).trans rfl
          have k2 : wq.drew.cell? ⟨gp, 2, none⟩ = some (.int .u32 y4) := (blk_cell HV.bp 2).trans rfl
          have k3 : wq.drew.cell? ⟨gp, 3, none⟩ = some (.int .u32 y5) := (blk_cell HV.bp 3).trans rfl
          have k4 : wq.drew.cell? ⟨gp, 4, none⟩ = some (.int .u64 x6) := (blk_cell HV.bp 4).trans rfl
          have k5 : wq.drew.cell? ⟨gp, 5, none⟩ = some (.string s1) := (blk_cell HV.bp 5).trans rfl
          have k6 : wq.drew.cell? ⟨gh, 2, none⟩ = some (.int .u64 x2) := (blk_cell HA9.out 2).trans rfl
          have k7 : wq.drew.cell? ⟨gh, 0, none⟩ = some (.int .u64 x0) := (blk_cell HA9.out 0).trans rfl
          refine start_ (n := 24) (S := fun w' => w'.cell? ⟨gp, 0, none⟩ = some (.int .i64 y1) ∧ w'.cell? ⟨gp, 1, none⟩ = some (.int .i64 y3) ∧ w'.cell? ⟨gp, 2, none⟩ = some (.int .u32 y4) ∧ w'.cell? ⟨gp, 3, none⟩ = some (.int .u32 y5) ∧ w'.cell? ⟨gp, 4, none⟩ = some (.int .u64 x6) ∧ w'.cell? ⟨gp, 5, none⟩ = some (.string s1) ∧ w'.cell? ⟨gh, 2, none⟩ = some (.int .u64 x2) ∧ w'.cell? ⟨gh, 0, none⟩ = some (.int .u64 x0)) (ds := []) #[false, false, false, false, false, false, false, false, false, false, false, false, false, false, false, false, false, false, false, false, false, false, false, false] (by kernel_rfl) rfl rfl ⟨k0, k1, k2, k3, k4, k5, k6, k7⟩ (fun hHeld => ?_)
          clear k0 k1 k2 k3 k4 k5 k6 k7
          refine with_tabW frame_Get.tab9 frame_Get.bits9 (fun HT_ HW_ => ?_)
          generalize wq.drew = we at HV HA9 hHeld ⊢
          refine pure_ (i := 0) (N := some 44) (v := ?_) (a' := ?_) #[true, false, false, false, false, false, false, false, false, false, false, false, false, false, false, false, false, false, false, false, false, false, false, false] rfl rfl (any_of HT_.out (by kernel_rfl)) (fun c_ a_ w_ h_ => panicD_put 44 _ (results_two (fn := Try.f19) rfl 44 _ (by decide) (by decide)) c_ a_ w_ h_) (Or.inl ⟨by rfl, ?_⟩) ?_ ?_
          rotate_left
          · intro w'
            go_simp
            with_reducible rfl
          rotate_left
          · skip
            simp only [Act.put, List.setIfInBounds_toArray, List.set_cons_zero, List.set_cons_succ, i64_w, i32_w]
            rfl
          refine take_ (i := 1) (N := some 45) (v := ?_) (a' := ?_) #[true, true, false, false, false, false, false, false, false, false, false, false, false, false, false, false, false, false, false, false, false, false, false, false] rfl rfl (take_ofW HT_.out HW_.out (by kernel_rfl)) (fun c_ a_ w_ h_ => panicD_put 45 _ (results_two (fn := Try.f19) rfl 45 _ (by decide) (by decide)) c_ a_ w_ h_) (Or.inl ⟨by rfl, ?_⟩) hHeld ?_ ?_
          rotate_left
          · rintro w' ⟨s0, s1, s2, s3, s4, s5, s6, s7⟩
            go_simp
            with_reducible rfl
          rotate_left
          · skip
            simp only [Act.put, List.setIfInBounds_toArray, List.set_cons_zero, List.set_cons_succ, i64_w, i32_w]
            rfl
          refine one_ (i := 2) (N := some 46) #[true, true, true, false, false, false, false, false, false, false, false, false, false, false, false, false, false, false, false, false, false, false, false, false] rfl rfl (one_of HT_.out (by kernel_rfl)) (by decide) (fun K hK => ?_)
          refine goes_ Try.func44 (by kernel_rfl) rfl #[.int .i64 a0, .agg #[.int .i64 y1, .int .i64 y3, .int .u32 y4, .int .u32 y5, .int .u64 x6, .string s1]] (by rfl) rfl rfl (by (try simp only [List.map_toArray, List.map_cons, List.map_nil]); first | done | rfl) ?_
          with_reducible refine (frame_may.calls a0 y1 y3 y4 y5 x6 s1 false _ AM.out).mono ?_
          rintro e wf ⟨rfl, hb⟩
          refine ⟨_, rfl, ?_⟩
          have n0_ := HV.below hb
          have n1_ := Aside0.mk (blk_below HA9.out hb)
          clear HV HA9 hb
          have HV := n0_
          have HA9 := n1_
          clear n0_ n1_
          refine hK.out _ _ ⟨(blk_cell HV.bp 0).trans rfl, (blk_cell HV.bp 1).trans rfl, (blk_cell HV.bp 2).trans rfl, (blk_cell HV.bp 3).trans rfl, (blk_cell HV.bp 4).trans rfl, (blk_cell HV.bp 5).trans rfl, (blk_cell HA9.out 2).trans rfl, (blk_cell HA9.out 0).trans rfl⟩ (fun hHeld => ?_)
          clear hK K
          refine norm_ (a' := ?_) ?_ ?_
          rotate_left
          · show Act.put _ (some 46) _ = _
            simp only [Act.put, List.setIfInBounds_toArray, List.set_cons_zero, List.set_cons_succ, i64_w, i32_w]
            rfl
          refine pure_ (i := 3) (N := some 47) (v := ?_) (a' := ?_) #[true, true, true, true, false, false, false, false, false, false, false, false, false, false, false, false, false, false, false, false, false, false, false, false] rfl rfl (any_of HT_.out (by kernel_rfl)) (fun c_ a_ w_ h_ => panicD_put 47 _ (results_two (fn := Try.f19) rfl 47 _ (by decide) (by decide)) c_ a_ w_ h_) (Or.inl ⟨by rfl, ?_⟩) ?_ ?_
          rotate_left
          · intro w'
            go_simp
            with_reducible rfl
          rotate_left
          · skip
            simp only [Act.put, List.setIfInBounds_toArray, List.set_cons_zero, List.set_cons_succ, i64_w, i32_w]
            rfl
          refine pure_ (i := 4) (N := some 48) (v := ?_) (a' := ?_) #[true, true, true, true, true, false, false, false, false, false, false, false, false, false, false, false, false, false, false, false, false, false, false, false] rfl rfl (any_of HT_.out (by kernel_rfl)) (fun c_ a_ w_ h_ => panicD_put 48 _ (results_two (fn := Try.f19) rfl 48 _ (by decide) (by decide)) c_ a_ w_ h_) (Or.inl ⟨by rfl, ?_⟩) ?_ ?_
          rotate_left
          · intro w'
            go_simp
            with_reducible rfl
          rotate_left
          · skip
            simp only [Act.put, List.setIfInBounds_toArray, List.set_cons_zero, List.set_cons_succ, i64_w, i32_w]
            rfl
          refine pure_ (i := 5) (N := some 49) (v := undef) (a' := ?_) #[true, true, true, true, true, true, false, false, false, false, false, false, false, false, false, false, false, false, false, false, false, false, false, false] rfl rfl (any_of HT_.out (by kernel_rfl)) (fun c_ a_ w_ h_ => panicD_put 49 _ (results_two (fn := Try.f19) rfl 49 _ (by decide) (by decide)) c_ a_ w_ h_) (Or.inr ⟨by rfl, rfl⟩) ?_ ?_
          rotate_left
          · skip
            simp only [Act.put, List.setIfInBounds_toArray, List.set_cons_zero, List.set_cons_succ, i64_w, i32_w]
            rfl
          refine pure_ (i := 6) (N := some 50) (v := undef) (a' := ?_) #[true, true, true, true, true, true, true, false, false, false, false, false, false, false, false, false, false, false, false, false, false, false, false, false] rfl rfl (any_of HT_.out (by kernel_rfl)) (fun c_ a_ w_ h_ => panicD_put 50 _ (results_two (fn := Try.f19) rfl 50 _ (by decide) (by decide)) c_ a_ w_ h_) (Or.inr ⟨by rfl, rfl⟩) ?_ ?_
          rotate_left
          · skip
            simp only [Act.put, List.setIfInBounds_toArray, List.set_cons_zero, List.set_cons_succ, i64_w, i32_w]
            rfl
          refine pure_ (i := 7) (N := some 51) (v := undef) (a' := ?_) #[true, true, true, true, true, true, true, true, false, false, false, false, false, false, false, false, false, false, false, false, false, false, false, false] rfl rfl (any_of HT_.out (by kernel_rfl)) (fun c_ a_ w_ h_ => panicD_put 51 _ (results_two (fn := Try.f19) rfl 51 _ (by decide) (by decide)) c_ a_ w_ h_) (Or.inr ⟨by rfl, rfl⟩) ?_ ?_
          rotate_left
          · skip
            simp only [Act.put, List.setIfInBounds_toArray, List.set_cons_zero, List.set_cons_succ, i64_w, i32_w]
            rfl
          refine pure_ (i := 8) (N := some 52) (v := ?_) (a' := ?_) #[true, true, true, true, true, true, true, true, true, false, false, false, false, false, false, false, false, false, false, false, false, false, false, false] rfl rfl (any_of HT_.out (by kernel_rfl)) (fun c_ a_ w_ h_ => panicD_put 52 _ (results_two (fn := Try.f19) rfl 52 _ (by decide) (by decide)) c_ a_ w_ h_) (Or.inl ⟨by rfl, ?_⟩) ?_ ?_
          rotate_left
          · intro w'
            go_simp
            with_reducible rfl
          rotate_left
          · skip
            simp only [Act.put, List.setIfInBounds_toArray, List.set_cons_zero, List.set_cons_succ, i64_w, i32_w]
            rfl
          refine pure_ (i := 9) (N := some 53) (v := ?_) (a' := ?_) #[true, true, true, true, true, true, true, true, true, true, false, false, false, false, false, false, false, false, false, false, false, false, false, false] rfl rfl (any_of HT_.out (by kernel_rfl)) (fun c_ a_ w_ h_ => panicD_put 53 _ (results_two (fn := Try.f19) rfl 53 _ (by decide) (by decide)) c_ a_ w_ h_) (Or.inl ⟨by rfl, ?_⟩) ?_ ?_
          rotate_left
          · intro w'
            go_simp
            with_reducible rfl
          rotate_left
          · skip
            simp only [Act.put, List.setIfInBounds_toArray, List.set_cons_zero, List.set_cons_succ, i64_w, i32_w]
            rfl
          refine pure_ (i := 10) (N := some 54) (v := undef) (a' := ?_) #[true, true, true, true, true, true, true, true, true, true, true, false, false, false, false, false, false, false, false, false, false, false, false, false] rfl rfl (any_of HT_.out (by kernel_rfl)) (fun c_ a_ w_ h_ => panicD_put 54 _ (results_two (fn := Try.f19) rfl 54 _ (by decide) (by decide)) c_ a_ w_ h_) (Or.inr ⟨by rfl, rfl⟩) ?_ ?_
          rotate_left
          · skip
            simp only [Act.put, List.setIfInBounds_toArray, List.set_cons_zero, List.set_cons_succ, i64_w, i32_w]
            rfl
          refine pure_ (i := 11) (N := some 55) (v := undef) (a' := ?_) #[true, true, true, true, true, true, true, true, true, true, true, true, false, false, false, false, false, false, false, false, false, false, false, false] rfl rfl (any_of HT_.out (by kernel_rfl)) (fun c_ a_ w_ h_ => panicD_put 55 _ (results_two (fn := Try.f19) rfl 55 _ (by decide) (by decide)) c_ a_ w_ h_) (Or.inr ⟨by rfl, rfl⟩) ?_ ?_
          rotate_left
          · skip
            simp only [Act.put, List.setIfInBounds_toArray, List.set_cons_zero, List.set_cons_succ, i64_w, i32_w]
            rfl
          refine pure_ (i := 12) (N := some 56) (v := undef) (a' := ?_) #[true, true, true, true, true, true, true, true, true, true, true, true, true, false, false, false, false, false, false, false, false, false, false, false] rfl rfl (any_of HT_.out (by kernel_rfl)) (fun c_ a_ w_ h_ => panicD_put 56 _ (results_two (fn := Try.f19) rfl 56 _ (by decide) (by decide)) c_ a_ w_ h_) (Or.inr ⟨by rfl, rfl⟩) ?_ ?_
          rotate_left
          · skip
            simp only [Act.put, List.setIfInBounds_toArray, List.set_cons_zero, List.set_cons_succ, i64_w, i32_w]
            rfl
          refine pure_ (i := 13) (N := some 57) (v := undef) (a' := ?_) #[true, true, true, true, true, true, true, true, true, true, true, true, true, true, false, false, false, false, false, false, false, false, false, false] rfl rfl (any_of HT_.out (by kernel_rfl)) (fun c_ a_ w_ h_ => panicD_put 57 _ (results_two (fn := Try.f19) rfl 57 _ (by decide) (by decide)) c_ a_ w_ h_) (Or.inr ⟨by rfl, rfl⟩) ?_ ?_
          rotate_left
          · skip
            simp only [Act.put, List.setIfInBounds_toArray, List.set_cons_zero, List.set_cons_succ, i64_w, i32_w]
            rfl
          refine pure_ (i := 14) (N := some 58) (v := ?_) (a' := ?_) #[true, true, true, true, true, true, true, true, true, true, true, true, true, true, true, false, false, false, false, false, false, false, false, false] rfl rfl (any_of HT_.out (by kernel_rfl)) (fun c_ a_ w_ h_ => panicD_put 58 _ (results_two (fn := Try.f19) rfl 58 _ (by decide) (by decide)) c_ a_ w_ h_) (Or.inl ⟨by rfl, ?_⟩) ?_ ?_
          rotate_left
          · intro w'
            go_simp
            with_reducible rfl
          rotate_left
          · skip
            simp only [Act.put, List.setIfInBounds_toArray, List.set_cons_zero, List.set_cons_succ, i64_w, i32_w]
            rfl
          refine pure_ (i := 15) (N := some 59) (v := ?_) (a' := ?_) #[true, true, true, true, true, true, true, true, true, true, true, true, true, true, true, true, false, false, false, false, false, false, false, false] rfl rfl (any_of HT_.out (by kernel_rfl)) (fun c_ a_ w_ h_ => panicD_put 59 _ (results_two (fn := Try.f19) rfl 59 _ (by decide) (by decide)) c_ a_ w_ h_) (Or.inl ⟨by rfl, ?_⟩) ?_ ?_
          rotate_left
          · intro w'
            go_simp
            with_reducible rfl
          rotate_left
          · skip
            simp only [Act.put, List.setIfInBounds_toArray, List.set_cons_zero, List.set_cons_succ, i64_w, i32_w]
            rfl
          refine pure_ (i := 16) (N := some 60) (v := undef) (a' := ?_) #[true, true, true, true, true, true, true, true, true, true, true, true, true, true, true, true, true, false, false, false, false, false, false, false] rfl rfl (any_of HT_.out (by kernel_rfl)) (fun c_ a_ w_ h_ => panicD_put 60 _ (results_two (fn := Try.f19) rfl 60 _ (by decide) (by decide)) c_ a_ w_ h_) (Or.inr ⟨by rfl, rfl⟩) ?_ ?_
          rotate_left
          · skip
            simp only [Act.put, List.setIfInBounds_toArray, List.set_cons_zero, List.set_cons_succ, i64_w, i32_w]
            rfl
          refine pure_ (i := 17) (N := some 61) (v := undef) (a' := ?_) #[true, true, true, true, true, true, true, true, true, true, true, true, true, true, true, true, true, true, false, false, false, false, false, false] rfl rfl (any_of HT_.out (by kernel_rfl)) (fun c_ a_ w_ h_ => panicD_put 61 _ (results_two (fn := Try.f19) rfl 61 _ (by decide) (by decide)) c_ a_ w_ h_) (Or.inr ⟨by rfl, rfl⟩) ?_ ?_
          rotate_left
          · skip
            simp only [Act.put, List.setIfInBounds_toArray, List.set_cons_zero, List.set_cons_succ, i64_w, i32_w]
            rfl
          refine pure_ (i := 18) (N := some 62) (v := undef) (a' := ?_) #[true, true, true, true, true, true, true, true, true, true, true, true, true, true, true, true, true, true, true, false, false, false, false, false] rfl rfl (any_of HT_.out (by kernel_rfl)) (fun c_ a_ w_ h_ => panicD_put 62 _ (results_two (fn := Try.f19) rfl 62 _ (by decide) (by decide)) c_ a_ w_ h_) (Or.inr ⟨by rfl, rfl⟩) ?_ ?_
          rotate_left
          · skip
            simp only [Act.put, List.setIfInBounds_toArray, List.set_cons_zero, List.set_cons_succ, i64_w, i32_w]
            rfl
          refine pure_ (i := 19) (N := some 63) (v := undef) (a' := ?_) #[true, true, true, true, true, true, true, true, true, true, true, true, true, true, true, true, true, true, true, true, false, false, false, false] rfl rfl (any_of HT_.out (by kernel_rfl)) (fun c_ a_ w_ h_ => panicD_put 63 _ (results_two (fn := Try.f19) rfl 63 _ (by decide) (by decide)) c_ a_ w_ h_) (Or.inr ⟨by rfl, rfl⟩) ?_ ?_
          rotate_left
          · skip
            simp only [Act.put, List.setIfInBounds_toArray, List.set_cons_zero, List.set_cons_succ, i64_w, i32_w]
            rfl
          refine pure_ (i := 20) (N := some 64) (v := undef) (a' := ?_) #[true, true, true, true, true, true, true, true, true, true, true, true, true, true, true, true, true, true, true, true, true, false, false, false] rfl rfl (any_of HT_.out (by kernel_rfl)) (fun c_ a_ w_ h_ => panicD_put 64 _ (results_two (fn := Try.f19) rfl 64 _ (by decide) (by decide)) c_ a_ w_ h_) (Or.inr ⟨by rfl, rfl⟩) ?_ ?_
          rotate_left
          · skip
            simp only [Act.put, List.setIfInBounds_toArray, List.set_cons_zero, List.set_cons_succ, i64_w, i32_w]
            rfl
          refine pure_ (i := 21) (N := some 65) (v := undef) (a' := ?_) #[true, true, true, true, true, true, true, true, true, true, true, true, true, true, true, true, true, true, true, true, true, true, false, false] rfl rfl (any_of HT_.out (by kernel_rfl)) (fun c_ a_ w_ h_ => panicD_put 65 _ (results_two (fn := Try.f19) rfl 65 _ (by decide) (by decide)) c_ a_ w_ h_) (Or.inr ⟨by rfl, rfl⟩) ?_ ?_
          rotate_left
          · skip
            simp only [Act.put, List.setIfInBounds_toArray, List.set_cons_zero, List.set_cons_succ, i64_w, i32_w]
            rfl
          refine pure_ (i := 22) (N := some 66) (v := undef) (a' := ?_) #[true, true, true, true, true, true, true, true, true, true, true, true, true, true, true, true, true, true, true, true, true, true, true, false] rfl rfl (any_of HT_.out (by kernel_rfl)) (fun c_ a_ w_ h_ => panicD_put 66 _ (results_two (fn := Try.f19) rfl 66 _ (by decide) (by decide)) c_ a_ w_ h_) (Or.inr ⟨by rfl, rfl⟩) ?_ ?_
          rotate_left
          · skip
            simp only [Act.put, List.setIfInBounds_toArray, List.set_cons_zero, List.set_cons_succ, i64_w, i32_w]
            rfl
          refine pure_ (i := 23) (N := some 67) (v := ?_) (a' := ?_) #[true, true, true, true, true, true, true, true, true, true, true, true, true, true, true, true, true, true, true, true, true, true, true, true] rfl rfl (any_of HT_.out (by kernel_rfl)) (fun c_ a_ w_ h_ => panicD_put 67 _ (results_two (fn := Try.f19) rfl 67 _ (by decide) (by decide)) c_ a_ w_ h_) (Or.inl ⟨by rfl, ?_⟩) ?_ ?_
          rotate_left
          · intro w'
            go_simp
            with_reducible rfl
          rotate_left
          · skip
            simp only [Act.put, List.setIfInBounds_toArray, List.set_cons_zero, List.set_cons_succ, i64_w, i32_w]
            rfl
          clear hHeld
          refine done_ (done_of HT_.out (by kernel_rfl)) ?_
          clear HT_ HW_ hia2 hia0
          go_wp2
          simp only [Exit.inBlock, Exit.then, bodyPostD]
          refine leaves_cons (f := 47) (args := #[.pointer (some ⟨gp, 0, none⟩), .pointer (some ⟨ge, 0, none⟩)]) (by simp) (by simp [go_sem]) ?_
          refine (Get_catch gp ge [] (.int .i64 y1) (.int .i64 y3) (.int .u32 y4) (.int .u32 y5) (.int .u64 x6) (.string s1) _ HV.bp HV.be).mono ?_
          rintro e u' w9 ⟨rfl, rfl, h1, h2, h3⟩
          show Leaves _ _ _ _ [] .returning w9
          have q0 := (blk_cell h1 0).trans (show #[(.int .i64 0 : Value), (.int .i64 0 : Value), (.int .u32 0 : Value), (.int .u32 0 : Value), (.int .u64 0 : Value), (.string (⟨#[]⟩ : ByteArray) : Value)][0]? = some (.int .i64 0) from rfl)
          have q1 := (blk_cell h1 1).trans (show #[(.int .i64 0 : Value), (.int .i64 0 : Value), (.int .u32 0 : Value), (.int .u32 0 : Value), (.int .u64 0 : Value), (.string (⟨#[]⟩ : ByteArray) : Value)][1]? = some (.int .i64 0) from rfl)
          have q2 := (blk_cell h1 2).trans (show #[(.int .i64 0 : Value), (.int .i64 0 : Value), (.int .u32 0 : Value), (.int .u32 0 : Value), (.int .u64 0 : Value), (.string (⟨#[]⟩ : ByteArray) : Value)][2]? = some (.int .u32 0) from rfl)
          have q3 := (blk_cell h1 3).trans (show #[(.int .i64 0 : Value), (.int .i64 0 : Value), (.int .u32 0 : Value), (.int .u32 0 : Value), (.int .u64 0 : Value), (.string (⟨#[]⟩ : ByteArray) : Value)][3]? = some (.int .u32 0) from rfl)
          have q4 := (blk_cell h1 4).trans (show #[(.int .i64 0 : Value), (.int .i64 0 : Value), (.int .u32 0 : Value), (.int .u32 0 : Value), (.int .u64 0 : Value), (.string (⟨#[]⟩ : ByteArray) : Value)][4]? = some (.int .u64 0) from rfl)
          have q5 := (blk_cell h1 5).trans (show #[(.int .i64 0 : Value), (.int .i64 0 : Value), (.int .u32 0 : Value), (.int .u32 0 : Value), (.int .u64 0 : Value), (.string (⟨#[]⟩ : ByteArray) : Value)][5]? = some (.string (⟨#[]⟩ : ByteArray)) from rfl)
          have q6 := (blk_cell h2 0).trans (show #[(.int .i64 4 : Value)][0]? = some (.int .i64 4) from rfl)
          exact ⟨.tuple #[.agg #[.int .i64 0, .int .i64 0, .int .u32 0, .int .u32 0, .int .u64 0, .string (⟨#[]⟩ : ByteArray)], .int .i64 4], by simp [results, Try.results19, go_sem, Try.underlying27, q0, q1, q2, q3, q4, q5, q6], rfl, HV.hb.trans (h3 _ HV.hp HV.he HV.hb.size)⟩
        | true =>
          rw [if_pos rfl] at H
          by_cases c2 : x2 = 1
          · rw [if_pos c2] at H
            have c2a : (x2 != 1) = false := bne_eq_false_iff_eq.mpr c2
            have c2b : (x2 == 1) = true := beq_iff_eq.mpr c2
            clear c2
            by_cases c3 : y4 = a1
            · rw [if_pos c3] at H
              have c3a : (y4 != a1) = false := bne_eq_false_iff_eq.mpr c3
              have c3b : (y4 == a1) = true := beq_iff_eq.mpr c3
              clear c3
              by_cases c4 : 4 ≤ a2.size
              · rw [if_pos c4] at H
                have p4 : (4 : Int) ≤ (a2.size : Int) := by omega
                replace p4 := eq_true p4
                clear c4
                obtain ⟨c, hc, H⟩ := Option.bind_eq_some_iff.mp H
                have AC := Aside0.mk hc
                clear hc
                by_cases c5 : x0 = IntKind.u64.wrap c
                · rw [if_pos c5] at H
                  have c5a : (x0 != IntKind.u64.wrap c) = false := bne_eq_false_iff_eq.mpr c5
                  have c5b : (x0 == IntKind.u64.wrap c) = true := beq_iff_eq.mpr c5
                  clear c5
                  simp only [Option.some.injEq, Prod.mk.injEq] at H
                  obtain ⟨rfl, rfl, rfl, rfl, rfl, rfl, rfl⟩ := H
                  go_wp2
                  have hia2 : ∀ W, (Instr.indexAt 77 (.pointer (some ⟨gh, 0, none⟩)) (.int .i64 2)).run Try.prog W = .ok (.pointer (some ⟨gh, 2, none⟩)) W := fun W => run_indexAt_arr (P := Try.prog) (W := W) 77 Try.underlying77 (by kernel_rfl) gh .i64 2 (by decide) (by decide)
                  have hia0 : ∀ W, (Instr.indexAt 77 (.pointer (some ⟨gh, 0, none⟩)) (.int .i64 0)).run Try.prog W = .ok (.pointer (some ⟨gh, 0, none⟩)) W := fun W => run_indexAt_arr (P := Try.prog) (W := W) 77 Try.underlying77 (by kernel_rfl) gh .i64 0 (by decide) (by decide)
                  have n0_ := HV.drew
                  have n2_ : Aside0 (wq.drew.heap[gh]? = some (.cells #[.int .u64 x0, .int .u64 x1, .int .u64 x2, .int .u64 x3, .int .u64 x4, .int .u64 x5, .int .u64 x6] 77 (0, 0))) := HA9
                  clear HV HA9
                  have HV := n0_
                  have HA9 := n2_
                  clear n0_ n2_
                  have k0 : wq.drew.cell? ⟨gp, 0, none⟩ = some (.int .i64 y1) := (blk_cell HV.bp 0).trans rfl
                  have k1 : wq.drew.cell? ⟨gp, 1, none⟩ = some (.int .i64 y3) := (blk_cell HV.bp 1).trans rfl
                  have k2 : wq.drew.cell? ⟨gp, 2, none⟩ = some (.int .u32 y4) := (blk_cell HV.bp 2).trans rfl
                  have k3 : wq.drew.cell? ⟨gp, 3, none⟩ = some (.int .u32 y5) := (blk_cell HV.bp 3).trans rfl
                  have k4 : wq.drew.cell? ⟨gp, 4, none⟩ = some (.int .u64 x6) := (blk_cell HV.bp 4).trans rfl
                  have k5 : wq.drew.cell? ⟨gp, 5, none⟩ = some (.string s1) := (blk_cell HV.bp 5).trans rfl
                  have k6 : wq.drew.cell? ⟨gh, 2, none⟩ = some (.int .u64 x2) := (blk_cell HA9.out 2).trans rfl
                  have k7 : wq.drew.cell? ⟨gh, 0, none⟩ = some (.int .u64 x0) := (blk_cell HA9.out 0).trans rfl
                  refine start_ (n := 24) (S := fun w' => w'.cell? ⟨gp, 0, none⟩ = some (.int .i64 y1) ∧ w'.cell? ⟨gp, 1, none⟩ = some (.int .i64 y3) ∧ w'.cell? ⟨gp, 2, none⟩ = some (.int .u32 y4) ∧ w'.cell? ⟨gp, 3, none⟩ = some (.int .u32 y5) ∧ w'.cell? ⟨gp, 4, none⟩ = some (.int .u64 x6) ∧ w'.cell? ⟨gp, 5, none⟩ = some (.string s1) ∧ w'.cell? ⟨gh, 2, none⟩ = some (.int .u64 x2) ∧ w'.cell? ⟨gh, 0, none⟩ = some (.int .u64 x0)) (ds := []) #[false, false, false, false, false, false, false, false, false, false, false, false, false, false, false, false, false, false, false, false, false, false, false, false] (by kernel_rfl) rfl rfl ⟨k0, k1, k2, k3, k4, k5, k6, k7⟩ (fun hHeld => ?_)
                  clear k0 k1 k2 k3 k4 k5 k6 k7
                  refine with_tabW frame_Get.tab9 frame_Get.bits9 (fun HT_ HW_ => ?_)
                  generalize wq.drew = we at HV HA9 hHeld ⊢
                  refine pure_ (i := 0) (N := some 44) (v := ?_) (a' := ?_) #[true, false, false, false, false, false, false, false, false, false, false, false, false, false, false, false, false, false, false, false, false, false, false, false] rfl rfl (any_of HT_.out (by kernel_rfl)) (fun c_ a_ w_ h_ => panicD_put 44 _ (results_two (fn := Try.f19) rfl 44 _ (by decide) (by decide)) c_ a_ w_ h_) (Or.inl ⟨by rfl, ?_⟩) ?_ ?_
                  rotate_left
                  · intro w'
                    go_simp
                    with_reducible rfl
                  rotate_left
                  · skip
                    simp only [Act.put, List.setIfInBounds_toArray, List.set_cons_zero, List.set_cons_succ, i64_w, i32_w]
                    rfl
                  refine take_ (i := 1) (N := some 45) (v := ?_) (a' := ?_) #[true, true, false, false, false, false, false, false, false, false, false, false, false, false, false, false, false, false, false, false, false, false, false, false] rfl rfl (take_ofW HT_.out HW_.out (by kernel_rfl)) (fun c_ a_ w_ h_ => panicD_put 45 _ (results_two (fn := Try.f19) rfl 45 _ (by decide) (by decide)) c_ a_ w_ h_) (Or.inl ⟨by rfl, ?_⟩) hHeld ?_ ?_
                  rotate_left
                  · rintro w' ⟨s0, s1, s2, s3, s4, s5, s6, s7⟩
                    go_simp
                    with_reducible rfl
                  rotate_left
                  · skip
                    simp only [Act.put, List.setIfInBounds_toArray, List.set_cons_zero, List.set_cons_succ, i64_w, i32_w]
                    rfl
                  refine one_ (i := 2) (N := some 46) #[true, true, true, false, false, false, false, false, false, false, false, false, false, false, false, false, false, false, false, false, false, false, false, false] rfl rfl (one_of HT_.out (by kernel_rfl)) (by decide) (fun K hK => ?_)
                  refine goes_ Try.func44 (by kernel_rfl) rfl #[.int .i64 a0, .agg #[.int .i64 y1, .int .i64 y3, .int .u32 y4, .int .u32 y5, .int .u64 x6, .string s1]] (by rfl) rfl rfl (by (try simp only [List.map_toArray, List.map_cons, List.map_nil]); first | done | rfl) ?_
                  with_reducible refine (frame_may.calls a0 y1 y3 y4 y5 x6 s1 true _ AM.out).mono ?_
                  rintro e wf ⟨rfl, hb⟩
                  refine ⟨_, rfl, ?_⟩
                  have n0_ := HV.below hb
                  have n1_ := Aside0.mk (blk_below HA9.out hb)
                  clear HV HA9 hb
                  have HV := n0_
                  have HA9 := n1_
                  clear n0_ n1_
                  refine hK.out _ _ ⟨(blk_cell HV.bp 0).trans rfl, (blk_cell HV.bp 1).trans rfl, (blk_cell HV.bp 2).trans rfl, (blk_cell HV.bp 3).trans rfl, (blk_cell HV.bp 4).trans rfl, (blk_cell HV.bp 5).trans rfl, (blk_cell HA9.out 2).trans rfl, (blk_cell HA9.out 0).trans rfl⟩ (fun hHeld => ?_)
                  clear hK K
                  refine norm_ (a' := ?_) ?_ ?_
                  rotate_left
                  · show Act.put _ (some 46) _ = _
                    simp only [Act.put, List.setIfInBounds_toArray, List.set_cons_zero, List.set_cons_succ, i64_w, i32_w]
                    rfl
                  refine pure_ (i := 3) (N := some 47) (v := ?_) (a' := ?_) #[true, true, true, true, false, false, false, false, false, false, false, false, false, false, false, false, false, false, false, false, false, false, false, false] rfl rfl (any_of HT_.out (by kernel_rfl)) (fun c_ a_ w_ h_ => panicD_put 47 _ (results_two (fn := Try.f19) rfl 47 _ (by decide) (by decide)) c_ a_ w_ h_) (Or.inl ⟨by rfl, ?_⟩) ?_ ?_
                  rotate_left
                  · intro w'
                    go_simp
                    with_reducible rfl
                  rotate_left
                  · skip
                    simp only [Act.put, List.setIfInBounds_toArray, List.set_cons_zero, List.set_cons_succ, i64_w, i32_w]
                    rfl
                  refine pure_ (i := 4) (N := some 48) (v := ?_) (a' := ?_) #[true, true, true, true, true, false, false, false, false, false, false, false, false, false, false, false, false, false, false, false, false, false, false, false] rfl rfl (any_of HT_.out (by kernel_rfl)) (fun c_ a_ w_ h_ => panicD_put 48 _ (results_two (fn := Try.f19) rfl 48 _ (by decide) (by decide)) c_ a_ w_ h_) (Or.inl ⟨by rfl, ?_⟩) ?_ ?_
                  rotate_left
                  · intro w'
                    go_simp
                    with_reducible rfl
                  rotate_left
                  · skip
                    simp only [Act.put, List.setIfInBounds_toArray, List.set_cons_zero, List.set_cons_succ, i64_w, i32_w]
                    rfl
                  refine pure_ (i := 5) (N := some 49) (v := ?_) (a' := ?_) #[true, true, true, true, true, true, false, false, false, false, false, false, false, false, false, false, false, false, false, false, false, false, false, false] rfl rfl (any_of HT_.out (by kernel_rfl)) (fun c_ a_ w_ h_ => panicD_put 49 _ (results_two (fn := Try.f19) rfl 49 _ (by decide) (by decide)) c_ a_ w_ h_) (Or.inl ⟨by rfl, ?_⟩) ?_ ?_
                  rotate_left
                  · intro w'
                    go_simp
                    with_reducible rfl
                  rotate_left
                  · skip
                    simp only [Act.put, List.setIfInBounds_toArray, List.set_cons_zero, List.set_cons_succ, i64_w, i32_w]
                    rfl
                  refine take_ (i := 6) (N := some 50) (v := ?_) (a' := ?_) #[true, true, true, true, true, true, true, false, false, false, false, false, false, false, false, false, false, false, false, false, false, false, false, false] rfl rfl (take_ofW HT_.out HW_.out (by kernel_rfl)) (fun c_ a_ w_ h_ => panicD_put 50 _ (results_two (fn := Try.f19) rfl 50 _ (by decide) (by decide)) c_ a_ w_ h_) (Or.inl ⟨by rfl, ?_⟩) hHeld ?_ ?_
                  rotate_left
                  · rintro w' ⟨s0, s1, s2, s3, s4, s5, s6, s7⟩
                    go_simp
                    with_reducible rfl
                  rotate_left
                  · skip
                    simp only [Act.put, List.setIfInBounds_toArray, List.set_cons_zero, List.set_cons_succ, i64_w, i32_w]
                    rfl
                  refine pure_ (i := 7) (N := some 51) (v := ?_) (a' := ?_) #[true, true, true, true, true, true, true, true, false, false, false, false, false, false, false, false, false, false, false, false, false, false, false, false] rfl rfl (any_of HT_.out (by kernel_rfl)) (fun c_ a_ w_ h_ => panicD_put 51 _ (results_two (fn := Try.f19) rfl 51 _ (by decide) (by decide)) c_ a_ w_ h_) (Or.inl ⟨by rfl, ?_⟩) ?_ ?_
                  rotate_left
                  · intro w'
                    go_simp
                    with_reducible rfl
                  rotate_left
                  · skip
                    simp only [Act.put, List.setIfInBounds_toArray, List.set_cons_zero, List.set_cons_succ, i64_w, i32_w]
                    rfl
                  refine pure_ (i := 8) (N := some 52) (v := ?_) (a' := ?_) #[true, true, true, true, true, true, true, true, true, false, false, false, false, false, false, false, false, false, false, false, false, false, false, false] rfl rfl (any_of HT_.out (by kernel_rfl)) (fun c_ a_ w_ h_ => panicD_put 52 _ (results_two (fn := Try.f19) rfl 52 _ (by decide) (by decide)) c_ a_ w_ h_) (Or.inl ⟨by rfl, ?_⟩) ?_ ?_
                  rotate_left
                  · intro w'
                    go_simp
                    with_reducible rfl
                  rotate_left
                  · skip
                    simp only [Act.put, List.setIfInBounds_toArray, List.set_cons_zero, List.set_cons_succ, i64_w, i32_w]
                    rfl
                  refine pure_ (i := 9) (N := some 53) (v := ?_) (a' := ?_) #[true, true, true, true, true, true, true, true, true, true, false, false, false, false, false, false, false, false, false, false, false, false, false, false] rfl rfl (any_of HT_.out (by kernel_rfl)) (fun c_ a_ w_ h_ => panicD_put 53 _ (results_two (fn := Try.f19) rfl 53 _ (by decide) (by decide)) c_ a_ w_ h_) (Or.inl ⟨by rfl, ?_⟩) ?_ ?_
                  rotate_left
                  · intro w'
                    go_simp
                    with_reducible rfl
                  rotate_left
                  · skip
                    simp only [Act.put, List.setIfInBounds_toArray, List.set_cons_zero, List.set_cons_succ, i64_w, i32_w]
                    rfl
                  refine pure_ (i := 10) (N := some 54) (v := ?_) (a' := ?_) #[true, true, true, true, true, true, true, true, true, true, true, false, false, false, false, false, false, false, false, false, false, false, false, false] rfl rfl (any_of HT_.out (by kernel_rfl)) (fun c_ a_ w_ h_ => panicD_put 54 _ (results_two (fn := Try.f19) rfl 54 _ (by decide) (by decide)) c_ a_ w_ h_) (Or.inl ⟨by rfl, ?_⟩) ?_ ?_
                  rotate_left
                  · intro w'
                    go_simp
                    with_reducible rfl
                  rotate_left
                  · skip
                    simp only [Act.put, List.setIfInBounds_toArray, List.set_cons_zero, List.set_cons_succ, i64_w, i32_w]
                    rfl
                  refine take_ (i := 11) (N := some 55) (v := ?_) (a' := ?_) #[true, true, true, true, true, true, true, true, true, true, true, true, false, false, false, false, false, false, false, false, false, false, false, false] rfl rfl (take_ofW HT_.out HW_.out (by kernel_rfl)) (fun c_ a_ w_ h_ => panicD_put 55 _ (results_two (fn := Try.f19) rfl 55 _ (by decide) (by decide)) c_ a_ w_ h_) (Or.inl ⟨by rfl, ?_⟩) hHeld ?_ ?_
                  rotate_left
                  · rintro w' ⟨s0, s1, s2, s3, s4, s5, s6, s7⟩
                    go_simp
                    with_reducible rfl
                  rotate_left
                  · skip
                    simp only [Act.put, List.setIfInBounds_toArray, List.set_cons_zero, List.set_cons_succ, i64_w, i32_w]
                    rfl
                  refine pure_ (i := 12) (N := some 56) (v := ?_) (a' := ?_) #[true, true, true, true, true, true, true, true, true, true, true, true, true, false, false, false, false, false, false, false, false, false, false, false] rfl rfl (any_of HT_.out (by kernel_rfl)) (fun c_ a_ w_ h_ => panicD_put 56 _ (results_two (fn := Try.f19) rfl 56 _ (by decide) (by decide)) c_ a_ w_ h_) (Or.inl ⟨by rfl, ?_⟩) ?_ ?_
                  rotate_left
                  · intro w'
                    go_simp
                    with_reducible rfl
                  rotate_left
                  · skip
                    simp only [Act.put, List.setIfInBounds_toArray, List.set_cons_zero, List.set_cons_succ, i64_w, i32_w]
                    rfl
                  refine pure_ (i := 13) (N := some 57) (v := ?_) (a' := ?_) #[true, true, true, true, true, true, true, true, true, true, true, true, true, true, false, false, false, false, false, false, false, false, false, false] rfl rfl (any_of HT_.out (by kernel_rfl)) (fun c_ a_ w_ h_ => panicD_put 57 _ (results_two (fn := Try.f19) rfl 57 _ (by decide) (by decide)) c_ a_ w_ h_) (Or.inl ⟨by rfl, ?_⟩) ?_ ?_
                  rotate_left
                  · intro w'
                    go_simp
                    with_reducible rfl
                  rotate_left
                  · skip
                    simp only [Act.put, List.setIfInBounds_toArray, List.set_cons_zero, List.set_cons_succ, i64_w, i32_w]
                    rfl
                  refine pure_ (i := 14) (N := some 58) (v := ?_) (a' := ?_) #[true, true, true, true, true, true, true, true, true, true, true, true, true, true, true, false, false, false, false, false, false, false, false, false] rfl rfl (any_of HT_.out (by kernel_rfl)) (fun c_ a_ w_ h_ => panicD_put 58 _ (results_two (fn := Try.f19) rfl 58 _ (by decide) (by decide)) c_ a_ w_ h_) (Or.inl ⟨by rfl, ?_⟩) ?_ ?_
                  rotate_left
                  · intro w'
                    go_simp
                    with_reducible rfl
                  rotate_left
                  · skip
                    simp only [Act.put, List.setIfInBounds_toArray, List.set_cons_zero, List.set_cons_succ, i64_w, i32_w]
                    rfl
                  refine pure_ (i := 15) (N := some 59) (v := ?_) (a' := ?_) #[true, true, true, true, true, true, true, true, true, true, true, true, true, true, true, true, false, false, false, false, false, false, false, false] rfl rfl (any_of HT_.out (by kernel_rfl)) (fun c_ a_ w_ h_ => panicD_put 59 _ (results_two (fn := Try.f19) rfl 59 _ (by decide) (by decide)) c_ a_ w_ h_) (Or.inl ⟨by rfl, ?_⟩) ?_ ?_
                  rotate_left
                  · intro w'
                    go_simp
                    with_reducible rfl
                  rotate_left
                  · skip
                    simp only [Act.put, List.setIfInBounds_toArray, List.set_cons_zero, List.set_cons_succ, i64_w, i32_w]
                    rfl
                  refine pure_ (i := 16) (N := some 60) (v := ?_) (a' := ?_) #[true, true, true, true, true, true, true, true, true, true, true, true, true, true, true, true, true, false, false, false, false, false, false, false] rfl rfl (any_of HT_.out (by kernel_rfl)) (fun c_ a_ w_ h_ => panicD_put 60 _ (results_two (fn := Try.f19) rfl 60 _ (by decide) (by decide)) c_ a_ w_ h_) (Or.inl ⟨by rfl, ?_⟩) ?_ ?_
                  rotate_left
                  · intro w'
                    go_simp
                    with_reducible rfl
                  rotate_left
                  · skip
                    simp only [Act.put, List.setIfInBounds_toArray, List.set_cons_zero, List.set_cons_succ, i64_w, i32_w]
                    rfl
                  refine take_ (i := 17) (N := some 61) (v := ?_) (a' := ?_) #[true, true, true, true, true, true, true, true, true, true, true, true, true, true, true, true, true, true, false, false, false, false, false, false] rfl rfl (take_ofW HT_.out HW_.out (by kernel_rfl)) (fun c_ a_ w_ h_ => panicD_put 61 _ (results_two (fn := Try.f19) rfl 61 _ (by decide) (by decide)) c_ a_ w_ h_) (Or.inl ⟨by rfl, ?_⟩) hHeld ?_ ?_
                  rotate_left
                  · rintro w' ⟨s0, s1, s2, s3, s4, s5, s6, s7⟩
                    go_simp
                    with_reducible rfl
                  rotate_left
                  · skip
                    simp only [Act.put, List.setIfInBounds_toArray, List.set_cons_zero, List.set_cons_succ, i64_w, i32_w]
                    rfl
                  refine pure_ (i := 18) (N := some 62) (v := ?_) (a' := ?_) #[true, true, true, true, true, true, true, true, true, true, true, true, true, true, true, true, true, true, true, false, false, false, false, false] rfl rfl (any_of HT_.out (by kernel_rfl)) (fun c_ a_ w_ h_ => panicD_put 62 _ (results_two (fn := Try.f19) rfl 62 _ (by decide) (by decide)) c_ a_ w_ h_) (Or.inl ⟨by rfl, ?_⟩) ?_ ?_
                  rotate_left
                  · intro w'
                    go_simp
                    with_reducible rfl
                  rotate_left
                  · skip
                    simp only [Act.put, List.setIfInBounds_toArray, List.set_cons_zero, List.set_cons_succ, i64_w, i32_w]
                    rfl
                  refine pure_ (i := 19) (N := some 63) (v := ?_) (a' := ?_) #[true, true, true, true, true, true, true, true, true, true, true, true, true, true, true, true, true, true, true, true, false, false, false, false] rfl rfl (any_of HT_.out (by kernel_rfl)) (fun c_ a_ w_ h_ => panicD_put 63 _ (results_two (fn := Try.f19) rfl 63 _ (by decide) (by decide)) c_ a_ w_ h_) (Or.inl ⟨by rfl, ?_⟩) ?_ ?_
                  rotate_left
                  · intro w'
                    go_simp
                    with_reducible rfl
                  rotate_left
                  · skip
                    simp only [Act.put, List.setIfInBounds_toArray, List.set_cons_zero, List.set_cons_succ, i64_w, i32_w]
                    rfl
                  refine one_ (i := 20) (N := some 64) #[true, true, true, true, true, true, true, true, true, true, true, true, true, true, true, true, true, true, true, true, true, false, false, false] rfl rfl (one_of HT_.out (by kernel_rfl)) (by decide) (fun K hK => ?_)
                  refine goes_ Try.func46 (by kernel_rfl) rfl #[.string (a2.extract 4 a2.size)] (by rfl) rfl rfl (by (try simp only [List.map_toArray, List.map_cons, List.map_nil]); first | done | rfl) ?_
                  with_reducible refine (crc_Of.calls (a2.extract 4 a2.size) c _ AC.out).mono ?_
                  rintro e wg ⟨rfl, hb⟩
                  refine ⟨_, rfl, ?_⟩
                  have n0_ := HV.below hb
                  have n1_ := Aside0.mk (blk_below HA9.out hb)
                  clear HV HA9 hb
                  have HV := n0_
                  have HA9 := n1_
                  clear n0_ n1_
                  refine hK.out _ _ ⟨(blk_cell HV.bp 0).trans rfl, (blk_cell HV.bp 1).trans rfl, (blk_cell HV.bp 2).trans rfl, (blk_cell HV.bp 3).trans rfl, (blk_cell HV.bp 4).trans rfl, (blk_cell HV.bp 5).trans rfl, (blk_cell HA9.out 2).trans rfl, (blk_cell HA9.out 0).trans rfl⟩ (fun hHeld => ?_)
                  clear hK K
                  refine norm_ (a' := ?_) ?_ ?_
                  rotate_left
                  · show Act.put _ (some 64) _ = _
                    simp only [Act.put, List.setIfInBounds_toArray, List.set_cons_zero, List.set_cons_succ, i64_w, i32_w]
                    rfl
                  refine pure_ (i := 21) (N := some 65) (v := ?_) (a' := ?_) #[true, true, true, true, true, true, true, true, true, true, true, true, true, true, true, true, true, true, true, true, true, true, false, false] rfl rfl (any_of HT_.out (by kernel_rfl)) (fun c_ a_ w_ h_ => panicD_put 65 _ (results_two (fn := Try.f19) rfl 65 _ (by decide) (by decide)) c_ a_ w_ h_) (Or.inl ⟨by rfl, ?_⟩) ?_ ?_
                  rotate_left
                  · intro w'
                    go_simp
                    with_reducible rfl
                  rotate_left
                  · skip
                    simp only [Act.put, List.setIfInBounds_toArray, List.set_cons_zero, List.set_cons_succ, i64_w, i32_w]
                    rfl
                  refine pure_ (i := 22) (N := some 66) (v := ?_) (a' := ?_) #[true, true, true, true, true, true, true, true, true, true, true, true, true, true, true, true, true, true, true, true, true, true, true, false] rfl rfl (any_of HT_.out (by kernel_rfl)) (fun c_ a_ w_ h_ => panicD_put 66 _ (results_two (fn := Try.f19) rfl 66 _ (by decide) (by decide)) c_ a_ w_ h_) (Or.inl ⟨by rfl, ?_⟩) ?_ ?_
                  rotate_left
                  · intro w'
                    go_simp
                    with_reducible rfl
                  rotate_left
                  · skip
                    simp only [Act.put, List.setIfInBounds_toArray, List.set_cons_zero, List.set_cons_succ, i64_w, i32_w]
                    rfl
                  refine pure_ (i := 23) (N := some 67) (v := ?_) (a' := ?_) #[true, true, true, true, true, true, true, true, true, true, true, true, true, true, true, true, true, true, true, true, true, true, true, true] rfl rfl (any_of HT_.out (by kernel_rfl)) (fun c_ a_ w_ h_ => panicD_put 67 _ (results_two (fn := Try.f19) rfl 67 _ (by decide) (by decide)) c_ a_ w_ h_) (Or.inl ⟨by rfl, ?_⟩) ?_ ?_
                  rotate_left
                  · intro w'
                    go_simp
                    with_reducible rfl
                  rotate_left
                  · skip
                    simp only [Act.put, List.setIfInBounds_toArray, List.set_cons_zero, List.set_cons_succ, i64_w, i32_w]
                    rfl
                  clear hHeld
                  refine done_ (done_of HT_.out (by kernel_rfl)) ?_
                  clear HT_ HW_ hia2 hia0
                  have nx := HV.ne
                  have nx2 := nx.symm
                  have hx0 : wg.cell? ⟨gp, 0, none⟩ = some (.int .i64 y1) := (blk_cell HV.bp 0).trans rfl
                  have hx1 : wg.cell? ⟨gp, 1, none⟩ = some (.int .i64 y3) := (blk_cell HV.bp 1).trans rfl
                  have hx2 : wg.cell? ⟨gp, 2, none⟩ = some (.int .u32 y4) := (blk_cell HV.bp 2).trans rfl
                  have hx3 : wg.cell? ⟨gp, 3, none⟩ = some (.int .u32 y5) := (blk_cell HV.bp 3).trans rfl
                  have hx4 : wg.cell? ⟨gp, 4, none⟩ = some (.int .u64 x6) := (blk_cell HV.bp 4).trans rfl
                  have hx5 : wg.cell? ⟨gp, 5, none⟩ = some (.string s1) := (blk_cell HV.bp 5).trans rfl
                  have hy0 := blk_frozen HV.bp 0
                  have hy1 := blk_frozen HV.bp 1
                  have hy2 := blk_frozen HV.bp 2
                  have hy3 := blk_frozen HV.bp 3
                  have hy4 := blk_frozen HV.bp 4
                  have hy5 := blk_frozen HV.bp 5
                  have hz0 : wg.cell? ⟨ge, 0, none⟩ = some (.int .i64 0) := (blk_cell HV.be 0).trans rfl
                  have hzf := blk_frozen HV.be 0
                  go_wp2
                  simp only [bodyPostD]
                  refine leaves_cons (f := 47) (args := #[.pointer (some ⟨gp, 0, none⟩), .pointer (some ⟨ge, 0, none⟩)]) (by simp) (by simp [go_sem]) ?_
                  refine (Get_idle gp ge _).mono ?_
                  rintro e u' w8 ⟨rfl, rfl, rfl⟩
                  show Leaves _ _ _ _ [] .returning _
                  have h3 := HV.put (.int .i64 y1) (.int .i64 y3) (.int .u32 y4) (.int .u32 y5) (.int .u64 x6) (.string s1)
                  have h4 := blk_far h3.bp h3.ne (p := ⟨ge, 0, none⟩) (.int .i64 0)
                  have h5 := blk_set h3.be 0 (.int .i64 0)
                  have q0 := (blk_cell h4 0).trans (show #[(.int .i64 y1 : Value), (.int .i64 y3 : Value), (.int .u32 y4 : Value), (.int .u32 y5 : Value), (.int .u64 x6 : Value), (.string s1 : Value)][0]? = some (.int .i64 y1) from rfl)
                  have q1 := (blk_cell h4 1).trans (show #[(.int .i64 y1 : Value), (.int .i64 y3 : Value), (.int .u32 y4 : Value), (.int .u32 y5 : Value), (.int .u64 x6 : Value), (.string s1 : Value)][1]? = some (.int .i64 y3) from rfl)
                  have q2 := (blk_cell h4 2).trans (show #[(.int .i64 y1 : Value), (.int .i64 y3 : Value), (.int .u32 y4 : Value), (.int .u32 y5 : Value), (.int .u64 x6 : Value), (.string s1 : Value)][2]? = some (.int .u32 y4) from rfl)
                  have q3 := (blk_cell h4 3).trans (show #[(.int .i64 y1 : Value), (.int .i64 y3 : Value), (.int .u32 y4 : Value), (.int .u32 y5 : Value), (.int .u64 x6 : Value), (.string s1 : Value)][3]? = some (.int .u32 y5) from rfl)
                  have q4 := (blk_cell h4 4).trans (show #[(.int .i64 y1 : Value), (.int .i64 y3 : Value), (.int .u32 y4 : Value), (.int .u32 y5 : Value), (.int .u64 x6 : Value), (.string s1 : Value)][4]? = some (.int .u64 x6) from rfl)
                  have q5 := (blk_cell h4 5).trans (show #[(.int .i64 y1 : Value), (.int .i64 y3 : Value), (.int .u32 y4 : Value), (.int .u32 y5 : Value), (.int .u64 x6 : Value), (.string s1 : Value)][5]? = some (.string s1) from rfl)
                  have q6 := (blk_cell h5 0).trans (show #[(.int .i64 0 : Value)][0]? = some (.int .i64 0) from rfl)
                  exact ⟨.tuple #[.agg #[.int .i64 y1, .int .i64 y3, .int .u32 y4, .int .u32 y5, .int .u64 x6, .string s1], .int .i64 0], by simp [results, Try.results19, go_sem, Try.underlying27, q0, q1, q2, q3, q4, q5, q6], rfl, h3.hb.setCell h3.he _⟩
                · rw [if_neg c5] at H
                  have c5a : (x0 != IntKind.u64.wrap c) = true := bne_iff_ne.mpr c5
                  have c5b : (x0 == IntKind.u64.wrap c) = false := beq_eq_false_iff_ne.mpr c5
                  clear c5
                  simp only [Option.some.injEq, Prod.mk.injEq] at H
                  obtain ⟨rfl, rfl, rfl, rfl, rfl, rfl, rfl⟩ := H
                  go_wp2
                  have hia2 : ∀ W, (Instr.indexAt 77 (.pointer (some ⟨gh, 0, none⟩)) (.int .i64 2)).run Try.prog W = .ok (.pointer (some ⟨gh, 2, none⟩)) W := fun W => run_indexAt_arr (P := Try.prog) (W := W) 77 Try.underlying77 (by kernel_rfl) gh .i64 2 (by decide) (by decide)
                  have hia0 : ∀ W, (Instr.indexAt 77 (.pointer (some ⟨gh, 0, none⟩)) (.int .i64 0)).run Try.prog W = .ok (.pointer (some ⟨gh, 0, none⟩)) W := fun W => run_indexAt_arr (P := Try.prog) (W := W) 77 Try.underlying77 (by kernel_rfl) gh .i64 0 (by decide) (by decide)
                  have n0_ := HV.drew
                  have n2_ : Aside0 (wq.drew.heap[gh]? = some (.cells #[.int .u64 x0, .int .u64 x1, .int .u64 x2, .int .u64 x3, .int .u64 x4, .int .u64 x5, .int .u64 x6] 77 (0, 0))) := HA9
                  clear HV HA9
                  have HV := n0_
                  have HA9 := n2_
                  clear n0_ n2_
                  have k0 : wq.drew.cell? ⟨gp, 0, none⟩ = some (.int .i64 y1) := (blk_cell HV.bp 0).trans rfl
                  have k1 : wq.drew.cell? ⟨gp, 1, none⟩ = some (.int .i64 y3) := (blk_cell HV.bp 1).trans rfl
                  have k2 : wq.drew.cell? ⟨gp, 2, none⟩ = some (.int .u32 y4) := (blk_cell HV.bp 2).trans rfl
                  have k3 : wq.drew.cell? ⟨gp, 3, none⟩ = some (.int .u32 y5) := (blk_cell HV.bp 3).trans rfl
                  have k4 : wq.drew.cell? ⟨gp, 4, none⟩ = some (.int .u64 x6) := (blk_cell HV.bp 4).trans rfl
                  have k5 : wq.drew.cell? ⟨gp, 5, none⟩ = some (.string s1) := (blk_cell HV.bp 5).trans rfl
                  have k6 : wq.drew.cell? ⟨gh, 2, none⟩ = some (.int .u64 x2) := (blk_cell HA9.out 2).trans rfl
                  have k7 : wq.drew.cell? ⟨gh, 0, none⟩ = some (.int .u64 x0) := (blk_cell HA9.out 0).trans rfl
                  refine start_ (n := 24) (S := fun w' => w'.cell? ⟨gp, 0, none⟩ = some (.int .i64 y1) ∧ w'.cell? ⟨gp, 1, none⟩ = some (.int .i64 y3) ∧ w'.cell? ⟨gp, 2, none⟩ = some (.int .u32 y4) ∧ w'.cell? ⟨gp, 3, none⟩ = some (.int .u32 y5) ∧ w'.cell? ⟨gp, 4, none⟩ = some (.int .u64 x6) ∧ w'.cell? ⟨gp, 5, none⟩ = some (.string s1) ∧ w'.cell? ⟨gh, 2, none⟩ = some (.int .u64 x2) ∧ w'.cell? ⟨gh, 0, none⟩ = some (.int .u64 x0)) (ds := []) #[false, false, false, false, false, false, false, false, false, false, false, false, false, false, false, false, false, false, false, false, false, false, false, false] (by kernel_rfl) rfl rfl ⟨k0, k1, k2, k3, k4, k5, k6, k7⟩ (fun hHeld => ?_)
                  clear k0 k1 k2 k3 k4 k5 k6 k7
                  refine with_tabW frame_Get.tab9 frame_Get.bits9 (fun HT_ HW_ => ?_)
                  generalize wq.drew = we at HV HA9 hHeld ⊢
                  refine pure_ (i := 0) (N := some 44) (v := ?_) (a' := ?_) #[true, false, false, false, false, false, false, false, false, false, false, false, false, false, false, false, false, false, false, false, false, false, false, false] rfl rfl (any_of HT_.out (by kernel_rfl)) (fun c_ a_ w_ h_ => panicD_put 44 _ (results_two (fn := Try.f19) rfl 44 _ (by decide) (by decide)) c_ a_ w_ h_) (Or.inl ⟨by rfl, ?_⟩) ?_ ?_
                  rotate_left
                  · intro w'
                    go_simp
                    with_reducible rfl
                  rotate_left
                  · skip
                    simp only [Act.put, List.setIfInBounds_toArray, List.set_cons_zero, List.set_cons_succ, i64_w, i32_w]
                    rfl
                  refine take_ (i := 1) (N := some 45) (v := ?_) (a' := ?_) #[true, true, false, false, false, false, false, false, false, false, false, false, false, false, false, false, false, false, false, false, false, false, false, false] rfl rfl (take_ofW HT_.out HW_.out (by kernel_rfl)) (fun c_ a_ w_ h_ => panicD_put 45 _ (results_two (fn := Try.f19) rfl 45 _ (by decide) (by decide)) c_ a_ w_ h_) (Or.inl ⟨by rfl, ?_⟩) hHeld ?_ ?_
                  rotate_left
                  · rintro w' ⟨s0, s1, s2, s3, s4, s5, s6, s7⟩
                    go_simp
                    with_reducible rfl
                  rotate_left
                  · skip
                    simp only [Act.put, List.setIfInBounds_toArray, List.set_cons_zero, List.set_cons_succ, i64_w, i32_w]
                    rfl
                  refine one_ (i := 2) (N := some 46) #[true, true, true, false, false, false, false, false, false, false, false, false, false, false, false, false, false, false, false, false, false, false, false, false] rfl rfl (one_of HT_.out (by kernel_rfl)) (by decide) (fun K hK => ?_)
                  refine goes_ Try.func44 (by kernel_rfl) rfl #[.int .i64 a0, .agg #[.int .i64 y1, .int .i64 y3, .int .u32 y4, .int .u32 y5, .int .u64 x6, .string s1]] (by rfl) rfl rfl (by (try simp only [List.map_toArray, List.map_cons, List.map_nil]); first | done | rfl) ?_
                  with_reducible refine (frame_may.calls a0 y1 y3 y4 y5 x6 s1 true _ AM.out).mono ?_
                  rintro e wf ⟨rfl, hb⟩
                  refine ⟨_, rfl, ?_⟩
                  have n0_ := HV.below hb
                  have n1_ := Aside0.mk (blk_below HA9.out hb)
                  clear HV HA9 hb
                  have HV := n0_
                  have HA9 := n1_
                  clear n0_ n1_
                  refine hK.out _ _ ⟨(blk_cell HV.bp 0).trans rfl, (blk_cell HV.bp 1).trans rfl, (blk_cell HV.bp 2).trans rfl, (blk_cell HV.bp 3).trans rfl, (blk_cell HV.bp 4).trans rfl, (blk_cell HV.bp 5).trans rfl, (blk_cell HA9.out 2).trans rfl, (blk_cell HA9.out 0).trans rfl⟩ (fun hHeld => ?_)
                  clear hK K
                  refine norm_ (a' := ?_) ?_ ?_
                  rotate_left
                  · show Act.put _ (some 46) _ = _
                    simp only [Act.put, List.setIfInBounds_toArray, List.set_cons_zero, List.set_cons_succ, i64_w, i32_w]
                    rfl
                  refine pure_ (i := 3) (N := some 47) (v := ?_) (a' := ?_) #[true, true, true, true, false, false, false, false, false, false, false, false, false, false, false, false, false, false, false, false, false, false, false, false] rfl rfl (any_of HT_.out (by kernel_rfl)) (fun c_ a_ w_ h_ => panicD_put 47 _ (results_two (fn := Try.f19) rfl 47 _ (by decide) (by decide)) c_ a_ w_ h_) (Or.inl ⟨by rfl, ?_⟩) ?_ ?_
                  rotate_left
                  · intro w'
                    go_simp
                    with_reducible rfl
                  rotate_left
                  · skip
                    simp only [Act.put, List.setIfInBounds_toArray, List.set_cons_zero, List.set_cons_succ, i64_w, i32_w]
                    rfl
                  refine pure_ (i := 4) (N := some 48) (v := ?_) (a' := ?_) #[true, true, true, true, true, false, false, false, false, false, false, false, false, false, false, false, false, false, false, false, false, false, false, false] rfl rfl (any_of HT_.out (by kernel_rfl)) (fun c_ a_ w_ h_ => panicD_put 48 _ (results_two (fn := Try.f19) rfl 48 _ (by decide) (by decide)) c_ a_ w_ h_) (Or.inl ⟨by rfl, ?_⟩) ?_ ?_
                  rotate_left
                  · intro w'
                    go_simp
                    with_reducible rfl
                  rotate_left
                  · skip
                    simp only [Act.put, List.setIfInBounds_toArray, List.set_cons_zero, List.set_cons_succ, i64_w, i32_w]
                    rfl
                  refine pure_ (i := 5) (N := some 49) (v := ?_) (a' := ?_) #[true, true, true, true, true, true, false, false, false, false, false, false, false, false, false, false, false, false, false, false, false, false, false, false] rfl rfl (any_of HT_.out (by kernel_rfl)) (fun c_ a_ w_ h_ => panicD_put 49 _ (results_two (fn := Try.f19) rfl 49 _ (by decide) (by decide)) c_ a_ w_ h_) (Or.inl ⟨by rfl, ?_⟩) ?_ ?_
                  rotate_left
                  · intro w'
                    go_simp
                    with_reducible rfl
                  rotate_left
                  · skip
                    simp only [Act.put, List.setIfInBounds_toArray, List.set_cons_zero, List.set_cons_succ, i64_w, i32_w]
                    rfl
                  refine take_ (i := 6) (N := some 50) (v := ?_) (a' := ?_) #[true, true, true, true, true, true, true, false, false, false, false, false, false, false, false, false, false, false, false, false, false, false, false, false] rfl rfl (take_ofW HT_.out HW_.out (by kernel_rfl)) (fun c_ a_ w_ h_ => panicD_put 50 _ (results_two (fn := Try.f19) rfl 50 _ (by decide) (by decide)) c_ a_ w_ h_) (Or.inl ⟨by rfl, ?_⟩) hHeld ?_ ?_
                  rotate_left
                  · rintro w' ⟨s0, s1, s2, s3, s4, s5, s6, s7⟩
                    go_simp
                    with_reducible rfl
                  rotate_left
                  · skip
                    simp only [Act.put, List.setIfInBounds_toArray, List.set_cons_zero, List.set_cons_succ, i64_w, i32_w]
                    rfl
                  refine pure_ (i := 7) (N := some 51) (v := ?_) (a' := ?_) #[true, true, true, true, true, true, true, true, false, false, false, false, false, false, false, false, false, false, false, false, false, false, false, false] rfl rfl (any_of HT_.out (by kernel_rfl)) (fun c_ a_ w_ h_ => panicD_put 51 _ (results_two (fn := Try.f19) rfl 51 _ (by decide) (by decide)) c_ a_ w_ h_) (Or.inl ⟨by rfl, ?_⟩) ?_ ?_
                  rotate_left
                  · intro w'
                    go_simp
                    with_reducible rfl
                  rotate_left
                  · skip
                    simp only [Act.put, List.setIfInBounds_toArray, List.set_cons_zero, List.set_cons_succ, i64_w, i32_w]
                    rfl
                  refine pure_ (i := 8) (N := some 52) (v := ?_) (a' := ?_) #[true, true, true, true, true, true, true, true, true, false, false, false, false, false, false, false, false, false, false, false, false, false, false, false] rfl rfl (any_of HT_.out (by kernel_rfl)) (fun c_ a_ w_ h_ => panicD_put 52 _ (results_two (fn := Try.f19) rfl 52 _ (by decide) (by decide)) c_ a_ w_ h_) (Or.inl ⟨by rfl, ?_⟩) ?_ ?_
                  rotate_left
                  · intro w'
                    go_simp
                    with_reducible rfl
                  rotate_left
                  · skip
                    simp only [Act.put, List.setIfInBounds_toArray, List.set_cons_zero, List.set_cons_succ, i64_w, i32_w]
                    rfl
                  refine pure_ (i := 9) (N := some 53) (v := ?_) (a' := ?_) #[true, true, true, true, true, true, true, true, true, true, false, false, false, false, false, false, false, false, false, false, false, false, false, false] rfl rfl (any_of HT_.out (by kernel_rfl)) (fun c_ a_ w_ h_ => panicD_put 53 _ (results_two (fn := Try.f19) rfl 53 _ (by decide) (by decide)) c_ a_ w_ h_) (Or.inl ⟨by rfl, ?_⟩) ?_ ?_
                  rotate_left
                  · intro w'
                    go_simp
                    with_reducible rfl
                  rotate_left
                  · skip
                    simp only [Act.put, List.setIfInBounds_toArray, List.set_cons_zero, List.set_cons_succ, i64_w, i32_w]
                    rfl
                  refine pure_ (i := 10) (N := some 54) (v := ?_) (a' := ?_) #[true, true, true, true, true, true, true, true, true, true, true, false, false, false, false, false, false, false, false, false, false, false, false, false] rfl rfl (any_of HT_.out (by kernel_rfl)) (fun c_ a_ w_ h_ => panicD_put 54 _ (results_two (fn := Try.f19) rfl 54 _ (by decide) (by decide)) c_ a_ w_ h_) (Or.inl ⟨by rfl, ?_⟩) ?_ ?_
                  rotate_left
                  · intro w'
                    go_simp
                    with_reducible rfl
                  rotate_left
                  · skip
                    simp only [Act.put, List.setIfInBounds_toArray, List.set_cons_zero, List.set_cons_succ, i64_w, i32_w]
                    rfl
                  refine take_ (i := 11) (N := some 55) (v := ?_) (a' := ?_) #[true, true, true, true, true, true, true, true, true, true, true, true, false, false, false, false, false, false, false, false, false, false, false, false] rfl rfl (take_ofW HT_.out HW_.out (by kernel_rfl)) (fun c_ a_ w_ h_ => panicD_put 55 _ (results_two (fn := Try.f19) rfl 55 _ (by decide) (by decide)) c_ a_ w_ h_) (Or.inl ⟨by rfl, ?_⟩) hHeld ?_ ?_
                  rotate_left
                  · rintro w' ⟨s0, s1, s2, s3, s4, s5, s6, s7⟩
                    go_simp
                    with_reducible rfl
                  rotate_left
                  · skip
                    simp only [Act.put, List.setIfInBounds_toArray, List.set_cons_zero, List.set_cons_succ, i64_w, i32_w]
                    rfl
                  refine pure_ (i := 12) (N := some 56) (v := ?_) (a' := ?_) #[true, true, true, true, true, true, true, true, true, true, true, true, true, false, false, false, false, false, false, false, false, false, false, false] rfl rfl (any_of HT_.out (by kernel_rfl)) (fun c_ a_ w_ h_ => panicD_put 56 _ (results_two (fn := Try.f19) rfl 56 _ (by decide) (by decide)) c_ a_ w_ h_) (Or.inl ⟨by rfl, ?_⟩) ?_ ?_
                  rotate_left
                  · intro w'
                    go_simp
                    with_reducible rfl
                  rotate_left
                  · skip
                    simp only [Act.put, List.setIfInBounds_toArray, List.set_cons_zero, List.set_cons_succ, i64_w, i32_w]
                    rfl
                  refine pure_ (i := 13) (N := some 57) (v := ?_) (a' := ?_) #[true, true, true, true, true, true, true, true, true, true, true, true, true, true, false, false, false, false, false, false, false, false, false, false] rfl rfl (any_of HT_.out (by kernel_rfl)) (fun c_ a_ w_ h_ => panicD_put 57 _ (results_two (fn := Try.f19) rfl 57 _ (by decide) (by decide)) c_ a_ w_ h_) (Or.inl ⟨by rfl, ?_⟩) ?_ ?_
                  rotate_left
                  · intro w'
                    go_simp
                    with_reducible rfl
                  rotate_left
                  · skip
                    simp only [Act.put, List.setIfInBounds_toArray, List.set_cons_zero, List.set_cons_succ, i64_w, i32_w]
                    rfl
                  refine pure_ (i := 14) (N := some 58) (v := ?_) (a' := ?_) #[true, true, true, true, true, true, true, true, true, true, true, true, true, true, true, false, false, false, false, false, false, false, false, false] rfl rfl (any_of HT_.out (by kernel_rfl)) (fun c_ a_ w_ h_ => panicD_put 58 _ (results_two (fn := Try.f19) rfl 58 _ (by decide) (by decide)) c_ a_ w_ h_) (Or.inl ⟨by rfl, ?_⟩) ?_ ?_
                  rotate_left
                  · intro w'
                    go_simp
                    with_reducible rfl
                  rotate_left
                  · skip
                    simp only [Act.put, List.setIfInBounds_toArray, List.set_cons_zero, List.set_cons_succ, i64_w, i32_w]
                    rfl
                  refine pure_ (i := 15) (N := some 59) (v := ?_) (a' := ?_) #[true, true, true, true, true, true, true, true, true, true, true, true, true, true, true, true, false, false, false, false, false, false, false, false] rfl rfl (any_of HT_.out (by kernel_rfl)) (fun c_ a_ w_ h_ => panicD_put 59 _ (results_two (fn := Try.f19) rfl 59 _ (by decide) (by decide)) c_ a_ w_ h_) (Or.inl ⟨by rfl, ?_⟩) ?_ ?_
                  rotate_left
                  · intro w'
                    go_simp
                    with_reducible rfl
                  rotate_left
                  · skip
                    simp only [Act.put, List.setIfInBounds_toArray, List.set_cons_zero, List.set_cons_succ, i64_w, i32_w]
                    rfl
                  refine pure_ (i := 16) (N := some 60) (v := ?_) (a' := ?_) #[true, true, true, true, true, true, true, true, true, true, true, true, true, true, true, true, true, false, false, false, false, false, false, false] rfl rfl (any_of HT_.out (by kernel_rfl)) (fun c_ a_ w_ h_ => panicD_put 60 _ (results_two (fn := Try.f19) rfl 60 _ (by decide) (by decide)) c_ a_ w_ h_) (Or.inl ⟨by rfl, ?_⟩) ?_ ?_
                  rotate_left
                  · intro w'
                    go_simp
                    with_reducible rfl
                  rotate_left
                  · skip
                    simp only [Act.put, List.setIfInBounds_toArray, List.set_cons_zero, List.set_cons_succ, i64_w, i32_w]
                    rfl
                  refine take_ (i := 17) (N := some 61) (v := ?_) (a' := ?_) #[true, true, true, true, true, true, true, true, true, true, true, true, true, true, true, true, true, true, false, false, false, false, false, false] rfl rfl (take_ofW HT_.out HW_.out (by kernel_rfl)) (fun c_ a_ w_ h_ => panicD_put 61 _ (results_two (fn := Try.f19) rfl 61 _ (by decide) (by decide)) c_ a_ w_ h_) (Or.inl ⟨by rfl, ?_⟩) hHeld ?_ ?_
                  rotate_left
                  · rintro w' ⟨s0, s1, s2, s3, s4, s5, s6, s7⟩
                    go_simp
                    with_reducible rfl
                  rotate_left
                  · skip
                    simp only [Act.put, List.setIfInBounds_toArray, List.set_cons_zero, List.set_cons_succ, i64_w, i32_w]
                    rfl
                  refine pure_ (i := 18) (N := some 62) (v := ?_) (a' := ?_) #[true, true, true, true, true, true, true, true, true, true, true, true, true, true, true, true, true, true, true, false, false, false, false, false] rfl rfl (any_of HT_.out (by kernel_rfl)) (fun c_ a_ w_ h_ => panicD_put 62 _ (results_two (fn := Try.f19) rfl 62 _ (by decide) (by decide)) c_ a_ w_ h_) (Or.inl ⟨by rfl, ?_⟩) ?_ ?_
                  rotate_left
                  · intro w'
                    go_simp
                    with_reducible rfl
                  rotate_left
                  · skip
                    simp only [Act.put, List.setIfInBounds_toArray, List.set_cons_zero, List.set_cons_succ, i64_w, i32_w]
                    rfl
                  refine pure_ (i := 19) (N := some 63) (v := ?_) (a' := ?_) #[true, true, true, true, true, true, true, true, true, true, true, true, true, true, true, true, true, true, true, true, false, false, false, false] rfl rfl (any_of HT_.out (by kernel_rfl)) (fun c_ a_ w_ h_ => panicD_put 63 _ (results_two (fn := Try.f19) rfl 63 _ (by decide) (by decide)) c_ a_ w_ h_) (Or.inl ⟨by rfl, ?_⟩) ?_ ?_
                  rotate_left
                  · intro w'
                    go_simp
                    with_reducible rfl
                  rotate_left
                  · skip
                    simp only [Act.put, List.setIfInBounds_toArray, List.set_cons_zero, List.set_cons_succ, i64_w, i32_w]
                    rfl
                  refine one_ (i := 20) (N := some 64) #[true, true, true, true, true, true, true, true, true, true, true, true, true, true, true, true, true, true, true, true, true, false, false, false] rfl rfl (one_of HT_.out (by kernel_rfl)) (by decide) (fun K hK => ?_)
                  refine goes_ Try.func46 (by kernel_rfl) rfl #[.string (a2.extract 4 a2.size)] (by rfl) rfl rfl (by (try simp only [List.map_toArray, List.map_cons, List.map_nil]); first | done | rfl) ?_
                  with_reducible refine (crc_Of.calls (a2.extract 4 a2.size) c _ AC.out).mono ?_
                  rintro e wg ⟨rfl, hb⟩
                  refine ⟨_, rfl, ?_⟩
                  have n0_ := HV.below hb
                  have n1_ := Aside0.mk (blk_below HA9.out hb)
                  clear HV HA9 hb
                  have HV := n0_
                  have HA9 := n1_
                  clear n0_ n1_
                  refine hK.out _ _ ⟨(blk_cell HV.bp 0).trans rfl, (blk_cell HV.bp 1).trans rfl, (blk_cell HV.bp 2).trans rfl, (blk_cell HV.bp 3).trans rfl, (blk_cell HV.bp 4).trans rfl, (blk_cell HV.bp 5).trans rfl, (blk_cell HA9.out 2).trans rfl, (blk_cell HA9.out 0).trans rfl⟩ (fun hHeld => ?_)
                  clear hK K
                  refine norm_ (a' := ?_) ?_ ?_
                  rotate_left
                  · show Act.put _ (some 64) _ = _
                    simp only [Act.put, List.setIfInBounds_toArray, List.set_cons_zero, List.set_cons_succ, i64_w, i32_w]
                    rfl
                  refine pure_ (i := 21) (N := some 65) (v := ?_) (a' := ?_) #[true, true, true, true, true, true, true, true, true, true, true, true, true, true, true, true, true, true, true, true, true, true, false, false] rfl rfl (any_of HT_.out (by kernel_rfl)) (fun c_ a_ w_ h_ => panicD_put 65 _ (results_two (fn := Try.f19) rfl 65 _ (by decide) (by decide)) c_ a_ w_ h_) (Or.inl ⟨by rfl, ?_⟩) ?_ ?_
                  rotate_left
                  · intro w'
                    go_simp
                    with_reducible rfl
                  rotate_left
                  · skip
                    simp only [Act.put, List.setIfInBounds_toArray, List.set_cons_zero, List.set_cons_succ, i64_w, i32_w]
                    rfl
                  refine pure_ (i := 22) (N := some 66) (v := ?_) (a' := ?_) #[true, true, true, true, true, true, true, true, true, true, true, true, true, true, true, true, true, true, true, true, true, true, true, false] rfl rfl (any_of HT_.out (by kernel_rfl)) (fun c_ a_ w_ h_ => panicD_put 66 _ (results_two (fn := Try.f19) rfl 66 _ (by decide) (by decide)) c_ a_ w_ h_) (Or.inl ⟨by rfl, ?_⟩) ?_ ?_
                  rotate_left
                  · intro w'
                    go_simp
                    with_reducible rfl
                  rotate_left
                  · skip
                    simp only [Act.put, List.setIfInBounds_toArray, List.set_cons_zero, List.set_cons_succ, i64_w, i32_w]
                    rfl
                  refine pure_ (i := 23) (N := some 67) (v := ?_) (a' := ?_) #[true, true, true, true, true, true, true, true, true, true, true, true, true, true, true, true, true, true, true, true, true, true, true, true] rfl rfl (any_of HT_.out (by kernel_rfl)) (fun c_ a_ w_ h_ => panicD_put 67 _ (results_two (fn := Try.f19) rfl 67 _ (by decide) (by decide)) c_ a_ w_ h_) (Or.inl ⟨by rfl, ?_⟩) ?_ ?_
                  rotate_left
                  · intro w'
                    go_simp
                    with_reducible rfl
                  rotate_left
                  · skip
                    simp only [Act.put, List.setIfInBounds_toArray, List.set_cons_zero, List.set_cons_succ, i64_w, i32_w]
                    rfl
                  clear hHeld
                  refine done_ (done_of HT_.out (by kernel_rfl)) ?_
                  clear HT_ HW_ hia2 hia0
                  go_wp2
                  simp only [Exit.inBlock, Exit.then, bodyPostD]
                  refine leaves_cons (f := 47) (args := #[.pointer (some ⟨gp, 0, none⟩), .pointer (some ⟨ge, 0, none⟩)]) (by simp) (by simp [go_sem]) ?_
                  refine (Get_catch gp ge [] (.int .i64 y1) (.int .i64 y3) (.int .u32 y4) (.int .u32 y5) (.int .u64 x6) (.string s1) _ HV.bp HV.be).mono ?_
                  rintro e u' w9 ⟨rfl, rfl, h1, h2, h3⟩
                  show Leaves _ _ _ _ [] .returning w9
                  have q0 := (blk_cell h1 0).trans (show #[(.int .i64 0 : Value), (.int .i64 0 : Value), (.int .u32 0 : Value), (.int .u32 0 : Value), (.int .u64 0 : Value), (.string (⟨#[]⟩ : ByteArray) : Value)][0]? = some (.int .i64 0) from rfl)
                  have q1 := (blk_cell h1 1).trans (show #[(.int .i64 0 : Value), (.int .i64 0 : Value), (.int .u32 0 : Value), (.int .u32 0 : Value), (.int .u64 0 : Value), (.string (⟨#[]⟩ : ByteArray) : Value)][1]? = some (.int .i64 0) from rfl)
                  have q2 := (blk_cell h1 2).trans (show #[(.int .i64 0 : Value), (.int .i64 0 : Value), (.int .u32 0 : Value), (.int .u32 0 : Value), (.int .u64 0 : Value), (.string (⟨#[]⟩ : ByteArray) : Value)][2]? = some (.int .u32 0) from rfl)
                  have q3 := (blk_cell h1 3).trans (show #[(.int .i64 0 : Value), (.int .i64 0 : Value), (.int .u32 0 : Value), (.int .u32 0 : Value), (.int .u64 0 : Value), (.string (⟨#[]⟩ : ByteArray) : Value)][3]? = some (.int .u32 0) from rfl)
                  have q4 := (blk_cell h1 4).trans (show #[(.int .i64 0 : Value), (.int .i64 0 : Value), (.int .u32 0 : Value), (.int .u32 0 : Value), (.int .u64 0 : Value), (.string (⟨#[]⟩ : ByteArray) : Value)][4]? = some (.int .u64 0) from rfl)
                  have q5 := (blk_cell h1 5).trans (show #[(.int .i64 0 : Value), (.int .i64 0 : Value), (.int .u32 0 : Value), (.int .u32 0 : Value), (.int .u64 0 : Value), (.string (⟨#[]⟩ : ByteArray) : Value)][5]? = some (.string (⟨#[]⟩ : ByteArray)) from rfl)
                  have q6 := (blk_cell h2 0).trans (show #[(.int .i64 4 : Value)][0]? = some (.int .i64 4) from rfl)
                  exact ⟨.tuple #[.agg #[.int .i64 0, .int .i64 0, .int .u32 0, .int .u32 0, .int .u64 0, .string (⟨#[]⟩ : ByteArray)], .int .i64 4], by simp [results, Try.results19, go_sem, Try.underlying27, q0, q1, q2, q3, q4, q5, q6], rfl, HV.hb.trans (h3 _ HV.hp HV.he HV.hb.size)⟩
              · rw [if_neg c4] at H
                cases H
            · rw [if_neg c3] at H
              have c3a : (y4 != a1) = true := bne_iff_ne.mpr c3
              have c3b : (y4 == a1) = false := beq_eq_false_iff_ne.mpr c3
              clear c3
              simp only [Option.some.injEq, Prod.mk.injEq] at H
              obtain ⟨rfl, rfl, rfl, rfl, rfl, rfl, rfl⟩ := H
              go_wp2
              have hia2 : ∀ W, (Instr.indexAt 77 (.pointer (some ⟨gh, 0, none⟩)) (.int .i64 2)).run Try.prog W = .ok (.pointer (some ⟨gh, 2, none⟩)) W := fun W => run_indexAt_arr (P := Try.prog) (W := W) 77 Try.underlying77 (by kernel_rfl) gh .i64 2 (by decide) (by decide)
              have hia0 : ∀ W, (Instr.indexAt 77 (.pointer (some ⟨gh, 0, none⟩)) (.int .i64 0)).run Try.prog W = .ok (.pointer (some ⟨gh, 0, none⟩)) W := fun W => run_indexAt_arr (P := Try.prog) (W := W) 77 Try.underlying77 (by kernel_rfl) gh .i64 0 (by decide) (by decide)
              have n0_ := HV.drew
              have n2_ : Aside0 (wq.drew.heap[gh]? = some (.cells #[.int .u64 x0, .int .u64 x1, .int .u64 x2, .int .u64 x3, .int .u64 x4, .int .u64 x5, .int .u64 x6] 77 (0, 0))) := HA9
              clear HV HA9
              have HV := n0_
              have HA9 := n2_
              clear n0_ n2_
              have k0 : wq.drew.cell? ⟨gp, 0, none⟩ = some (.int .i64 y1) := (blk_cell HV.bp 0).trans rfl
              have k1 : wq.drew.cell? ⟨gp, 1, none⟩ = some (.int .i64 y3) := (blk_cell HV.bp 1).trans rfl
              have k2 : wq.drew.cell? ⟨gp, 2, none⟩ = some (.int .u32 y4) := (blk_cell HV.bp 2).trans rfl
              have k3 : wq.drew.cell? ⟨gp, 3, none⟩ = some (.int .u32 y5) := (blk_cell HV.bp 3).trans rfl
              have k4 : wq.drew.cell? ⟨gp, 4, none⟩ = some (.int .u64 x6) := (blk_cell HV.bp 4).trans rfl
              have k5 : wq.drew.cell? ⟨gp, 5, none⟩ = some (.string s1) := (blk_cell HV.bp 5).trans rfl
              have k6 : wq.drew.cell? ⟨gh, 2, none⟩ = some (.int .u64 x2) := (blk_cell HA9.out 2).trans rfl
              have k7 : wq.drew.cell? ⟨gh, 0, none⟩ = some (.int .u64 x0) := (blk_cell HA9.out 0).trans rfl
              refine start_ (n := 24) (S := fun w' => w'.cell? ⟨gp, 0, none⟩ = some (.int .i64 y1) ∧ w'.cell? ⟨gp, 1, none⟩ = some (.int .i64 y3) ∧ w'.cell? ⟨gp, 2, none⟩ = some (.int .u32 y4) ∧ w'.cell? ⟨gp, 3, none⟩ = some (.int .u32 y5) ∧ w'.cell? ⟨gp, 4, none⟩ = some (.int .u64 x6) ∧ w'.cell? ⟨gp, 5, none⟩ = some (.string s1) ∧ w'.cell? ⟨gh, 2, none⟩ = some (.int .u64 x2) ∧ w'.cell? ⟨gh, 0, none⟩ = some (.int .u64 x0)) (ds := []) #[false, false, false, false, false, false, false, false, false, false, false, false, false, false, false, false, false, false, false, false, false, false, false, false] (by kernel_rfl) rfl rfl ⟨k0, k1, k2, k3, k4, k5, k6, k7⟩ (fun hHeld => ?_)
              clear k0 k1 k2 k3 k4 k5 k6 k7
              refine with_tabW frame_Get.tab9 frame_Get.bits9 (fun HT_ HW_ => ?_)
              generalize wq.drew = we at HV HA9 hHeld ⊢
              refine pure_ (i := 0) (N := some 44) (v := ?_) (a' := ?_) #[true, false, false, false, false, false, false, false, false, false, false, false, false, false, false, false, false, false, false, false, false, false, false, false] rfl rfl (any_of HT_.out (by kernel_rfl)) (fun c_ a_ w_ h_ => panicD_put 44 _ (results_two (fn := Try.f19) rfl 44 _ (by decide) (by decide)) c_ a_ w_ h_) (Or.inl ⟨by rfl, ?_⟩) ?_ ?_
              rotate_left
              · intro w'
                go_simp
                with_reducible rfl
              rotate_left
              · skip
                simp only [Act.put, List.setIfInBounds_toArray, List.set_cons_zero, List.set_cons_succ, i64_w, i32_w]
                rfl
              refine take_ (i := 1) (N := some 45) (v := ?_) (a' := ?_) #[true, true, false, false, false, false, false, false, false, false, false, false, false, false, false, false, false, false, false, false, false, false, false, false] rfl rfl (take_ofW HT_.out HW_.out (by kernel_rfl)) (fun c_ a_ w_ h_ => panicD_put 45 _ (results_two (fn := Try.f19) rfl 45 _ (by decide) (by decide)) c_ a_ w_ h_) (Or.inl ⟨by rfl, ?_⟩) hHeld ?_ ?_
              rotate_left
              · rintro w' ⟨s0, s1, s2, s3, s4, s5, s6, s7⟩
                go_simp
                with_reducible rfl
              rotate_left
              · skip
                simp only [Act.put, List.setIfInBounds_toArray, List.set_cons_zero, List.set_cons_succ, i64_w, i32_w]
                rfl
              refine one_ (i := 2) (N := some 46) #[true, true, true, false, false, false, false, false, false, false, false, false, false, false, false, false, false, false, false, false, false, false, false, false] rfl rfl (one_of HT_.out (by kernel_rfl)) (by decide) (fun K hK => ?_)
              refine goes_ Try.func44 (by kernel_rfl) rfl #[.int .i64 a0, .agg #[.int .i64 y1, .int .i64 y3, .int .u32 y4, .int .u32 y5, .int .u64 x6, .string s1]] (by rfl) rfl rfl (by (try simp only [List.map_toArray, List.map_cons, List.map_nil]); first | done | rfl) ?_
              with_reducible refine (frame_may.calls a0 y1 y3 y4 y5 x6 s1 true _ AM.out).mono ?_
              rintro e wf ⟨rfl, hb⟩
              refine ⟨_, rfl, ?_⟩
              have n0_ := HV.below hb
              have n1_ := Aside0.mk (blk_below HA9.out hb)
              clear HV HA9 hb
              have HV := n0_
              have HA9 := n1_
              clear n0_ n1_
              refine hK.out _ _ ⟨(blk_cell HV.bp 0).trans rfl, (blk_cell HV.bp 1).trans rfl, (blk_cell HV.bp 2).trans rfl, (blk_cell HV.bp 3).trans rfl, (blk_cell HV.bp 4).trans rfl, (blk_cell HV.bp 5).trans rfl, (blk_cell HA9.out 2).trans rfl, (blk_cell HA9.out 0).trans rfl⟩ (fun hHeld => ?_)
              clear hK K
              refine norm_ (a' := ?_) ?_ ?_
              rotate_left
              · show Act.put _ (some 46) _ = _
                simp only [Act.put, List.setIfInBounds_toArray, List.set_cons_zero, List.set_cons_succ, i64_w, i32_w]
                rfl
              refine pure_ (i := 3) (N := some 47) (v := ?_) (a' := ?_) #[true, true, true, true, false, false, false, false, false, false, false, false, false, false, false, false, false, false, false, false, false, false, false, false] rfl rfl (any_of HT_.out (by kernel_rfl)) (fun c_ a_ w_ h_ => panicD_put 47 _ (results_two (fn := Try.f19) rfl 47 _ (by decide) (by decide)) c_ a_ w_ h_) (Or.inl ⟨by rfl, ?_⟩) ?_ ?_
              rotate_left
              · intro w'
                go_simp
                with_reducible rfl
              rotate_left
              · skip
                simp only [Act.put, List.setIfInBounds_toArray, List.set_cons_zero, List.set_cons_succ, i64_w, i32_w]
                rfl
              refine pure_ (i := 4) (N := some 48) (v := ?_) (a' := ?_) #[true, true, true, true, true, false, false, false, false, false, false, false, false, false, false, false, false, false, false, false, false, false, false, false] rfl rfl (any_of HT_.out (by kernel_rfl)) (fun c_ a_ w_ h_ => panicD_put 48 _ (results_two (fn := Try.f19) rfl 48 _ (by decide) (by decide)) c_ a_ w_ h_) (Or.inl ⟨by rfl, ?_⟩) ?_ ?_
              rotate_left
              · intro w'
                go_simp
                with_reducible rfl
              rotate_left
              · skip
                simp only [Act.put, List.setIfInBounds_toArray, List.set_cons_zero, List.set_cons_succ, i64_w, i32_w]
                rfl
              refine pure_ (i := 5) (N := some 49) (v := ?_) (a' := ?_) #[true, true, true, true, true, true, false, false, false, false, false, false, false, false, false, false, false, false, false, false, false, false, false, false] rfl rfl (any_of HT_.out (by kernel_rfl)) (fun c_ a_ w_ h_ => panicD_put 49 _ (results_two (fn := Try.f19) rfl 49 _ (by decide) (by decide)) c_ a_ w_ h_) (Or.inl ⟨by rfl, ?_⟩) ?_ ?_
              rotate_left
              · intro w'
                go_simp
                with_reducible rfl
              rotate_left
              · skip
                simp only [Act.put, List.setIfInBounds_toArray, List.set_cons_zero, List.set_cons_succ, i64_w, i32_w]
                rfl
              refine take_ (i := 6) (N := some 50) (v := ?_) (a' := ?_) #[true, true, true, true, true, true, true, false, false, false, false, false, false, false, false, false, false, false, false, false, false, false, false, false] rfl rfl (take_ofW HT_.out HW_.out (by kernel_rfl)) (fun c_ a_ w_ h_ => panicD_put 50 _ (results_two (fn := Try.f19) rfl 50 _ (by decide) (by decide)) c_ a_ w_ h_) (Or.inl ⟨by rfl, ?_⟩) hHeld ?_ ?_
              rotate_left
              · rintro w' ⟨s0, s1, s2, s3, s4, s5, s6, s7⟩
                go_simp
                with_reducible rfl
              rotate_left
              · skip
                simp only [Act.put, List.setIfInBounds_toArray, List.set_cons_zero, List.set_cons_succ, i64_w, i32_w]
                rfl
              refine pure_ (i := 7) (N := some 51) (v := ?_) (a' := ?_) #[true, true, true, true, true, true, true, true, false, false, false, false, false, false, false, false, false, false, false, false, false, false, false, false] rfl rfl (any_of HT_.out (by kernel_rfl)) (fun c_ a_ w_ h_ => panicD_put 51 _ (results_two (fn := Try.f19) rfl 51 _ (by decide) (by decide)) c_ a_ w_ h_) (Or.inl ⟨by rfl, ?_⟩) ?_ ?_
              rotate_left
              · intro w'
                go_simp
                with_reducible rfl
              rotate_left
              · skip
                simp only [Act.put, List.setIfInBounds_toArray, List.set_cons_zero, List.set_cons_succ, i64_w, i32_w]
                rfl
              refine pure_ (i := 8) (N := some 52) (v := ?_) (a' := ?_) #[true, true, true, true, true, true, true, true, true, false, false, false, false, false, false, false, false, false, false, false, false, false, false, false] rfl rfl (any_of HT_.out (by kernel_rfl)) (fun c_ a_ w_ h_ => panicD_put 52 _ (results_two (fn := Try.f19) rfl 52 _ (by decide) (by decide)) c_ a_ w_ h_) (Or.inl ⟨by rfl, ?_⟩) ?_ ?_
              rotate_left
              · intro w'
                go_simp
                with_reducible rfl
              rotate_left
              · skip
                simp only [Act.put, List.setIfInBounds_toArray, List.set_cons_zero, List.set_cons_succ, i64_w, i32_w]
                rfl
              refine pure_ (i := 9) (N := some 53) (v := ?_) (a' := ?_) #[true, true, true, true, true, true, true, true, true, true, false, false, false, false, false, false, false, false, false, false, false, false, false, false] rfl rfl (any_of HT_.out (by kernel_rfl)) (fun c_ a_ w_ h_ => panicD_put 53 _ (results_two (fn := Try.f19) rfl 53 _ (by decide) (by decide)) c_ a_ w_ h_) (Or.inl ⟨by rfl, ?_⟩) ?_ ?_
              rotate_left
              · intro w'
                go_simp
                with_reducible rfl
              rotate_left
              · skip
                simp only [Act.put, List.setIfInBounds_toArray, List.set_cons_zero, List.set_cons_succ, i64_w, i32_w]
                rfl
              refine pure_ (i := 10) (N := some 54) (v := ?_) (a' := ?_) #[true, true, true, true, true, true, true, true, true, true, true, false, false, false, false, false, false, false, false, false, false, false, false, false] rfl rfl (any_of HT_.out (by kernel_rfl)) (fun c_ a_ w_ h_ => panicD_put 54 _ (results_two (fn := Try.f19) rfl 54 _ (by decide) (by decide)) c_ a_ w_ h_) (Or.inl ⟨by rfl, ?_⟩) ?_ ?_
              rotate_left
              · intro w'
                go_simp
                with_reducible rfl
              rotate_left
              · skip
                simp only [Act.put, List.setIfInBounds_toArray, List.set_cons_zero, List.set_cons_succ, i64_w, i32_w]
                rfl
              refine take_ (i := 11) (N := some 55) (v := ?_) (a' := ?_) #[true, true, true, true, true, true, true, true, true, true, true, true, false, false, false, false, false, false, false, false, false, false, false, false] rfl rfl (take_ofW HT_.out HW_.out (by kernel_rfl)) (fun c_ a_ w_ h_ => panicD_put 55 _ (results_two (fn := Try.f19) rfl 55 _ (by decide) (by decide)) c_ a_ w_ h_) (Or.inl ⟨by rfl, ?_⟩) hHeld ?_ ?_
              rotate_left
              · rintro w' ⟨s0, s1, s2, s3, s4, s5, s6, s7⟩
                go_simp
                with_reducible rfl
              rotate_left
              · skip
                simp only [Act.put, List.setIfInBounds_toArray, List.set_cons_zero, List.set_cons_succ, i64_w, i32_w]
                rfl
              refine pure_ (i := 12) (N := some 56) (v := ?_) (a' := ?_) #[true, true, true, true, true, true, true, true, true, true, true, true, true, false, false, false, false, false, false, false, false, false, false, false] rfl rfl (any_of HT_.out (by kernel_rfl)) (fun c_ a_ w_ h_ => panicD_put 56 _ (results_two (fn := Try.f19) rfl 56 _ (by decide) (by decide)) c_ a_ w_ h_) (Or.inl ⟨by rfl, ?_⟩) ?_ ?_
              rotate_left
              · intro w'
                go_simp
                with_reducible rfl
              rotate_left
              · skip
                simp only [Act.put, List.setIfInBounds_toArray, List.set_cons_zero, List.set_cons_succ, i64_w, i32_w]
                rfl
              refine pure_ (i := 13) (N := some 57) (v := ?_) (a' := ?_) #[true, true, true, true, true, true, true, true, true, true, true, true, true, true, false, false, false, false, false, false, false, false, false, false] rfl rfl (any_of HT_.out (by kernel_rfl)) (fun c_ a_ w_ h_ => panicD_put 57 _ (results_two (fn := Try.f19) rfl 57 _ (by decide) (by decide)) c_ a_ w_ h_) (Or.inl ⟨by rfl, ?_⟩) ?_ ?_
              rotate_left
              · intro w'
                go_simp
                with_reducible rfl
              rotate_left
              · skip
                simp only [Act.put, List.setIfInBounds_toArray, List.set_cons_zero, List.set_cons_succ, i64_w, i32_w]
                rfl
              refine pure_ (i := 14) (N := some 58) (v := ?_) (a' := ?_) #[true, true, true, true, true, true, true, true, true, true, true, true, true, true, true, false, false, false, false, false, false, false, false, false] rfl rfl (any_of HT_.out (by kernel_rfl)) (fun c_ a_ w_ h_ => panicD_put 58 _ (results_two (fn := Try.f19) rfl 58 _ (by decide) (by decide)) c_ a_ w_ h_) (Or.inl ⟨by rfl, ?_⟩) ?_ ?_
              rotate_left
              · intro w'
                go_simp
                with_reducible rfl
              rotate_left
              · skip
                simp only [Act.put, List.setIfInBounds_toArray, List.set_cons_zero, List.set_cons_succ, i64_w, i32_w]
                rfl
              refine pure_ (i := 15) (N := some 59) (v := ?_) (a' := ?_) #[true, true, true, true, true, true, true, true, true, true, true, true, true, true, true, true, false, false, false, false, false, false, false, false] rfl rfl (any_of HT_.out (by kernel_rfl)) (fun c_ a_ w_ h_ => panicD_put 59 _ (results_two (fn := Try.f19) rfl 59 _ (by decide) (by decide)) c_ a_ w_ h_) (Or.inl ⟨by rfl, ?_⟩) ?_ ?_
              rotate_left
              · intro w'
                go_simp
                with_reducible rfl
              rotate_left
              · skip
                simp only [Act.put, List.setIfInBounds_toArray, List.set_cons_zero, List.set_cons_succ, i64_w, i32_w]
                rfl
              refine pure_ (i := 16) (N := some 60) (v := undef) (a' := ?_) #[true, true, true, true, true, true, true, true, true, true, true, true, true, true, true, true, true, false, false, false, false, false, false, false] rfl rfl (any_of HT_.out (by kernel_rfl)) (fun c_ a_ w_ h_ => panicD_put 60 _ (results_two (fn := Try.f19) rfl 60 _ (by decide) (by decide)) c_ a_ w_ h_) (Or.inr ⟨by rfl, rfl⟩) ?_ ?_
              rotate_left
              · skip
                simp only [Act.put, List.setIfInBounds_toArray, List.set_cons_zero, List.set_cons_succ, i64_w, i32_w]
                rfl
              refine pure_ (i := 17) (N := some 61) (v := undef) (a' := ?_) #[true, true, true, true, true, true, true, true, true, true, true, true, true, true, true, true, true, true, false, false, false, false, false, false] rfl rfl (any_of HT_.out (by kernel_rfl)) (fun c_ a_ w_ h_ => panicD_put 61 _ (results_two (fn := Try.f19) rfl 61 _ (by decide) (by decide)) c_ a_ w_ h_) (Or.inr ⟨by rfl, rfl⟩) ?_ ?_
              rotate_left
              · skip
                simp only [Act.put, List.setIfInBounds_toArray, List.set_cons_zero, List.set_cons_succ, i64_w, i32_w]
                rfl
              refine pure_ (i := 18) (N := some 62) (v := undef) (a' := ?_) #[true, true, true, true, true, true, true, true, true, true, true, true, true, true, true, true, true, true, true, false, false, false, false, false] rfl rfl (any_of HT_.out (by kernel_rfl)) (fun c_ a_ w_ h_ => panicD_put 62 _ (results_two (fn := Try.f19) rfl 62 _ (by decide) (by decide)) c_ a_ w_ h_) (Or.inr ⟨by rfl, rfl⟩) ?_ ?_
              rotate_left
              · skip
                simp only [Act.put, List.setIfInBounds_toArray, List.set_cons_zero, List.set_cons_succ, i64_w, i32_w]
                rfl
              refine pure_ (i := 19) (N := some 63) (v := undef) (a' := ?_) #[true, true, true, true, true, true, true, true, true, true, true, true, true, true, true, true, true, true, true, true, false, false, false, false] rfl rfl (any_of HT_.out (by kernel_rfl)) (fun c_ a_ w_ h_ => panicD_put 63 _ (results_two (fn := Try.f19) rfl 63 _ (by decide) (by decide)) c_ a_ w_ h_) (Or.inr ⟨by rfl, rfl⟩) ?_ ?_
              rotate_left
              · skip
                simp only [Act.put, List.setIfInBounds_toArray, List.set_cons_zero, List.set_cons_succ, i64_w, i32_w]
                rfl
              refine pure_ (i := 20) (N := some 64) (v := undef) (a' := ?_) #[true, true, true, true, true, true, true, true, true, true, true, true, true, true, true, true, true, true, true, true, true, false, false, false] rfl rfl (any_of HT_.out (by kernel_rfl)) (fun c_ a_ w_ h_ => panicD_put 64 _ (results_two (fn := Try.f19) rfl 64 _ (by decide) (by decide)) c_ a_ w_ h_) (Or.inr ⟨by rfl, rfl⟩) ?_ ?_
              rotate_left
              · skip
                simp only [Act.put, List.setIfInBounds_toArray, List.set_cons_zero, List.set_cons_succ, i64_w, i32_w]
                rfl
              refine pure_ (i := 21) (N := some 65) (v := undef) (a' := ?_) #[true, true, true, true, true, true, true, true, true, true, true, true, true, true, true, true, true, true, true, true, true, true, false, false] rfl rfl (any_of HT_.out (by kernel_rfl)) (fun c_ a_ w_ h_ => panicD_put 65 _ (results_two (fn := Try.f19) rfl 65 _ (by decide) (by decide)) c_ a_ w_ h_) (Or.inr ⟨by rfl, rfl⟩) ?_ ?_
              rotate_left
              · skip
                simp only [Act.put, List.setIfInBounds_toArray, List.set_cons_zero, List.set_cons_succ, i64_w, i32_w]
                rfl
              refine pure_ (i := 22) (N := some 66) (v := undef) (a' := ?_) #[true, true, true, true, true, true, true, true, true, true, true, true, true, true, true, true, true, true, true, true, true, true, true, false] rfl rfl (any_of HT_.out (by kernel_rfl)) (fun c_ a_ w_ h_ => panicD_put 66 _ (results_two (fn := Try.f19) rfl 66 _ (by decide) (by decide)) c_ a_ w_ h_) (Or.inr ⟨by rfl, rfl⟩) ?_ ?_
              rotate_left
              · skip
                simp only [Act.put, List.setIfInBounds_toArray, List.set_cons_zero, List.set_cons_succ, i64_w, i32_w]
                rfl
              refine pure_ (i := 23) (N := some 67) (v := ?_) (a' := ?_) #[true, true, true, true, true, true, true, true, true, true, true, true, true, true, true, true, true, true, true, true, true, true, true, true] rfl rfl (any_of HT_.out (by kernel_rfl)) (fun c_ a_ w_ h_ => panicD_put 67 _ (results_two (fn := Try.f19) rfl 67 _ (by decide) (by decide)) c_ a_ w_ h_) (Or.inl ⟨by rfl, ?_⟩) ?_ ?_
              rotate_left
              · intro w'
                go_simp
                with_reducible rfl
              rotate_left
              · skip
                simp only [Act.put, List.setIfInBounds_toArray, List.set_cons_zero, List.set_cons_succ, i64_w, i32_w]
                rfl
              clear hHeld
              refine done_ (done_of HT_.out (by kernel_rfl)) ?_
              clear HT_ HW_ hia2 hia0
              go_wp2
              simp only [Exit.inBlock, Exit.then, bodyPostD]
              refine leaves_cons (f := 47) (args := #[.pointer (some ⟨gp, 0, none⟩), .pointer (some ⟨ge, 0, none⟩)]) (by simp) (by simp [go_sem]) ?_
              refine (Get_catch gp ge [] (.int .i64 y1) (.int .i64 y3) (.int .u32 y4) (.int .u32 y5) (.int .u64 x6) (.string s1) _ HV.bp HV.be).mono ?_
              rintro e u' w9 ⟨rfl, rfl, h1, h2, h3⟩
              show Leaves _ _ _ _ [] .returning w9
              have q0 := (blk_cell h1 0).trans (show #[(.int .i64 0 : Value), (.int .i64 0 : Value), (.int .u32 0 : Value), (.int .u32 0 : Value), (.int .u64 0 : Value), (.string (⟨#[]⟩ : ByteArray) : Value)][0]? = some (.int .i64 0) from rfl)
              have q1 := (blk_cell h1 1).trans (show #[(.int .i64 0 : Value), (.int .i64 0 : Value), (.int .u32 0 : Value), (.int .u32 0 : Value), (.int .u64 0 : Value), (.string (⟨#[]⟩ : ByteArray) : Value)][1]? = some (.int .i64 0) from rfl)
              have q2 := (blk_cell h1 2).trans (show #[(.int .i64 0 : Value), (.int .i64 0 : Value), (.int .u32 0 : Value), (.int .u32 0 : Value), (.int .u64 0 : Value), (.string (⟨#[]⟩ : ByteArray) : Value)][2]? = some (.int .u32 0) from rfl)
              have q3 := (blk_cell h1 3).trans (show #[(.int .i64 0 : Value), (.int .i64 0 : Value), (.int .u32 0 : Value), (.int .u32 0 : Value), (.int .u64 0 : Value), (.string (⟨#[]⟩ : ByteArray) : Value)][3]? = some (.int .u32 0) from rfl)
              have q4 := (blk_cell h1 4).trans (show #[(.int .i64 0 : Value), (.int .i64 0 : Value), (.int .u32 0 : Value), (.int .u32 0 : Value), (.int .u64 0 : Value), (.string (⟨#[]⟩ : ByteArray) : Value)][4]? = some (.int .u64 0) from rfl)
              have q5 := (blk_cell h1 5).trans (show #[(.int .i64 0 : Value), (.int .i64 0 : Value), (.int .u32 0 : Value), (.int .u32 0 : Value), (.int .u64 0 : Value), (.string (⟨#[]⟩ : ByteArray) : Value)][5]? = some (.string (⟨#[]⟩ : ByteArray)) from rfl)
              have q6 := (blk_cell h2 0).trans (show #[(.int .i64 4 : Value)][0]? = some (.int .i64 4) from rfl)
              exact ⟨.tuple #[.agg #[.int .i64 0, .int .i64 0, .int .u32 0, .int .u32 0, .int .u64 0, .string (⟨#[]⟩ : ByteArray)], .int .i64 4], by simp [results, Try.results19, go_sem, Try.underlying27, q0, q1, q2, q3, q4, q5, q6], rfl, HV.hb.trans (h3 _ HV.hp HV.he HV.hb.size)⟩
          · rw [if_neg c2] at H
            have c2a : (x2 != 1) = true := bne_iff_ne.mpr c2
            have c2b : (x2 == 1) = false := beq_eq_false_iff_ne.mpr c2
            clear c2
            simp only [Option.some.injEq, Prod.mk.injEq] at H
            obtain ⟨rfl, rfl, rfl, rfl, rfl, rfl, rfl⟩ := H
            go_wp2
            have hia2 : ∀ W, (Instr.indexAt 77 (.pointer (some ⟨gh, 0, none⟩)) (.int .i64 2)).run Try.prog W = .ok (.pointer (some ⟨gh, 2, none⟩)) W := fun W => run_indexAt_arr (P := Try.prog) (W := W) 77 Try.underlying77 (by kernel_rfl) gh .i64 2 (by decide) (by decide)
            have hia0 : ∀ W, (Instr.indexAt 77 (.pointer (some ⟨gh, 0, none⟩)) (.int .i64 0)).run Try.prog W = .ok (.pointer (some ⟨gh, 0, none⟩)) W := fun W => run_indexAt_arr (P := Try.prog) (W := W) 77 Try.underlying77 (by kernel_rfl) gh .i64 0 (by decide) (by decide)
            have n0_ := HV.drew
            have n2_ : Aside0 (wq.drew.heap[gh]? = some (.cells #[.int .u64 x0, .int .u64 x1, .int .u64 x2, .int .u64 x3, .int .u64 x4, .int .u64 x5, .int .u64 x6] 77 (0, 0))) := HA9
            clear HV HA9
            have HV := n0_
            have HA9 := n2_
            clear n0_ n2_
            have k0 : wq.drew.cell? ⟨gp, 0, none⟩ = some (.int .i64 y1) := (blk_cell HV.bp 0).trans rfl
            have k1 : wq.drew.cell? ⟨gp, 1, none⟩ = some (.int .i64 y3) := (blk_cell HV.bp 1).trans rfl
            have k2 : wq.drew.cell? ⟨gp, 2, none⟩ = some (.int .u32 y4) := (blk_cell HV.bp 2).trans rfl
            have k3 : wq.drew.cell? ⟨gp, 3, none⟩ = some (.int .u32 y5) := (blk_cell HV.bp 3).trans rfl
            have k4 : wq.drew.cell? ⟨gp, 4, none⟩ = some (.int .u64 x6) := (blk_cell HV.bp 4).trans rfl
            have k5 : wq.drew.cell? ⟨gp, 5, none⟩ = some (.string s1) := (blk_cell HV.bp 5).trans rfl
            have k6 : wq.drew.cell? ⟨gh, 2, none⟩ = some (.int .u64 x2) := (blk_cell HA9.out 2).trans rfl
            have k7 : wq.drew.cell? ⟨gh, 0, none⟩ = some (.int .u64 x0) := (blk_cell HA9.out 0).trans rfl
            refine start_ (n := 24) (S := fun w' => w'.cell? ⟨gp, 0, none⟩ = some (.int .i64 y1) ∧ w'.cell? ⟨gp, 1, none⟩ = some (.int .i64 y3) ∧ w'.cell? ⟨gp, 2, none⟩ = some (.int .u32 y4) ∧ w'.cell? ⟨gp, 3, none⟩ = some (.int .u32 y5) ∧ w'.cell? ⟨gp, 4, none⟩ = some (.int .u64 x6) ∧ w'.cell? ⟨gp, 5, none⟩ = some (.string s1) ∧ w'.cell? ⟨gh, 2, none⟩ = some (.int .u64 x2) ∧ w'.cell? ⟨gh, 0, none⟩ = some (.int .u64 x0)) (ds := []) #[false, false, false, false, false, false, false, false, false, false, false, false, false, false, false, false, false, false, false, false, false, false, false, false] (by kernel_rfl) rfl rfl ⟨k0, k1, k2, k3, k4, k5, k6, k7⟩ (fun hHeld => ?_)
            clear k0 k1 k2 k3 k4 k5 k6 k7
            refine with_tabW frame_Get.tab9 frame_Get.bits9 (fun HT_ HW_ => ?_)
            generalize wq.drew = we at HV HA9 hHeld ⊢
            refine pure_ (i := 0) (N := some 44) (v := ?_) (a' := ?_) #[true, false, false, false, false, false, false, false, false, false, false, false, false, false, false, false, false, false, false, false, false, false, false, false] rfl rfl (any_of HT_.out (by kernel_rfl)) (fun c_ a_ w_ h_ => panicD_put 44 _ (results_two (fn := Try.f19) rfl 44 _ (by decide) (by decide)) c_ a_ w_ h_) (Or.inl ⟨by rfl, ?_⟩) ?_ ?_
            rotate_left
            · intro w'
              go_simp
              with_reducible rfl
            rotate_left
            · skip
              simp only [Act.put, List.setIfInBounds_toArray, List.set_cons_zero, List.set_cons_succ, i64_w, i32_w]
              rfl
            refine take_ (i := 1) (N := some 45) (v := ?_) (a' := ?_) #[true, true, false, false, false, false, false, false, false, false, false, false, false, false, false, false, false, false, false, false, false, false, false, false] rfl rfl (take_ofW HT_.out HW_.out (by kernel_rfl)) (fun c_ a_ w_ h_ => panicD_put 45 _ (results_two (fn := Try.f19) rfl 45 _ (by decide) (by decide)) c_ a_ w_ h_) (Or.inl ⟨by rfl, ?_⟩) hHeld ?_ ?_
            rotate_left
            · rintro w' ⟨s0, s1, s2, s3, s4, s5, s6, s7⟩
              go_simp
              with_reducible rfl
            rotate_left
            · skip
              simp only [Act.put, List.setIfInBounds_toArray, List.set_cons_zero, List.set_cons_succ, i64_w, i32_w]
              rfl
            refine one_ (i := 2) (N := some 46) #[true, true, true, false, false, false, false, false, false, false, false, false, false, false, false, false, false, false, false, false, false, false, false, false] rfl rfl (one_of HT_.out (by kernel_rfl)) (by decide) (fun K hK => ?_)
            refine goes_ Try.func44 (by kernel_rfl) rfl #[.int .i64 a0, .agg #[.int .i64 y1, .int .i64 y3, .int .u32 y4, .int .u32 y5, .int .u64 x6, .string s1]] (by rfl) rfl rfl (by (try simp only [List.map_toArray, List.map_cons, List.map_nil]); first | done | rfl) ?_
            with_reducible refine (frame_may.calls a0 y1 y3 y4 y5 x6 s1 true _ AM.out).mono ?_
            rintro e wf ⟨rfl, hb⟩
            refine ⟨_, rfl, ?_⟩
            have n0_ := HV.below hb
            have n1_ := Aside0.mk (blk_below HA9.out hb)
            clear HV HA9 hb
            have HV := n0_
            have HA9 := n1_
            clear n0_ n1_
            refine hK.out _ _ ⟨(blk_cell HV.bp 0).trans rfl, (blk_cell HV.bp 1).trans rfl, (blk_cell HV.bp 2).trans rfl, (blk_cell HV.bp 3).trans rfl, (blk_cell HV.bp 4).trans rfl, (blk_cell HV.bp 5).trans rfl, (blk_cell HA9.out 2).trans rfl, (blk_cell HA9.out 0).trans rfl⟩ (fun hHeld => ?_)
            clear hK K
            refine norm_ (a' := ?_) ?_ ?_
            rotate_left
            · show Act.put _ (some 46) _ = _
              simp only [Act.put, List.setIfInBounds_toArray, List.set_cons_zero, List.set_cons_succ, i64_w, i32_w]
              rfl
            refine pure_ (i := 3) (N := some 47) (v := ?_) (a' := ?_) #[true, true, true, true, false, false, false, false, false, false, false, false, false, false, false, false, false, false, false, false, false, false, false, false] rfl rfl (any_of HT_.out (by kernel_rfl)) (fun c_ a_ w_ h_ => panicD_put 47 _ (results_two (fn := Try.f19) rfl 47 _ (by decide) (by decide)) c_ a_ w_ h_) (Or.inl ⟨by rfl, ?_⟩) ?_ ?_
            rotate_left
            · intro w'
              go_simp
              with_reducible rfl
            rotate_left
            · skip
              simp only [Act.put, List.setIfInBounds_toArray, List.set_cons_zero, List.set_cons_succ, i64_w, i32_w]
              rfl
            refine pure_ (i := 4) (N := some 48) (v := ?_) (a' := ?_) #[true, true, true, true, true, false, false, false, false, false, false, false, false, false, false, false, false, false, false, false, false, false, false, false] rfl rfl (any_of HT_.out (by kernel_rfl)) (fun c_ a_ w_ h_ => panicD_put 48 _ (results_two (fn := Try.f19) rfl 48 _ (by decide) (by decide)) c_ a_ w_ h_) (Or.inl ⟨by rfl, ?_⟩) ?_ ?_
            rotate_left
            · intro w'
              go_simp
              with_reducible rfl
            rotate_left
            · skip
              simp only [Act.put, List.setIfInBounds_toArray, List.set_cons_zero, List.set_cons_succ, i64_w, i32_w]
              rfl
            refine pure_ (i := 5) (N := some 49) (v := ?_) (a' := ?_) #[true, true, true, true, true, true, false, false, false, false, false, false, false, false, false, false, false, false, false, false, false, false, false, false] rfl rfl (any_of HT_.out (by kernel_rfl)) (fun c_ a_ w_ h_ => panicD_put 49 _ (results_two (fn := Try.f19) rfl 49 _ (by decide) (by decide)) c_ a_ w_ h_) (Or.inl ⟨by rfl, ?_⟩) ?_ ?_
            rotate_left
            · intro w'
              go_simp
              with_reducible rfl
            rotate_left
            · skip
              simp only [Act.put, List.setIfInBounds_toArray, List.set_cons_zero, List.set_cons_succ, i64_w, i32_w]
              rfl
            refine take_ (i := 6) (N := some 50) (v := ?_) (a' := ?_) #[true, true, true, true, true, true, true, false, false, false, false, false, false, false, false, false, false, false, false, false, false, false, false, false] rfl rfl (take_ofW HT_.out HW_.out (by kernel_rfl)) (fun c_ a_ w_ h_ => panicD_put 50 _ (results_two (fn := Try.f19) rfl 50 _ (by decide) (by decide)) c_ a_ w_ h_) (Or.inl ⟨by rfl, ?_⟩) hHeld ?_ ?_
            rotate_left
            · rintro w' ⟨s0, s1, s2, s3, s4, s5, s6, s7⟩
              go_simp
              with_reducible rfl
            rotate_left
            · skip
              simp only [Act.put, List.setIfInBounds_toArray, List.set_cons_zero, List.set_cons_succ, i64_w, i32_w]
              rfl
            refine pure_ (i := 7) (N := some 51) (v := ?_) (a' := ?_) #[true, true, true, true, true, true, true, true, false, false, false, false, false, false, false, false, false, false, false, false, false, false, false, false] rfl rfl (any_of HT_.out (by kernel_rfl)) (fun c_ a_ w_ h_ => panicD_put 51 _ (results_two (fn := Try.f19) rfl 51 _ (by decide) (by decide)) c_ a_ w_ h_) (Or.inl ⟨by rfl, ?_⟩) ?_ ?_
            rotate_left
            · intro w'
              go_simp
              with_reducible rfl
            rotate_left
            · skip
              simp only [Act.put, List.setIfInBounds_toArray, List.set_cons_zero, List.set_cons_succ, i64_w, i32_w]
              rfl
            refine pure_ (i := 8) (N := some 52) (v := ?_) (a' := ?_) #[true, true, true, true, true, true, true, true, true, false, false, false, false, false, false, false, false, false, false, false, false, false, false, false] rfl rfl (any_of HT_.out (by kernel_rfl)) (fun c_ a_ w_ h_ => panicD_put 52 _ (results_two (fn := Try.f19) rfl 52 _ (by decide) (by decide)) c_ a_ w_ h_) (Or.inl ⟨by rfl, ?_⟩) ?_ ?_
            rotate_left
            · intro w'
              go_simp
              with_reducible rfl
            rotate_left
            · skip
              simp only [Act.put, List.setIfInBounds_toArray, List.set_cons_zero, List.set_cons_succ, i64_w, i32_w]
              rfl
            refine pure_ (i := 9) (N := some 53) (v := ?_) (a' := ?_) #[true, true, true, true, true, true, true, true, true, true, false, false, false, false, false, false, false, false, false, false, false, false, false, false] rfl rfl (any_of HT_.out (by kernel_rfl)) (fun c_ a_ w_ h_ => panicD_put 53 _ (results_two (fn := Try.f19) rfl 53 _ (by decide) (by decide)) c_ a_ w_ h_) (Or.inl ⟨by rfl, ?_⟩) ?_ ?_
            rotate_left
            · intro w'
              go_simp
              with_reducible rfl
            rotate_left
            · skip
              simp only [Act.put, List.setIfInBounds_toArray, List.set_cons_zero, List.set_cons_succ, i64_w, i32_w]
              rfl
            refine pure_ (i := 10) (N := some 54) (v := undef) (a' := ?_) #[true, true, true, true, true, true, true, true, true, true, true, false, false, false, false, false, false, false, false, false, false, false, false, false] rfl rfl (any_of HT_.out (by kernel_rfl)) (fun c_ a_ w_ h_ => panicD_put 54 _ (results_two (fn := Try.f19) rfl 54 _ (by decide) (by decide)) c_ a_ w_ h_) (Or.inr ⟨by rfl, rfl⟩) ?_ ?_
            rotate_left
            · skip
              simp only [Act.put, List.setIfInBounds_toArray, List.set_cons_zero, List.set_cons_succ, i64_w, i32_w]
              rfl
            refine pure_ (i := 11) (N := some 55) (v := undef) (a' := ?_) #[true, true, true, true, true, true, true, true, true, true, true, true, false, false, false, false, false, false, false, false, false, false, false, false] rfl rfl (any_of HT_.out (by kernel_rfl)) (fun c_ a_ w_ h_ => panicD_put 55 _ (results_two (fn := Try.f19) rfl 55 _ (by decide) (by decide)) c_ a_ w_ h_) (Or.inr ⟨by rfl, rfl⟩) ?_ ?_
            rotate_left
            · skip
              simp only [Act.put, List.setIfInBounds_toArray, List.set_cons_zero, List.set_cons_succ, i64_w, i32_w]
              rfl
            refine pure_ (i := 12) (N := some 56) (v := undef) (a' := ?_) #[true, true, true, true, true, true, true, true, true, true, true, true, true, false, false, false, false, false, false, false, false, false, false, false] rfl rfl (any_of HT_.out (by kernel_rfl)) (fun c_ a_ w_ h_ => panicD_put 56 _ (results_two (fn := Try.f19) rfl 56 _ (by decide) (by decide)) c_ a_ w_ h_) (Or.inr ⟨by rfl, rfl⟩) ?_ ?_
            rotate_left
            · skip
              simp only [Act.put, List.setIfInBounds_toArray, List.set_cons_zero, List.set_cons_succ, i64_w, i32_w]
              rfl
            refine pure_ (i := 13) (N := some 57) (v := undef) (a' := ?_) #[true, true, true, true, true, true, true, true, true, true, true, true, true, true, false, false, false, false, false, false, false, false, false, false] rfl rfl (any_of HT_.out (by kernel_rfl)) (fun c_ a_ w_ h_ => panicD_put 57 _ (results_two (fn := Try.f19) rfl 57 _ (by decide) (by decide)) c_ a_ w_ h_) (Or.inr ⟨by rfl, rfl⟩) ?_ ?_
            rotate_left
            · skip
              simp only [Act.put, List.setIfInBounds_toArray, List.set_cons_zero, List.set_cons_succ, i64_w, i32_w]
              rfl
            refine pure_ (i := 14) (N := some 58) (v := ?_) (a' := ?_) #[true, true, true, true, true, true, true, true, true, true, true, true, true, true, true, false, false, false, false, false, false, false, false, false] rfl rfl (any_of HT_.out (by kernel_rfl)) (fun c_ a_ w_ h_ => panicD_put 58 _ (results_two (fn := Try.f19) rfl 58 _ (by decide) (by decide)) c_ a_ w_ h_) (Or.inl ⟨by rfl, ?_⟩) ?_ ?_
            rotate_left
            · intro w'
              go_simp
              with_reducible rfl
            rotate_left
            · skip
              simp only [Act.put, List.setIfInBounds_toArray, List.set_cons_zero, List.set_cons_succ, i64_w, i32_w]
              rfl
            refine pure_ (i := 15) (N := some 59) (v := ?_) (a' := ?_) #[true, true, true, true, true, true, true, true, true, true, true, true, true, true, true, true, false, false, false, false, false, false, false, false] rfl rfl (any_of HT_.out (by kernel_rfl)) (fun c_ a_ w_ h_ => panicD_put 59 _ (results_two (fn := Try.f19) rfl 59 _ (by decide) (by decide)) c_ a_ w_ h_) (Or.inl ⟨by rfl, ?_⟩) ?_ ?_
            rotate_left
            · intro w'
              go_simp
              with_reducible rfl
            rotate_left
            · skip
              simp only [Act.put, List.setIfInBounds_toArray, List.set_cons_zero, List.set_cons_succ, i64_w, i32_w]
              rfl
            refine pure_ (i := 16) (N := some 60) (v := undef) (a' := ?_) #[true, true, true, true, true, true, true, true, true, true, true, true, true, true, true, true, true, false, false, false, false, false, false, false] rfl rfl (any_of HT_.out (by kernel_rfl)) (fun c_ a_ w_ h_ => panicD_put 60 _ (results_two (fn := Try.f19) rfl 60 _ (by decide) (by decide)) c_ a_ w_ h_) (Or.inr ⟨by rfl, rfl⟩) ?_ ?_
            rotate_left
            · skip
              simp only [Act.put, List.setIfInBounds_toArray, List.set_cons_zero, List.set_cons_succ, i64_w, i32_w]
              rfl
            refine pure_ (i := 17) (N := some 61) (v := undef) (a' := ?_) #[true, true, true, true, true, true, true, true, true, true, true, true, true, true, true, true, true, true, false, false, false, false, false, false] rfl rfl (any_of HT_.out (by kernel_rfl)) (fun c_ a_ w_ h_ => panicD_put 61 _ (results_two (fn := Try.f19) rfl 61 _ (by decide) (by decide)) c_ a_ w_ h_) (Or.inr ⟨by rfl, rfl⟩) ?_ ?_
            rotate_left
            · skip
              simp only [Act.put, List.setIfInBounds_toArray, List.set_cons_zero, List.set_cons_succ, i64_w, i32_w]
              rfl
            refine pure_ (i := 18) (N := some 62) (v := undef) (a' := ?_) #[true, true, true, true, true, true, true, true, true, true, true, true, true, true, true, true, true, true, true, false, false, false, false, false] rfl rfl (any_of HT_.out (by kernel_rfl)) (fun c_ a_ w_ h_ => panicD_put 62 _ (results_two (fn := Try.f19) rfl 62 _ (by decide) (by decide)) c_ a_ w_ h_) (Or.inr ⟨by rfl, rfl⟩) ?_ ?_
            rotate_left
            · skip
              simp only [Act.put, List.setIfInBounds_toArray, List.set_cons_zero, List.set_cons_succ, i64_w, i32_w]
              rfl
            refine pure_ (i := 19) (N := some 63) (v := undef) (a' := ?_) #[true, true, true, true, true, true, true, true, true, true, true, true, true, true, true, true, true, true, true, true, false, false, false, false] rfl rfl (any_of HT_.out (by kernel_rfl)) (fun c_ a_ w_ h_ => panicD_put 63 _ (results_two (fn := Try.f19) rfl 63 _ (by decide) (by decide)) c_ a_ w_ h_) (Or.inr ⟨by rfl, rfl⟩) ?_ ?_
            rotate_left
            · skip
              simp only [Act.put, List.setIfInBounds_toArray, List.set_cons_zero, List.set_cons_succ, i64_w, i32_w]
              rfl
            refine pure_ (i := 20) (N := some 64) (v := undef) (a' := ?_) #[true, true, true, true, true, true, true, true, true, true, true, true, true, true, true, true, true, true, true, true, true, false, false, false] rfl rfl (any_of HT_.out (by kernel_rfl)) (fun c_ a_ w_ h_ => panicD_put 64 _ (results_two (fn := Try.f19) rfl 64 _ (by decide) (by decide)) c_ a_ w_ h_) (Or.inr ⟨by rfl, rfl⟩) ?_ ?_
            rotate_left
            · skip
              simp only [Act.put, List.setIfInBounds_toArray, List.set_cons_zero, List.set_cons_succ, i64_w, i32_w]
              rfl
            refine pure_ (i := 21) (N := some 65) (v := undef) (a' := ?_) #[true, true, true, true, true, true, true, true, true, true, true, true, true, true, true, true, true, true, true, true, true, true, false, false] rfl rfl (any_of HT_.out (by kernel_rfl)) (fun c_ a_ w_ h_ => panicD_put 65 _ (results_two (fn := Try.f19) rfl 65 _ (by decide) (by decide)) c_ a_ w_ h_) (Or.inr ⟨by rfl, rfl⟩) ?_ ?_
            rotate_left
            · skip
              simp only [Act.put, List.setIfInBounds_toArray, List.set_cons_zero, List.set_cons_succ, i64_w, i32_w]
              rfl
            refine pure_ (i := 22) (N := some 66) (v := undef) (a' := ?_) #[true, true, true, true, true, true, true, true, true, true, true, true, true, true, true, true, true, true, true, true, true, true, true, false] rfl rfl (any_of HT_.out (by kernel_rfl)) (fun c_ a_ w_ h_ => panicD_put 66 _ (results_two (fn := Try.f19) rfl 66 _ (by decide) (by decide)) c_ a_ w_ h_) (Or.inr ⟨by rfl, rfl⟩) ?_ ?_
            rotate_left
            · skip
              simp only [Act.put, List.setIfInBounds_toArray, List.set_cons_zero, List.set_cons_succ, i64_w, i32_w]
              rfl
            refine pure_ (i := 23) (N := some 67) (v := ?_) (a' := ?_) #[true, true, true, true, true, true, true, true, true, true, true, true, true, true, true, true, true, true, true, true, true, true, true, true] rfl rfl (any_of HT_.out (by kernel_rfl)) (fun c_ a_ w_ h_ => panicD_put 67 _ (results_two (fn := Try.f19) rfl 67 _ (by decide) (by decide)) c_ a_ w_ h_) (Or.inl ⟨by rfl, ?_⟩) ?_ ?_
            rotate_left
            · intro w'
              go_simp
              with_reducible rfl
            rotate_left
            · skip
              simp only [Act.put, List.setIfInBounds_toArray, List.set_cons_zero, List.set_cons_succ, i64_w, i32_w]
              rfl
            clear hHeld
            refine done_ (done_of HT_.out (by kernel_rfl)) ?_
            clear HT_ HW_ hia2 hia0
            go_wp2
            simp only [Exit.inBlock, Exit.then, bodyPostD]
            refine leaves_cons (f := 47) (args := #[.pointer (some ⟨gp, 0, none⟩), .pointer (some ⟨ge, 0, none⟩)]) (by simp) (by simp [go_sem]) ?_
            refine (Get_catch gp ge [] (.int .i64 y1) (.int .i64 y3) (.int .u32 y4) (.int .u32 y5) (.int .u64 x6) (.string s1) _ HV.bp HV.be).mono ?_
            rintro e u' w9 ⟨rfl, rfl, h1, h2, h3⟩
            show Leaves _ _ _ _ [] .returning w9
            have q0 := (blk_cell h1 0).trans (show #[(.int .i64 0 : Value), (.int .i64 0 : Value), (.int .u32 0 : Value), (.int .u32 0 : Value), (.int .u64 0 : Value), (.string (⟨#[]⟩ : ByteArray) : Value)][0]? = some (.int .i64 0) from rfl)
            have q1 := (blk_cell h1 1).trans (show #[(.int .i64 0 : Value), (.int .i64 0 : Value), (.int .u32 0 : Value), (.int .u32 0 : Value), (.int .u64 0 : Value), (.string (⟨#[]⟩ : ByteArray) : Value)][1]? = some (.int .i64 0) from rfl)
            have q2 := (blk_cell h1 2).trans (show #[(.int .i64 0 : Value), (.int .i64 0 : Value), (.int .u32 0 : Value), (.int .u32 0 : Value), (.int .u64 0 : Value), (.string (⟨#[]⟩ : ByteArray) : Value)][2]? = some (.int .u32 0) from rfl)
            have q3 := (blk_cell h1 3).trans (show #[(.int .i64 0 : Value), (.int .i64 0 : Value), (.int .u32 0 : Value), (.int .u32 0 : Value), (.int .u64 0 : Value), (.string (⟨#[]⟩ : ByteArray) : Value)][3]? = some (.int .u32 0) from rfl)
            have q4 := (blk_cell h1 4).trans (show #[(.int .i64 0 : Value), (.int .i64 0 : Value), (.int .u32 0 : Value), (.int .u32 0 : Value), (.int .u64 0 : Value), (.string (⟨#[]⟩ : ByteArray) : Value)][4]? = some (.int .u64 0) from rfl)
            have q5 := (blk_cell h1 5).trans (show #[(.int .i64 0 : Value), (.int .i64 0 : Value), (.int .u32 0 : Value), (.int .u32 0 : Value), (.int .u64 0 : Value), (.string (⟨#[]⟩ : ByteArray) : Value)][5]? = some (.string (⟨#[]⟩ : ByteArray)) from rfl)
            have q6 := (blk_cell h2 0).trans (show #[(.int .i64 4 : Value)][0]? = some (.int .i64 4) from rfl)
            exact ⟨.tuple #[.agg #[.int .i64 0, .int .i64 0, .int .u32 0, .int .u32 0, .int .u64 0, .string (⟨#[]⟩ : ByteArray)], .int .i64 4], by simp [results, Try.results19, go_sem, Try.underlying27, q0, q1, q2, q3, q4, q5, q6], rfl, HV.hb.trans (h3 _ HV.hp HV.he HV.hb.size)⟩
      · cases h
      · simp only [Option.some.injEq, Prod.mk.injEq] at h
        obtain ⟨rfl, rfl, rfl, rfl, rfl, rfl, rfl⟩ := h
        go_enter_defers Try.func19, Try.ntmps19
        go_wp2_with (first | ((with_reducible refine gate_dst (N := 6) rfl ?_); refine box_event ?hg (N := 6) ?hd (cs := #[.int .i64 0, .int .i64 0, .int .u32 0, .int .u32 0, .int .u64 0, .string (⟨#[]⟩ : ByteArray)]) (t := 27) ?hr ?_; (case hd => rfl); (case hg => rfl); (case hr => first | (go_simp; done) | (go_simp; rfl)); intro gp hg_ w1 hb hbel; have BP := Aside0.mk hb; have HB := Aside0.mk hbel; have GP := Aside0.mk (by rw [hg_]; exact Nat.le_refl _ : w.heap.size ≤ gp); clear hg_ hb hbel) | ((with_reducible refine gate_dst (N := 7) rfl ?_); refine box_event ?hg (N := 7) ?hd (cs := #[.int .i64 0]) (t := 29) ?hr ?_; (case hd => rfl); (case hg => rfl); (case hr => first | (go_simp; done) | (go_simp; rfl)); intro ge hg_ w2 hb hbel; have HV : GetInv w w2 gp ge #[.int .i64 0, .int .i64 0, .int .u32 0, .int .u32 0, .int .u64 0, .string (⟨#[]⟩ : ByteArray)] := ⟨below_step HB.out hbel, blk_below BP.out hbel, hb, GP.out, by rw [hg_]; exact HB.out.size⟩; clear hg_ hb hbel BP HB GP) | (go_at_call 48; (with_reducible refine (device_Good.calls a0 true _ A1.out).mono ?_); rintro e w3 ⟨rfl, ⟨nd, rfl⟩⟩; have n0_ := HV.below (pw_below_drewN (Below.refl _ _) nd); clear HV; have HV := n0_; clear n0_; have nx := HV.ne; have nx2 := nx.symm; have hx0 : (w2.drewN nd).cell? ⟨gp, 0, none⟩ = some (.int .i64 0) := (blk_cell HV.bp 0).trans rfl; have hx1 : (w2.drewN nd).cell? ⟨gp, 1, none⟩ = some (.int .i64 0) := (blk_cell HV.bp 1).trans rfl; have hx2 : (w2.drewN nd).cell? ⟨gp, 2, none⟩ = some (.int .u32 0) := (blk_cell HV.bp 2).trans rfl; have hx3 : (w2.drewN nd).cell? ⟨gp, 3, none⟩ = some (.int .u32 0) := (blk_cell HV.bp 3).trans rfl; have hx4 : (w2.drewN nd).cell? ⟨gp, 4, none⟩ = some (.int .u64 0) := (blk_cell HV.bp 4).trans rfl; have hx5 : (w2.drewN nd).cell? ⟨gp, 5, none⟩ = some (.string (⟨#[]⟩ : ByteArray)) := (blk_cell HV.bp 5).trans rfl; have hy0 := blk_frozen HV.bp 0; have hy1 := blk_frozen HV.bp 1; have hy2 := blk_frozen HV.bp 2; have hy3 := blk_frozen HV.bp 3; have hy4 := blk_frozen HV.bp 4; have hy5 := blk_frozen HV.bp 5; have hz0 : (w2.drewN nd).cell? ⟨ge, 0, none⟩ = some (.int .i64 0) := (blk_cell HV.be 0).trans rfl; have hzf := blk_frozen HV.be 0) | (go_at_call 42; (with_reducible refine (octet_New.calls a2 a2 w _ ?side1 rfl).mono ?_); (case side1 => exact HV.hb); rintro e w4 ⟨g, rfl, hi, hb, hbel⟩; have n0_ := HV.below hbel; have HI := Aside0.mk hi; clear nx nx2 hx0 hy0 hx1 hy1 hx2 hy2 hx3 hy3 hx4 hy4 hx5 hy5 hz0 hzf; clear HV hi hb hbel; have HV := n0_; clear n0_) | (go_at_call 49; (with_reducible refine (head_bad g a2 s1 w _ ?side1 ?side2 HR.out).mono ?_); (case side1 => exact HI.out); (case side2 => exact HV.hb); rintro e w5 ⟨rfl, hi, hb, hk⟩; have n0_ := HV.read HI.out hb hk; clear HV HI hi hb hk; have HV := n0_; clear n0_))
        simp only [Exit.inBlock, Exit.then, bodyPostD]
        refine leaves_cons (f := 47) (args := #[.pointer (some ⟨gp, 0, none⟩), .pointer (some ⟨ge, 0, none⟩)]) (by simp) (by simp [go_sem]) ?_
        refine (Get_catch gp ge [] (.int .i64 0) (.int .i64 0) (.int .u32 0) (.int .u32 0) (.int .u64 0) (.string (⟨#[]⟩ : ByteArray)) _ HV.bp HV.be).mono ?_
        rintro e u' w9 ⟨rfl, rfl, h1, h2, h3⟩
        show Leaves _ _ _ _ [] .returning w9
        have q0 := (blk_cell h1 0).trans (show #[(.int .i64 0 : Value), (.int .i64 0 : Value), (.int .u32 0 : Value), (.int .u32 0 : Value), (.int .u64 0 : Value), (.string (⟨#[]⟩ : ByteArray) : Value)][0]? = some (.int .i64 0) from rfl)
        have q1 := (blk_cell h1 1).trans (show #[(.int .i64 0 : Value), (.int .i64 0 : Value), (.int .u32 0 : Value), (.int .u32 0 : Value), (.int .u64 0 : Value), (.string (⟨#[]⟩ : ByteArray) : Value)][1]? = some (.int .i64 0) from rfl)
        have q2 := (blk_cell h1 2).trans (show #[(.int .i64 0 : Value), (.int .i64 0 : Value), (.int .u32 0 : Value), (.int .u32 0 : Value), (.int .u64 0 : Value), (.string (⟨#[]⟩ : ByteArray) : Value)][2]? = some (.int .u32 0) from rfl)
        have q3 := (blk_cell h1 3).trans (show #[(.int .i64 0 : Value), (.int .i64 0 : Value), (.int .u32 0 : Value), (.int .u32 0 : Value), (.int .u64 0 : Value), (.string (⟨#[]⟩ : ByteArray) : Value)][3]? = some (.int .u32 0) from rfl)
        have q4 := (blk_cell h1 4).trans (show #[(.int .i64 0 : Value), (.int .i64 0 : Value), (.int .u32 0 : Value), (.int .u32 0 : Value), (.int .u64 0 : Value), (.string (⟨#[]⟩ : ByteArray) : Value)][4]? = some (.int .u64 0) from rfl)
        have q5 := (blk_cell h1 5).trans (show #[(.int .i64 0 : Value), (.int .i64 0 : Value), (.int .u32 0 : Value), (.int .u32 0 : Value), (.int .u64 0 : Value), (.string (⟨#[]⟩ : ByteArray) : Value)][5]? = some (.string (⟨#[]⟩ : ByteArray)) from rfl)
        have q6 := (blk_cell h2 0).trans (show #[(.int .i64 4 : Value)][0]? = some (.int .i64 4) from rfl)
        exact ⟨.tuple #[.agg #[.int .i64 0, .int .i64 0, .int .u32 0, .int .u32 0, .int .u64 0, .string (⟨#[]⟩ : ByteArray)], .int .i64 4], by simp [results, Try.results19, go_sem, Try.underlying27, q0, q1, q2, q3, q4, q5, q6], rfl, HV.hb.trans (h3 _ HV.hp HV.he HV.hb.size)⟩
    · rw [if_neg hsz] at h
      have hs1 : ((a2.size : Int) != a0) = true := bne_iff_ne.mpr hsz
      have hs2 : ((a2.size : Int) == a0) = false := beq_eq_false_iff_ne.mpr hsz
      clear hsz
      simp only [Option.some.injEq, Prod.mk.injEq] at h
      obtain ⟨rfl, rfl, rfl, rfl, rfl, rfl, rfl⟩ := h
      go_enter_defers Try.func19, Try.ntmps19
      go_wp2_with (first | ((with_reducible refine gate_dst (N := 6) rfl ?_); refine box_event ?hg (N := 6) ?hd (cs := #[.int .i64 0, .int .i64 0, .int .u32 0, .int .u32 0, .int .u64 0, .string (⟨#[]⟩ : ByteArray)]) (t := 27) ?hr ?_; (case hd => rfl); (case hg => rfl); (case hr => first | (go_simp; done) | (go_simp; rfl)); intro gp hg_ w1 hb hbel; have BP := Aside0.mk hb; have HB := Aside0.mk hbel; have GP := Aside0.mk (by rw [hg_]; exact Nat.le_refl _ : w.heap.size ≤ gp); clear hg_ hb hbel) | ((with_reducible refine gate_dst (N := 7) rfl ?_); refine box_event ?hg (N := 7) ?hd (cs := #[.int .i64 0]) (t := 29) ?hr ?_; (case hd => rfl); (case hg => rfl); (case hr => first | (go_simp; done) | (go_simp; rfl)); intro ge hg_ w2 hb hbel; have HV : GetInv w w2 gp ge #[.int .i64 0, .int .i64 0, .int .u32 0, .int .u32 0, .int .u64 0, .string (⟨#[]⟩ : ByteArray)] := ⟨below_step HB.out hbel, blk_below BP.out hbel, hb, GP.out, by rw [hg_]; exact HB.out.size⟩; clear hg_ hb hbel BP HB GP) | (go_at_call 48; (with_reducible refine (device_Good.calls a0 true _ A1.out).mono ?_); rintro e w3 ⟨rfl, ⟨nd, rfl⟩⟩; have n0_ := HV.below (pw_below_drewN (Below.refl _ _) nd); clear HV; have HV := n0_; clear n0_; have nx := HV.ne; have nx2 := nx.symm; have hx0 : (w2.drewN nd).cell? ⟨gp, 0, none⟩ = some (.int .i64 0) := (blk_cell HV.bp 0).trans rfl; have hx1 : (w2.drewN nd).cell? ⟨gp, 1, none⟩ = some (.int .i64 0) := (blk_cell HV.bp 1).trans rfl; have hx2 : (w2.drewN nd).cell? ⟨gp, 2, none⟩ = some (.int .u32 0) := (blk_cell HV.bp 2).trans rfl; have hx3 : (w2.drewN nd).cell? ⟨gp, 3, none⟩ = some (.int .u32 0) := (blk_cell HV.bp 3).trans rfl; have hx4 : (w2.drewN nd).cell? ⟨gp, 4, none⟩ = some (.int .u64 0) := (blk_cell HV.bp 4).trans rfl; have hx5 : (w2.drewN nd).cell? ⟨gp, 5, none⟩ = some (.string (⟨#[]⟩ : ByteArray)) := (blk_cell HV.bp 5).trans rfl; have hy0 := blk_frozen HV.bp 0; have hy1 := blk_frozen HV.bp 1; have hy2 := blk_frozen HV.bp 2; have hy3 := blk_frozen HV.bp 3; have hy4 := blk_frozen HV.bp 4; have hy5 := blk_frozen HV.bp 5; have hz0 : (w2.drewN nd).cell? ⟨ge, 0, none⟩ = some (.int .i64 0) := (blk_cell HV.be 0).trans rfl; have hzf := blk_frozen HV.be 0))
      simp only [Exit.inBlock, Exit.then, bodyPostD]
      refine leaves_cons (f := 47) (args := #[.pointer (some ⟨gp, 0, none⟩), .pointer (some ⟨ge, 0, none⟩)]) (by simp) (by simp [go_sem]) ?_
      refine (Get_catch gp ge [] (.int .i64 0) (.int .i64 0) (.int .u32 0) (.int .u32 0) (.int .u64 0) (.string (⟨#[]⟩ : ByteArray)) _ HV.bp HV.be).mono ?_
      rintro e u' w9 ⟨rfl, rfl, h1, h2, h3⟩
      show Leaves _ _ _ _ [] .returning w9
      have q0 := (blk_cell h1 0).trans (show #[(.int .i64 0 : Value), (.int .i64 0 : Value), (.int .u32 0 : Value), (.int .u32 0 : Value), (.int .u64 0 : Value), (.string (⟨#[]⟩ : ByteArray) : Value)][0]? = some (.int .i64 0) from rfl)
      have q1 := (blk_cell h1 1).trans (show #[(.int .i64 0 : Value), (.int .i64 0 : Value), (.int .u32 0 : Value), (.int .u32 0 : Value), (.int .u64 0 : Value), (.string (⟨#[]⟩ : ByteArray) : Value)][1]? = some (.int .i64 0) from rfl)
      have q2 := (blk_cell h1 2).trans (show #[(.int .i64 0 : Value), (.int .i64 0 : Value), (.int .u32 0 : Value), (.int .u32 0 : Value), (.int .u64 0 : Value), (.string (⟨#[]⟩ : ByteArray) : Value)][2]? = some (.int .u32 0) from rfl)
      have q3 := (blk_cell h1 3).trans (show #[(.int .i64 0 : Value), (.int .i64 0 : Value), (.int .u32 0 : Value), (.int .u32 0 : Value), (.int .u64 0 : Value), (.string (⟨#[]⟩ : ByteArray) : Value)][3]? = some (.int .u32 0) from rfl)
      have q4 := (blk_cell h1 4).trans (show #[(.int .i64 0 : Value), (.int .i64 0 : Value), (.int .u32 0 : Value), (.int .u32 0 : Value), (.int .u64 0 : Value), (.string (⟨#[]⟩ : ByteArray) : Value)][4]? = some (.int .u64 0) from rfl)
      have q5 := (blk_cell h1 5).trans (show #[(.int .i64 0 : Value), (.int .i64 0 : Value), (.int .u32 0 : Value), (.int .u32 0 : Value), (.int .u64 0 : Value), (.string (⟨#[]⟩ : ByteArray) : Value)][5]? = some (.string (⟨#[]⟩ : ByteArray)) from rfl)
      have q6 := (blk_cell h2 0).trans (show #[(.int .i64 4 : Value)][0]? = some (.int .i64 4) from rfl)
      exact ⟨.tuple #[.agg #[.int .i64 0, .int .i64 0, .int .u32 0, .int .u32 0, .int .u64 0, .string (⟨#[]⟩ : ByteArray)], .int .i64 4], by simp [results, Try.results19, go_sem, Try.underlying27, q0, q1, q2, q3, q4, q5, q6], rfl, HV.hb.trans (h3 _ HV.hp HV.he HV.hb.size)⟩
end Go.Proofs.Ytlnmdfffmflhgaa.P
