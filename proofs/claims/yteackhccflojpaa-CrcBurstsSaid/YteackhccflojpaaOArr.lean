/- Words of my own beside the print's: arrays of one-cell elements that lie in a block of their own. -/
import Derived.Test.YteackhccflojpaaOBase
import Derived.ChangeKeysEq
set_option linter.unusedVariables false
set_option linter.unusedSimpArgs false
namespace Go.Proofs.YteackhccflojpaaO
open Go.RowKit Go.Proofs.YteackhccflojpaaW.PrintWords Go.Proofs.YteackhccflojpaaW.PrintWords.Kd
section
variable {P : Program} {ops : Array Oper} {rest : List Oper} {o : Oper} {a : Act} {Q : Exit → Act → World → Prop}
/-- 'var t [n]T': a new block of zeros. -/
theorem arr_alloc {W : World} (hgd : o.guard = none) {N : Tmp} (hd : o.dst = some N) (t : TypeId) (ho : o.op = .alloc t) (zs : Array Value) (hz : (P.info? t).map (·.zero) = some (some (.agg zs)))
    (h : ∀ g, g = W.heap.size → ∀ w1, w1.heap[g]? = some (.cells zs t (0, 0)) → Below W.heap.size W w1 → wpList P ops Q rest (a.put o.dst (.pointer (some ⟨g, 0, none⟩))) w1) : wpList P ops Q (o :: rest) a W := by
  refine box_event (cs := zs) (t := t) hgd hd ?_ h
  obtain ⟨i, hi, hz⟩ := Option.map_eq_some_iff.1 hz
  simp only [execOp, ho, Instr.alloc]
  simp [zeroValue, typeInfo, hi, hz, newVar, newRow, Value.cells]
/-- an array that comes as a value is laid in a block of its own. -/
theorem arr_box {W : World} (hgd : o.guard = none) {N : Tmp} (hd : o.dst = some N) (t : TypeId) (x : Operand) (ho : o.op = .box t x) (zs : Array Value) (hx : a.eval x = .agg zs)
    (h : ∀ g, g = W.heap.size → ∀ w1, w1.heap[g]? = some (.cells zs t (0, 0)) → Below W.heap.size W w1 → wpList P ops Q rest (a.put o.dst (.pointer (some ⟨g, 0, none⟩))) w1) : wpList P ops Q (o :: rest) a W := by
  refine box_event (cs := zs) (t := t) hgd hd ?_ h
  simp only [execOp, ho, Instr.box, hx]
  simp [newVar, newRow, Value.cells]
theorem run_indexAt_arr {W : World} (t : TypeId) {n e : Nat} (ht : P.underlying t = some (.array n e)) (hs : (P.info? e).map (·.size) = some 1) (g : Nat) (k : IntKind) (i : Int) (h0 : 0 ≤ i) (hn : i < n) :
    (Instr.indexAt t (.pointer (some ⟨g, 0, none⟩)) (.int k i)).run P W = .ok (.pointer (some ⟨g, i.toNat, none⟩)) W := by
  obtain ⟨ie, hi, hs⟩ := Option.map_eq_some_iff.1 hs
  simp [Instr.indexAt, asIntOf, run_underlying ht, Instr.sureAddr, h0, hn, sizeOf, typeInfo, hi, hs, add_plain]
/-- '&t[i]'. -/
theorem arr_addr {W : World} (hgd : o.guard = none) {N : Tmp} (hd : o.dst = some N) (t : TypeId) (x y : Operand) (ho : o.op = .indexAddr t x y) {n e : Nat} (ht : P.underlying t = some (.array n e)) (hs : (P.info? e).map (·.size) = some 1)
    {g : Nat} {k : IntKind} {i : Int} (hx : a.eval x = .pointer (some ⟨g, 0, none⟩)) (hy : a.eval y = .int k i) (h0 : 0 ≤ i) (hn : i < n)
    (h : wpList P ops Q rest (a.put o.dst (.pointer (some ⟨g, i.toNat, none⟩))) W) : wpList P ops Q (o :: rest) a W := by
  refine event_run hgd ?_ h
  simp only [execOp, ho, hx, hy]
  simp [run_indexAt_arr t ht hs g k i h0 hn]
/-- the whole array is loaded. -/
theorem arr_load {W : World} (hgd : o.guard = none) {N : Tmp} (hd : o.dst = some N) (t : TypeId) (x : Operand) (ho : o.op = .load t x) {n e : Nat} (ht : P.underlying t = some (.array n e)) {cs : Array Value} (hi : (P.info? t).map (·.size) = some cs.size)
    {g : Nat} (hx : a.eval x = .pointer (some ⟨g, 0, none⟩)) (hb : W.heap[g]? = some (.cells cs t (0, 0)))
    (h : wpList P ops Q rest (a.put o.dst (.agg cs)) W) : wpList P ops Q (o :: rest) a W := by
  refine wpList_load_mid hgd t x ho g 0 hx cs.toList _ (fun j v hv => ?_) ht rfl (by simpa using hi) (by simpa using h)
  rw [Nat.zero_add, blk_cell hb]
  simpa using hv
/-- the array is stored into its own block, as it is. -/
theorem arr_store_same {W : World} (hgd : o.guard = none) (hd : o.dst = none) (t : TypeId) (x y : Operand) (ho : o.op = .store t x y) {cs : Array Value} (hi : (P.info? t).map (·.size) = some cs.size)
    {g : Nat} (hx : a.eval x = .pointer (some ⟨g, 0, none⟩)) (hy : a.eval y = .agg cs) (hb : W.heap[g]? = some (.cells cs t (0, 0))) (h1 : ∀ v ∈ cs, v.oneCell' = true)
    (h : wpList P ops Q rest (a.put o.dst undef) W) : wpList P ops Q (o :: rest) a W := by
  refine wpList_plain hgd fun K hK => ?_
  have hr : (execOp a.eval o).run P W = .ok .skip W := by
    have h2 := run_storeCells_at (P := P) g 0 t cs.toList 0 cs W hb (by simp) (fun v hv => h1 v (by simpa using hv))
    have hdr : cs.toList.drop cs.size = [] := List.drop_of_length_le (by simp)
    simp [hdr, setRow_self W g cs t (0, 0) hb] at h2
    obtain ⟨i, hi1, hi2⟩ := Option.map_eq_some_iff.1 hi
    simp [execOp, ho, hx, hy, Instr.storeAt, Instr.sureAddr, storeVar, sizeOf, typeInfo, hi1, hi2, Value.cells, h2]
  unfold Oper.wp
  rw [hr, Oper.upon_skip]
  exact hK _ _ h
theorem run_loadVar_arr {W : World} (t : TypeId) {n e : Nat} (ht : P.underlying t = some (.array n e)) {cs : Array Value} (hi : (P.info? t).map (·.size) = some cs.size) {g : Nat} (hb : W.heap[g]? = some (.cells cs t (0, 0))) :
    (loadVar t ⟨g, 0, none⟩).run P W = .ok (.agg cs) W := by
  have := run_loadVar_mid (P := P) W g 0 t cs.toList _ (fun j v hv => by rw [Nat.zero_add, blk_cell hb]; simpa using hv) ht rfl (by simpa using hi)
  simpa using this
/-- A function whose one result is an array that lies in a variable. -/
theorem results_arr {W : World} {fn : Func} {tmps : Array Value} {c : Tmp} (t : TypeId) (hr : fn.results = #[.cell c t]) {n e : Nat} (ht : P.underlying t = some (.array n e)) {cs : Array Value} (hi : (P.info? t).map (·.size) = some cs.size) {g : Nat}
    (hc : tmps.getD c undef = .pointer (some ⟨g, 0, none⟩)) (hb : W.heap[g]? = some (.cells cs t (0, 0))) : (results fn tmps).run P W = .ok (.agg cs) W := by
  have h := run_loadVar_arr (P := P) t ht hi hb
  unfold results
  rw [hr]
  have hc' : tmps[c]?.getD undef = .pointer (some ⟨g, 0, none⟩) := by simpa using hc
  simp [asAddr, hc', h]
theorem run_store_same {W : World} {t : TypeId} {cs : Array Value} {g : Nat} (hb : W.heap[g]? = some (.cells cs t (0, 0))) (h1 : ∀ v ∈ cs, v.oneCell' = true) : (storeCells ⟨g, 0, none⟩ cs.toList).run P W = .ok () W := by
  have h2 := run_storeCells_at (P := P) g 0 t cs.toList 0 cs W hb (by simp) (fun v hv => h1 v (by simpa using hv))
  have hdr : cs.toList.drop cs.size = [] := List.drop_of_length_le (by simp)
  simpa [hdr, setRow_self W g cs t (0, 0) hb] using h2
/-- Another array is stored over it. -/
theorem run_store_over {W : World} {t : TypeId} {cs cs' : Array Value} {g : Nat} (hb : W.heap[g]? = some (.cells cs t (0, 0))) (hl : cs'.size = cs.size) (h1 : ∀ v ∈ cs', v.oneCell' = true) : (storeCells ⟨g, 0, none⟩ cs'.toList).run P W = .ok () (W.setRow g cs') := by
  have h2 := run_storeCells_at (P := P) g 0 t cs'.toList 0 cs W hb (by simp [hl]) (fun v hv => h1 v (by simpa using hv))
  have hdr : cs.toList.drop cs'.size = [] := List.drop_of_length_le (by simp [hl])
  simpa [hdr] using h2
theorem run_storeAt_over {W : World} (t : TypeId) {cs cs' : Array Value} (hi : (P.info? t).map (·.size) = some cs'.size) {g : Nat} (hb : W.heap[g]? = some (.cells cs t (0, 0))) (hl : cs'.size = cs.size) (h1 : ∀ v ∈ cs', v.oneCell' = true) :
    (Instr.storeAt t (.pointer (some ⟨g, 0, none⟩)) (.agg cs')).run P W = .ok () (W.setRow g cs') := by
  have h2 := run_store_over (P := P) hb hl h1
  obtain ⟨i, hi1, hi2⟩ := Option.map_eq_some_iff.1 hi
  simp [Instr.storeAt, Instr.sureAddr, storeVar, sizeOf, typeInfo, hi1, hi2, Value.cells, h2]
theorem row_new {W : World} {t : TypeId} {cs : Array Value} {g : Nat} (hb : W.heap[g]? = some (.cells cs t (0, 0))) (cs' : Array Value) : (W.setRow g cs').heap[g]? = some (.cells cs' t (0, 0)) := setRow_heap W g cs cs' t (0, 0) hb
theorem arr_store {W : World} (hgd : o.guard = none) (hd : o.dst = none) (t : TypeId) (x y : Operand) (ho : o.op = .store t x y) {cs cs' : Array Value} (hi : (P.info? t).map (·.size) = some cs'.size)
    {g : Nat} (hx : a.eval x = .pointer (some ⟨g, 0, none⟩)) (hy : a.eval y = .agg cs') (hb : W.heap[g]? = some (.cells cs t (0, 0))) (hl : cs'.size = cs.size) (h1 : ∀ v ∈ cs', v.oneCell' = true)
    {w0 : World} (HB : Below w0.heap.size w0 W) (hg : w0.heap.size ≤ g)
    (h : ∀ w1, w1.heap[g]? = some (.cells cs' t (0, 0)) → Below w0.heap.size w0 w1 → wpList P ops Q rest a w1) : wpList P ops Q (o :: rest) a W := by
  refine wpList_plain hgd fun K hK => ?_
  have h2 := run_storeAt_over (P := P) t hi hb hl h1
  have hr : (execOp a.eval o).run P W = .ok .skip (W.setRow g cs') := by simp [execOp, ho, hx, hy, h2]
  unfold Oper.wp
  rw [hr, Oper.upon_skip, hd]
  refine hK _ _ (h _ (row_new hb cs') ?_)
  refine ⟨HB.os, HB.tape, HB.output, ?_, fun k hk => ?_⟩
  · simpa [World.setRow] using HB.size
  · have hne : g ≠ k := by omega
    rw [← HB.block k hk]
    simp [World.setRow, Array.getElem?_modify, hne]
/-- The same, at one operation. -/
theorem wp_arr_load {op : Oper} {W : World} {K : Act → World → Prop} (t : TypeId) (x : Operand) (ho : op.op = .load t x) {n e : Nat} (ht : P.underlying t = some (.array n e)) {cs : Array Value} (hi : (P.info? t).map (·.size) = some cs.size)
    {g : Nat} (hx : a.eval x = .pointer (some ⟨g, 0, none⟩)) (hb : W.heap[g]? = some (.cells cs t (0, 0)))
    (h : K (a.put op.dst (.agg cs)) W) : op.wp P a W K Q := by
  refine wp_load_mid t x ho g 0 hx cs.toList _ (fun j v hv => ?_) ht rfl (by simpa using hi) (by simpa using h)
  rw [Nat.zero_add, blk_cell hb]
  simpa using hv
theorem wp_arr_store_same {op : Oper} {W : World} {K : Act → World → Prop} (t : TypeId) (x y : Operand) (ho : op.op = .store t x y) {cs : Array Value} (hi : (P.info? t).map (·.size) = some cs.size)
    {g : Nat} (hx : a.eval x = .pointer (some ⟨g, 0, none⟩)) (hy : a.eval y = .agg cs) (hb : W.heap[g]? = some (.cells cs t (0, 0))) (h1 : ∀ v ∈ cs, v.oneCell' = true)
    (h : K (a.put op.dst undef) W) : op.wp P a W K Q := by
  have hr : (execOp a.eval op).run P W = .ok .skip W := by
    have h2 := run_storeCells_at (P := P) g 0 t cs.toList 0 cs W hb (by simp) (fun v hv => h1 v (by simpa using hv))
    have hdr : cs.toList.drop cs.size = [] := List.drop_of_length_le (by simp)
    simp [hdr, setRow_self W g cs t (0, 0) hb] at h2
    obtain ⟨i, hi1, hi2⟩ := Option.map_eq_some_iff.1 hi
    simp [execOp, ho, hx, hy, Instr.storeAt, Instr.sureAddr, storeVar, sizeOf, typeInfo, hi1, hi2, Value.cells, h2]
  unfold Oper.wp
  rw [hr, Oper.upon_skip]
  exact h
end
theorem eqItems_same {P : Program} {w : World} (d e : Nat) {k : IntKind} (he : P.underlying e = some (.int k)) (tv : Array Value) : ∀ (is : List Nat), (∀ i ∈ is, ∃ z, tv[i]? = some (.int k z)) → (Op.eqItems (d + 1) e 1 tv tv is).run P w = .ok true w
  | [], _ => by simp [Op.eqItems]
  | i :: is, h => by
    obtain ⟨z, hz⟩ := h i (List.mem_cons_self ..)
    have ih := eqItems_same (w := w) d e he tv is (fun j hj => h j (List.mem_cons_of_mem _ hj))
    have hp : (part e tv (i * 1)).run P w = .ok (.int k z) w := by
      simp [part, isAgg, run_underlying he, hz]
    have hq : (Op.equalIn (d + 1) e (.int k z) (.int k z)).run P w = .ok true w := by
      simp [Op.equalIn, run_underlying he]
    simp only [Op.eqItems, Sem.run_bind, hp, hq, Result.andThen_ok]
    simpa using ih
/-- An array of numbers is equal to itself. -/
theorem eq_arr {P : Program} (t : TypeId) {n e : Nat} (ht : P.underlying t = some (.array n e)) {k : IntKind} (he : P.underlying e = some (.int k)) (hi : (P.info? e).map (·.size) = some 1) (tv : Array Value) (h : ∀ j, j < n → ∃ z, tv[j]? = some (.int k z)) (w : World) :
    (Op.equalIn 10000 t (.agg tv) (.agg tv)).run P w = .ok true w := by
  obtain ⟨i, hi1, hi2⟩ := Option.map_eq_some_iff.1 hi
  rw [show (10000 : Nat) = 9999 + 1 from rfl, run_equalIn_array w 9999 tv tv ht hi1, show P.cellsOf e = 1 from by simp [Program.cellsOf, hi1, hi2]]
  exact eqItems_same 9998 e he tv _ (fun j hj => h j (by simpa using hj))
end Go.Proofs.YteackhccflojpaaO
