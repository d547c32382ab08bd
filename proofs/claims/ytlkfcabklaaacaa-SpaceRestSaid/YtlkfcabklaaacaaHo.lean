/- Words of my own: what comes in, of whatever shape, read as plain values; a law's run. -/
import Derived.Test.YtlkfcabklaaacaaHj
import Derived.Deep.Slices
import Derived.Deep.Fields
import Derived.SizedLaws
import Derived.ChangeSame
import Derived.ProofKit
import Derived.WideShapes
set_option linter.unusedVariables false
set_option linter.unusedSimpArgs false
namespace Go.Ev
open Go.RowKit Go.ChangeShapes Go.WideShapes Go.Deep
section
variable {α β γ : Type} {P : Program} {T e : TypeId}
/-- What reads at type T is a value of this kind, and it is good. -/
def Opens (P : Program) (T : TypeId) (k : α → List Value) (good : α → Prop) : Prop :=
  ∀ (H : Type) (enc : TypeId × Value → H) (W : World) (base : Nat) (spare : Nat → Bool) (held : Bool) (n : Nat) (cs : List Value) (y : DataW H × List MemPlace),
    DataW.trod enc P W base spare held n T cs = some y → (∀ m ∈ y.1.weights P T, m ≤ reachBytes) → ∃ x, cs = k x ∧ good x
theorem opens_int {kd : IntKind} (hu : P.underlying T = some (.int kd)) : Opens P T (fun x : Int => [.int kd x]) (fun x => (Lit.int kd x).wf = true) := by
  intro H enc W base spare held n cs y h _
  obtain ⟨x, rfl, _, hw⟩ := DataW.trod_int hu h
  exact ⟨x, rfl, hw⟩
theorem opens_nat {kd : IntKind} (hs : kd.signed = false) (hu : P.underlying T = some (.int kd)) : Opens P T (fun x : Nat => [.int kd (x : Int)]) (fun x => (Lit.int kd (x : Int)).wf = true) := by
  intro H enc W base spare held n cs y h _
  obtain ⟨x, rfl, _, hw⟩ := DataW.trod_int hu h
  have h0 : 0 ≤ x := by
    revert hw hs
    cases kd <;> simp [Lit.wf, IntKind.signed, IntKind.bits, IntKind.min, IntKind.max] <;> omega
  refine ⟨x.toNat, ?_, ?_⟩
  · show [Value.int kd x] = [.int kd (x.toNat : Int)]
    rw [Int.toNat_of_nonneg h0]
  · show (Lit.int kd (x.toNat : Int)).wf = true
    rw [Int.toNat_of_nonneg h0]; exact hw
theorem opens_bool (hu : P.underlying T = some .bool) : Opens P T (fun b : Bool => [.bool b]) (fun _ => True) := by
  intro H enc W base spare held n cs y h _
  obtain ⟨x, rfl, _⟩ := DataW.trod_bool hu h
  exact ⟨x, rfl, trivial⟩
theorem opens_string (hu : P.underlying T = some .string) : Opens P T (fun s : List UInt8 => [str s]) (fun s => s.length ≤ 140737488351232) := by
  intro H enc W base spare held n cs y h hw
  obtain ⟨s, rfl, rfl, _⟩ := DataW.trod_string hu h
  exact ⟨s.data.toList, rfl, hw s.data.toList.length (by simp [DataW.weights])⟩
/-- Fields, one behind the other. -/
def ReadF {H : Type} (enc : TypeId × Value → H) (P : Program) (W : World) (base : Nat) (spare : Nat → Bool) (held : Bool) (n : Nat) : List Field → List Value → List (DataW H × List MemPlace) → Prop
  | [], cs, ys => cs = [] ∧ ys = []
  | f :: fs, cs, ys => ∃ y ys', ys = y :: ys' ∧ DataW.trod enc P W base spare held n f.type (cs.take (P.cellsOf f.type)) = some y ∧ ReadF enc P W base spare held n fs (cs.drop (P.cellsOf f.type)) ys'
def OpensF (P : Program) (fs : List Field) (k : α → List Value) (good : α → Prop) : Prop :=
  ∀ (H : Type) (enc : TypeId × Value → H) (W : World) (base : Nat) (spare : Nat → Bool) (held : Bool) (n : Nat) (cs : List Value) (ys : List (DataW H × List MemPlace)),
    ReadF enc P W base spare held n fs cs ys → (∀ m ∈ DataW.weightsEach P (fs.map (·.type)) (ys.map (·.1)), m ≤ reachBytes) → ∃ x, cs = k x ∧ good x
theorem opensF_nil : OpensF P [] (fun _ : Unit => []) (fun _ => True) := by
  intro H enc W base spare held n cs ys hr hw
  exact ⟨(), hr.1, trivial⟩
theorem opensF_cons {f : Field} {fs : List Field} {k : α → List Value} {k2 : β → List Value} {good : α → Prop} {good2 : β → Prop} (h : Opens P f.type k good) (h2 : OpensF P fs k2 good2) : OpensF P (f :: fs) (fun x : α × β => k x.1 ++ k2 x.2) (fun x => good x.1 ∧ good2 x.2) := by
  intro H enc W base spare held n cs ys hr hw
  obtain ⟨y, ys', rfl, ht, hr2⟩ := hr
  obtain ⟨x, hK, hg⟩ := h H enc W base spare held n _ y ht (fun m hm => hw m (by simp [DataW.weightsEach, hm]))
  obtain ⟨x2, hK2, hg2⟩ := h2 H enc W base spare held n _ ys' hr2 (fun m hm => hw m (by simp only [List.map_cons, DataW.weightsEach, List.mem_append]; exact .inr hm))
  refine ⟨(x, x2), ?_, hg, hg2⟩
  show cs = k x ++ k2 x2
  rw [← hK, ← hK2, List.take_append_drop]
/-- Each field begins where the one ahead ends. -/
def offs (P : Program) : List Field → Nat → Bool
  | [], _ => true
  | f :: fs, o => f.offset == o && offs P fs (o + P.cellsOf f.type)
def cellsF (P : Program) : List Field → Nat
  | [] => 0
  | f :: fs => P.cellsOf f.type + cellsF P fs
theorem readF_of {H : Type} {enc : TypeId × Value → H} {W : World} {base : Nat} {spare : Nat → Bool} {held : Bool} {n : Nat} : ∀ (fs : List Field) (o : Nat) (cs : List Value) (xs : List (DataW H × List MemPlace)),
    offs P fs o = true → cs.length = o + cellsF P fs → xs.length = fs.length → (∀ (i : Nat) (f : Field), fs[i]? = some f → DataW.trod enc P W base spare held n f.type ((cs.drop f.offset).take (P.cellsOf f.type)) = xs[i]?) →
    ReadF enc P W base spare held n fs (cs.drop o) xs
  | [], o, cs, xs, _, hl, hx, _ => ⟨List.drop_eq_nil_of_le (by simp [cellsF] at hl; omega), List.eq_nil_of_length_eq_zero hx⟩
  | f :: fs, o, cs, xs, ho, hl, hx, h => by
    simp only [offs, Bool.and_eq_true, beq_iff_eq] at ho
    match xs, hx with
    | x :: xs, hx =>
      have h0 := h 0 f rfl
      rw [ho.1] at h0
      refine ⟨x, xs, rfl, h0, ?_⟩
      rw [List.drop_drop]
      refine readF_of fs (o + P.cellsOf f.type) cs xs ho.2 (by simp only [cellsF] at hl; omega) (by simpa using hx) (fun i f' hi => ?_)
      simpa using h (i + 1) f' (by simpa using hi)
theorem opens_struct {fs : List Field} {k : β → List Value} {k' : α → List Value} {good : β → Prop} {good' : α → Prop} (g : β → α) (hu : P.underlying T = some (.struct fs.toArray)) (ho : offs P fs 0 = true) (hc : P.cellsOf T = cellsF P fs) (hk : ∀ z, k' (g z) = k z) (h : OpensF P fs k good) (hg : ∀ z, good z → good' (g z)) :
    Opens P T k' good' := by
  intro H enc W base spare held n cs y ht hw
  obtain ⟨xs, n', _, rfl, hlen, hxl, hgg⟩ := DataW.trod_struct hu ht
  have hr := readF_of (P := P) (enc := enc) (W := W) (base := base) (spare := spare) (held := held) (n := n') fs 0 cs xs ho (by rw [hlen, hc, Nat.zero_add]) (by simpa using hxl) (fun i f' hi => hgg i f' (by simpa using hi))
  rw [List.drop_zero] at hr
  obtain ⟨z, hK, hgd⟩ := h H enc W base spare held n' cs xs hr (fun m hm => hw m (by simp [DataW.weights, hu, hm]))
  exact ⟨g z, by rw [hk]; exact hK, hg z hgd⟩
theorem weightsAll_mem {H : Type} {e : TypeId} : ∀ {l : List (DataW H)} {d : DataW H}, d ∈ l → ∀ m ∈ d.weights P e, m ∈ DataW.weightsAll P e l
  | _ :: _, _, .head _, m, hm => by simp only [DataW.weightsAll, List.mem_append]; exact .inl hm
  | _ :: _, _, .tail _ h, m, hm => by simp only [DataW.weightsAll, List.mem_append]; exact .inr (weightsAll_mem h m hm)
/-- A slice that comes in, under the name j: what is known of its memory. -/
def Look (W : World) (e z : Nat) (k : α → List Value) (l : List α) (j : Nat) (v : Value) (p : Option (Nat × Nat)) (o : Nat) : Prop :=
  (∀ ν : Ren, ν j = p → VR ν (.slice (some ⟨j, o, some z⟩) l.length 0) v) ∧ ∀ (ν : Ren) (g S : Nat), p = some (g, S) → ∃ ob, W.heap[g]? = some ob ∧ OR ν (.cells ⟨rowJ k o l⟩ e (1, 0)) ob S
/-- A parameter. -/
theorem opens_arg {k : α → List Value} {good : α → Prop} {H : Type} {enc : TypeId × Value → H} {W : World} {base : Nat} {spare : Nat → Bool} {held : Bool} {ts : List TypeId} {ds : List (DataW H)} {j : Nat} {v : Value} {y : DataW H} {ps : List MemPlace}
    (ho : Opens P T k good) (hsz : (DataW.weightsEach P ts ds).all (· ≤ reachBytes) = true) (ht : ts[j]? = some T) (hd : ds[j]? = some y) (h : DataW.Trod enc P W base spare held T v y ps) : ∃ x, v.cells.toList = k x ∧ good x := by
  obtain ⟨fuel, hf⟩ := h
  exact ho H enc W base spare held fuel _ _ hf (fun m hm => by simpa using List.all_eq_true.1 hsz m (DataW.weights_mem_each ht hd m hm))
theorem rowV_split {k : α → List Value} {z : Nat} [RowK k z] : ∀ (l : List α) (i : Nat), i < (rowV k l).length → ∃ q j x u, i = q * z + j ∧ l[q]? = some x ∧ (k x)[j]? = some u ∧ (rowV k l)[i]? = some u
  | [], i, h => by simp [rowV] at h
  | x :: l, i, h => by
    rw [rowV_cons] at h ⊢
    have hx := RowK.len (k := k) x
    by_cases hi : i < (k x).length
    · refine ⟨0, i, x, (k x)[i], by omega, rfl, List.getElem?_eq_getElem hi, ?_⟩
      rw [List.getElem?_append_left hi, List.getElem?_eq_getElem hi]
    · obtain ⟨q, j, y, u, h1, h2, h3, h4⟩ := rowV_split (k := k) (z := z) l (i - (k x).length) (by rw [List.length_append] at h; omega)
      refine ⟨q + 1, j, y, u, by rw [Nat.add_mul]; omega, h2, h3, ?_⟩
      rw [List.getElem?_append_right (by omega)]; exact h4
theorem look_arg {k : α → List Value} {z : Nat} [RowK k z] {good : α → Prop} {B : Nat} (hu : P.underlying T = some (.slice e)) (hc : P.cellsOf e = z) (hB : P.bytesOf e = B) (hz : 0 < z) (ho : Opens P e k good)
    {H : Type} {enc : TypeId × Value → H} {W : World} {base : Nat} {ts : List TypeId} {ds : List (DataW H)} {v : Value} {y : DataW H} {ps : List MemPlace} (j : Nat) (jj : Nat)
    (hok : Value.okWide P W .any base T v) (hsz : (DataW.weightsEach P ts ds).all (· ≤ reachBytes) = true) (ht : ts[jj]? = some T) (hd : ds[jj]? = some y) (h : DataW.Trod enc P W 0 (fun _ => true) true T v y ps) :
    ∃ (l : List α) (o : Nat) (p : Option (Nat × Nat)), l.length * B ≤ 140737488351232 ∧ (∀ x ∈ l, good x) ∧ Look W e z k l j v p o := by
  obtain ⟨fuel, hf⟩ := h
  have hw : ∀ m ∈ y.weights P T, m ≤ reachBytes := fun m hm => by simpa using List.all_eq_true.1 hsz m (DataW.weights_mem_each ht hd m hm)
  obtain ⟨A, len, cap, rfl⟩ := okWide_slice hu hok
  rcases open_slice hu hf with ⟨he, hy⟩ | ⟨a, len', cap', m, n', D, Pl, he, hb, hl, hm, hmm, hy, hi⟩
  · simp only [Value.cells, List.cons.injEq, Value.slice.injEq, and_true] at he
    obtain ⟨rfl, rfl, rfl⟩ := he
    refine ⟨[], 0, none, by simp, (fun x hx => by cases hx), fun ν hν => .nilS, fun ν g S h => by cases h⟩
  · simp only [Value.cells, List.cons.injEq, Value.slice.injEq, and_true] at he
    obtain ⟨rfl, rfl, rfl⟩ := he
    have hy1 : y = _ := congrArg Prod.fst hy
    rw [if_pos rfl] at hmm
    subst hmm
    have hok' : World.has P W .any base a e m := by
      simp only [Value.okWide, hu, Cell.okWide, Cell.ok] at hok
      exact hok.2.2
    obtain ⟨_, hspot, row, cells, hsh, _⟩ := hok'
    obtain ⟨block, off, spot⟩ := a
    simp only at hspot hsh
    subst hspot
    obtain ⟨c, t, f, hblk⟩ : ∃ c t f, W.heap[block]? = some (.cells c t f) := by
      unfold World.shape? at hsh
      split at hsh
      · exact ⟨_, _, _, by assumption⟩
      · cases hsh
    have hcell : ∀ q, W.cell? ⟨block, q, none⟩ = c[q]? := fun q => cell_of hblk q
    have hex : ∀ i : Nat, i < m → ∃ cs' : List Value, cs'.length = z ∧ ∀ q, q < z → c[off + (i * z + q)]? = cs'[q]? := by
      intro i hil
      obtain ⟨cs', hcc, ht⟩ := hi i hil
      rw [hc] at hcc
      obtain ⟨_, hcl, hat⟩ := World.cells?_some hcc
      refine ⟨cs', hcl, fun q hq => ?_⟩
      rw [← hat q hq, Go.Deep.add_add, add_none, hcell]
    have hsize : off + m * z ≤ c.size ∨ m = 0 := by
      by_cases h0 : m = 0
      · exact .inr h0
      · left
        obtain ⟨cs', h1, h2⟩ := hex (m - 1) (by omega)
        have h3 := h2 (z - 1) (by omega)
        rw [List.getElem?_eq_getElem (by omega : z - 1 < cs'.length)] at h3
        have h4 := (Array.getElem?_eq_some_iff.1 h3).1
        have h5 : (m - 1) * z + z = m * z := by
          rw [← Nat.succ_mul]; congr 1; omega
        omega
    have hlist : ∀ q, q ≤ len → ∃ l : List α, l.length = q ∧ (∀ x ∈ l, good x) ∧ ∀ i x, l[i]? = some x → ∀ j u, (k x)[j]? = some u → c[off + (i * z + j)]? = some u := by
      intro q
      induction q with
      | zero => intro _; exact ⟨[], rfl, (fun x hx => by cases hx), (fun i x hx => by simp at hx)⟩
      | succ q ih =>
        intro hq
        obtain ⟨l, hll, hlg, hlr⟩ := ih (by omega)
        obtain ⟨cs', hcc, ht⟩ := hi q (by omega)
        rw [hc] at hcc
        obtain ⟨_, hcl, hat⟩ := World.cells?_some hcc
        obtain ⟨x, hK, hg⟩ := ho H enc W 0 _ true n' cs' _ ht (fun w hw' => hw w (by
          rw [hy1]
          simp only [DataW.weights, hu, List.mem_cons, List.mem_append]
          exact .inr (.inl (weightsAll_mem (List.mem_map.2 ⟨q, List.mem_range.2 (by omega), rfl⟩) w hw'))))
        subst hK
        refine ⟨l ++ [x], by simp [hll], fun y hy => ?_, fun i y hy => ?_⟩
        · rcases List.mem_append.1 hy with hy | hy
          · exact hlg y hy
          · rw [List.mem_singleton.1 hy]; exact hg
        · rw [List.getElem?_append] at hy
          split at hy
          · exact hlr i y hy
          · rename_i hi'
            have hi2 : i = q := by
              rcases Nat.lt_or_ge (i - l.length) 1 with h1 | h1
              · omega
              · rw [List.getElem?_eq_none (by simpa using h1)] at hy; cases hy
            subst hi2
            rw [hll, Nat.sub_self] at hy
            simp only [List.getElem?_cons_zero, Option.some.injEq] at hy
            subst hy
            intro jq u hu'
            have hj : jq < z := by
              have := (List.getElem?_eq_some_iff.1 hu').1
              rwa [RowK.len (k := k) x] at this
            rw [← hcell, ← add_none, ← Go.Deep.add_add, hat jq hj, hu']
    obtain ⟨l, hll, hlg, hlr⟩ := hlist len (Nat.le_refl _)
    subst hll
    have hszB : l.length * B ≤ 140737488351232 := by
      have h1 := hw ((l.length + (m - l.length)) * P.bytesOf e) (by rw [hy1]; simp [DataW.weights, hu])
      rw [hB] at h1
      exact Nat.le_trans (Nat.mul_le_mul_right _ (Nat.le_add_right _ _)) h1
    by_cases h0 : m = 0
    · subst h0
      have hl0 : l = [] := List.eq_nil_of_length_eq_zero (by omega)
      subst hl0
      refine ⟨[], 0, some (block, c.size), hszB, hlg, fun ν hν => .slice hν (Nat.le_refl _) (by omega) (.inr rfl), fun ν g S h => ?_⟩
      obtain ⟨rfl, rfl⟩ := Prod.mk.inj (Option.some.inj h)
      exact ⟨_, hblk, .cells [] c.toList rfl .nil (fun h => by cases h)⟩
    · have hsize := hsize.resolve_right h0
      refine ⟨l, off, some (block, c.size), hszB, hlg, fun ν hν => .slice hν hl hsize (.inl rfl), fun ν g S h => ?_⟩
      obtain ⟨rfl, rfl⟩ := Prod.mk.inj (Option.some.inj h)
      have hlz : off + l.length * z ≤ c.size := Nat.le_trans (Nat.add_le_add_left (Nat.mul_le_mul_right _ hl) _) hsize
      have hrow : (c.toList.drop off).take (l.length * z) = rowV k l := by
        refine List.ext_getElem? fun i => ?_
        by_cases hil : i < (rowV k l).length
        · obtain ⟨q, jq, x, u, h1, h2, h3, h4⟩ := rowV_split (z := z) l i hil
          rw [h4, List.getElem?_take, if_pos (by rw [rowV_length (z := z)] at hil; exact hil), List.getElem?_drop, Array.getElem?_toList, h1]
          exact hlr q x h2 jq u h3
        · rw [List.getElem?_eq_none (Nat.le_of_not_lt hil), List.getElem?_take, if_neg (by rw [rowV_length (z := z)] at hil; exact hil)]
      refine ⟨_, hblk, .cells (c.toList.take off ++ (c.toList.drop off).take (l.length * z)) ((c.toList.drop off).drop (l.length * z)) ?_ ?_ (fun h => by cases h)⟩
      · rw [List.append_assoc, List.take_append_drop, List.take_append_drop]
      · rw [hrow]
        refine VRs.app ?_ (VRs.flats (flats_rowV (z := z) l))
        have hto : (c.toList.take off).length = off := by
          rw [List.length_take]
          have : c.toList.length = c.size := rfl
          omega
        have := VRs_jrow (ν := ν) (l := c.toList.take off)
        rwa [hto] at this
end
/-- A law's run. -/
theorem law_run {C : Cfg} {g : FuncId} {vs : List Value} {h : List (Nat × Obj)} {nx : Nat} {ν0 : Ren} {W : World} {us : Array Value} {R : Value → St → Prop} (hw : CW C g vs ⟨h, nx, [], [], []⟩ R) (hR : ∀ v s, R v s → v = .bool true)
    (hu : VRs ν0 vs us.toList) (hν : ∀ id, nx ≤ id → ν0 id = none) (hnx : nx ≤ KB) (hwf : wfB nx h = true)
    (hro : ∀ a o, aget h a = some o → ro o = true) (hobj : ∀ a o g S, aget h a = some o → ν0 a = some (g, S) → ∃ ob, W.heap[g]? = some ob ∧ OR ν0 o ob S) :
    Calls C.P g us W fun e W' => e = .returned (.bool true) ∧ Below W.heap.size W W' := by
  have en : Ent W.heap.size W nx ν0 (fun _ => none) := ⟨Nat.le_refl _, fun id h1 _ => hν id h1, fun id o _ h => by cases h⟩
  have hwf' := wfB_ok hwf
  have mem : Mem W.heap.size W nx ν0 (fun _ => none) ⟨h, nx, [], [], []⟩ ν0 W := by
    refine ⟨.refl _, fun id hid => absurd rfl hid, ⟨fun a o g S ha hg => ?_, fun a b o p g S S' ha hb _ _ => ?_, .refl _ _⟩, fun id o hid => hwf' id o hid, Nat.le_refl _, hnx⟩
    · unfold mm at ha
      split at ha
      · obtain ⟨ob, h1, h2⟩ := hobj a o g S ha hg
        exact ⟨ob, h1, h2, fun hf => by rw [hro a o ha] at hf; cases hf⟩
      · cases ha
    · unfold mm at ha hb
      split at ha
      · split at hb
        · exact .inr ⟨hro a o ha, hro b p hb⟩
        · cases hb
      · cases ha
  refine (hw.2 W.heap.size W ν0 _ en W us mem hu).mono fun e w' hh => ?_
  obtain ⟨v, s', ν', hr, hm, hend⟩ := hh
  obtain rfl := hR v s' hr
  obtain ⟨u, rfl, hv⟩ := (EndV.ret (v := .bool true) rfl).1 hend
  rw [VR.eq_of_flat rfl hv]
  exact ⟨rfl, hm.rel.below⟩
end Go.Ev
namespace Go.Ev
theorem wf_nat {kd : IntKind} (hs : kd.signed = false) {x : Int} (hw : (Lit.int kd x).wf = true) : ∃ n : Nat, x = (n : Int) := by
  have h0 : 0 ≤ x := by
    revert hw hs
    cases kd <;> simp [Lit.wf, IntKind.signed, IntKind.bits, IntKind.min, IntKind.max] <;> omega
  exact ⟨x.toNat, (Int.toNat_of_nonneg h0).symm⟩
end Go.Ev
