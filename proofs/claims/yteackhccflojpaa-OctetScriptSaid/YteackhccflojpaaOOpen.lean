/- Words of my own: what comes in, of whatever shape (numbers, strings, structs, slices of these), read as a plain value. -/
import Derived.Test.YteackhccflojpaaOBase
import Derived.Deep.Slices
import Derived.Deep.Fields
import Derived.SizedLaws
import Derived.ChangeSame
import Derived.ProofKit
set_option linter.unusedVariables false
set_option linter.unusedSimpArgs false
namespace Go.Proofs.YteackhccflojpaaO
open Go.RowKit Go.Proofs.YteackhccflojpaaW.PrintWords Go.ChangeShapes Go.WideShapes Go.Deep
section
variable {α β : Type} {P : Program} {T e : TypeId}
/-- What reads at type T is a value of this kind, and it is good. -/
def Opens (P : Program) (T : TypeId) {α : Type} (d : Kd α) (good : α → Prop) : Prop :=
  ∀ (H : Type) (enc : TypeId × Value → H) (W : World) (base : Nat) (spare : Nat → Bool) (held : Bool) (n : Nat) (cs : List Value) (y : DataW H × List MemPlace),
    DataW.trod enc P W base spare held n T cs = some y → (∀ m ∈ y.1.weights P T, m ≤ reachBytes) → ∃ x, d.K W x cs ∧ good x
theorem opens_int {k : IntKind} (hu : P.underlying T = some (.int k)) : Opens P T (Kd.int k) (fun x => (Lit.int k x).wf = true) := by
  intro H enc W base spare held n cs y h _
  obtain ⟨x, rfl, _, hw⟩ := DataW.trod_int hu h
  exact ⟨x, rfl, hw⟩
theorem opens_bool (hu : P.underlying T = some .bool) : Opens P T Kd.bool (fun _ => True) := by
  intro H enc W base spare held n cs y h _
  obtain ⟨x, rfl, _⟩ := DataW.trod_bool hu h
  exact ⟨x, rfl, trivial⟩
theorem opens_string (hu : P.underlying T = some .string) : Opens P T Kd.string (fun s => s.size ≤ 140737488351232) := by
  intro H enc W base spare held n cs y h hw
  obtain ⟨s, rfl, rfl, _⟩ := DataW.trod_string hu h
  refine ⟨s, rfl, ?_⟩
  have := hw s.data.toList.length (by simp [DataW.weights])
  rw [data_length] at this
  exact this
theorem weightsAll_mem {H : Type} {e : TypeId} : ∀ {l : List (DataW H)} {d : DataW H}, d ∈ l → ∀ m ∈ d.weights P e, m ∈ DataW.weightsAll P e l
  | _ :: _, _, .head _, m, hm => by simp only [DataW.weightsAll, List.mem_append]; exact .inl hm
  | _ :: _, _, .tail _ h, m, hm => by simp only [DataW.weightsAll, List.mem_append]; exact .inr (weightsAll_mem h m hm)
theorem opens_slice {d : Kd α} {good : α → Prop} {B : Nat} (hu : P.underlying T = some (.slice e)) (hc : P.cellsOf e = d.sz) (hB : P.bytesOf e = B) (ho : Opens P e d good) :
    Opens P T (Kd.slice e d) (fun l => l.length ≤ maxLen ∧ l.length * B ≤ 140737488351232 ∧ ∀ x ∈ l, good x) := by
  intro H enc W base spare held n cs y h hw
  rcases open_slice hu h with ⟨rfl, rfl⟩ | ⟨a, len, cap, m, n', D, Pl, rfl, hb, hl, hm, hmm, rfl, hi⟩
  · exact ⟨[], ⟨none, 0, rfl, Nat.le_refl _, rfl, by simp, fun hn => by simp at hn⟩, by simp, by simp, (fun x hx => by cases hx)⟩
  · have hlm : len ≤ m := by rw [hmm]; split <;> omega
    have hex : ∀ i : Nat, i < len → ∃ x cs', d.K W x cs' ∧ good x ∧ cs'.length = d.sz ∧ ∀ j u, cs'[j]? = some u → W.cell? (a.add (i * d.sz + j)) = some u := by
      intro i hil
      obtain ⟨cs', hcc, ht⟩ := hi i (by omega)
      rw [hc] at hcc
      obtain ⟨_, hcl, hat⟩ := World.cells?_some hcc
      obtain ⟨x, hK, hg⟩ := ho H enc W base spare held n' cs' _ ht (fun q hq => hw q (by
        simp only [DataW.weights, hu, List.mem_cons, List.mem_append]
        exact .inr (.inl (weightsAll_mem (List.mem_map.2 ⟨i, List.mem_range.2 hil, rfl⟩) q hq))))
      refine ⟨x, cs', hK, hg, hcl, fun j u hj => ?_⟩
      have hjl : j < d.sz := by rw [← hcl]; exact (List.getElem?_eq_some_iff.1 hj).1
      rw [← Go.Deep.add_add, hat j hjl, hj]
    have hsz : len * B ≤ 140737488351232 := by
      have h1 := hw ((len + (m - len)) * P.bytesOf e) (by simp [DataW.weights, hu])
      rw [hB] at h1
      exact Nat.le_trans (Nat.mul_le_mul_right _ (Nat.le_add_right _ _)) h1
    have hlist : ∀ q, q ≤ len → ∃ l : List α, l.length = q ∧ (∀ x ∈ l, good x) ∧ ∀ i x, l[i]? = some x → ∃ c, c.length = d.sz ∧ d.K W x c ∧ ∀ j u, c[j]? = some u → W.cell? (a.add (i * d.sz + j)) = some u := by
      intro q
      induction q with
      | zero => intro _; exact ⟨[], rfl, (fun x hx => by cases hx), (fun i x hx => by simp at hx)⟩
      | succ q ih =>
        intro hq
        obtain ⟨l, hll, hlg, hlr⟩ := ih (by omega)
        obtain ⟨x, c, hK, hg, hcl, hat⟩ := hex q (by omega)
        refine ⟨l ++ [x], by simp [hll], fun y hy => ?_, fun i y hy => ?_⟩
        · rcases List.mem_append.1 hy with hy | hy
          · exact hlg y hy
          · rw [List.mem_singleton.1 hy]; exact hg
        · rw [List.getElem?_append] at hy
          split at hy
          · exact hlr i y hy
          · rename_i hi
            have hi2 : i = q := by
              rcases Nat.lt_or_ge (i - l.length) 1 with h1 | h1
              · omega
              · rw [List.getElem?_eq_none (by simpa using h1)] at hy; cases hy
            subst hi2
            rw [hll, Nat.sub_self] at hy
            simp only [List.getElem?_cons_zero, Option.some.injEq] at hy
            subst hy
            exact ⟨c, hcl, hK, hat⟩
    obtain ⟨l, hll, hlg, hlr⟩ := hlist len (Nat.le_refl _)
    subst hll
    have h63 : l.length ≤ maxLen := by omega
    exact ⟨l, ⟨some a, cap, rfl, hl, rfl, by simpa [maxLen] using h63, fun _ => ⟨a, rfl, hlr⟩⟩, h63, hsz, hlg⟩
/-- Fields, one behind the other. -/
def ReadF {H : Type} (enc : TypeId × Value → H) (P : Program) (W : World) (base : Nat) (spare : Nat → Bool) (held : Bool) (n : Nat) : List Field → List Value → List (DataW H × List MemPlace) → Prop
  | [], cs, ys => cs = [] ∧ ys = []
  | f :: fs, cs, ys => ∃ y ys', ys = y :: ys' ∧ DataW.trod enc P W base spare held n f.type (cs.take (P.cellsOf f.type)) = some y ∧ ReadF enc P W base spare held n fs (cs.drop (P.cellsOf f.type)) ys'
def OpensF (P : Program) (fs : List Field) {α : Type} (d : Kd α) (good : α → Prop) : Prop :=
  ∀ (H : Type) (enc : TypeId × Value → H) (W : World) (base : Nat) (spare : Nat → Bool) (held : Bool) (n : Nat) (cs : List Value) (ys : List (DataW H × List MemPlace)),
    ReadF enc P W base spare held n fs cs ys → (∀ m ∈ DataW.weightsEach P (fs.map (·.type)) (ys.map (·.1)), m ≤ reachBytes) → ∃ x, d.K W x cs ∧ good x
theorem opensF_one {f : Field} {d : Kd α} {good : α → Prop} (h : Opens P f.type d good) (hc : P.cellsOf f.type = d.sz) : OpensF P [f] d good := by
  intro H enc W base spare held n cs ys hr hw
  obtain ⟨y, ys', rfl, ht, hd, rfl⟩ := hr
  obtain ⟨x, hK, hg⟩ := h H enc W base spare held n _ y ht (fun m hm => hw m (by simp [DataW.weightsEach, hm]))
  refine ⟨x, ?_, hg⟩
  have : cs = cs.take (P.cellsOf f.type) ++ cs.drop (P.cellsOf f.type) := (List.take_append_drop _ _).symm
  rw [hd, List.append_nil] at this
  rw [this]
  exact hK
theorem opensF_cons {f : Field} {fs : List Field} {d : Kd α} {d2 : Kd β} {good : α → Prop} {good2 : β → Prop} (h : Opens P f.type d good) (h2 : OpensF P fs d2 good2) : OpensF P (f :: fs) (Kd.pair d d2) (fun x => good x.1 ∧ good2 x.2) := by
  intro H enc W base spare held n cs ys hr hw
  obtain ⟨y, ys', rfl, ht, hr2⟩ := hr
  obtain ⟨x, hK, hg⟩ := h H enc W base spare held n _ y ht (fun m hm => hw m (by simp [DataW.weightsEach, hm]))
  obtain ⟨x2, hK2, hg2⟩ := h2 H enc W base spare held n _ ys' hr2 (fun m hm => hw m (by simp only [List.map_cons, DataW.weightsEach, List.mem_append]; exact .inr hm))
  exact ⟨(x, x2), ⟨_, _, (List.take_append_drop _ _).symm, hK, hK2⟩, hg, hg2⟩
/-- Each field begins where the one ahead ends. -/
def offs (P : Program) : List Field → Nat → Bool
  | [], _ => true
  | f :: fs, o => f.offset == o && offs P fs (o + P.cellsOf f.type)
def cellsF (P : Program) : List Field → Nat
  | [] => 0
  | f :: fs => P.cellsOf f.type + cellsF P fs
theorem readF_of {H : Type} {enc : TypeId × Value → H} {W : World} {base : Nat} {spare : Nat → Bool} {held : Bool} {n : Nat} : ∀ (fs : List Field) (o : Nat) (cs : List Value) (xs : List (DataW H × List MemPlace)),
    offs P fs o = true → cs.length = o + cellsF P fs → xs.length = fs.length → (∀ (i : Nat) (f : Field), fs[i]? = some f → DataW.trod enc P W base spare held n f.type ((cs.drop f.offset).take (P.cellsOf f.type)) = xs[i]?) →
    ReadF enc P W base spare held n fs (cs.drop o) xs
  | [], o, cs, xs, _, hl, hx, _ => ⟨List.drop_eq_nil_of_le (by simp [cellsF] at hl; omega), List.eq_nil_of_length_eq_zero hx⟩
  | f :: fs, o, cs, xs, ho, hl, hx, h => by
    simp only [offs, Bool.and_eq_true, beq_iff_eq] at ho
    match xs, hx with
    | x :: xs, hx =>
      have h0 := h 0 f rfl
      rw [ho.1] at h0
      refine ⟨x, xs, rfl, h0, ?_⟩
      rw [List.drop_drop]
      refine readF_of fs (o + P.cellsOf f.type) cs xs ho.2 (by simp only [cellsF] at hl; omega) (by simpa using hx) (fun i f' hi => ?_)
      simpa using h (i + 1) f' (by simpa using hi)
theorem opens_struct {fs : List Field} {d : Kd β} {good : β → Prop} {f : α → β} {g : β → α} (hu : P.underlying T = some (.struct fs.toArray)) (ho : offs P fs 0 = true) (hc : P.cellsOf T = cellsF P fs) (hfg : ∀ z, f (g z) = z) (h : OpensF P fs d good) :
    Opens P T (Kd.iso d f) (fun x => good (f x)) := by
  intro H enc W base spare held n cs y ht hw
  obtain ⟨xs, n', _, rfl, hlen, hxl, hg⟩ := DataW.trod_struct hu ht
  have hr := readF_of (P := P) (enc := enc) (W := W) (base := base) (spare := spare) (held := held) (n := n') fs 0 cs xs ho (by rw [hlen, hc, Nat.zero_add]) (by simpa using hxl) (fun i f' hi => hg i f' (by simpa using hi))
  rw [List.drop_zero] at hr
  obtain ⟨z, hK, hgd⟩ := h H enc W base spare held n' cs xs hr (fun m hm => hw m (by simp [DataW.weights, hu, hm]))
  exact ⟨g z, by show d.K W (f (g z)) cs; rw [hfg]; exact hK, by show good (f (g z)); rw [hfg]; exact hgd⟩
/-- A parameter. -/
theorem opens_arg {d : Kd α} {good : α → Prop} {H : Type} {enc : TypeId × Value → H} {W : World} {base : Nat} {spare : Nat → Bool} {held : Bool} {ts : List TypeId} {ds : List (DataW H)} {j : Nat} {v : Value} {y : DataW H} {ps : List MemPlace}
    (ho : Opens P T d good) (hsz : (DataW.weightsEach P ts ds).all (· ≤ reachBytes) = true) (ht : ts[j]? = some T) (hd : ds[j]? = some y) (h : DataW.Trod enc P W base spare held T v y ps) : ∃ x, d.K W x v.cells.toList ∧ good x := by
  obtain ⟨fuel, hf⟩ := h
  exact ho H enc W base spare held fuel _ _ hf (fun m hm => by simpa using List.all_eq_true.1 hsz m (DataW.weights_mem_each ht hd m hm))
end
end Go.Proofs.YteackhccflojpaaO
