/- Words of my own: the row that '[]byte(s)' makes: its own block, with the run-time's mark behind its last cell. -/
import Derived.Test.YteackhccflojpaaOBase
import Derived.Test.YteackhccflojpaaOBytes
import Derived.Lib.ConvBytes
set_option linter.unusedVariables false
set_option linter.unusedSimpArgs false
namespace Go.Proofs.YteackhccflojpaaO
open Go.RowKit Go.Proofs.YteackhccflojpaaW.PrintWords Go.Proofs.YteackhccflojpaaW.PrintWords.Kd
/-- The block g holds the bytes xs, and is marked behind its end. -/
def MkRow (w : World) (g e : Nat) (xs : List Int) : Prop := ∃ cs : Array Value, w.heap[g]? = some (.cells cs e (cs.size, cs.size + 1)) ∧ xs.length ≤ cs.size ∧ xs.length ≤ 9223372036854775807 ∧ ∀ j, j < xs.length → cs[j]? = some (.int .u8 (xs.getD j 0))
theorem mk_lt {w : World} {g e : Nat} {xs : List Int} (h : MkRow w g e xs) : g < w.heap.size := by
  obtain ⟨cs, hb, _⟩ := h
  exact (Array.getElem?_eq_some_iff.1 hb).1
theorem mk_cell {w : World} {g e : Nat} {xs : List Int} (h : MkRow w g e xs) (j : Nat) (hj : j < xs.length) : w.cell? ⟨g, j, none⟩ = some (.int .u8 (xs.getD j 0)) := by
  obtain ⟨cs, hb, hl, hm, hc⟩ := h
  simp only [World.cell?, hb]
  exact hc j hj
theorem mk_frozen {w : World} {g e : Nat} {xs : List Int} (h : MkRow w g e xs) (j : Nat) (hj : j < xs.length) : w.frozen? ⟨g, j, none⟩ = false := by
  obtain ⟨cs, hb, hl, hm, hc⟩ := h
  simp only [World.frozen?, hb]
  rw [Bool.and_eq_false_iff]
  left
  simp only [decide_eq_false_iff_not]
  omega
theorem mk_set {w : World} {g e : Nat} {xs : List Int} (h : MkRow w g e xs) (j : Nat) (v : Int) : MkRow (w.setCell ⟨g, j, none⟩ (.int .u8 v)) g e (xs.set j v) := by
  obtain ⟨cs, hb, hl, hm, hc⟩ := h
  refine ⟨cs.setIfInBounds j (.int .u8 v), ?_, ?_, ?_, ?_⟩
  · simp [World.setCell, Array.getElem?_modify, hb]
  · simpa using hl
  · simpa using hm
  · intro i hi
    rw [List.length_set] at hi
    rw [Array.getElem?_setIfInBounds]
    by_cases e : j = i
    · subst e
      rw [if_pos rfl, if_pos (by omega)]
      simp [hi]
    · rw [if_neg e, hc i hi]
      simp [e]
theorem mk_below {w w1 : World} {g e : Nat} {xs : List Int} (h : MkRow w g e xs) (hb : Below w.heap.size w w1) : MkRow w1 g e xs := by
  have hl := mk_lt h
  obtain ⟨cs, h1, h2⟩ := h
  exact ⟨cs, (hb.block g hl).trans h1, h2⟩
theorem mk_C {w : World} {g e : Nat} {xs : List Int} (h : MkRow w g e xs) : (Kd.int .u8).C w (some ⟨g, 0, none⟩) xs.length xs := by
  have hcell := mk_cell h
  obtain ⟨cs, hb, hl, hm, hc⟩ := h
  refine C_of_reads (enc := Value.int .u8) (d := (0 : Int)) (h1 := fun _ => rfl) ?_
  refine ⟨rfl, hm, fun hp => ⟨_, rfl, fun i hi => ?_⟩⟩
  rw [add_plain]
  exact hcell i hi
theorem mk_string {P : Program} {w : World} {b s g e u c : Nat} {xs : List Int} (hs : P.underlying b = some (.slice u)) (he : P.underlying u = some (.int .u8)) (hd : P.underlying s = some .string) (h : MkRow w g e xs) :
    (convert b s (.slice (some ⟨g, 0, none⟩) xs.length c)).run P w = .ok (.string (strOfNums xs)) w := Kd.C_string (P := P) (A := some ⟨g, 0, none⟩) (c := c) hs he hd (mk_C h)
section
variable {P : Program} {ops : Array Oper} {rest : List Oper} {o : Oper} {a : Act} {Q : Exit → Act → World → Prop}
/-- '[]byte(s)'. -/
theorem mk_event {W : World} (hgd : o.guard = none) {N : Tmp} (hd : o.dst = some N) (t b e : TypeId) (x : Operand) (ho : o.op = .convert t b x) (s : ByteArray) (hx : a.eval x = .string s) (hs : P.underlying t = some .string) (hb : P.underlying b = some (.slice e)) (he : P.underlying e = some (.int .u8)) (hsz : s.size ≤ 9223372036854775807)
    (h : ∀ g c, g = W.heap.size → ∀ w1, MkRow w1 g e (B s) → Below W.heap.size W w1 → wpList P ops Q rest (a.put o.dst (.slice (some ⟨g, 0, none⟩) s.size c)) w1) : wpList P ops Q (o :: rest) a W := by
  have hrun : (execOp a.eval o).run P W = .ok (.value (.slice (some ⟨W.heap.size, 0, none⟩) s.size (grownCap W s.size 0 e))) (Lib.bytesWorld W e s) := by
    simp [execOp, ho, hx, Lib.run_convert_string_bytes W t b e s hs hb he]
  refine event_run hgd hrun (h _ _ rfl _ ?_ ?_)
  · refine ⟨_, Lib.bytesWorld_at_new W e s, ?_, by rw [B_length]; exact hsz, fun j hj => ?_⟩
    · rw [B_length]
      simp [Lib.bytesCells]
    · rw [B_length] at hj
      have h2 := Lib.bytesWorld_cell W e s j hj
      simp only [World.cell?, Lib.bytesWorld_at_new] at h2
      refine Eq.trans h2 ?_
      congr 2
      simp [bytesOf, hj]
  · exact ⟨rfl, rfl, rfl, by rw [Lib.bytesWorld_size]; omega, fun k hk => Lib.bytesWorld_at_old W e s k hk⟩
end
end Go.Proofs.YteackhccflojpaaO
