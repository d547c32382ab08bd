/- A word of my own beside the print's: the mark that a constant's bytes get. -/
import Derived.Test.YteackhccflojpaaOBase
set_option linter.unusedVariables false
set_option linter.unusedSimpArgs false
namespace Go.Proofs.YteackhccflojpaaO
open Go.RowKit Go.Proofs.YteackhccflojpaaW.PrintWords Go.Proofs.YteackhccflojpaaW.PrintWords.Kd
section
variable {P : Program} {ops : Array Oper} {rest : List Oper} {o : Oper} {a : Act} {Q : Exit → Act → World → Prop}
/-- '[]byte("constant")': the literal's row gets the run-time's mark (behind its last cell); its elements read as they did. -/
theorem R_mark {w0 W : World} (base e t : Nat) (hgd : o.guard = none) {N : Tmp} (hd : o.dst = some N) (x : Operand) (ho : o.op = .convert t t x) (ht : P.underlying t = some (.slice e)) (he : P.underlying e = some (.int .u8))
    {ok : Nat → Prop} {A : Option Addr} {n c : Nat} {xs : List Int} (hx : a.eval x = .slice A n c) (HO : (Kd.int .u8).R e W base ok (.slice A n c) xs) (hn : 0 < xs.length) (HB : Below base w0 W) (hbase : base ≤ W.heap.size)
    (h : ∀ w1, (Kd.int .u8).C w1 A xs.length xs → xs.length ≤ c → Below base w0 w1 → W.grownBy w1 (Value.slice A n c).ownBlock → wpList P ops Q rest (a.put o.dst (.slice A n c)) w1) : wpList P ops Q (o :: rest) a W := by
  obtain ⟨hnn, hnc, hC⟩ := Kd.R_reads' HO
  obtain ⟨inner, hown⟩ := Kd.R_own HO
  obtain ⟨hl, hv⟩ := hown
  rcases hv with ⟨hv, h0⟩ | ⟨g, cap, cur, hv, hb, hh, h1, h2, h3, h4⟩
  · omega
  · injection hv with ha hn' hc'
    subst ha; subst hn'; subst hc'
    let fr : Obj → Obj := fun ob => match ob with
      | .cells c elem (lo, hi) => .cells c elem (if lo == hi then (cur.size, cur.size + 1) else (min lo cur.size, max hi (cur.size + 1)))
      | ob => ob
    have hlt : g < W.heap.size := (Array.getElem?_eq_some_iff.1 hh).1
    have hsh : W.shape? g = some (e, cur.size) := by unfold World.shape?; rw [hh]
    have hw1 : W.freeze ⟨g, cur.size, none⟩ 1 = { W with heap := W.heap.modify g fr } := by
      unfold World.freeze
      rw [if_neg (by decide)]
      rfl
    have hrun : (execOp a.eval o).run P W = .ok (.value (.slice (some ⟨g, 0, none⟩) xs.length c)) (W.freeze ⟨g, cur.size, none⟩ 1) := by
      simp [execOp, ho, hx, convert, run_underlying ht, run_underlying he, markStringish, hsh]
    have hcell : ∀ ad v, W.cell? ad = some v → (W.freeze ⟨g, cur.size, none⟩ 1).cell? ad = some v := by
      intro ad v hv
      rw [hw1]
      simp only [World.cell?] at hv ⊢
      rw [Array.getElem?_modify]
      by_cases hg : g = ad.block
      · rw [if_pos hg]
        rw [← hg] at hv ⊢
        rw [hh] at hv ⊢
        simpa [fr] using hv
      · rw [if_neg hg]
        exact hv
    have hgr : W.grownBy (W.freeze ⟨g, cur.size, none⟩ 1) (Value.slice (some ⟨g, 0, none⟩) xs.length c).ownBlock := by
      rw [hw1]
      refine ⟨rfl, rfl, rfl, by simp, fun k hk hne => ?_⟩
      have hkg : g ≠ k := fun e_ => hne (by rw [← e_]; simp [Value.ownBlock])
      show (W.heap.modify g fr)[k]? = _
      rw [Array.getElem?_modify, if_neg hkg]
    refine event_run hgd hrun ?_
    refine h _ ?_ (by omega) (HB.grown hgr hbase (Kd.R_base HO)) hgr
    refine ⟨hC.1, hC.2.1, fun hp => ?_⟩
    obtain ⟨ad, e1, hcs⟩ := hC.2.2 hp
    refine ⟨ad, e1, fun j p hj => ?_⟩
    obtain ⟨cc, hcl, hK, hat⟩ := hcs j p hj
    exact ⟨cc, hcl, hK, fun i u hi => hcell _ _ (hat i u hi)⟩
end
end Go.Proofs.YteackhccflojpaaO
