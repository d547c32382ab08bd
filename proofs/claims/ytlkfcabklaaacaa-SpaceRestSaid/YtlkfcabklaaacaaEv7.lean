/- Words of my own: the operations of the evaluator that look at no memory, proved right, all together. -/
import Derived.Test.YtlkfcabklaaacaaEv6
set_option linter.unusedVariables false
set_option linter.unusedSimpArgs false
namespace Go.Ev
open Go.RowKit
section
variable {C : Cfg} {B : Nat} {W0 : World} {N : Nat} {T : Tm} {s : St}
theorem bd {α β : Type} {x : Option α} {f : α → Option β} {b : β} (h : x.bind f = some b) : ∃ a, x = some a ∧ f a = some b := Option.bind_eq_some_iff.1 h
theorem lowOf_ok {ν : Ren} {a : Act} (tr : TR N ν T a) {lo : Option Operand} {l : Int} (h : lowOf T lo = some l) : (lo = none ∧ l = 0) ∨ ∃ x k, lo = some x ∧ a.eval x = .int k l := by
  unfold lowOf at h
  split at h
  · exact .inl ⟨rfl, (Option.some.inj h).symm⟩
  · rename_i x
    split at h
    · rename_i k i hx
      obtain rfl := Option.some.inj h
      exact .inr ⟨x, k, rfl, VR.int_inv (ev1_ok tr hx)⟩
    · cases h
theorem highOf_ok {ν : Ren} {a : Act} (tr : TR N ν T a) {d : Nat} {hi : Option Operand} {l : Int} (h : highOf T d hi = some l) : (hi = none ∧ l = d) ∨ ∃ x k, hi = some x ∧ a.eval x = .int k l := by
  unfold highOf at h
  split at h
  · exact .inl ⟨rfl, (Option.some.inj h).symm⟩
  · rename_i x
    split at h
    · rename_i k i hx
      obtain rfl := Option.some.inj h
      exact .inr ⟨x, k, rfl, VR.int_inv (ev1_ok tr hx)⟩
    · cases h
theorem sliceBound_run {k : IntKind} {i : Int} {y : Nat} {c : BoundsCode} (h0 : 0 ≤ i) (h1 : i ≤ y) (w : World) : (Instr.sliceBound (.int k i) y c).run C.P w = .ok i.toNat w := by
  simp only [Instr.sliceBound, asIntOf, Sem.run_bind, Sem.run_pure, Result.andThen_ok]
  rw [if_pos ⟨h0, h1⟩]
  rfl
/-- The bounds of a cut. -/
theorem sliceBounds_run {ν : Ren} {a : Act} (tr : TR N ν T a) {lo hi : Option Operand} {l h : Int} {n c : Nat} (isSlice : Bool) (hl : lowOf T lo = some l) (hh : highOf T n hi = some h) (h0 : 0 ≤ l) (h1 : l ≤ h) (h2 : h ≤ n) (hc : n ≤ c) (w : World) :
    (Instr.sliceBounds isSlice n c (lo.map a.eval) (hi.map a.eval) none).run C.P w = .ok (l.toNat, h.toNat, c) w := by
  have hb : ∀ (x : Int) (k : IntKind) (y : Nat) (cd : BoundsCode), 0 ≤ x → x ≤ y → (Instr.sliceBound (.int k x) y cd).run C.P w = .ok x.toNat w := fun x k y cd h0 h1 => sliceBound_run h0 h1 w
  rcases highOf_ok tr hh with ⟨rfl, rfl⟩ | ⟨x, k, rfl, hx⟩ <;> rcases lowOf_ok tr hl with ⟨rfl, rfl⟩ | ⟨y, k', rfl, hy⟩
  · simp [Instr.sliceBounds]
  · have e := hb l k' n .sliceB h0 h1
    simp [Instr.sliceBounds, hy, e]
  · have e := hb h k c (if isSlice then .sliceAcap else .sliceAlen) h1 (by omega)
    simp [Instr.sliceBounds, hx, e]
  · have e := hb h k c (if isSlice then .sliceAcap else .sliceAlen) (by omega) (by omega)
    have e2 := hb l k' h.toNat .sliceB h0 (by omega)
    simp [Instr.sliceBounds, hx, hy, e, e2]
theorem allT {ns : List Bool} (h : ∀ b ∈ ns, b = true) {b : Bool} (hb : b ∈ ns) : b = true := h b hb
theorem aPure_ok (hC : C.Ok) {o : Oper} {v : Value} {ns : List Bool} (h : aPure C T o = some (v, ns)) (hn : ∀ b ∈ ns, b = true) : OpOk C B W0 N o T s v s := by
  unfold aPure at h
  obtain ⟨dst, op, type, pos, after, guard⟩ := o
  split at h <;> first | (rename_i heq; dsimp only at heq; subst heq) | (cases h; done)
  · -- move
    obtain ⟨v', h1, h2⟩ := bd h
    obtain ⟨rfl, rfl⟩ := Prod.mk.inj (Option.some.inj h2)
    exact .of fun ν a w tr => ⟨_, rfl, ev1_ok tr h1⟩
  · obtain ⟨v', h1, h2⟩ := bd h
    obtain ⟨rfl, rfl⟩ := Prod.mk.inj (Option.some.inj h2)
    exact .of fun ν a w tr => ⟨_, rfl, ev1_ok tr h1⟩
  · -- pick
    rename_i c x y
    split at h
    · rename_i t ht
      obtain ⟨v', h1, h2⟩ := bd h
      obtain ⟨rfl, rfl⟩ := Prod.mk.inj (Option.some.inj h2)
      refine .of fun ν a w tr => ?_
      have e := VR.bool_inv (ev1_ok tr ht)
      cases t
      · exact ⟨a.eval y, by simp only [execOp, e]; rfl, ev1_ok tr h1⟩
      · exact ⟨a.eval x, by simp only [execOp, e]; rfl, ev1_ok tr h1⟩
    · cases h
  · -- nilCheck
    rename_i x
    split at h
    · rename_i p hp
      obtain ⟨rfl, rfl⟩ := Prod.mk.inj (Option.some.inj h)
      refine .of fun ν a w tr => ?_
      have e := ev1_ok tr hp
      refine ⟨a.eval x, ?_, e⟩
      cases hu : a.eval x with
      | pointer q =>
        rw [hu] at e
        cases q with
        | none => cases e
        | some q => simp only [execOp, hu]; rfl
      | _ => rw [hu] at e; cases e
    · cases h
  · -- extract
    rename_i x i
    split at h
    · rename_i l hl
      obtain ⟨v', h1, h2⟩ := bd h
      obtain ⟨rfl, rfl⟩ := Prod.mk.inj (Option.some.inj h2)
      refine .of fun ν a w tr => ?_
      obtain ⟨l', e, hv⟩ := VR.tuple_iff.1 (ev1_ok tr hl)
      rw [nth_eq] at h1
      obtain ⟨u, k1, k2⟩ := hv.get h1
      refine ⟨u, ?_, k2⟩
      have : l'[i]? = some u := by rw [← Array.getElem?_toList]; exact k1
      simp only [execOp, e, Instr.extract, this]
      rfl
    · cases h
  · -- binOp
    obtain ⟨v1, h1, h⟩ := bd h
    obtain ⟨v2, h2, h⟩ := bd h
    exact aBin_ok hC rfl h1 h2 h
  · -- unOp
    rename_i op t x
    have any : ((anyOp C T ⟨dst, .unOp op t x, type, pos, after, guard⟩).bind fun v => some (v, ([] : List Bool))) = some (v, ns) → OpOk C B W0 N ⟨dst, .unOp op t x, type, pos, after, guard⟩ T s v s := fun h => by
      obtain ⟨v', h1, h2⟩ := bd h
      obtain ⟨rfl, rfl⟩ := Prod.mk.inj (Option.some.inj h2)
      exact anyOp_ok (fun cs b e => by cases e) h1
    split at h
    · rename_i b hb
      obtain ⟨rfl, rfl⟩ := Prod.mk.inj (Option.some.inj h)
      refine .of fun ν a w tr => ⟨.bool (!b), ?_, by rw [neg_rec]; exact .flat rfl⟩
      simp only [execOp, VR.bool_inv (ev1_ok tr hb), Op.unary]
      rfl
    · rename_i k n hb
      obtain ⟨rfl, rfl⟩ := Prod.mk.inj (Option.some.inj h)
      refine .of fun ν a w tr => ⟨_, ?_, .flat rfl⟩
      simp only [execOp, VR.int_inv (ev1_ok tr hb), Op.unary, Op.intArith, wrapF_eq]
      rfl
    · rename_i k n hb
      obtain ⟨v', h1, h2⟩ := bd h
      obtain ⟨rfl, rfl⟩ := Prod.mk.inj (Option.some.inj h2)
      obtain rfl := bit2_ok h1
      refine .of fun ν a w tr => ⟨_, ?_, .flat rfl⟩
      simp only [execOp, VR.int_inv (ev1_ok tr hb), Op.unary, Op.intBits, BitVec.toNat_xor]
      rfl
    · exact any h
  · -- convert
    rename_i src dst' x
    split at h
    · rename_i ti k' n d hs hd hx
      obtain ⟨rfl, rfl⟩ := Prod.mk.inj (Option.some.inj h)
      refine .of fun ν a w tr => ⟨_, ?_, .flat rfl⟩
      simp only [execOp, convert, VR.int_inv (ev1_ok tr hx), Sem.run_bind, underlying_run hC hs, underlying_run hC hd, Result.andThen_ok, Conv.intToInt, wrapF_eq]
      rfl
    · rename_i ti d b hs hd hx
      obtain ⟨rfl, rfl⟩ := Prod.mk.inj (Option.some.inj h)
      refine .of fun ν a w tr => ⟨.string b, ?_, .flat rfl⟩
      simp only [execOp, convert, VR.string_inv (ev1_ok tr hx), Sem.run_bind, underlying_run hC hs, underlying_run hC hd, Result.andThen_ok]
      rfl
    · cases h
  · -- makeInterface
    rename_i t x
    split at h
    · rename_i ti v' ht hx
      split at h
      · cases h
      · rename_i hne
        obtain ⟨rfl, rfl⟩ := Prod.mk.inj (Option.some.inj h)
        refine .of fun ν a w tr => ⟨.iface t (a.eval x), ?_, .iface (ev1_ok tr hx)⟩
        simp only [execOp, Instr.makeInterface, Sem.run_bind, underlying_run hC ht, Result.andThen_ok]
        rfl
    · cases h
  · -- makeFunc
    rename_i f first cap
    split at h
    · rename_i hf
      obtain ⟨vs, h1, h2⟩ := bd h
      obtain ⟨rfl, rfl⟩ := Prod.mk.inj (Option.some.inj h2)
      have : first = #[] := Array.toList_inj.1 hf
      subst this
      refine .of fun ν a w tr => ⟨.func (.func f) #[] (cap.map a.eval), by simp [execOp, Instr.makeFunc], VR.fn_iff.2 ⟨_, rfl, ?_⟩⟩
      rw [Array.toList_map]
      exact evs_ok tr h1
    · cases h
  · -- fieldAddr
    rename_i t x i
    split at h
    · rename_i ti fs b q ht hx
      obtain ⟨f, h1, h⟩ := bd h
      obtain ⟨fi, h2, h⟩ := bd h
      split at h
      · cases h
      · rename_i hne
        obtain ⟨rfl, rfl⟩ := Prod.mk.inj (Option.some.inj h)
        refine .of fun ν a w tr => ?_
        obtain ⟨g, S, e, hν⟩ := VR.ptr_inv (ev1_ok tr hx)
        rw [nth_eq] at h1
        have hfs : fs[i]? = some f := by rw [← Array.getElem?_toList]; exact h1
        refine ⟨.pointer (some ⟨g, q + f.offset, none⟩), ?_, .ptr hν⟩
        have hsz : ¬ fi.1.size = 0 := hne
        simp only [execOp, Instr.fieldAt, e, Sem.run_bind, underlying_run hC ht, Result.andThen_ok, hfs, Instr.sureAddr, Sem.run_pure, fieldPlace, sizeOf_run hC h2, if_neg hsz, Addr.add]
        by_cases h0 : f.offset = 0
        · simp only [h0, if_true]; (try rfl)
        · simp only [if_neg h0]; (try rfl)
    · cases h
  · -- field
    rename_i t x i
    split at h
    · rename_i ti fs l ht hx
      obtain ⟨f, h1, h⟩ := bd h
      obtain ⟨fi, h2, h⟩ := bd h
      refine .of fun ν a w tr => ?_
      obtain ⟨l', e, hv⟩ := VR.agg_iff.1 (ev1_ok tr hx)
      rw [nth_eq] at h1
      have hfs : fs[i]? = some f := by rw [← Array.getElem?_toList]; exact h1
      obtain ⟨u, k1, k2⟩ := apart_ok hC h2 hv h w
      refine ⟨u, ?_, k2⟩
      simp only [execOp, Instr.field, e, Sem.run_bind, underlying_run hC ht, Result.andThen_ok, hfs, asAgg, Sem.run_pure, k1]
    · cases h
  · -- indexAddr
    rename_i t x i
    split at h
    · rename_i ti e b q z n c k j ht hx hj
      obtain ⟨ei, h2, h⟩ := bd h
      obtain ⟨rfl, rfl⟩ := Prod.mk.inj (Option.some.inj h)
      refine .of fun ν a w tr => ?_
      have b2 : toNatF j < n := ble_iff.1 (hn (Nat.ble (Nat.succ (toNatF j)) n) (by simp))
      obtain ⟨rfl, _⟩ | ⟨g, S, q', c', e', hν, hn1, hz, ho⟩ := VR.slice_inv (ev1_ok tr hx)
      · exact absurd b2 (Nat.not_lt_zero _)
      have ej := VR.int_inv (ev1_ok tr hj)
      have b1 : 0 ≤ j := of_decide_eq_true ((leI_eq 0 j).symm.trans (hn _ (by simp)))
      have b3 : z = ei.1.size := Nat.eq_of_beq_eq_true (hn (Nat.beq z ei.1.size) (by simp))
      rw [toNatF_eq] at b2 ⊢
      have hq : q' = q := by rcases ho with h | h <;> omega
      subst hq
      have b4 : 0 ≤ j ∧ j < (n : Int) := ⟨b1, by omega⟩
      refine ⟨.pointer (some ⟨g, q' + j.toNat * z, none⟩), ?_, .ptr hν⟩
      simp only [execOp, Instr.indexAt, e', ej, asIntOf, Sem.run_bind, Sem.run_pure, underlying_run hC ht, Result.andThen_ok, if_pos b4, sizeOf_run hC h2, Addr.add, ← b3]
      by_cases h0 : j.toNat * z = 0
      · simp only [h0, if_true]; (try rfl)
      · simp only [if_neg h0]; (try rfl)
    · rename_i ti n e b q k j ht hx hj
      obtain ⟨ei, h2, h⟩ := bd h
      obtain ⟨rfl, rfl⟩ := Prod.mk.inj (Option.some.inj h)
      refine .of fun ν a w tr => ?_
      obtain ⟨g, S, e', hν⟩ := VR.ptr_inv (ev1_ok tr hx)
      have ej := VR.int_inv (ev1_ok tr hj)
      have b1 : 0 ≤ j := of_decide_eq_true ((leI_eq 0 j).symm.trans (hn _ (by simp)))
      have b2 : toNatF j < n := ble_iff.1 (hn (Nat.ble (Nat.succ (toNatF j)) n) (by simp))
      rw [toNatF_eq] at b2 ⊢
      have b4 : 0 ≤ j ∧ j < (n : Int) := ⟨b1, by omega⟩
      refine ⟨.pointer (some ⟨g, q + j.toNat * ei.1.size, none⟩), ?_, .ptr hν⟩
      simp only [execOp, Instr.indexAt, e', ej, asIntOf, Sem.run_bind, Sem.run_pure, underlying_run hC ht, Result.andThen_ok, if_pos b4, sizeOf_run hC h2, Addr.add, Instr.sureAddr]
      by_cases h0 : j.toNat * ei.1.size = 0
      · simp only [h0, if_true]; (try rfl)
      · simp only [if_neg h0]; (try rfl)
    · cases h
  · -- index
    rename_i t x i
    split at h
    · rename_i ti s' k j ht hx hj
      obtain ⟨b, h1, h⟩ := bd h
      obtain ⟨rfl, rfl⟩ := Prod.mk.inj (Option.some.inj h)
      refine .of fun ν a w tr => ⟨.int .u8 b.toNat, ?_, .flat rfl⟩
      have b1 : 0 ≤ j := of_decide_eq_true ((leI_eq 0 j).symm.trans (hn _ (by simp)))
      rw [nth_eq, toNatF_eq] at h1
      have h3 : s'[j.toNat]? = some b := by
        obtain ⟨hl, hb⟩ := List.getElem?_eq_some_iff.1 h1
        have hl' : j.toNat < s'.size := by simpa using hl
        rw [getElem?_pos s' j.toNat hl']
        exact congrArg some hb
      simp only [execOp, Instr.index, VR.string_inv (ev1_ok tr hx), VR.int_inv (ev1_ok tr hj), asIntOf, Sem.run_bind, Sem.run_pure, underlying_run hC ht, Result.andThen_ok, if_pos b1, h3]
    · rename_i ti n e l k j ht hx hj
      obtain ⟨ei, h2, h⟩ := bd h
      obtain ⟨⟨r, ns'⟩, h3, h⟩ := bd h
      obtain ⟨rfl, rfl⟩ := Prod.mk.inj (Option.some.inj h)
      refine .of fun ν a w tr => ?_
      obtain ⟨l', e', hv⟩ := VR.agg_iff.1 (ev1_ok tr hx)
      have b1 : 0 ≤ j := of_decide_eq_true ((leI_eq 0 j).symm.trans (hn _ (by simp)))
      have b2 : toNatF j < n := ble_iff.1 (hn (Nat.ble (Nat.succ (toNatF j)) n) (by simp))
      rw [toNatF_eq] at b2 h3
      have b4 : 0 ≤ j ∧ j < (n : Int) := ⟨b1, by omega⟩
      obtain ⟨u, k1, k2⟩ := apart_ok hC h2 hv h3 w
      refine ⟨u, ?_, k2⟩
      simp only [execOp, Instr.index, e', VR.int_inv (ev1_ok tr hj), asIntOf, Sem.run_bind, Sem.run_pure, underlying_run hC ht, Result.andThen_ok, if_pos b4, sizeOf_run hC h2]
      rw [show j.toNat * ei.1.size = Nat.mul j.toNat ei.1.size from rfl, k1]
      rfl
    · cases h
  · -- slice
    rename_i t x lo hi
    split at h
    · rename_i ti s' ht hx
      obtain ⟨l, h1, h⟩ := bd h
      obtain ⟨r, h2, h⟩ := bd h
      obtain ⟨rfl, rfl⟩ := Prod.mk.inj (Option.some.inj h)
      refine .of fun ν a w tr => ⟨.string (s'.extract l.toNat r.toNat), ?_, ?_⟩
      · have b1 : 0 ≤ l := of_decide_eq_true ((leI_eq 0 l).symm.trans (hn _ (by simp)))
        have b2 : l ≤ r := of_decide_eq_true ((leI_eq l r).symm.trans (hn _ (by simp)))
        have b3 : r ≤ Int.ofNat (len s'.data.toList) := of_decide_eq_true ((leI_eq r _).symm.trans (hn _ (by simp)))
        rw [len_eq] at h2 b3
        have b3 : r ≤ (s'.size : Int) := b3
        have e := sliceBounds_run (C := C) tr false h1 h2 b1 b2 b3 (Nat.le_refl _) w
        simp only [execOp, Instr.sliceAt, Instr.slice, VR.string_inv (ev1_ok tr hx), Sem.run_bind, underlying_run hC ht, Result.andThen_ok, Option.map_none]
        rw [show s'.data.toList.length = s'.size from rfl] at e
        simp [e]
      · rw [tak_eq, dro_eq, toNatF_eq, toNatF_eq]
        have : (⟨⟨(s'.data.toList.drop l.toNat).take (Nat.sub r.toNat l.toNat)⟩⟩ : ByteArray) = s'.extract l.toNat r.toNat := by
          apply ByteArray.ext
          apply Array.toList_inj.1
          rw [Lib.extract_data]
          rfl
        rw [this]
        exact .flat rfl
    · rename_i ti e b q z n c ht hx
      obtain ⟨ei, h0, h⟩ := bd h
      obtain ⟨l, h1, h⟩ := bd h
      obtain ⟨r, h2, h⟩ := bd h
      obtain ⟨rfl, rfl⟩ := Prod.mk.inj (Option.some.inj h)
      refine .of fun ν a w tr => ?_
      obtain ⟨rfl, e⟩ | ⟨g, S, q', c', e', hν, hn1, hz, ho⟩ := VR.slice_inv (ev1_ok tr hx)
      · have b1 : 0 ≤ l := of_decide_eq_true ((leI_eq 0 l).symm.trans (hn _ (by simp)))
        have b2 : l ≤ r := of_decide_eq_true ((leI_eq l r).symm.trans (hn _ (by simp)))
        have b3 : r ≤ Int.ofNat 0 := of_decide_eq_true ((leI_eq r _).symm.trans (hn _ (by simp)))
        have b5 : r ≤ 0 := b3
        obtain rfl : l = 0 := by omega
        obtain rfl : r = 0 := by omega
        refine ⟨.slice none 0 0, ?_, .nilS⟩
        have eb := sliceBounds_run (C := C) (c := 0) tr true h1 h2 (Int.le_refl 0) (Int.le_refl 0) (Int.le_refl _) (Nat.le_refl _) w
        simp only [execOp, Instr.sliceAt, Instr.slice, e, Sem.run_bind, underlying_run hC ht, Result.andThen_ok, Option.map_none, eb, sizeOf_run hC h0]
        rfl
      have b1 : 0 ≤ l := of_decide_eq_true ((leI_eq 0 l).symm.trans (hn _ (by simp)))
      have b2 : l ≤ r := of_decide_eq_true ((leI_eq l r).symm.trans (hn _ (by simp)))
      have b3 : r ≤ Int.ofNat n := of_decide_eq_true ((leI_eq r _).symm.trans (hn _ (by simp)))
      have b4 : z = ei.1.size := Nat.eq_of_beq_eq_true (hn (Nat.beq z ei.1.size) (by simp))
      have b5 : r ≤ (n : Int) := b3
      clear b3
      have b3 := b5
      clear b5
      have eb := sliceBounds_run (C := C) (c := c') tr true h1 h2 b1 b2 b3 hn1 w
      rw [toNatF_eq, toNatF_eq]
      refine ⟨.slice (some (if c' = l.toNat then ⟨g, q', none⟩ else Addr.add ⟨g, q', none⟩ (l.toNat * z))) (r.toNat - l.toNat) (c' - l.toNat), ?_, ?_⟩
      · simp only [execOp, Instr.sliceAt, Instr.slice, e', Sem.run_bind, underlying_run hC ht, Result.andThen_ok, Option.map_none, eb, sizeOf_run hC h0, ← b4]
        by_cases hc : c' = l.toNat
        · simp only [if_pos hc]; rfl
        · simp only [if_neg hc]; rfl
      · have hzz : q + l.toNat * z + (c' - l.toNat) * z ≤ S := by
          rw [Nat.add_assoc, ← Nat.add_mul]
          rw [show l.toNat + (c' - l.toNat) = c' by omega]
          exact hz
        rw [show Nat.sub r.toNat l.toNat = r.toNat - l.toNat from rfl]
        by_cases hc : c' = l.toNat
        · rw [if_pos hc]
          exact .slice hν (by omega) hzz (.inr (by omega))
        · rw [if_neg hc]
          have hq : q' = q := by rcases ho with h | h <;> omega
          subst hq
          unfold Addr.add
          by_cases h0 : l.toNat * z = 0
          · rw [if_pos h0]
            exact .slice hν (by omega) hzz (.inl (by rw [show Nat.mul l.toNat z = l.toNat * z from rfl, h0]; rfl))
          · rw [if_neg h0]
            exact .slice hν (by omega) hzz (.inl rfl)
    · rename_i ti e n c ht hx
      obtain ⟨ei, h0, h⟩ := bd h
      obtain ⟨l, h1, h⟩ := bd h
      obtain ⟨r, h2, h⟩ := bd h
      obtain ⟨rfl, rfl⟩ := Prod.mk.inj (Option.some.inj h)
      refine .of fun ν a w tr => ⟨.slice none 0 0, ?_, .flat rfl⟩
      have b1 : l = 0 := by have := hn _ (by simp : eqI l 0 ∈ _); rw [eqI_eq] at this; simpa using this
      have b2 : r = 0 := by have := hn _ (by simp : eqI r 0 ∈ _); rw [eqI_eq] at this; simpa using this
      have b3 : n = 0 := Nat.eq_of_beq_eq_true (hn (Nat.beq n 0) (by simp))
      have b4 : c = 0 := Nat.eq_of_beq_eq_true (hn (Nat.beq c 0) (by simp))
      subst b1 b2 b3 b4
      have eb := sliceBounds_run (C := C) (c := 0) tr true h1 h2 (by omega) (by omega) (by omega) (Nat.le_refl _) w
      simp only [execOp, Instr.sliceAt, Instr.slice, VR.eq_of_flat rfl (ev1_ok tr hx), Sem.run_bind, underlying_run hC ht, Result.andThen_ok, Option.map_none, eb, sizeOf_run hC h0]
      rfl
    · cases h
  · -- len
    rename_i args tys
    split at h
    · rename_i t v' hty hv
      have et : tys = #[t] := Array.toList_inj.1 hty
      have key : ∀ (ν : Ren) (a : Act), TR N ν T a → ∃ u, args.map a.eval = #[u] ∧ VR ν v' u := fun ν a tr => by
        have := evs_ok tr hv
        cases hl : args.toList with
        | nil => rw [hl] at this; cases this
        | cons x r =>
          rw [hl] at this
          cases this with
          | cons h t =>
            cases r with
            | nil => exact ⟨a.eval x, Array.toList_inj.1 (by rw [Array.toList_map, hl]; rfl), h⟩
            | cons y r => cases t
      split at h
      · rename_i ti s' ht
        obtain ⟨rfl, rfl⟩ := Prod.mk.inj (Option.some.inj h)
        refine .of fun ν a w tr => ⟨.int .i64 s'.size, ?_, by rw [len_eq]; exact .flat rfl⟩
        obtain ⟨u, e, hu⟩ := key ν a tr
        obtain rfl := VR.string_inv hu
        simp [execOp, resolve, e, invoke, builtin, Builtin.len_, et, underlying_run hC ht, goInt]
      · rename_i ti e p n c ht
        obtain ⟨rfl, rfl⟩ := Prod.mk.inj (Option.some.inj h)
        refine .of fun ν a w tr => ⟨.int .i64 n, ?_, .flat rfl⟩
        obtain ⟨u, e, hu⟩ := key ν a tr
        have : ∃ p' c', u = .slice p' n c' := by
          cases hu with
          | flat h => exact ⟨_, _, rfl⟩
          | slice _ _ _ _ => exact ⟨_, _, rfl⟩
          | nilS => exact ⟨_, _, rfl⟩
        obtain ⟨p', c', rfl⟩ := this
        simp [execOp, resolve, e, invoke, builtin, Builtin.len_, et, underlying_run hC ht, goInt]
      · rename_i ti n e ht
        obtain ⟨rfl, rfl⟩ := Prod.mk.inj (Option.some.inj h)
        refine .of fun ν a w tr => ⟨.int .i64 n, ?_, .flat rfl⟩
        obtain ⟨u, e, hu⟩ := key ν a tr
        simp [execOp, resolve, e, invoke, builtin, Builtin.len_, et, underlying_run hC ht, goInt]
      · cases h
    · cases h
  · -- typeAssert
    rename_i x xt t
    split at h
    rotate_left
    · cases h
    rename_i ti u v0 ht hx
    split at h
    · cases h
    · rename_i hb hni
      obtain ⟨rfl, rfl⟩ := Prod.mk.inj (Option.some.inj h)
      have hu := Nat.eq_of_beq_eq_true ‹Nat.beq u t = true›
      subst hu
      refine .of fun ν a w tr => ?_
      have e := ev1_ok tr hx
      cases e2 : a.eval x with
      | iface u' v' =>
        rw [e2] at e
        have hv : u' = u ∧ VR ν v0 v' := by
          cases e with
          | flat h => simp [flat] at h
          | iface h => exact ⟨rfl, h⟩
        obtain ⟨rfl, hv⟩ := hv
        refine ⟨.tuple #[v', .bool true], ?_, VR.tuple_iff.2 ⟨_, rfl, .cons hv (.cons (.flat rfl) .nil)⟩⟩
        simp only [execOp, Instr.typeAssert, e2, Sem.run_bind, underlying_run hC ht, Result.andThen_ok]
        cases hd : ti.2 with
        | interface ms => exact absurd hd (hni ms)
        | _ => simp
      | _ => rw [e2] at e; cases e
    · rename_i z hb hz hni
      obtain ⟨rfl, rfl⟩ := Prod.mk.inj (Option.some.inj h)
      have hp := hn _ (List.mem_singleton.2 rfl)
      have hne : u ≠ t := fun e => by subst e; rw [Nat.beq_refl] at hb; cases hb
      refine .of fun ν a w tr => ?_
      have e := ev1_ok tr hx
      cases e2 : a.eval x with
      | iface u' v' =>
        rw [e2] at e
        have hv : u' = u := by
          cases e with
          | flat h => simp [flat] at h
          | iface h => rfl
        subst hv
        refine ⟨.tuple #[z, .bool false], ?_, VR.tuple_iff.2 ⟨_, rfl, .cons (VR.of_plain hp) (.cons (.flat rfl) .nil)⟩⟩
        simp only [execOp, Instr.typeAssert, e2, Sem.run_bind, underlying_run hC ht, Result.andThen_ok]
        cases hd : ti.2 with
        | interface ms => exact absurd hd (hni ms)
        | _ => simp [hne, zeroValue, typeInfo_run hC ht, hz]
      | _ => rw [e2] at e; cases e
    · cases h
  · obtain ⟨v', h1, h2⟩ := bd h
    obtain ⟨rfl, rfl⟩ := Prod.mk.inj (Option.some.inj h2)
    exact anyOp_ok (fun cs b e => by cases e) h1
  · obtain ⟨v', h1, h2⟩ := bd h
    obtain ⟨rfl, rfl⟩ := Prod.mk.inj (Option.some.inj h2)
    exact anyOp_ok (fun cs b e => by cases e) h1
end
end Go.Ev
