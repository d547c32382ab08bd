/- Words of my own: operations over abstract values that look at memory. -/
import Derived.Test.YtlkfcabklaaacaaSx2
set_option linter.unusedVariables false
set_option linter.unusedSimpArgs false
set_option linter.unusedSectionVars false
namespace Go.Ev
open Go.RowKit
noncomputable section
theorem flat_den (D : Dt) {K : RK} : ∀ l : List K.α, denL D (l.flatMap K.k) = rowV K.kv l
  | [] => rfl
  | x :: l => by rw [List.flatMap_cons, denL_app, flat_den D l, K.k_den, rowV_cons]
def cellsA : AV → List AV
  | .ag l => l
  | .ar K l => l.flatMap K.k
  | v => [v]
theorem cellsA_den (D : Dt) (v : AV) : (den D v).cells.toList = denL D (cellsA v) := by
  cases v <;> try rfl
  rotate_right
  · rename_i K l; exact (flat_den D l).symm
  · rename_i id z
    simp only [den, cellsA, denL]
    cases D id <;> rfl
  · rename_i id i z j
    simp only [den, cellsA, denL]
    cases D id <;> rfl
theorem cellsA_den' (D : Dt) (v : AV) : (den D v).cells = ⟨denL D (cellsA v)⟩ := by rw [← cellsA_den]
-- filling
def spA (c : List AV) (o : Nat) (vs : List AV) : List AV := c.take o ++ (vs ++ c.drop (o + vs.length))
theorem spA_den (D : Dt) (c : List AV) (o : Nat) (vs : List AV) : denL D (spA c o vs) = splice (denL D c) o (denL D vs) := by
  rw [splice_eq]; unfold spA
  rw [denL_app, denL_app, denL_take, denL_drop, denL_length]
def afA (D : Dt) (place : Nat → Option (Nat × Nat)) : List (Nat × AV) → List AV → Option (List AV)
  | [], c => some c
  | p :: l, c => match place p.1 with
    | none => none
    | some q => cond (nj (den D p.2) && (Nat.beq (cellsA p.2).length q.2 && Nat.ble (q.1 + q.2) c.length)) (afA D place l (spA c q.1 (cellsA p.2))) none
theorem afA_ok {D : Dt} {place : Nat → Option (Nat × Nat)} : ∀ {l : List (Nat × AV)} {c r : List AV}, afA D place l c = some r → afill place (l.map fun p : Nat × AV => (p.1, den D p.2)) (denL D c) = some (denL D r)
  | [], c, r, h => by cases h; rfl
  | p :: l, c, r, h => by
    rw [afA] at h
    show (match place p.1 with
      | none => none
      | some q => Bool.rec (motive := fun _ => Option (List Value)) none (Bool.rec (motive := fun _ => Option (List Value)) none (afill place (l.map fun p : Nat × AV => (p.1, den D p.2)) (Ev.splice (denL D c) q.1 (den D p.2).cells.toList)) (Nat.ble (Nat.add q.1 q.2) (len (denL D c)))) (and (nj (den D p.2)) (Nat.beq (len (den D p.2).cells.toList) q.2))) = _
    split at h
    · cases h
    · rename_i q hq
      obtain ⟨hb, h⟩ := cond_some h
      obtain ⟨h1, hb⟩ := and_ok hb
      obtain ⟨h2, h3⟩ := and_ok hb
      have ih := afA_ok h
      rw [spA_den, ← cellsA_den] at ih
      try dsimp only
      rw [ih, len_eq, len_eq, cellsA_den, denL_length, denL_length, h1, h2, show Nat.ble (Nat.add q.1 q.2) c.length = true from h3]
      rfl
def epsA (T : AT) : List (Nat × Operand) → Option (List (Nat × AV))
  | [] => some []
  | x :: l => (ev1A T x.2).bind fun v => (epsA T l).bind fun r => some ((x.1, v) :: r)
theorem epsA_ok {D : Dt} {T : AT} : ∀ {l : List (Nat × Operand)} {r : List (Nat × AV)}, epsA T l = some r → evps (denT D T) l = some (r.map fun p : Nat × AV => (p.1, den D p.2))
  | [], r, h => by cases h; rfl
  | x :: l, r, h => by
    rw [epsA] at h
    obtain ⟨v, h1, h⟩ := bd h
    obtain ⟨r', h2, h⟩ := bd h
    obtain rfl := Option.some.inj h
    show ((ev1 (denT D T) x.2).bind fun v => (evps (denT D T) l).bind fun vs => some ((x.1, v) :: vs)) = _
    rw [ev1A_ok h1, epsA_ok h2]; rfl
/-- Elements, from their cells. -/
def rowOf (K : RK) : Nat → List AV → Option (List K.α)
  | 0, [] => some []
  | 0, _ => none
  | n + 1, c => (K.mk (c.take K.z)).bind fun x => (rowOf K n (c.drop K.z)).bind fun r => some (x :: r)
theorem rowOf_ok {K : RK} {D : Dt} : ∀ {n : Nat} {c : List AV} {l : List K.α}, rowOf K n c = some l → denL D c = rowV K.kv l ∧ l.length = n
  | 0, [], l, h => by cases h; exact ⟨rfl, rfl⟩
  | 0, _ :: _, l, h => by cases h
  | n + 1, c, l, h => by
    rw [rowOf] at h
    obtain ⟨x, h1, h⟩ := bd h
    obtain ⟨r, h2, h⟩ := bd h
    obtain rfl := Option.some.inj h
    obtain ⟨e1, e2⟩ := rowOf_ok (D := D) h2
    refine ⟨?_, by rw [List.length_cons, e2]⟩
    rw [rowV_cons, ← e1, ← K.k_den D x, ← RK.mk_ok h1, ← denL_app, List.take_append_drop]
theorem zrow_add (n : Nat) (zs : List Value) (hz : 0 < zs.length) : zrow ((n + 1) * zs.length) zs = zs ++ zrow (n * zs.length) zs := by
  refine List.ext_getElem? fun i => ?_
  unfold zrow
  rw [List.getElem?_map, List.getElem?_append]
  by_cases hi : i < zs.length
  · rw [if_pos hi, List.getElem?_range (by rw [Nat.succ_mul]; omega)]
    simp only [Option.map_some, nth_eq, len_eq]
    rw [show Nat.mod i zs.length = i from Nat.mod_eq_of_lt hi, List.getElem?_eq_getElem hi]; rfl
  · rw [if_neg hi, List.getElem?_map]
    by_cases h2 : i < (n + 1) * zs.length
    · rw [List.getElem?_range h2, List.getElem?_range (by rw [Nat.succ_mul] at h2; omega)]
      simp only [Option.map_some, nth_eq, len_eq]
      rw [show Nat.mod (i - zs.length) zs.length = Nat.mod i zs.length from (Nat.mod_eq_sub_mod (Nat.le_of_not_lt hi)).symm]
    · rw [List.getElem?_eq_none (by simp; omega), List.getElem?_eq_none (by rw [Nat.succ_mul] at h2; simp; omega)]
theorem zrow_rep {K : RK} {x : K.α} : ∀ (n : Nat), zrow (n * K.z) (K.kv x) = rowV K.kv (List.replicate n x)
  | 0 => by rw [Nat.zero_mul]; rfl
  | n + 1 => by
    have hz : (K.kv x).length = K.z := RowK.len x
    have := zrow_add n (K.kv x) (by rw [hz]; exact K.z_pos)
    rw [hz] at this
    rw [this, zrow_rep n]; rfl
/-- Elements changed. -/
theorem rowV_set {α : Type} {k : α → List Value} {z : Nat} [RowK k z] : ∀ {l : List α} {i j : Nat} {x x' : α} {vs : List Value}, l[i]? = some x → j + vs.length ≤ z → k x' = (k x).take j ++ (vs ++ (k x).drop (j + vs.length)) →
    (rowV k l).take (i * z + j) ++ (vs ++ (rowV k l).drop (i * z + j + vs.length)) = rowV k (l.set i x')
  | [], i, j, x, x', vs, h, _, _ => by simp at h
  | y :: l, 0, j, x, x', vs, h, hj, hx => by
    simp at h; subst h
    have hy := RowK.len (k := k) y
    rw [Nat.zero_mul, Nat.zero_add, rowV_cons, List.set_cons_zero, rowV_cons, hx, List.take_append_of_le_length (by omega), List.drop_append_of_le_length (by omega)]
    simp [List.append_assoc]
  | y :: l, i + 1, j, x, x', vs, h, hj, hx => by
    have hy := RowK.len (k := k) y
    have ih := rowV_set (l := l) (i := i) (k := k) (z := z) (by simpa using h) hj hx
    rw [rowV_cons, List.set_cons_succ, rowV_cons, ← ih, List.take_append, List.drop_append, Nat.succ_mul]
    rw [List.take_of_length_le (by omega), List.drop_of_length_le (by omega)]
    rw [show i * z + z + j - (k y).length = i * z + j by omega, show i * z + z + j + vs.length - (k y).length = i * z + j + vs.length by omega]
    simp [List.append_assoc]
theorem rowJ_set {α : Type} {k : α → List Value} {z : Nat} [RowK k z] {l : List α} {o i j : Nat} {x x' : α} {vs : List Value} (h : l[i]? = some x) (hj : j + vs.length ≤ z) (hx : k x' = (k x).take j ++ (vs ++ (k x).drop (j + vs.length))) :
    (rowJ k o l).take (o + i * z + j) ++ (vs ++ (rowJ k o l).drop (o + i * z + j + vs.length)) = rowJ k o (l.set i x') := by
  show (jrow o ++ rowV k l).take _ ++ (vs ++ (jrow o ++ rowV k l).drop _) = jrow o ++ _
  rw [List.take_append, List.drop_append, jrow_length, List.take_of_length_le (by rw [jrow_length]; omega), List.drop_of_length_le (by rw [jrow_length]; omega), ← rowV_set h hj hx]
  rw [show o + i * z + j - o = i * z + j by omega, show o + i * z + j + vs.length - o = i * z + j + vs.length by omega]
  simp [List.append_assoc]
theorem rowJ_sub {α : Type} {k : α → List Value} {z : Nat} [RowK k z] {l : List α} {o i j n : Nat} {x : α} (h : l[i]? = some x) (hj : j + n ≤ z) : ((rowJ k o l).drop (o + i * z + j)).take n = ((k x).drop j).take n := by
  rw [← List.drop_drop]
  have h1 := rowJ_at (k := k) (o := o) h
  rw [← h1, List.drop_take, List.take_take]
  rw [Nat.min_eq_left (by omega)]
end
end Go.Ev
