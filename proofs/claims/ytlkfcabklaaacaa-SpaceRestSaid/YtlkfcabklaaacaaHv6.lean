/- Words of my own: rules for single operations, part two; drawn regions; splits. -/
import Derived.Test.YtlkfcabklaaacaaHv5
set_option linter.unusedVariables false
set_option linter.unusedSimpArgs false
set_option linter.unusedSectionVars false
namespace Go.Ev
open Go.RowKit
section
variable {C : Cfg} [Hv C] {N n0 : Nat} {T : Tm} {s : St} {ops : Array Oper} {l : List Oper} {d : Option Nat} {ty : TypeId} {pos : String} {after : Array Edge} {v : Value} {s' : St}
/-- A new slice, all zero. -/
theorem st_ms {t e : TypeId} {x y : Operand} {k k' : IntKind} {i j : Int} {r zs : List Value} {z : Nat} {ti : TypeInfo} {ei : TypeInfo × TypeDesc} {zv : Value} {h : List (Nat × Obj)} {nx : Nat} {rd wr : List Nat} {df : List Value} (h1 : C.ty t = some (ti, .slice e)) (h2 : C.ty e = some ei) (hzz : ei.1.size = z) (hz : ei.1.zero = some zv) (hzs : zv.cells = ⟨zs⟩) (hf : flats zs = true) (hz1 : Nat.ble 1 (len zs) = true) (hby : ei.1.bytes ≤ 65536) (hx : ev1 T x = some (.int k i)) (hy : ev1 T y = some (.int k' j)) (h0 : 0 ≤ i) (hij : i ≤ j) (hj : j ≤ 100000000) (hr : zrow (i.toNat * z) zs = r) :
    Stp C N ops ⟨d, .makeSlice t x y, ty, pos, after, none⟩ T ⟨h, nx, rd, wr, df⟩ (.slice (some ⟨nx, 0, some z⟩) i.toNat 0) ⟨(nx, .cells ⟨r⟩ e (0, 0)) :: h, nx + 1, rd, wr, df⟩ := by
  subst hzz; subst hr
  refine Stp.of_aOp (ns := [flats zs, Nat.ble 1 (len zs), leI 0 i, leI i j, Nat.ble (Nat.mul ei.1.bytes (toNatF j)) 281474976710656, leI j 9223372036854775807]) rfl (fun _ _ _ h => by cases h) (fun _ h => by cases h) ?_ ?_
  · simp only [aOp, aMakeSlice, h1, h2, hz, hzs, hx, hy, toNatF_eq]
    rfl
  · have e1 : Nat.ble (Nat.mul ei.1.bytes j.toNat) 281474976710656 = true := ble_iff.2 (by
      show ei.1.bytes * j.toNat ≤ _
      exact Nat.le_trans (Nat.mul_le_mul hby (show j.toNat ≤ 100000000 by omega)) (by decide))
    rw [hf, hz1, leI_eq, leI_eq, leI_eq, toNatF_eq, e1, decide_eq_true h0, decide_eq_true hij, decide_eq_true (show j ≤ 9223372036854775807 by omega)]
    rfl
theorem zrow_nil (zs : List Value) : zrow 0 zs = [] := rfl
theorem zrow_one (n : Nat) (v : Value) : zrow n [v] = List.replicate n v := by
  refine List.ext_getElem? fun i => ?_
  unfold zrow
  rw [List.getElem?_map]
  by_cases hi : i < n
  · rw [List.getElem?_range hi, List.getElem?_replicate_of_lt hi]
    simp only [Option.map_some, nth_eq, len_eq]
    rw [show Nat.mod i ([v] : List Value).length = 0 from Nat.mod_one i]
    rfl
  · rw [List.getElem?_eq_none (by simp; omega), List.getElem?_eq_none (by simp; omega)]
    rfl
/-- A text as bytes, and back. -/
theorem st_cSB {t u e : TypeId} {x : Operand} {b : List UInt8} {i1 i2 i3 : TypeInfo} {h : List (Nat × Obj)} {nx : Nat} {rd wr : List Nat} {df : List Value} (h1 : C.ty t = some (i1, .string)) (h2 : C.ty u = some (i2, .slice e)) (h3 : C.ty e = some (i3, .int .u8)) (hx : ev1 T x = some (str b)) :
    Stp C N ops ⟨d, .convert t u x, ty, pos, after, none⟩ T ⟨h, nx, rd, wr, df⟩ (.slice (some ⟨nx, 0, some 1⟩) b.length 0) ⟨(nx, .cells ⟨bytesV b⟩ e (0, 0)) :: h, nx + 1, rd, wr, df⟩ :=
  Stp.of_aOp (ns := []) rfl (fun _ _ _ h => by cases h) (fun _ h => by cases h) (by rw [bytesV_map]; simp only [aOp, aConv, h1, h2, h3, hx, len_eq, bytes_rec, newB]; rfl) rfl
theorem toBytes_bytesV : ∀ (b : List UInt8), toBytes (bytesV b) = some b
  | [] => rfl
  | x :: b => by
    show ((toB1 (bytes1 x)).bind fun y => (toBytes (bytesV b)).bind fun r => some (y :: r)) = _
    rw [toBytes_bytesV b]
    have : toB1 (bytes1 x) = some x := by
      show some (UInt8.ofNat _) = _
      simp [toNatF_eq]
    rw [this]; rfl
theorem st_cBS {t u e : TypeId} {x : Operand} {b : List UInt8} {cs : List Value} {a q n c : Nat} {ct : TypeId} {cf : Nat × Nat} {i1 i2 i3 : TypeInfo} {h : List (Nat × Obj)} {nx : Nat} {rd wr : List Nat} {df : List Value} (h1 : C.ty t = some (i1, .slice e)) (h2 : C.ty u = some (i2, .string)) (h3 : C.ty e = some (i3, .int .u8)) (hx : ev1 T x = some (.slice (some ⟨a, q, some 1⟩) n c)) (hh : aget h a = some (.cells ⟨cs⟩ ct cf)) (hb : (cs.drop q).take n = bytesV b) (hn : b.length = n) :
    Stp C N ops ⟨d, .convert t u x, ty, pos, after, none⟩ T ⟨h, nx, rd, wr, df⟩ (str b) ⟨h, nx, lg rd a, wr, df⟩ := by
  refine Stp.of_aOp (ns := [Nat.beq 1 1, Nat.beq (len (bytesV b)) n]) rfl (fun _ _ _ h => by cases h) (fun _ h => by cases h) ?_ ?_
  · simp only [aOp, aConv, h1, h2, h3, hx, hh, tak_eq, dro_eq, hb, toBytes_bytesV, Option.bind_some, rdS]
  · rw [len_eq, bytesV_map, List.length_map, hn]; show allB [true, Nat.beq n n] = true; rw [Nat.beq_refl]; rfl
theorem st_cB0 {t u e : TypeId} {x : Operand} {n c : Nat} {i1 i2 i3 : TypeInfo} (h1 : C.ty t = some (i1, .slice e)) (h2 : C.ty u = some (i2, .string)) (h3 : C.ty e = some (i3, .int .u8)) (hx : ev1 T x = some (.slice none n c)) :
    Stp C N ops ⟨d, .convert t u x, ty, pos, after, none⟩ T s (str []) s :=
  Stp.of_aOp (ns := []) rfl (fun _ _ _ h => by cases h) (fun _ h => by cases h) (by simp only [aOp, aConv, h1, h2, h3, hx]) rfl
/-- A struct (or array) from its parts. -/
theorem st_bd {t : TypeId} {parts : Array (Nat × Operand)} {ns : List Bool} (h : aBuild C T t parts = some (v, ns)) (hn : allB ns = true) : Stp C N ops ⟨d, .build t parts, ty, pos, after, none⟩ T s v s :=
  Stp.of_aOp (ns := ns) rfl (fun _ _ _ h => by cases h) (fun _ h => by cases h) (by simp [aOp, h]) hn
theorem st_bdS {t : TypeId} {parts : Array (Nat × Operand)} {ps : List (Nat × Value)} {fs : Array Field} {ti : TypeInfo} {zv : Value} {r zs : List Value} (h1 : C.ty t = some (ti, .struct fs)) (hz : ti.zero = some zv) (hzs : zv.cells = ⟨zs⟩) (hp : evps T parts.toList = some ps) (hr : afill (placeS C fs) ps zs = some r) (hf : flats zs = true) (ht : tyAll C fs.toList = true) : Stp C N ops ⟨d, .build t parts, ty, pos, after, none⟩ T s (.agg ⟨r⟩) s :=
  st_bd (ns := [flats zs, tyAll C fs.toList]) (by simp only [aBuild, h1, hp, hz, hzs, hr, Option.bind_some]) (by rw [hf, ht]; rfl)
/-- Copying. -/
theorem st_cp {t xt e : TypeId} {x y : Operand} {u : Value} {a q z dn c n : Nat} {c0 c1 news : List Value} {ct : TypeId} {cf : Nat × Nat} {ti : TypeInfo} {ei : TypeInfo × TypeDesc} {ns : List Bool} {rd' : List Nat} {h h' : List (Nat × Obj)} {nx : Nat} (h1 : C.ty t = some (ti, .slice e)) (h2 : C.ty e = some ei) (hzz : ei.1.size = z) (hx : ev1 T x = some (.slice (some ⟨a, q, some z⟩) dn c)) (hy : ev1 T y = some u)
    (hs : cpSrc C ⟨h, nx, [], [], []⟩ z xt u dn = some (n, news, ns, ⟨h, nx, rd', [], []⟩)) (hn : allB ns = true) (hh : aget h a = some (.cells ⟨c0⟩ ct cf)) (hdn : 1 ≤ dn) (hl : q + n * z ≤ c0.length) (hc : c0.take q ++ (news ++ c0.drop (q + news.length)) = c1) (hh' : aput h a (.cells ⟨c1⟩ ct cf) = h') (hro : Nat.beq cf.1 1 = false := by rfl) :
    Stp C N ops ⟨d, .call ⟨.builtin .copy, #[x, y], #[t, xt]⟩, ty, pos, after, none⟩ T ⟨h, nx, [], [], []⟩ (.int .i64 (n : Int)) ⟨h', nx, rd', [a], []⟩ := by
  subst hzz; subst hc; subst hh'
  refine Stp.of_aOp (ns := Nat.beq ei.1.size ei.1.size :: Nat.ble (Nat.add q (Nat.mul n ei.1.size)) (len c0) :: Nat.ble 1 dn :: not (ro (.cells ⟨c0⟩ ct cf)) :: ns) rfl (fun _ _ _ h => by cases h) (fun _ h => by cases h) ?_ ?_
  · simp only [aOp, aCopy, h1, h2, hx, hy, hs, hh, splice_eq]
    rfl
  · rw [Nat.beq_refl, len_eq, show Nat.ble (Nat.add q (Nat.mul n ei.1.size)) c0.length = true from ble_iff.2 hl, show Nat.ble 1 dn = true from ble_iff.2 hdn, show ro (.cells ⟨c0⟩ ct cf) = false from hro]
    exact hn
theorem cp_str {xt : TypeId} {ti : TypeInfo} {b : List UInt8} {dn n : Nat} {h : List (Nat × Obj)} {nx : Nat} (h1 : C.ty xt = some (ti, .string)) (hn : Nat.min b.length dn = n) : cpSrc C ⟨h, nx, [], [], []⟩ 1 xt (str b) dn = some (n, bytesV (b.take n), [Nat.beq 1 1], ⟨h, nx, [], [], []⟩) := by
  subst hn
  rw [bytesV_map]
  simp only [cpSrc, h1, len_eq, minF_eq, bytes_rec, tak_eq]
  rfl
theorem cp_nil {size : Nat} {xt e : TypeId} {ti : TypeInfo} {dn : Nat} {h : List (Nat × Obj)} {nx : Nat} (h1 : C.ty xt = some (ti, .slice e)) : cpSrc C ⟨h, nx, [], [], []⟩ size xt (.slice none 0 0) dn = some (0, [], [], ⟨h, nx, [], [], []⟩) := by
  simp only [cpSrc, h1]
theorem cp_row {size : Nat} {xt e : TypeId} {ti : TypeInfo} {b r k c dn n : Nat} {cs news : List Value} {ct : TypeId} {cf : Nat × Nat} {h : List (Nat × Obj)} {nx : Nat} (h1 : C.ty xt = some (ti, .slice e)) (hh : aget h b = some (.cells ⟨cs⟩ ct cf)) (hn : Nat.min k dn = n) (hw : (cs.drop r).take (n * size) = news) : cpSrc C ⟨h, nx, [], [], []⟩ size xt (.slice (some ⟨b, r, some size⟩) k c) dn = some (n, news, [Nat.beq size size, Nat.beq (len news) (Nat.mul n size), ones news], ⟨h, nx, [b], [], []⟩) := by
  subst hn; subst hw
  simp only [cpSrc, h1, hh, minF_eq, tak_eq, dro_eq]
  rfl
/-- Which type an interface value has. -/
theorem st_taT {x : Operand} {xt t : TypeId} {ti : TypeInfo × TypeDesc} (h1 : C.ty t = some ti) (hd : (match ti.2 with | .interface _ => false | _ => true) = true) (hx : ev1 T x = some (.iface t v)) : Stp C N ops ⟨d, .typeAssert x xt t true, ty, pos, after, none⟩ T s (.tuple #[v, .bool true]) s :=
  Stp.of_aOp (ns := []) rfl (fun _ _ _ h => by cases h) (fun _ h => by cases h) (by
    obtain ⟨i1, d1⟩ := ti
    cases d1 <;> simp_all [aOp, aPure, Nat.beq_refl]) rfl
/-- A slice that goes over into another name. -/
theorem Stp.mv {o : Oper} {h : List (Nat × Obj)} {nx a z n c : Nat} {rd' : List Nat} {ob : Obj} (st : Stp C N ops o T ⟨h, nx, [], [], []⟩ (.slice (some ⟨a, 0, some z⟩) n c) ⟨h, nx, rd', [], []⟩) (hh : aget h a = some ob) :
    Stp C N ops o T ⟨h, nx, [], [], []⟩ (.slice (some ⟨nx, 0, some z⟩) n 0) ⟨(nx, ob) :: adel h a, nx + 1, rd', [a], []⟩ := by
  have hget : ∀ id, aget ((nx, ob) :: adel h a) id = if id = nx then some ob else if id = a then none else aget h id := fun id => by
    rw [aget_cons, aget_adel]
  refine ⟨⟨fun id hi => (by cases hi), fun id hi => (by cases hi), Nat.le_succ _, fun id h1 h2 => ?_, fun hw id o ho => ?_⟩, fun B W0 hB ν m ac w K Q tr p k => ?_⟩
  · show aget ((nx, ob) :: adel h a) id = aget h id
    rw [hget, if_neg (fun e => h2 ⟨Nat.le_of_eq e.symm, by rw [e]; exact Nat.lt_succ_self _⟩), if_neg (fun e => h1 (by rw [e]; exact List.mem_singleton.2 rfl))]
  · have ho : aget ((nx, ob) :: adel h a) id = some o := ho
    rw [hget] at ho
    by_cases e : id = nx
    · rw [e]; exact Nat.lt_succ_self _
    · rw [if_neg e] at ho
      by_cases ea : id = a
      · rw [if_pos ea] at ho; cases ho
      · rw [if_neg ea] at ho; exact Nat.lt_succ_of_lt (hw id o ho)
  · have hwf : a < nx := p.wf a ob hh
    have hma : m a = some ob := (p.agree a (.inr (List.mem_singleton.2 rfl))).trans hh
    obtain ⟨f1, f2⟩ := p.fresh nx (Nat.le_refl _) (Nat.lt_succ_self _)
    refine st.2 B W0 hB ν m ac w K Q tr ⟨fun id hi => p.agree id (hi.elim .inl fun hh => by cases hh), fun id h1 h2 => absurd h2 (Nat.not_lt.2 h1), p.wf, p.rel⟩ fun ν1 u w' hv hp => ?_
    have e1 : ν1 = ν := by
      funext id
      by_cases e : ν1 id = ν id
      · exact e
      · have := hp.new id e
        exact absurd this.2 (Nat.not_lt.2 this.1)
    subst e1
    have hle : ν1.le (fun i => if i = nx then ν1 a else ν1 i) := fun i q hq => by
      show (if i = nx then ν1 a else ν1 i) = some q
      rw [if_neg (fun e => by rw [e, f1] at hq; cases hq)]; exact hq
    have hrel : RelH B W0 ν1 m w' := by
      have := hp.rel
      rwa [show Upd m ⟨h, nx, [], [], []⟩ ⟨h, nx, rd', [], []⟩ = m from by
        funext id
        unfold Upd
        rw [if_neg (fun hh => hh.elim (fun h => by cases h) (fun h => absurd h.2 (Nat.not_lt.2 h.1)))]] at this
    refine k (fun i => if i = nx then ν1 a else ν1 i) u w' ?_ ⟨hle, fun id hid => ?_, ?_⟩
    · rcases VR.slice_inv hv with ⟨rfl, rfl⟩ | ⟨g, S, q', c', rfl, hν, h1, h2, h3⟩
      · exact .nilS
      · exact .slice (S := S) (if_pos rfl |>.trans hν) h1 h2 h3
    · by_cases e : id = nx
      · rw [e]; exact ⟨Nat.le_refl _, Nat.lt_succ_self _⟩
      · exact absurd (if_neg e) hid
    · have hupd : ∀ id, Upd m ⟨h, nx, [], [], []⟩ ⟨(nx, ob) :: adel h a, nx + 1, rd', [a], []⟩ id = if id = nx then some ob else if id = a then none else m id := fun id => by
        unfold Upd
        by_cases e : id = nx
        · rw [if_pos e, if_pos (.inr ⟨Nat.le_of_eq e.symm, by rw [e]; exact Nat.lt_succ_self _⟩)]
          show aget ((nx, ob) :: adel h a) id = _
          rw [hget, if_pos e]
        · rw [if_neg e]
          by_cases ea : id = a
          · rw [if_pos ea, if_pos (.inl (by rw [ea]; exact List.mem_singleton.2 rfl))]
            show aget ((nx, ob) :: adel h a) id = _
            rw [hget, if_neg e, if_pos ea]
          · rw [if_neg ea, if_neg]
            rintro (hh | hh)
            · exact ea (List.mem_singleton.1 hh)
            · have : nx ≤ id ∧ id < nx + 1 := hh
              omega
      refine ⟨fun i o1 g S hi hg => ?_, fun i j o1 o2 g S S' hi hj hg hg' => ?_, hrel.below⟩
      · rw [hupd] at hi
        by_cases e : i = nx
        · rw [if_pos e] at hi
          obtain rfl := Option.some.inj hi
          have hg : (if i = nx then ν1 a else ν1 i) = some (g, S) := hg
          rw [if_pos e] at hg
          obtain ⟨ob', k1, k2, k3⟩ := hrel.objs a _ g S hma hg
          exact ⟨ob', k1, k2.mono hle, k3⟩
        · rw [if_neg e] at hi
          by_cases ea : i = a
          · rw [if_pos ea] at hi; cases hi
          · rw [if_neg ea] at hi
            have hg : (if i = nx then ν1 a else ν1 i) = some (g, S) := hg
            rw [if_neg e] at hg
            obtain ⟨ob', k1, k2, k3⟩ := hrel.objs i _ g S hi hg
            exact ⟨ob', k1, k2.mono hle, k3⟩
      · rw [hupd] at hi hj
        have hg : (if i = nx then ν1 a else ν1 i) = some (g, S) := hg
        have hg' : (if j = nx then ν1 a else ν1 j) = some (g, S') := hg'
        by_cases e : i = nx <;> by_cases e' : j = nx
        · exact .inl (by rw [e, e'])
        · rw [if_pos e] at hi
          obtain rfl := Option.some.inj hi
          rw [if_pos e] at hg; rw [if_neg e'] at hj hg'
          by_cases ea : j = a
          · rw [if_pos ea] at hj; cases hj
          · rw [if_neg ea] at hj
            exact (hrel.inj j a _ _ g S' S hj hma hg' hg).elim (fun h => absurd h ea) fun h => .inr ⟨h.2, h.1⟩
        · rw [if_pos e'] at hj
          obtain rfl := Option.some.inj hj
          rw [if_neg e] at hi hg; rw [if_pos e'] at hg'
          by_cases ea : i = a
          · rw [if_pos ea] at hi; cases hi
          · rw [if_neg ea] at hi
            exact (hrel.inj i a _ _ g S S' hi hma hg hg').elim (fun h => absurd h ea) .inr
        · rw [if_neg e] at hi hg; rw [if_neg e'] at hj hg'
          by_cases ea : i = a
          · rw [if_pos ea] at hi; cases hi
          by_cases eb : j = a
          · rw [if_pos eb] at hj; cases hj
          rw [if_neg ea] at hi; rw [if_neg eb] at hj
          exact hrel.inj i j _ _ g S S' hi hj hg hg'
/-- Nil, as an empty slice. -/
theorem Stp.ghost {o : Oper} {h : List (Nat × Obj)} {nx z : Nat} {e : TypeId} {rd' : List Nat} (st : Stp C N ops o T ⟨h, nx, [], [], []⟩ (.slice none 0 0) ⟨h, nx, rd', [], []⟩) :
    Stp C N ops o T ⟨h, nx, [], [], []⟩ (.slice (some ⟨nx, 0, some z⟩) 0 0) ⟨(nx, .cells ⟨[]⟩ e (0, 0)) :: h, nx + 1, rd', [], []⟩ := by
  refine ⟨⟨fun id hi => (by cases hi), fun id hi => (by cases hi), Nat.le_succ _, fun id h1 h2 => ?_, fun hw id o ho => ?_⟩, fun B W0 hB ν m ac w K Q tr p k => ?_⟩
  · show aget ((nx, Obj.cells ⟨[]⟩ e (0, 0)) :: h) id = aget h id
    rw [aget_cons, if_neg (fun e => h2 ⟨Nat.le_of_eq e.symm, by rw [e]; exact Nat.lt_succ_self _⟩)]
  · have ho : aget ((nx, Obj.cells ⟨[]⟩ e (0, 0)) :: h) id = some o := ho
    rw [aget_cons] at ho
    by_cases e : id = nx
    · rw [e]; exact Nat.lt_succ_self _
    · rw [if_neg e] at ho; exact Nat.lt_succ_of_lt (hw id o ho)
  · obtain ⟨f1, f2⟩ := p.fresh nx (Nat.le_refl _) (Nat.lt_succ_self _)
    refine st.2 B W0 hB ν m ac w K Q tr ⟨fun id hi => p.agree id (hi.elim .inl fun hh => by cases hh), fun id h1 h2 => absurd h2 (Nat.not_lt.2 h1), p.wf, p.rel⟩ fun ν1 u w' hv hp => ?_
    have e1 : ν1 = ν := by
      funext id
      by_cases e : ν1 id = ν id
      · exact e
      · have := hp.new id e
        exact absurd this.2 (Nat.not_lt.2 this.1)
    subst e1
    have hrel : RelH B W0 ν1 m w' := by
      have := hp.rel
      rwa [show Upd m ⟨h, nx, [], [], []⟩ ⟨h, nx, rd', [], []⟩ = m from by
        funext id
        unfold Upd
        rw [if_neg (fun hh => hh.elim (fun h => by cases h) (fun h => absurd h.2 (Nat.not_lt.2 h.1)))]] at this
    obtain rfl := VR.eq_of_flat rfl hv
    refine k ν1 _ w' .nilS ⟨.refl _, fun id hid => absurd rfl hid, ?_⟩
    have hupd : ∀ id, Upd m ⟨h, nx, [], [], []⟩ ⟨(nx, .cells ⟨[]⟩ e (0, 0)) :: h, nx + 1, rd', [], []⟩ id = if id = nx then some (.cells ⟨[]⟩ e (0, 0)) else m id := fun id => by
      unfold Upd
      by_cases e1 : id = nx
      · rw [if_pos e1, if_pos (.inr ⟨Nat.le_of_eq e1.symm, by rw [e1]; exact Nat.lt_succ_self _⟩)]
        show aget ((nx, Obj.cells ⟨[]⟩ e (0, 0)) :: h) id = _
        rw [aget_cons, if_pos e1]
      · rw [if_neg e1, if_neg]
        rintro (hh | hh)
        · cases hh
        · have : nx ≤ id ∧ id < nx + 1 := hh
          omega
    refine ⟨fun i o1 g S hi hg => ?_, fun i j o1 o2 g S S' hi hj hg hg' => ?_, hrel.below⟩
    · rw [hupd] at hi
      by_cases e1 : i = nx
      · rw [e1, f1] at hg; cases hg
      · rw [if_neg e1] at hi
        exact hrel.objs i _ g S hi hg
    · rw [hupd] at hi hj
      by_cases e1 : i = nx
      · rw [e1, f1] at hg; cases hg
      by_cases e2 : j = nx
      · rw [e2, f1] at hg'; cases hg'
      rw [if_neg e1] at hi; rw [if_neg e2] at hj
      exact hrel.inj i j _ _ g S S' hi hj hg hg'
/-- Appending, whatever is appended, to a row that ends where the slice does. -/
theorem st_app {t xt e : TypeId} {x y : Operand} {u : Value} {k n c a z : Nat} {c0 c1 news : List Value} {rd' : List Nat} {ti : TypeInfo} {ei : TypeInfo × TypeDesc} {zv : Value} {h h' : List (Nat × Obj)} {nx : Nat} (h1 : C.ty t = some (ti, .slice e)) (h2 : C.ty e = some ei) (hz : ei.1.zero = some zv) (hzl : zv.cells.toList.length = ei.1.size) (hzz : ei.1.size = z) (hby : ei.1.bytes ≤ 65536) (hx : ev1 T x = some (.slice (some ⟨a, 0, some z⟩) n c)) (hy : ev1 T y = some u)
    (ha : Apd C h z xt u k news rd') (hh : aget h a = some (.cells ⟨c0⟩ e (0, 0))) (hl : c0.length = n * z) (ho : ones c0 = true) (hk : n + k ≤ 100000000) (hc : c0 ++ news = c1) (hh' : adel h a = h') (hw : k = 0 → news = []) :
    Stp C N ops ⟨d, .call ⟨.builtin .append, #[x, y], #[t, xt]⟩, ty, pos, after, none⟩ T ⟨h, nx, [], [], []⟩ (.slice (some ⟨nx, 0, some z⟩) (n + k) 0) ⟨(nx, .cells ⟨c1⟩ e (0, 0)) :: h', nx + 1, List.rec (motive := fun _ => List Nat) [] (fun a _ ih => lg ih a) rd', [a], []⟩ := by
  cases k with
  | zero =>
    subst hzz
    have := Stp.mv (st_apN (C := C) (N := N) (ops := ops) (d := d) (ty := ty) (pos := pos) (after := after) (nx := nx) h1 h2 hx (.inl ⟨_, _, _, rfl⟩) hy ha) hh
    rw [← hc, hw rfl, List.append_nil, ← hh']
    exact this
  | succ k => exact st_ap h1 h2 hz hzl hzz hby hx hy ha hh hl ho (by omega) hc hh'
/-- Appending to nil. -/
theorem st_app0 {t xt e : TypeId} {x y : Operand} {u : Value} {k z : Nat} {news : List Value} {rd' : List Nat} {ti : TypeInfo} {ei : TypeInfo × TypeDesc} {zv : Value} {h : List (Nat × Obj)} {nx : Nat} (h1 : C.ty t = some (ti, .slice e)) (h2 : C.ty e = some ei) (hz : ei.1.zero = some zv) (hzl : zv.cells.toList.length = ei.1.size) (hzz : ei.1.size = z) (hby : ei.1.bytes ≤ 65536) (hx : ev1 T x = some (.slice none 0 0)) (hy : ev1 T y = some u)
    (ha : Apd C h z xt u k news rd') (hk : k ≤ 100000000) (hw : k = 0 → news = []) :
    Stp C N ops ⟨d, .call ⟨.builtin .append, #[x, y], #[t, xt]⟩, ty, pos, after, none⟩ T ⟨h, nx, [], [], []⟩ (.slice (some ⟨nx, 0, some z⟩) k 0) ⟨(nx, .cells ⟨news⟩ e (0, 0)) :: h, nx + 1, List.rec (motive := fun _ => List Nat) [] (fun a _ ih => lg ih a) rd', [], []⟩ := by
  cases k with
  | zero =>
    subst hzz
    rw [hw rfl]
    exact Stp.ghost (st_apN h1 h2 hx (.inr ⟨rfl, Nat.le_refl _⟩) hy ha)
  | succ k =>
    subst hzz
    exact st_ap0 h1 h2 hz hzl hby hx hy ha (by omega)
/-- A split on what a step says. -/
theorem OW.stB {e : Nat} {op : Op} {g : Option (Nat × Bool)} {p : Prop} [Decidable p] {h : List (Nat × Obj)} {nx : Nat} {df : List Value} {h' : List (Nat × Obj)} {nx' : Nat} {rd' wr' : List Nat} {df' : List Value} {Q : Out → Tm → St → Prop}
    (st : Stp C N ops ⟨some e, op, ty, pos, after, g⟩ T ⟨h, nx, [], [], []⟩ (.bool (decide p)) ⟨h', nx', rd', wr', df'⟩) (hl : log3 nx' rd' wr' = true) (hd : Nat.ble (Nat.succ e) N = true) (k1 : p → OW C N n0 ops l ((e, .bool true) :: T) ⟨h', nx', [], [], df⟩ Q) (k2 : ¬p → OW C N n0 ops l ((e, .bool false) :: T) ⟨h', nx', [], [], df⟩ Q) :
    OW C N n0 ops (⟨some e, op, ty, pos, after, g⟩ :: l) T ⟨h, nx, [], [], df⟩ Q := by
  by_cases hp : p
  · rw [decide_eq_true hp] at st; exact OW.st st hl hd (k1 hp)
  · rw [decide_eq_false hp] at st; exact OW.st st hl hd (k2 hp)
theorem OW.stb {e : Nat} {op : Op} {g : Option (Nat × Bool)} {b : Bool} {h : List (Nat × Obj)} {nx : Nat} {df : List Value} {h' : List (Nat × Obj)} {nx' : Nat} {rd' wr' : List Nat} {df' : List Value} {Q : Out → Tm → St → Prop}
    (st : Stp C N ops ⟨some e, op, ty, pos, after, g⟩ T ⟨h, nx, [], [], []⟩ (.bool b) ⟨h', nx', rd', wr', df'⟩) (hl : log3 nx' rd' wr' = true) (hd : Nat.ble (Nat.succ e) N = true) (k1 : b = true → OW C N n0 ops l ((e, .bool true) :: T) ⟨h', nx', [], [], df⟩ Q) (k2 : b = false → OW C N n0 ops l ((e, .bool false) :: T) ⟨h', nx', [], [], df⟩ Q) :
    OW C N n0 ops (⟨some e, op, ty, pos, after, g⟩ :: l) T ⟨h, nx, [], [], df⟩ Q := by
  cases b
  · exact OW.st st hl hd (k2 rfl)
  · exact OW.st st hl hd (k1 rfl)
/-- Drawn regions: a step that touches nothing; one that is written down. -/
theorem DW.nil {ms : List Nat} {i : Nat} {rs : List Rec} {Q : Tm → St → List Rec → Prop} (h : Q T s rs) : DW C N ops ms [] i T s rs Q := h
theorem DW.t {ms : List Nat} {i : Nat} {rs : List Rec} {Q : Tm → St → List Rec → Prop} {e : Nat} {op : Op} {g : Option (Nat × Bool)} {h : List (Nat × Obj)} {nx : Nat} {rd wr : List Nat} {df df' : List Value} {h' : List (Nat × Obj)}
    (st : Stp C N ops ⟨some e, op, ty, pos, after, g⟩ (restr T (looks ops.toList ⟨some e, op, ty, pos, after, g⟩)) ⟨h, nx, [], [], []⟩ v ⟨h', nx, [], [], df'⟩) (hd : Nat.ble (Nat.succ e) N = true) (k : DW C N ops ms l (i + 1) ((e, v) :: T) ⟨h', nx, [], [], df'⟩ rs Q) :
    DW C N ops ms (⟨some e, op, ty, pos, after, g⟩ :: l) i T ⟨h, nx, rd, wr, df⟩ rs Q := by
  refine ⟨v, ⟨h', nx, [], [], df'⟩, (e, v) :: T, st, fun d hd' => by cases hd'; exact ble_iff.1 hd, fun t => ?_, .inl ⟨rfl, rfl, rfl, k⟩⟩
  rw [aget_cons]
  by_cases e1 : t = e
  · rw [if_pos e1, if_pos (by rw [e1])]
  · rw [if_neg e1, if_neg (fun hh => e1 (Option.some.inj hh).symm)]
theorem DW.p {ms : List Nat} {i : Nat} {rs : List Rec} {Q : Tm → St → List Rec → Prop} {e : Nat} {op : Op} {g : Option (Nat × Bool)} {h : List (Nat × Obj)} {nx : Nat} {rd wr : List Nat} {df df' : List Value} {h' : List (Nat × Obj)} {nx' : Nat} {rd' wr' : List Nat}
    (st : Stp C N ops ⟨some e, op, ty, pos, after, g⟩ (restr T (looks ops.toList ⟨some e, op, ty, pos, after, g⟩)) ⟨h, nx, [], [], []⟩ v ⟨h', nx', rd', wr', df'⟩) (hd : Nat.ble (Nat.succ e) N = true) (hp : pairB ms ⟨i, rd', wr', nx, nx'⟩ rs = true) (k : DW C N ops ms l (i + 1) ((e, v) :: T) ⟨h', nx', rd', wr', df'⟩ (⟨i, rd', wr', nx, nx'⟩ :: rs) Q) :
    DW C N ops ms (⟨some e, op, ty, pos, after, g⟩ :: l) i T ⟨h, nx, rd, wr, df⟩ rs Q := by
  refine ⟨v, ⟨h', nx', rd', wr', df'⟩, (e, v) :: T, st, fun d hd' => by cases hd'; exact ble_iff.1 hd, fun t => ?_, .inr ⟨hp, k⟩⟩
  rw [aget_cons]
  by_cases e1 : t = e
  · rw [if_pos e1, if_pos (by rw [e1])]
  · rw [if_neg e1, if_neg (fun hh => e1 (Option.some.inj hh).symm)]
theorem DW.p0 {ms : List Nat} {i : Nat} {rs : List Rec} {Q : Tm → St → List Rec → Prop} {op : Op} {g : Option (Nat × Bool)} {h : List (Nat × Obj)} {nx : Nat} {rd wr : List Nat} {df df' : List Value} {h' : List (Nat × Obj)} {nx' : Nat} {rd' wr' : List Nat}
    (st : Stp C N ops ⟨none, op, ty, pos, after, g⟩ (restr T (looks ops.toList ⟨none, op, ty, pos, after, g⟩)) ⟨h, nx, [], [], []⟩ v ⟨h', nx', rd', wr', df'⟩) (hp : pairB ms ⟨i, rd', wr', nx, nx'⟩ rs = true) (k : DW C N ops ms l (i + 1) T ⟨h', nx', rd', wr', df'⟩ (⟨i, rd', wr', nx, nx'⟩ :: rs) Q) :
    DW C N ops ms (⟨none, op, ty, pos, after, g⟩ :: l) i T ⟨h, nx, rd, wr, df⟩ rs Q :=
  ⟨v, ⟨h', nx', rd', wr', df'⟩, T, st, fun d hd' => (by cases hd'), fun t => (by rw [if_neg (fun h => by cases h)]), .inr ⟨hp, k⟩⟩
theorem DW.pB {ms : List Nat} {i : Nat} {rs : List Rec} {Q : Tm → St → List Rec → Prop} {e : Nat} {op : Op} {g : Option (Nat × Bool)} {p : Prop} [Decidable p] {h : List (Nat × Obj)} {nx : Nat} {rd wr : List Nat} {df df' : List Value} {h' : List (Nat × Obj)} {nx' : Nat} {rd' wr' : List Nat}
    (st : Stp C N ops ⟨some e, op, ty, pos, after, g⟩ (restr T (looks ops.toList ⟨some e, op, ty, pos, after, g⟩)) ⟨h, nx, [], [], []⟩ (.bool (decide p)) ⟨h', nx', rd', wr', df'⟩) (hd : Nat.ble (Nat.succ e) N = true) (hp : pairB ms ⟨i, rd', wr', nx, nx'⟩ rs = true) (k1 : p → DW C N ops ms l (i + 1) ((e, .bool true) :: T) ⟨h', nx', rd', wr', df'⟩ (⟨i, rd', wr', nx, nx'⟩ :: rs) Q) (k2 : ¬p → DW C N ops ms l (i + 1) ((e, .bool false) :: T) ⟨h', nx', rd', wr', df'⟩ (⟨i, rd', wr', nx, nx'⟩ :: rs) Q) :
    DW C N ops ms (⟨some e, op, ty, pos, after, g⟩ :: l) i T ⟨h, nx, rd, wr, df⟩ rs Q := by
  by_cases hq : p
  · rw [decide_eq_true hq] at st; exact DW.p st hd hp (k1 hq)
  · rw [decide_eq_false hq] at st; exact DW.p st hd hp (k2 hq)
theorem DW.pb {ms : List Nat} {i : Nat} {rs : List Rec} {Q : Tm → St → List Rec → Prop} {e : Nat} {op : Op} {g : Option (Nat × Bool)} {b : Bool} {h : List (Nat × Obj)} {nx : Nat} {rd wr : List Nat} {df df' : List Value} {h' : List (Nat × Obj)} {nx' : Nat} {rd' wr' : List Nat}
    (st : Stp C N ops ⟨some e, op, ty, pos, after, g⟩ (restr T (looks ops.toList ⟨some e, op, ty, pos, after, g⟩)) ⟨h, nx, [], [], []⟩ (.bool b) ⟨h', nx', rd', wr', df'⟩) (hd : Nat.ble (Nat.succ e) N = true) (hp : pairB ms ⟨i, rd', wr', nx, nx'⟩ rs = true) (k1 : b = true → DW C N ops ms l (i + 1) ((e, .bool true) :: T) ⟨h', nx', rd', wr', df'⟩ (⟨i, rd', wr', nx, nx'⟩ :: rs) Q) (k2 : b = false → DW C N ops ms l (i + 1) ((e, .bool false) :: T) ⟨h', nx', rd', wr', df'⟩ (⟨i, rd', wr', nx, nx'⟩ :: rs) Q) :
    DW C N ops ms (⟨some e, op, ty, pos, after, g⟩ :: l) i T ⟨h, nx, rd, wr, df⟩ rs Q := by
  cases b
  · exact DW.p st hd hp (k2 rfl)
  · exact DW.p st hd hp (k1 rfl)
theorem DW.stB {ms : List Nat} {i : Nat} {rs : List Rec} {Q : Tm → St → List Rec → Prop} {e : Nat} {op : Op} {g : Option (Nat × Bool)} {p : Prop} [Decidable p] {h : List (Nat × Obj)} {nx : Nat} {rd wr : List Nat} {df df' : List Value} {h' : List (Nat × Obj)}
    (st : Stp C N ops ⟨some e, op, ty, pos, after, g⟩ (restr T (looks ops.toList ⟨some e, op, ty, pos, after, g⟩)) ⟨h, nx, [], [], []⟩ (.bool (decide p)) ⟨h', nx, [], [], df'⟩) (hd : Nat.ble (Nat.succ e) N = true) (k1 : p → DW C N ops ms l (i + 1) ((e, .bool true) :: T) ⟨h', nx, [], [], df'⟩ rs Q) (k2 : ¬p → DW C N ops ms l (i + 1) ((e, .bool false) :: T) ⟨h', nx, [], [], df'⟩ rs Q) :
    DW C N ops ms (⟨some e, op, ty, pos, after, g⟩ :: l) i T ⟨h, nx, rd, wr, df⟩ rs Q := by
  by_cases hp : p
  · rw [decide_eq_true hp] at st; exact DW.t st hd (k1 hp)
  · rw [decide_eq_false hp] at st; exact DW.t st hd (k2 hp)
theorem DW.stb {ms : List Nat} {i : Nat} {rs : List Rec} {Q : Tm → St → List Rec → Prop} {e : Nat} {op : Op} {g : Option (Nat × Bool)} {b : Bool} {h : List (Nat × Obj)} {nx : Nat} {rd wr : List Nat} {df df' : List Value} {h' : List (Nat × Obj)}
    (st : Stp C N ops ⟨some e, op, ty, pos, after, g⟩ (restr T (looks ops.toList ⟨some e, op, ty, pos, after, g⟩)) ⟨h, nx, [], [], []⟩ (.bool b) ⟨h', nx, [], [], df'⟩) (hd : Nat.ble (Nat.succ e) N = true) (k1 : b = true → DW C N ops ms l (i + 1) ((e, .bool true) :: T) ⟨h', nx, [], [], df'⟩ rs Q) (k2 : b = false → DW C N ops ms l (i + 1) ((e, .bool false) :: T) ⟨h', nx, [], [], df'⟩ rs Q) :
    DW C N ops ms (⟨some e, op, ty, pos, after, g⟩ :: l) i T ⟨h, nx, rd, wr, df⟩ rs Q := by
  cases b
  · exact DW.t st hd (k2 rfl)
  · exact DW.t st hd (k1 rfl)
/-- Two ways come together: other names from there on. -/
theorem WP.seqJ {x y : Code} {Q : Out → Tm → St → Prop} (T1 : Tm) (s1 : St) (h : WP C N n0 x T s fun o T' s' => match o with | .normal => Rnm n0 T' s' T1 s1 | o => Q o T' s') (k : WP C N n0 y T1 s1 Q) : WP C N n0 (.seq x y) T s Q :=
  WP.seq (h.mono fun o T' s' hq => by cases o <;> first | exact WP.rnm hq k | exact hq)
end
end Go.Ev
