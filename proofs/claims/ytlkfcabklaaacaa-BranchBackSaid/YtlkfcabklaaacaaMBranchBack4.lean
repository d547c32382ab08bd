/- The texts that the statement's row rests on, one behind the other. -/
import Derived.Test.YtlkfcabklaaacaaMBranchBack2
import Derived.Test.YtlkfcabklaaacaaMBranchBack3
import Derived.Test.YtlkfcabklaaacaaMBranchBack1
namespace Go.Proofs.Ytlkfcabklaaacaa.Q
set_option linter.unusedVariables false
set_option linter.unusedSimpArgs false
open Go.RowKit Go.Proofs.Ytlkfcabklaaacaa.P Go.Proofs.YtlkfcabklaaacaaW.PrintWords Go.Proofs.YtlkfcabklaaacaaW.PrintLast Go.Proofs.YtlkfcabklaaacaaW.PrintMore Go.Proofs.YtlkfcabklaaacaaO
/-- One fork, read; none: there are too few bytes. -/
def forkR (s : ByteArray) : Option SF × ByteArray :=
  if s.size < 1 then (none, s) else
    if ((s.extract 1 s.size).size : Int) < ofLe ((B s).take 1) then (none, s.extract 1 s.size) else
      if ((s.extract 1 s.size).extract (ofLe ((B s).take 1)).toNat (s.extract 1 s.size).size).size < 4 then (none, (s.extract 1 s.size).extract (ofLe ((B s).take 1)).toNat (s.extract 1 s.size).size) else
        (some ⟨(s.extract 1 s.size).extract 0 (ofLe ((B s).take 1)).toNat, ofLe ((B ((s.extract 1 s.size).extract (ofLe ((B s).take 1)).toNat (s.extract 1 s.size).size)).take 4) % 4294967296⟩,
          ((s.extract 1 s.size).extract (ofLe ((B s).take 1)).toNat (s.extract 1 s.size).size).extract 4 ((s.extract 1 s.size).extract (ofLe ((B s).take 1)).toNat (s.extract 1 s.size).size).size)
theorem num1 (s : ByteArray) : numR s 1 = if s.size < 1 then (0, 7, s) else (ofLe ((B s).take 1), 0, s.extract 1 s.size) := by
  unfold numR
  rw [if_neg (by omega)]
  by_cases h : s.size < 1
  · rw [if_pos (by omega), if_pos h]
  · rw [if_neg (by omega), if_neg h]
    rfl
theorem bytes_nat (s : ByteArray) (n : Int) (h : 0 ≤ n) : bytesR s n = if (s.size : Int) < n then ((⟨#[]⟩ : ByteArray), 7, s) else (s.extract 0 n.toNat, 0, s.extract n.toNat s.size) := by
  unfold bytesR
  rw [if_neg (by omega)]
theorem one_byte (s : ByteArray) (h : ¬ s.size < 1) : 0 ≤ ofLe ((B s).take 1) ∧ ofLe ((B s).take 1) < 256 ∧ wrap64 (ofLe ((B s).take 1)) = ofLe ((B s).take 1) := by
  have hb := isB_take (isB_B s) 1
  have h1 := ofLe_nonneg hb
  have h2 := ofLe_lt hb
  have h3 : ((B s).take 1).length = 1 := by rw [List.length_take, B_length]; omega
  rw [h3] at h2
  exact ⟨h1, by omega, w64 (by omega) (by omega)⟩
theorem forkF_is (s : ByteArray) : forkF s = some (forkR s) := by
  unfold forkF forkR
  rw [num_is s 1 12 (by omega), bs, num1]
  by_cases h1 : s.size < 1
  · rw [if_pos h1, if_pos h1, if_neg (show ¬ ((7 : Int) = 0) by decide)]
  · obtain ⟨g0, g1, g2⟩ := one_byte s h1
    rw [if_neg h1, if_neg h1]
    simp only [if_true]
    rw [g2, bytes_is, bs, bytes_nat _ _ g0]
    by_cases h2 : ((s.extract 1 s.size).size : Int) < ofLe ((B s).take 1)
    · rw [if_pos h2, if_pos h2, if_neg (show ¬ ((7 : Int) = 0) by decide)]
    · rw [if_neg h2, if_neg h2]
      simp only [if_true]
      rw [num_is _ 4 12 (by omega), bs, num4]
      by_cases h3 : ((s.extract 1 s.size).extract (ofLe ((B s).take 1)).toNat (s.extract 1 s.size).size).size < 4
      · rw [if_pos h3, if_pos h3, if_neg (show ¬ ((7 : Int) = 0) by decide)]
      · rw [if_neg h3, if_neg h3]
        simp only [if_true]
theorem forkR_less (s : ByteArray) (f : SF) (s' : ByteArray) (h : forkR s = (some f, s')) : s'.size + 5 ≤ s.size := by
  unfold forkR at h
  split at h
  · cases h
  · split at h
    · cases h
    · split at h
      · cases h
      · simp only [Prod.mk.injEq] at h
        rename_i h1 h2 h3
        rw [← h.2]
        simp only [ByteArray.size_extract] at h3 ⊢
        omega
theorem ref_step (cnt p0 p2 p3 p4 : Int) (p5 : ByteArray) (k : Nat) (hk : 12 ≤ k) (i : Int) (acc : List SF) (s : ByteArray) (hi : i < cnt) :
    careenageref07_Of.l0 (k + 1) acc i p0 cnt p2 p3 p4 p5 s = match (forkR s).1 with
      | none => some ([], 4)
      | some f => if acc.length < 5864062014805 then careenageref07_Of.l0 k (acc ++ [f]) (wrap64 (i + 1)) p0 cnt p2 p3 p4 p5 (forkR s).2 else none := by
  rw [careenageref07_Of.l0, if_pos hi, rnum_is s 1 k (by omega), bs, num1]
  unfold forkR
  by_cases h1 : s.size < 1
  · rw [if_pos h1, if_pos h1]
    rw [rbytes_is, bs, rnum_is _ 4 k (by omega), bs, if_neg (show ¬ ((7 : Int) = 0) by decide)]
  · obtain ⟨g0, g1, g2⟩ := one_byte s h1
    rw [if_neg h1, if_neg h1]
    simp only []
    rw [g2, rbytes_is, bs, bytes_nat _ _ g0]
    by_cases h2 : ((s.extract 1 s.size).size : Int) < ofLe ((B s).take 1)
    · rw [if_pos h2, if_pos h2]
      simp only []
      rw [rnum_is _ 4 k (by omega), bs, if_pos trivial, if_neg (show ¬ ((7 : Int) = 0) by decide)]
    · rw [if_neg h2, if_neg h2]
      simp only []
      rw [rnum_is _ 4 k (by omega), bs, num4, if_pos trivial, if_pos trivial]
      by_cases h3 : ((s.extract 1 s.size).extract (ofLe ((B s).take 1)).toNat (s.extract 1 s.size).size).size < 4
      · rw [if_pos h3, if_pos h3, if_neg (show ¬ ((7 : Int) = 0) by decide)]
      · rw [if_neg h3, if_neg h3, if_pos rfl]
def finF (p0 cnt p2 p3 p4 : Int) (p5 : ByteArray) : Option (List SF) → List SF × Int
  | none => ([], 4)
  | some l => if pageP (wrap64 ((p5.size : Int) + 24)) p2 p4 l = (p0, cnt, p2, p3, p4, p5, 0) then (l, 0) else ([], 4)
theorem finF_none (p0 cnt p2 p3 p4 : Int) (p5 : ByteArray) : finF p0 cnt p2 p3 p4 p5 none = ([], 4) := rfl
theorem finF_ok {p0 cnt p2 p3 p4 : Int} {p5 : ByteArray} {l : List SF} (h : pageP (wrap64 ((p5.size : Int) + 24)) p2 p4 l = (p0, cnt, p2, p3, p4, p5, 0)) : finF p0 cnt p2 p3 p4 p5 (some l) = (l, 0) := if_pos h
theorem finF_bad {p0 cnt p2 p3 p4 : Int} {p5 : ByteArray} {l : List SF} (h : ¬ pageP (wrap64 ((p5.size : Int) + 24)) p2 p4 l = (p0, cnt, p2, p3, p4, p5, 0)) : finF p0 cnt p2 p3 p4 p5 (some l) = ([], 4) := if_neg h
theorem both_read (cnt p0 p2 p3 p4 : Int) (p5 : ByteArray) : ∀ (d j k : Nat) (i : Int) (acc : List SF) (s : ByteArray), s.size ≤ d → d < j → acc.length + d ≤ 100000 → d + 200000 ≤ k →
    ∃ r, branch_Of.l0 j i cnt acc s = some r ∧ careenageref07_Of.l0 k acc i p0 cnt p2 p3 p4 p5 s = some (finF p0 cnt p2 p3 p4 p5 r) ∧ ∀ l, r = some l → l.length ≤ 100000
  | d, 0, k, _, _, _, _, h, _, _ => by omega
  | d, j + 1, 0, i, acc, s, _, _, _, h => by omega
  | d, j + 1, k + 1, i, acc, s, hs, hj, ha, hk => by
    by_cases hi : i < cnt
    · rw [branch_Of.l0, if_pos hi, forkF_is, bs, ref_step cnt p0 p2 p3 p4 p5 k (by omega) i acc s hi]
      cases hf : forkR s with
      | mk a s' =>
        cases a with
        | none => exact ⟨none, rfl, rfl, fun l h => by cases h⟩
        | some f =>
          have hless := forkR_less s f s' hf
          obtain ⟨d, rfl⟩ : ∃ e, d = e + 1 := ⟨d - 1, by omega⟩
          simp only []
          rw [if_pos (by omega), if_pos (by omega)]
          exact both_read cnt p0 p2 p3 p4 p5 d j k (wrap64 (i + 1)) _ _ (by omega) (by omega) (by rw [List.length_append]; simp; omega) (by omega)
    · rw [branch_Of.l0, if_neg hi, careenageref07_Of.l0, if_neg hi, rbpage_is k _ _ _ acc (by omega) (by omega), bs, fin_is]
      refine ⟨some acc, rfl, ?_, fun l h => by cases h; omega⟩
      simp only [finF]
      split <;> rfl
/-- What Of answers. -/
theorem bof_is (cnt p0 p2 p3 p4 : Int) (p5 : ByteArray) (hs : p5.size ≤ 5000) : ∃ r, branch_Of.l0 (p5.size + 1) 0 cnt [] p5 = some r ∧ branch_Of.f p0 cnt p2 p3 p4 p5 = some (finF p0 cnt p2 p3 p4 p5 r) ∧ (∀ k, 210000 ≤ k → careenageref07_Of.f k p0 cnt p2 p3 p4 p5 = some (finF p0 cnt p2 p3 p4 p5 r)) ∧ ∀ l, r = some l → l.length ≤ p5.size := by
  obtain ⟨r, h1, h2, h3⟩ := both_read cnt p0 p2 p3 p4 p5 p5.size (p5.size + 1) 210000 0 [] p5 (Nat.le_refl _) (by omega) (by simp; omega) (by omega)
  have hlen : ∀ (d j : Nat) (i : Int) (acc : List SF) (s : ByteArray) (l : List SF), s.size ≤ d → branch_Of.l0 j i cnt acc s = some (some l) → l.length ≤ acc.length + d := by
    intro d
    induction d with
    | zero =>
      intro j i acc s l hs h
      cases j with
      | zero => rw [branch_Of.l0] at h; cases h
      | succ j =>
        rw [branch_Of.l0] at h
        split at h
        · rw [forkF_is, bs] at h
          have : forkR s = (none, s) := by unfold forkR; rw [if_pos (by omega)]
          rw [this] at h
          cases h
        · injection h with h
          injection h with h
          subst h
          omega
    | succ d ih =>
      intro j i acc s l hs h
      cases j with
      | zero => rw [branch_Of.l0] at h; cases h
      | succ j =>
        rw [branch_Of.l0] at h
        split at h
        · rw [forkF_is, bs] at h
          cases hf : forkR s with
          | mk a s' =>
            rw [hf] at h
            cases a with
            | none => cases h
            | some f =>
              have hless := forkR_less s f s' hf
              simp only [] at h
              split at h
              · have := ih j _ _ s' l (by omega) h
                rw [List.length_append] at this
                simp at this
                omega
              · cases h
        · injection h with h
          injection h with h
          subst h
          omega
  have hle : ∀ l, r = some l → l.length ≤ p5.size := fun l h => by
    subst h
    have := hlen p5.size _ _ _ _ l (Nat.le_refl _) h1
    simpa using this
  refine ⟨r, h1, ?_, fun k hk => ?_, hle⟩
  · unfold branch_Of.f
    rw [h1, bs]
    cases r with
    | none => rfl
    | some l =>
      simp only []
      have := hle l rfl
      rw [bpage_is _ _ _ _ l (by omega) (by omega), bs, fin_is]
      simp only [finF]
      split <;> rfl
  · obtain ⟨r2, g1, g2, _⟩ := both_read cnt p0 p2 p3 p4 p5 p5.size (p5.size + 1) k 0 [] p5 (Nat.le_refl _) (by omega) (by simp; omega) (by omega)
    rw [h1] at g1
    cases g1
    unfold careenageref07_Of.f careenageref01_New.f
    rw [bs, g2]
theorem forkR_back (s : ByteArray) (f : SF) (rest : List Int) (h : B s = forkL f ++ rest) (hk : f.f0.size < 256) (hc : 0 ≤ f.f1 ∧ f.f1 < 4294967296) : ∃ s', forkR s = (some f, s') ∧ B s' = rest := by
  have hu : IntKind.u64.wrap (f.f0.size : Int) = (f.f0.size : Int) := u64w (by omega) (by omega)
  have hu2 : IntKind.u64.wrap f.f1 = f.f1 := u64w hc.1 (by omega)
  have hB : B s = le (f.f0.size : Int) 1 ++ (bytesOf f.f0 ++ (le f.f1 4 ++ rest)) := by rw [h]; unfold forkL; rw [hu, hu2]; simp only [List.append_assoc]
  have hsz : s.size = 5 + f.f0.size + rest.length := by rw [← B_length, hB]; simp only [List.length_append, le_length, bytesOf_length]; omega
  have ht : (B s).take 1 = le (f.f0.size : Int) 1 := by rw [hB, List.take_append_of_le_length (by rw [le_length]; omega), List.take_of_length_le (by rw [le_length]; omega)]
  have hn : ofLe ((B s).take 1) = (f.f0.size : Int) := by
    rw [ht, ofLe_le]
    have : (256 : Int) ^ 1 = 256 := by decide
    rw [this]
    omega
  have h1 : B (s.extract 1 s.size) = bytesOf f.f0 ++ (le f.f1 4 ++ rest) := by
    rw [B_drop, hB]
    exact List.drop_left' (le_length 1 _)
  have h2 : B ((s.extract 1 s.size).extract f.f0.size (s.extract 1 s.size).size) = le f.f1 4 ++ rest := by
    rw [B_drop, h1]
    exact List.drop_left' (bytesOf_length f.f0)
  have h3 : (s.extract 1 s.size).extract 0 f.f0.size = f.f0 := by
    refine B_inj ?_
    rw [B_take, h1]
    exact List.take_left' (bytesOf_length f.f0)
  have hs2 : ((s.extract 1 s.size).extract f.f0.size (s.extract 1 s.size).size).size = 4 + rest.length := by rw [← B_length, h2, List.length_append, le_length]
  refine ⟨((s.extract 1 s.size).extract f.f0.size (s.extract 1 s.size).size).extract 4 ((s.extract 1 s.size).extract f.f0.size (s.extract 1 s.size).size).size, ?_, ?_⟩
  · unfold forkR
    rw [hn, Int.toNat_natCast, if_neg (by omega), if_neg (by rw [ByteArray.size_extract]; omega), if_neg (by rw [hs2]; omega), h3, h2]
    have h4 : (le f.f1 4 ++ rest).take 4 = le f.f1 4 := by rw [List.take_append_of_le_length (by rw [le_length]; omega), List.take_of_length_le (by rw [le_length]; omega)]
    have h5 : ofLe (le f.f1 4) % 4294967296 = f.f1 := by
      rw [ofLe_le]
      have : (256 : Int) ^ 4 = 4294967296 := by decide
      rw [this]
      omega
    rw [h4, h5]
  · rw [B_drop, h2]
    exact List.drop_left' (le_length 4 _)
theorem read_back : ∀ (l acc : List SF) (j : Nat) (i : Nat) (s : ByteArray) (rest : List Int), B s = l.flatMap forkL ++ rest → l.length < j → (∀ f ∈ l, f.f0.size < 256 ∧ 0 ≤ f.f1 ∧ f.f1 < 4294967296) → acc.length + l.length ≤ 1000000 → i + l.length ≤ 1000000 →
    branch_Of.l0 j (i : Int) ((i + l.length : Nat) : Int) acc s = some (some (acc ++ l))
  | _, _, 0, _, _, _, _, h, _, _, _ => by omega
  | [], acc, j + 1, i, s, rest, hB, hj, hl, ha, hi => by
    rw [branch_Of.l0, if_neg (by simp), List.append_nil]
  | f :: l, acc, j + 1, i, s, rest, hB, hj, hl, ha, hi => by
    obtain ⟨h1, h2, h3⟩ := hl f (List.mem_cons_self ..)
    rw [List.length_cons] at hj ha hi
    obtain ⟨s', e1, e2⟩ := forkR_back s f (l.flatMap forkL ++ rest) (by rw [hB, List.flatMap_cons, List.append_assoc]) h1 ⟨h2, h3⟩
    have hw2 : wrap64 ((i : Int) + 1) = ((i + 1 : Nat) : Int) := by unfold wrap64; omega
    have ih := read_back l (acc ++ [f]) j (i + 1) s' rest e2 (by omega) (fun g hg => hl g (List.mem_cons_of_mem _ hg)) (by rw [List.length_append]; simp; omega) (by omega)
    rw [branch_Of.l0, if_pos (by rw [List.length_cons]; omega), forkF_is, bs, e1]
    simp only []
    rw [if_pos (by omega), hw2, List.length_cons, show i + (l.length + 1) = i + 1 + l.length by omega, ih, List.append_assoc]
    rfl
theorem okP_parts {s n tx : Int} {l : List SF} (h : okP s n tx l = true) : mayF l = true ∧ sizeW 0 l ≤ roomS s ∧ numB n = true ∧ tx ≤ 4611686018427387904 := by
  unfold okP at h
  simp only [Bool.and_eq_true, decide_eq_true_eq] at h
  exact ⟨h.1.1.1, h.1.1.2, h.1.2, h.2⟩
theorem isB_forks (l : List SF) : isB (l.flatMap forkL) := by
  intro x hx
  obtain ⟨f, _, hf⟩ := List.mem_flatMap.1 hx
  exact isB_append (isB_append (isB_le 1 _) (isB_B _)) (isB_le 4 _) x hf
/-- What is written is read again. -/
theorem bof_back {s n tx : Int} {l : List SF} (hl : l.length ≤ 100000000000000) (h : okP s n tx l = true) : branch_Of.f 3 (l.length : Int) n 0 tx (padS (roomS s) (l.flatMap forkL)) = some (l, 0) := by
  obtain ⟨h1, h2, h3, h4⟩ := okP_parts h
  have hr := roomS_range s
  have hz := mayF_size h1 hl
  have hz5 := sizeN_length l
  have hpos := mayF_pos h1
  have hg := good_of_room (s := s) (by omega)
  have hps := size_padS (roomS s) (l.flatMap forkL) (by rw [forks_length]; omega)
  have hbk := read_back l [] ((padS (roomS s) (l.flatMap forkL)).size + 1) 0 (padS (roomS s) (l.flatMap forkL)) _ (B_padS (roomS s) (isB_forks l)) (by omega) (fun f hf => ?_) (by simp; omega) (by omega)
  · unfold branch_Of.f
    rw [Nat.zero_add] at hbk
    rw [show (0 : Int) = ((0 : Nat) : Int) from rfl, hbk, bs]
    simp only [List.nil_append]
    rw [hps, room_size hg, bpage_is _ _ _ _ l hl (by omega), bs]
    unfold pageP
    rw [h, if_pos rfl]
    simp
  · obtain ⟨j, hj, rfl⟩ := rd_mem hf
    have ho := mayF_ok h1 j hj
    have := numB_lt ho.2.1
    exact ⟨by have := ho.1; omega, this.1, this.2⟩
theorem pageP_err {s n tx : Int} {l : List SF} : (pageP s n tx l).2.2.2.2.2.2 = 0 ↔ okP s n tx l = true := by
  unfold pageP
  split
  · rename_i h
    exact ⟨fun _ => h, fun _ => rfl⟩
  · rename_i h
    exact ⟨fun hh => absurd hh (by decide), fun hh => absurd hh h⟩
theorem sameF_up (l : List SF) (hl : l.length < 1000000) : ∀ (d i k : Nat), i + d = l.length → d < k → api_Fork.l0 k l l (i : Int) = some true
  | d, i, 0, _, h => by omega
  | 0, i, k + 1, hi, _ => by rw [api_Fork.l0, if_neg (by omega)]
  | d + 1, i, k + 1, hi, hk => by
    have hw2 : wrap64 ((i : Int) + 1) = ((i + 1 : Nat) : Int) := by unfold wrap64; omega
    rw [api_Fork.l0, if_pos (by omega), if_pos (by omega), if_pos (by omega)]
    simp only [beq_self_eq_true, Bool.and_self, Bool.not_true, Bool.or_self, Bool.false_eq_true, if_false, if_true, hw2]
    exact sameF_up l hl d (i + 1) k (by omega) (by omega)
theorem sameF_is (l : List SF) (hl : l.length < 1000000) (k : Nat) (hk : l.length < k) : api_Fork.f k l l = some true := by
  unfold api_Fork.f
  rw [if_pos rfl]
  exact sameF_up l hl l.length 0 k (by omega) hk
end Go.Proofs.Ytlkfcabklaaacaa.Q

namespace Go.Proofs.Ytlkfcabklaaacaa.Pure
set_option linter.unusedVariables false
set_option linter.unusedSimpArgs false
open Go.RowKit Go.Proofs.Ytlkfcabklaaacaa.P Go.Proofs.YtlkfcabklaaacaaW.PrintWords Go.Proofs.YtlkfcabklaaacaaW.PrintLast Go.Proofs.YtlkfcabklaaacaaW.PrintMore Go.Proofs.YtlkfcabklaaacaaO Go.Proofs.Ytlkfcabklaaacaa.Q
theorem lives7 (k : Nat) (hk : 5 ≤ k) : careenagelaw07_lives.f k = some true := by
  unfold careenagelaw07_lives.f careenagelaw07_row.f
  rw [bs, fpick_is _ _ (by decide) k (by simp; omega), bs, if_pos (by decide +kernel), bs, fpick_is _ _ (by decide) k (by simp; omega), bs, if_pos (by decide +kernel), bs, fpick_is _ _ (by decide) k (by simp; omega), bs]
  decide +kernel
theorem back_end (p0 p1 p2 p3 p4 : Int) (p5 : ByteArray) (hs : p5.size ≤ 4200) (k : Nat) (hk : 20000 ≤ k) : careenagelaw07_BranchBack.j1 k p0 p1 p2 p3 p4 p5 = some true := by
  obtain ⟨k, rfl⟩ : ∃ j, k = j + 1 := ⟨k - 1, by omega⟩
  obtain ⟨r, _, e1, _, e3⟩ := bof_is p1 p0 p2 p3 p4 p5 (by omega)
  rw [careenagelaw07_BranchBack.j1, e1, bs]
  cases r with
  | none =>
    rw [finF_none, if_neg (by decide)]
    rfl
  | some l =>
    have hl := e3 l rfl
    by_cases h : pageP (wrap64 ((p5.size : Int) + 24)) p2 p4 l = (p0, p1, p2, p3, p4, p5, 0)
    · rw [finF_ok h]
      simp only [if_true]
      rw [bpage_is _ _ _ _ l (by omega) (by omega), bs, h]
      simp
    · rw [finF_bad h, if_neg (by decide)]
      rfl
theorem BranchBack : careenagelaw07_BranchBack.Pure := by
  intro s n tx l p0 p1 p2 p3 p4 p5 w0 w1 w2 wl1 wl2 wl3 _ _ _ _ _ _
  refine ⟨l.length + 300000, ?_⟩
  unfold careenagelaw07_BranchBack.f
  obtain ⟨g, hg, hg2⟩ := light_is l (by omega) (l.length + 300000) (by omega)
  rw [lives7 _ (by omega), bs, if_pos rfl, hg, bs]
  have hj : ∀ b : Bool, (b = false → g = true ∧ p5.size ≤ 4200) → careenagelaw07_BranchBack.j0 (l.length + 300000) s n tx l b p0 p1 p2 p3 p4 p5 = some true := by
    intro b hb
    rw [careenagelaw07_BranchBack.j0]
    cases b with
    | true => rw [if_pos rfl]
    | false =>
      obtain ⟨rfl, h2⟩ := hb rfl
      have hl := hg2 rfl
      have hend := back_end p0 p1 p2 p3 p4 p5 h2 (l.length + 299999) (by omega)
      rw [if_neg (by decide), bpage_is _ _ _ _ l (by omega) (by omega), bs]
      cases hok : okP s n tx l with
      | false =>
        have : ¬ (pageP s n tx l).2.2.2.2.2.2 = 0 := fun h => by rw [pageP_err.1 h] at hok; cases hok
        rw [if_neg this]
        exact hend
      | true =>
        have hpg : pageP s n tx l = (3, (l.length : Int), n, 0, tx, padS (roomS s) (l.flatMap forkL), 0) := by
          unfold pageP
          rw [hok, if_pos rfl]
        obtain ⟨h1, h3, h4, h5⟩ := okP_parts hok
        have hz := mayF_size h1 (by omega)
        have hps := size_padS (roomS s) (l.flatMap forkL) (by rw [forks_length]; omega)
        rw [hpg]
        simp only [if_true]
        rw [bof_back (by omega) hok, bs]
        simp only [if_true]
        rw [sameF_is _ (by omega) _ (by omega), bs, if_pos rfl, size_is l (by omega) _ (by omega), bs, if_neg (by rw [hps]; omega)]
        exact hend
  split
  · rename_i h
    subst h
    exact hj _ (fun h => ⟨rfl, by have := of_decide_eq_false h; omega⟩)
  · exact hj true (fun h => by cases h)
end Go.Proofs.Ytlkfcabklaaacaa.Pure
