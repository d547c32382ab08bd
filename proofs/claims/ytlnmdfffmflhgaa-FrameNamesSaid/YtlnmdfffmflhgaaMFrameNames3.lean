/- The texts that the statement's row rests on, one behind the other. -/
import Derived.Test.YtlnmdfffmflhgaaMFrameNames1
import Derived.Laws.BitsAllLaws
import Derived.Lib.Strings
import Derived.Lib.Bytes
import Derived.Test.YtlnmdfffmflhgaaMFrameNames2
import Derived.Defers
import Derived.Recover
import Derived.Laws.Pointers
import Derived.Tactics2
namespace Go.Proofs.YtlnmdfffmflhgaaO
set_option linter.unusedVariables false
set_option linter.unusedSimpArgs false
open Go.RowKit
/-- One step. -/
def T (c : Nat) : Nat := if c % 2 = 1 then (c / 2) ^^^ 2197175160 else c / 2
/-- So many steps. -/
def Tn : Nat → Nat → Nat
  | 0, c => c
  | n + 1, c => Tn n (T c)
theorem xor_div (a b n : Nat) : (a ^^^ b) / 2 ^ n = a / 2 ^ n ^^^ b / 2 ^ n := Nat.xor_div_two_pow
theorem xor_mod (a b n : Nat) : (a ^^^ b) % 2 ^ n = a % 2 ^ n ^^^ b % 2 ^ n := Nat.xor_mod_two_pow
theorem T_xor (a b : Nat) : T (a ^^^ b) = T a ^^^ T b := by
  have hd : (a ^^^ b) / 2 = a / 2 ^^^ b / 2 := by simpa using xor_div a b 1
  have hm : (a ^^^ b) % 2 = a % 2 ^^^ b % 2 := by simpa using xor_mod a b 1
  unfold T
  rw [hd, hm]
  rcases Nat.mod_two_eq_zero_or_one a with ha | ha <;> rcases Nat.mod_two_eq_zero_or_one b with hb | hb <;> rw [ha, hb]
  · simp
  · simp [Nat.xor_assoc]
  · simp only [Nat.xor_zero, if_true]
    rw [if_neg (by decide), Nat.xor_assoc, Nat.xor_comm (b / 2), ← Nat.xor_assoc]
  · simp only [Nat.xor_self, if_true]
    rw [if_neg (by decide)]
    calc a / 2 ^^^ b / 2 = a / 2 ^^^ b / 2 ^^^ (2197175160 ^^^ 2197175160) := by rw [Nat.xor_self, Nat.xor_zero]
      _ = (a / 2 ^^^ 2197175160) ^^^ (b / 2 ^^^ 2197175160) := by ac_rfl
theorem T_lt {c : Nat} (h : c < 2 ^ 32) : T c < 2 ^ 32 := by
  unfold T
  split
  · exact Nat.xor_lt_two_pow (by omega) (by decide)
  · omega
theorem T_even (x : Nat) : T (x * 2) = x := by
  unfold T
  rw [if_neg (by omega)]
  omega
theorem Tn_xor (n : Nat) : ∀ a b, Tn n (a ^^^ b) = Tn n a ^^^ Tn n b := by
  induction n with
  | zero => intro a b; rfl
  | succ n ih => intro a b; simp only [Tn, T_xor, ih]
theorem Tn_lt (n : Nat) : ∀ {c}, c < 2 ^ 32 → Tn n c < 2 ^ 32 := by
  induction n with
  | zero => intro c h; exact h
  | succ n ih => intro c h; exact ih (T_lt h)
theorem Tn_shift (n : Nat) : ∀ x, Tn n (x * 2 ^ n) = x := by
  induction n with
  | zero => intro x; simp [Tn]
  | succ n ih =>
    intro x
    simp only [Tn]
    rw [Nat.pow_succ, ← Nat.mul_assoc, T_even, ih]
theorem Tn_add (m : Nat) : ∀ n c, Tn (m + n) c = Tn n (Tn m c) := by
  induction m with
  | zero => intro n c; simp [Tn]
  | succ m ih => intro n c; rw [Nat.add_right_comm]; simp only [Tn]; exact ih n (T c)
/-- A number is its high part and its low part. -/
theorem join_xor (k a r : Nat) (h : r < 2 ^ k) : a * 2 ^ k ^^^ r = a * 2 ^ k + r := by
  have h1 : (a * 2 ^ k ^^^ r) / 2 ^ k = a := by
    rw [xor_div, Nat.mul_div_cancel _ (Nat.two_pow_pos k), Nat.div_eq_of_lt h, Nat.xor_zero]
  have h2 : (a * 2 ^ k ^^^ r) % 2 ^ k = r := by
    rw [xor_mod, Nat.mul_mod_left, Nat.mod_eq_of_lt h, Nat.zero_xor]
  have h3 := Nat.div_add_mod (a * 2 ^ k ^^^ r) (2 ^ k)
  rw [h1, h2] at h3
  rw [← h3, Nat.mul_comm]
/-- A byte goes into the register. -/
def cb (c b : Nat) : Nat := Tn 8 (c ^^^ b)
theorem cb_table (c b : Nat) (hb : b < 256) : Tn 8 (c % 256 ^^^ b) ^^^ c / 256 = cb c b := by
  have h1 : c = c / 256 * 2 ^ 8 ^^^ c % 256 := by rw [join_xor 8 _ _ (Nat.mod_lt _ (by decide))]; have := Nat.div_add_mod c 256; omega
  have h2 : cb c b = Tn 8 (c / 256 * 2 ^ 8 ^^^ (c % 256 ^^^ b)) := by
    unfold cb
    rw [← Nat.xor_assoc, ← h1]
  rw [h2, Tn_xor 8 (c / 256 * 2 ^ 8), Tn_shift, Nat.xor_comm]
theorem cb_lt {c b : Nat} (hc : c < 2 ^ 32) (hb : b < 256) : cb c b < 2 ^ 32 := Tn_lt 8 (Nat.xor_lt_two_pow hc (by omega))
theorem fold_lt : ∀ (l : List Nat) (c : Nat), c < 2 ^ 32 → (∀ b ∈ l, b < 256) → l.foldl cb c < 2 ^ 32
  | [], c, hc, _ => hc
  | b :: l, c, hc, h => fold_lt l _ (cb_lt hc (h b (List.mem_cons_self ..))) (fun x hx => h x (List.mem_cons_of_mem _ hx))
/-- The check, continued. -/
def crcN (c : Nat) (l : List Nat) : Nat := 4294967295 ^^^ l.foldl cb (4294967295 ^^^ c)
theorem crcN_lt {c : Nat} {l : List Nat} (hc : c < 2 ^ 32) (h : ∀ b ∈ l, b < 256) : crcN c l < 2 ^ 32 :=
  Nat.xor_lt_two_pow (by decide) (fold_lt _ _ (Nat.xor_lt_two_pow (by decide) hc) h)
end Go.Proofs.YtlnmdfffmflhgaaO

namespace Go.Proofs.YtlnmdfffmflhgaaO
set_option linter.unusedVariables false
set_option linter.unusedSimpArgs false
open Go.RowKit Go.Proofs.YtlnmdfffmflhgaaW.PrintWords
/-- As a step of its own (no unfolding: the kernel is not to compare what stands on both sides). -/
theorem bs {α β : Type} (a : α) (f : α → Option β) : (some a).bind f = f a := Eq.trans (Option.bind_some a f) (Eq.refl (f a))
/-- Numbers that are bytes. -/
def isB (l : List Int) : Prop := ∀ x ∈ l, 0 ≤ x ∧ x < 256
theorem isB_nil : isB [] := fun _ h => by cases h
theorem isB_cons {x : Int} {l : List Int} (hx : 0 ≤ x ∧ x < 256) (h : isB l) : isB (x :: l) := by
  intro y hy
  rcases List.mem_cons.1 hy with rfl | hy
  · exact hx
  · exact h y hy
theorem isB_append {l m : List Int} (h1 : isB l) (h2 : isB m) : isB (l ++ m) := by
  intro y hy
  rcases List.mem_append.1 hy with hy | hy
  · exact h1 y hy
  · exact h2 y hy
theorem isB_take {l : List Int} (h : isB l) (n : Nat) : isB (l.take n) := fun x hx => h x (List.mem_of_mem_take hx)
theorem isB_drop {l : List Int} (h : isB l) (n : Nat) : isB (l.drop n) := fun x hx => h x (List.mem_of_mem_drop hx)
/-- A string's bytes. -/
abbrev B (s : ByteArray) : List Int := bytesOf s
theorem isB_B (s : ByteArray) : isB (B s) := by
  intro x hx
  simp only [bytesOf, List.mem_map] at hx
  obtain ⟨b, _, rfl⟩ := hx
  have := b.toNat_lt
  omega
theorem B_length (s : ByteArray) : (B s).length = s.size := bytesOf_length s
theorem B_inj {s t : ByteArray} (h : B s = B t) : s = t := by
  have h2 : s.data.toList = t.data.toList := by
    refine List.map_inj_right (fun a b hab => ?_) |>.1 h
    exact UInt8.toNat_inj.1 (Int.ofNat_inj.1 hab)
  cases s; cases t
  simp only [ByteArray.mk.injEq]
  exact Array.toList_inj.1 h2
theorem B_append (s t : ByteArray) : B (s ++ t) = B s ++ B t := by
  simp [bytesOf, ByteArray.data_append]
theorem B_extract (s : ByteArray) (a b : Nat) : B (s.extract a b) = ((B s).take b).drop a := by
  simp only [bytesOf, Lib.extract_data, List.map_take, List.map_drop]
  rw [List.drop_take]
theorem B_drop (s : ByteArray) (a : Nat) : B (s.extract a s.size) = (B s).drop a := by
  rw [B_extract, List.take_of_length_le (by rw [B_length]; exact Nat.le_refl _)]
theorem B_take (s : ByteArray) (b : Nat) : B (s.extract 0 b) = (B s).take b := by
  rw [B_extract, List.drop_zero]
theorem B_empty : B ⟨#[]⟩ = [] := rfl
theorem B_str {l : List Int} (h : isB l) : B (strOfNums l) = l := by
  simp only [bytesOf, strOfNums_data, List.map_map]
  refine (List.map_congr_left (g := id) (fun x hx => ?_)).trans (List.map_id l)
  have := h x hx
  simp only [Function.comp, id, UInt8.toNat_ofNat']
  omega
theorem str_B (s : ByteArray) : strOfNums (B s) = s := by
  apply B_inj
  exact B_str (isB_B s)
theorem size_str (l : List Int) : (strOfNums l).size = l.length := strOfNums_size l
theorem bt_B (s : ByteArray) (i : Int) : bt s i = rd (B s) i := (rd_bytesOf s i).symm
theorem rd_get {l : List Int} {i : Nat} (h : i < l.length) : rd l (i : Int) = l[i] := by simp [rd, h]
/-! ### numbers, the least byte first -/
def le : Int → Nat → List Int
  | _, 0 => []
  | n, k + 1 => n % 256 :: le (n / 256) k
def ofLe : List Int → Int
  | [] => 0
  | b :: l => b + ofLe l * 256
theorem le_length : ∀ (k : Nat) (n : Int), (le n k).length = k
  | 0, _ => rfl
  | k + 1, n => by simp [le, le_length k]
theorem isB_le : ∀ (k : Nat) (n : Int), isB (le n k)
  | 0, _ => isB_nil
  | k + 1, n => isB_cons (by omega) (isB_le k _)
theorem pow_succ256 (k : Nat) : (256 : Int) ^ (k + 1) = 256 * 256 ^ k := by rw [Int.pow_succ, Int.mul_comm]
theorem pow_pos256 (k : Nat) : (0 : Int) < 256 ^ k := Int.pow_pos (by decide)
theorem ofLe_le : ∀ (k : Nat) (n : Int), ofLe (le n k) = n % 256 ^ k
  | 0, n => by simp [le, ofLe, Int.emod_one]
  | k + 1, n => by
    simp only [le, ofLe]
    rw [ofLe_le k, pow_succ256]
    rw [Int.emod_def n (256 * 256 ^ k), Int.emod_def (n / 256), ← Int.ediv_ediv_of_nonneg (by decide), Int.mul_assoc 256]
    generalize 256 ^ k * (n / 256 / 256 ^ k) = z
    omega
theorem ofLe_nonneg : ∀ {l : List Int}, isB l → 0 ≤ ofLe l
  | [], _ => Int.le_refl _
  | b :: l, h => by
    have h1 := h b (List.mem_cons_self ..)
    have h2 := ofLe_nonneg (l := l) (fun x hx => h x (List.mem_cons_of_mem _ hx))
    simp only [ofLe]
    omega
theorem ofLe_lt : ∀ {l : List Int}, isB l → ofLe l < 256 ^ l.length
  | [], _ => by simp [ofLe]
  | b :: l, h => by
    have h1 := h b (List.mem_cons_self ..)
    have h2 := ofLe_lt (l := l) (fun x hx => h x (List.mem_cons_of_mem _ hx))
    simp only [ofLe, List.length_cons]
    rw [pow_succ256]
    omega
theorem ofLe_snoc : ∀ (l : List Int) (b : Int), ofLe (l ++ [b]) = ofLe l + b * 256 ^ l.length
  | [], b => by simp [ofLe]
  | a :: l, b => by
    simp only [List.cons_append, ofLe, List.length_cons]
    rw [ofLe_snoc l b, pow_succ256, Int.add_mul, Int.mul_assoc b, Int.mul_comm (256 : Int) (256 ^ l.length), ← Int.mul_assoc b]
    omega
end Go.Proofs.YtlnmdfffmflhgaaO

namespace Go.Proofs.YtlnmdfffmflhgaaO
set_option linter.unusedVariables false
set_option linter.unusedSimpArgs false
open Go.RowKit Go.Proofs.YtlnmdfffmflhgaaW.PrintWords
/-- The table's first n entries. -/
def tabL (n : Nat) : List Value := (List.range 256).map (fun j => .int .u32 (if j < n then (Tn 8 j : Int) else 0))
def tabV (n : Nat) : Array Value := (tabL n).toArray
theorem tabV_size (n : Nat) : (tabV n).size = 256 := by simp [tabV, tabL]
theorem tabV_zero : tabV 0 = (Array.replicate 256 (.int .u32 0)) := by kernel_rfl
theorem tabV_set (n : Nat) (h : n < 256) : (tabV n).setIfInBounds n (.int .u32 (Tn 8 n)) = tabV (n + 1) := by
  apply Array.ext'
  simp only [tabV, tabL, Array.toList_setIfInBounds]
  apply List.ext_getElem?
  intro j
  rw [List.getElem?_set]
  by_cases hj : j < 256
  · by_cases e : n = j
    · subst e
      simp [h]
    · have : (j < n) ↔ (j < n + 1) := by omega
      simp [e, hj, this]
  · simp [List.getElem?_eq_none, hj, show ¬ n = j by omega]
theorem tabV_one (n : Nat) : ∀ v ∈ tabV n, v.oneCell' = true := by
  intro v hv
  simp only [tabV, tabL, List.mem_toArray, List.mem_map] at hv
  obtain ⟨j, _, rfl⟩ := hv
  rfl
/-- One step, as Go's numbers tell it. -/
theorem step_go (c : Nat) (h : c < 4294967296) : bits .xor .u32 ((c : Int) / 2) (bits .and .u32 2197175160 (-bits .and .u32 (c : Int) 1 % 4294967296)) = ((T c : Nat) : Int) := by
  have h1 : bits .and .u32 (c : Int) 1 = ((c % 2 : Nat) : Int) := by rw [show (1 : Int) = ((1 : Nat) : Int) from rfl, u32_and_nat c 1 h (by decide), nat_mask1]
  rw [h1]
  have hd : (c : Int) / 2 = ((c / 2 : Nat) : Int) := by omega
  rw [hd]
  unfold T
  have hc := Nat.mod_two_eq_zero_or_one c
  rcases hc with hc | hc
  · rw [hc, if_neg (by decide)]
    rw [show bits .and .u32 2197175160 (-((0 : Nat) : Int) % 4294967296) = ((0 : Nat) : Int) from by decide, u32_xor_nat _ _ (by omega) (by decide), Nat.xor_zero]
  · rw [hc, if_pos rfl]
    rw [show bits .and .u32 2197175160 (-((1 : Nat) : Int) % 4294967296) = ((2197175160 : Nat) : Int) from by decide, u32_xor_nat _ _ (by omega) (by decide)]
/-- The bytes of a string, as numbers. -/
def nb (s : ByteArray) : List Nat := s.toList.map (·.toNat)
theorem nb_lt (s : ByteArray) : ∀ b ∈ nb s, b < 256 := by
  intro b hb
  simp only [nb, List.mem_map] at hb
  obtain ⟨u, _, rfl⟩ := hb
  exact u.toNat_lt
theorem nb_length (s : ByteArray) : (nb s).length = s.size := by simp [nb, Lib.toList_data]
theorem bt_nb (s : ByteArray) (i : Nat) (h : i < s.size) : bt s (i : Int) = (((nb s)[i]'(by rw [nb_length]; exact h) : Nat) : Int) := by
  simp [bt, h, nb, Lib.toList_data, ByteArray.getElem_eq_getElem_data]
/-- The register behind the first m bytes. -/
def reg (c : Nat) (s : ByteArray) (m : Nat) : Nat := ((nb s).take m).foldl cb (4294967295 ^^^ c)
theorem reg_lt {c : Nat} (h : c < 4294967296) (s : ByteArray) (m : Nat) : reg c s m < 4294967296 :=
  fold_lt _ _ (Nat.xor_lt_two_pow (n := 32) (by decide) h) (fun b hb => nb_lt s b (List.mem_of_mem_take hb))
theorem reg_zero (c : Nat) (s : ByteArray) : reg c s 0 = 4294967295 ^^^ c := by simp [reg]
theorem reg_all (c : Nat) (s : ByteArray) : 4294967295 ^^^ reg c s s.size = crcN c (nb s) := by
  rw [reg, List.take_of_length_le (by rw [nb_length]; exact Nat.le_refl _)]
  rfl
theorem reg_succ (c : Nat) (s : ByteArray) (m : Nat) (h : m < s.size) : reg c s (m + 1) = cb (reg c s m) ((nb s)[m]'(by rw [nb_length]; exact h)) := by
  simp only [reg]
  rw [List.take_succ_eq_append_getElem (by rw [nb_length]; exact h), List.foldl_append]
  rfl
theorem not_go' (c : Nat) (h : c < 4294967296) : bits .xor .u32 4294967295 (c : Int) = ((4294967295 ^^^ c : Nat) : Int) := by
  rw [show (4294967295 : Int) = ((4294967295 : Nat) : Int) from rfl, u32_xor_nat _ _ (by decide) h]
/-- The cell's number, and what one byte makes of the register. -/
theorem ix_go (c b : Nat) (hb : b < 256) : bits .xor .u8 ((c : Int) % 256) (b : Int) = ((c % 256 ^^^ b : Nat) : Int) := by
  rw [show (c : Int) % 256 = ((c % 256 : Nat) : Int) from by omega, u8_xor_nat _ _ (Nat.mod_lt _ (by decide)) hb]
theorem ix_lt (c b : Nat) (hb : b < 256) : c % 256 ^^^ b < 256 := Nat.xor_lt_two_pow (n := 8) (Nat.mod_lt _ (by decide)) hb
theorem tab_at (j : Nat) (h : j < 256) : (tabV 256)[j]? = some (.int .u32 ((Tn 8 j : Nat) : Int)) := by simp [tabV, tabL, h]
theorem tn_lt (j : Nat) (h : j < 256) : Tn 8 j < 4294967296 := Tn_lt 8 (by omega)
theorem byte_go (c b : Nat) (hc : c < 4294967296) (hb : b < 256) : bits .xor .u32 ((Tn 8 (c % 256 ^^^ b) : Nat) : Int) ((c : Int) / 256) = ((cb c b : Nat) : Int) := by
  rw [show (c : Int) / 256 = ((c / 256 : Nat) : Int) from by omega, u32_xor_nat _ _ (tn_lt _ (ix_lt c b hb)) (by omega), cb_table c b hb]
theorem tn_lt' {n : Nat} (m : Nat) (h : n < 4294967296) : Tn m n < 4294967296 := Tn_lt m h
theorem tn_next (m n : Nat) : T (Tn m n) = Tn (m + 1) n := by rw [Tn_add m 1]; rfl
theorem w64_next {m n : Nat} (h : m < n) (hs : n < 4611686018427387904) : wrap64 ((m : Int) + 1) = ((m + 1 : Nat) : Int) := by unfold wrap64; omega
/-- The check of a string, as Go's number. -/
def crcI (c : Int) (s : ByteArray) : Int := ((crcN c.toNat (nb s) : Nat) : Int)
end Go.Proofs.YtlnmdfffmflhgaaO

namespace Go.Proofs.Ytlnmdfffmflhgaa.P
open Go.RowKit Go.Proofs.YtlnmdfffmflhgaaW.PrintWords Go.Proofs.YtlnmdfffmflhgaaW.PrintLast Go.Proofs.YtlnmdfffmflhgaaW.PrintMore
attribute [local go_sem] max2_int min2_int max_two min_two max_three min_three max_four min_four   -- for this text's walks alone
open Go.Proofs.YtlnmdfffmflhgaaO
attribute [local go_sem] min2_str max2_str
set_option linter.unusedVariables false
set_option linter.unusedSimpArgs false
/-! ### crc_More: function 65 (by hand) -/
set_option maxHeartbeats 8000000 in
set_option maxRecDepth 100000 in
theorem crc_Table.runs (w : World) :
    Calls Try.prog 71 #[] w fun e w' => e = .returned (.agg (tabV 256)) ∧ Below w.heap.size w w' := by
  have HB := Aside0.mk (Below.refl w.heap.size w)
  go_enter Try.func71, Try.ntmps71
  go_wp2_with (first | ((with_reducible refine gate_dst (N := 0) rfl ?_); refine arr_alloc ?hg (N := 0) ?hd 99 ?ho (tabV 0) ?hz ?_; (case hd => rfl); (case hg => rfl); (case ho => rfl); (case hz => (rw [tabV_zero]; kernel_rfl)); intro g hg w1 hbl hb; have n0_ := Aside0.mk (below_step HB.out hb); have n1_ := Aside0.mk hbl; have n2_ := Aside0.mk ((by rw [hg]; exact Nat.le_refl _ : w.heap.size ≤ g)); clear HB; have HB := n0_; have HR := n1_; have HG := n2_; clear n0_ n1_ n2_ hb hbl hg))
  go_loopg [3] 256 (fun kq v3 w' => ∃ n : Nat, v3 = .int .i64 (n : Int) ∧ Aside0 (kq + n = 256) ∧ Aside0 (Below w.heap.size w w') ∧ Aside0 (w'.heap[g]? = some (Obj.cells (tabV n) 99)))
  case atStart => exact ⟨0, rfl, ⟨rfl⟩, HB, HR⟩
  case round =>
    clear HB HR
    obtain ⟨n, rfl, HK, HB, HR⟩ := hrel
    by_cases hn : n < 256
    · have c1 : decide ((n : Int) < 256) = true := decide_eq_true (by omega)
      cases gk with
      | zero => have := HK.out; omega
      | succ k1 =>
      go_wp2
      go_loopg [2, 8] 8 (fun kq v2 v8 w' => ∃ m : Nat, v2 = .int .u32 (Tn m n : Nat) ∧ v8 = .int .i64 (m : Int) ∧ Aside0 (kq + m = 8) ∧ Aside0 (Below w.heap.size w w') ∧ Aside0 (w'.heap[g]? = some (Obj.cells (tabV n) 99)))
      case atStart => exact ⟨0, rfl, rfl, ⟨rfl⟩, HB, HR⟩
      case round =>
        clear HB HR
        obtain ⟨m, rfl, rfl, HK2, HB, HR⟩ := hrel
        by_cases hm : m < 8
        · have c2 : decide ((m : Int) < 8) = true := decide_eq_true (by omega)
          cases gk with
          | zero => have := HK2.out; omega
          | succ k2 =>
          go_wp2
          go_roundg k2
          case measure => omega
          case rel => exact ⟨m + 1, by rw [step_go _ (tn_lt' m (by omega)), tn_next], by simp, ⟨by have := HK2.out; omega⟩, HB, HR⟩
        · have hm8 : m = 8 := by have := HK2.out; omega
          subst hm8
          have c2 : decide (((8 : Nat) : Int) < 8) = false := by decide
          have hc := (blk_cell HR.out n).trans (show (tabV n)[n]? = some (.int .u32 0) by simp [tabV, tabL, hn])
          have hf := blk_frozen HR.out n
          have hb2 := Aside0.mk (below_set (j := n) (v := .int .u32 (Tn 8 n : Nat)) HB.out HG.out)
          have hr2 := Aside0.mk (blk_set HR.out n (.int .u32 (Tn 8 n : Nat)))
          rw [tabV_set n hn] at hr2
          go_wp2
          go_roundg k1
          case measure => omega
          case rel => exact ⟨n + 1, by simp, ⟨by have := HK.out; omega⟩, hb2, hr2⟩
    · have hn8 : n = 256 := by have := HK.out; omega
      subst hn8
      have c1 : decide (((256 : Nat) : Int) < 256) = false := by decide
      go_wp2
      refine wp_arr_load 99 (.tmp 0) rfl Try.underlying99 (cs := tabV 256) (by rw [tabV_size]; kernel_rfl) rfl HR.out ?_
      have hst := run_store_same (P := Try.prog) HR.out (tabV_one 256)
      have hsz := tabV_size 256
      go_wp2
      exact bodyPost_ret (v := .agg (tabV 256)) (results_arr 99 rfl Try.underlying99 (cs := tabV 256) (by rw [tabV_size]; kernel_rfl) rfl HR.out) rfl ⟨rfl, HB.out⟩
set_option maxHeartbeats 8000000 in
set_option maxRecDepth 100000 in
theorem crc_with.runs (tv : Array Value) (htab : ∀ j, j < 256 → tv[j]? = some (.int .u32 ((Tn 8 j : Nat) : Int))) (c0 : Nat) (hc0 : c0 < 4294967296) (s : ByteArray) (hs : s.size < 4611686018427387904) (w : World) :
    Calls Try.prog 70 #[.agg (tv), .int .u32 (c0 : Int), .string s] w fun e w' => e = .returned (.int .u32 (crcN c0 (nb s) : Nat)) ∧ Below w.heap.size w w' := by
  have HB := Aside0.mk (Below.refl w.heap.size w)
  have HS := Aside0.mk hs
  clear hs
  go_enter Try.func70, Try.ntmps70
  go_wp2_with (first | ((with_reducible refine gate_dst (N := 3) rfl ?_); refine arr_box ?hg (N := 3) ?hd 99 (.tmp 0) ?ho (tv) ?hx ?_; (case hd => rfl); (case hg => rfl); (case ho => rfl); (case hx => rfl); intro g hg w1 hbl hb; have n0_ := Aside0.mk (below_step HB.out hb); have n1_ := Aside0.mk hbl; clear HB; have HB := n0_; have HR := n1_; clear n0_ n1_ hb hbl hg))
  have hmx : IntKind.u32.max = 4294967295 := by decide
  go_loopg [1, 12] s.size (fun kq v1 v12 w' => ∃ m : Nat, v1 = .int .u32 (reg c0 s m : Nat) ∧ v12 = .int .i64 (m : Int) ∧ Aside0 (kq + m = s.size) ∧ Aside0 (Below w.heap.size w w') ∧ Aside0 (w'.heap[g]? = some (Obj.cells (tv) 99)))
  case atStart => exact ⟨0, by rw [hmx, not_go' c0 hc0, reg_zero], rfl, ⟨rfl⟩, HB, HR⟩
  case round =>
    clear HB HR
    obtain ⟨m, rfl, rfl, HK, HB, HR⟩ := hrel
    have hcr := reg_lt hc0 s m
    by_cases hm : m < s.size
    · have c1 : decide ((m : Int) < (s.size : Int)) = true := decide_eq_true (by omega)
      cases gk with
      | zero => have := HK.out; omega
      | succ k1 =>
      have hmeas : k1 + (m + 1) = s.size := by rw [← HK.out, Nat.add_assoc, Nat.add_comm 1 m]
      have hmk : k1 < k1 + 1 := Nat.lt_succ_self k1
      have hbt := bt_nb s m hm
      obtain ⟨b, hb⟩ : ∃ b, b = (nb s)[m]'(by rw [nb_length]; exact hm) := ⟨_, rfl⟩
      rw [← hb] at hbt
      have hb2 : b < 256 := by rw [hb]; exact nb_lt s _ (List.getElem_mem _)
      have hnext := reg_succ c0 s m hm
      rw [← hb] at hnext
      have p5 : 0 ≤ (m : Int) := by omega
      have q5 : (m : Int) < (s.size : Int) := by omega
      have hx5 : ∀ h : m < s.size, (s[m]'h).toNat = b := fun h => by
        have := bt_at s m h
        rw [hbt] at this
        simp only [Int.toNat_natCast] at this
        omega
      have hix := ix_go (reg c0 s m) b hb2
      have hil := ix_lt (reg c0 s m) b hb2
      have hcell := (blk_cell HR.out (reg c0 s m % 256 ^^^ b)).trans (htab _ hil)
      obtain ⟨j, hj⟩ : ∃ j, j = reg c0 s m % 256 ^^^ b := ⟨_, rfl⟩
      have hgo := byte_go (reg c0 s m) b hcr hb2
      rw [← hj] at hix hil hcell hgo
      rw [← hnext] at hgo
      have hil' : (j : Int) < 256 := by omega
      have hil0 : 0 ≤ (j : Int) := by omega
      clear hj hb hbt hnext
      have hw64 : wrap64 ((m : Int) + 1) = (m : Int) + 1 := w64_next hm HS.out
      replace p5 := eq_true p5
      replace q5 := eq_true q5
      go_wp2
      go_roundg k1
      case measure => exact hmk
      case rel => exact ⟨m + 1, by first | rfl | (simp; done) | (rw [hgo]; done), congrArg (Value.int .i64) hw64, ⟨hmeas⟩, HB, HR⟩
    · have hms : m = s.size := by have := HK.out; omega
      subst hms
      have c1 : decide ((s.size : Int) < (s.size : Int)) = false := by simp
      have hout := (not_go' (reg c0 s s.size) hcr).trans (congrArg (fun n : Nat => (n : Int)) (reg_all c0 s))
      go_wp2
      go_ret
      exact ⟨by first | rfl | (rw [hout]; done) | (simp [hout]; done), HB.out⟩
/-- The check of more bytes: for a number of 32 bits, and a string that any machine can hold. -/
def crc_More.f (a0 : Int) (a1 : ByteArray) : Option (Int) := if 0 ≤ a0 ∧ a0 < 4294967296 ∧ a1.size < 4611686018427387904 then some (crcI a0 a1) else none
set_option maxHeartbeats 8000000 in
set_option maxRecDepth 100000 in
theorem crc_More.calls (a0 : Int) (a1 : ByteArray) (r : Int) (w : World) (h : crc_More.f a0 a1 = some r) :
    Calls Try.prog 65 #[.int .u32 a0, .string a1] w fun e w' => e = .returned (.int .u32 r) ∧ Below w.heap.size w w' := by
  unfold crc_More.f at h
  split at h
  · rename_i hc
    obtain ⟨h0, h1, h2⟩ := hc
    have H2 := Aside0.mk h2
    clear h2
    obtain rfl := Option.some.inj h
    clear h
    obtain ⟨n, rfl⟩ := Int.eq_ofNat_of_zero_le h0
    have hn : n < 4294967296 := by omega
    have HB := Aside0.mk (Below.refl w.heap.size w)
    go_enter Try.func65, Try.ntmps65
    go_wp2_with (first | (go_at_call 71; (with_reducible refine (crc_Table.runs _).mono ?_); rintro e w1 ⟨rfl, hb⟩; have n0_ := Aside0.mk (below_step HB.out hb); clear HB; have HB := n0_; clear n0_ hb) | (go_at_call 70; (with_reducible refine (crc_with.runs (tabV 256) tab_at n hn a1 H2.out _).mono ?_); rintro e w1 ⟨rfl, hb⟩; have n0_ := Aside0.mk (below_step HB.out hb); clear HB; have HB := n0_; clear n0_ hb))
    go_ret
    exact ⟨rfl, HB.out⟩
  · cases h
end Go.Proofs.Ytlnmdfffmflhgaa.P

namespace Go.Proofs.Ytlnmdfffmflhgaa.P
open Go.RowKit Go.Proofs.YtlnmdfffmflhgaaW.PrintWords Go.Proofs.YtlnmdfffmflhgaaW.PrintLast Go.Proofs.YtlnmdfffmflhgaaW.PrintMore
attribute [local go_sem] max2_int min2_int max_two min_two max_three min_three max_four min_four   -- for this text's walks alone
open Go.Proofs.YtlnmdfffmflhgaaO
attribute [local go_sem] min2_str max2_str
set_option linter.unusedVariables false
set_option linter.unusedSimpArgs false
/-! ### crc_Of: function 46 -/
def crc_Of.f (a0 : ByteArray) : Option (Int) := (crc_More.f 0 a0).bind fun t235 => (some t235)
set_option maxHeartbeats 8000000 in
set_option maxRecDepth 100000 in
theorem crc_Of.calls (a0 : ByteArray) (r : Int) (w : World) (h : crc_Of.f a0 = some r) :
    Calls Try.prog 46 #[.string a0] w fun e w' => e = .returned (.int .u32 r) ∧ Below w.heap.size w w' := by
  have HB := Aside0.mk (Below.refl w.heap.size w)
  have H : ((crc_More.f 0 a0).bind fun t235 => (some t235)) = some r := h
  clear h
  replace H := Option.bind_eq_some_iff.mp H
  obtain ⟨t235, A20, H⟩ := H
  replace H : (some t235) = some r := H
  have A2 := Aside0.mk A20
  clear A20
  obtain rfl := Option.some.inj H
  go_enter Try.func46, Try.ntmps46
  go_wp2_with (first | ((with_reducible refine gate_callee (f := 65) rfl ?_); refine goesL_ (some 4) rfl rfl Try.func65 (by kernel_rfl) rfl #[.int .u32 0, .string a0] rfl (by (try simp only [List.map_toArray, List.map_cons, List.map_nil]); first | done | rfl | (simp only [List.length_drop, List.length_take]; rfl)) ?_; (with_reducible refine (crc_More.calls 0 a0 t235 _ A2.out).mono ?_); rintro e w3 ⟨rfl, hb⟩; refine ⟨_, rfl, ?_⟩; have n0_ := Aside0.mk (below_step (by repeat (first | (with_reducible first | exact HB.out | apply below_alloc | apply pw_below_drewN | apply below_drew1) | exact HB.out)) hb); clear HB; have HB := n0_; clear n0_; (try clear hb); (try clear hb2); (try clear hk); (try clear hi)))
  go_ret
  exact ⟨by first | rfl | (simp [errW_none, errW_some] <;> rfl) | (simp [*, errW_none, errW_some] <;> rfl), by repeat (first | (with_reducible first | exact HB.out | apply below_alloc | apply pw_below_drewN | apply below_drew1) | exact HB.out)⟩
end Go.Proofs.Ytlnmdfffmflhgaa.P

namespace Go.Proofs.Ytlnmdfffmflhgaa.P
open Go.RowKit Go.Proofs.YtlnmdfffmflhgaaW.PrintWords Go.Proofs.YtlnmdfffmflhgaaW.PrintLast Go.Proofs.YtlnmdfffmflhgaaW.PrintMore
attribute [local go_sem] max2_int min2_int max_two min_two max_three min_three max_four min_four   -- for this text's walks alone
open Go.Proofs.YtlnmdfffmflhgaaO
attribute [local go_sem] min2_str max2_str
set_option linter.unusedVariables false
set_option linter.unusedSimpArgs false
/-! ### frame_Put: function 17 (by hand) -/
/-- The widths of a page's head. -/
def widV : Array Value := #[.int .i64 4, .int .i64 1, .int .i64 1, .int .i64 2, .int .i64 4, .int .i64 4, .int .i64 8]
def zero7 : Array Value := #[.int .i64 0, .int .i64 0, .int .i64 0, .int .i64 0, .int .i64 0, .int .i64 0, .int .i64 0]
theorem widV_one : ∀ v ∈ widV, v.oneCell' = true := by
  intro v hv
  simp only [widV, List.mem_toArray, List.mem_cons, List.not_mem_nil, or_false] at hv
  rcases hv with rfl | rfl | rfl | rfl | rfl | rfl | rfl <;> rfl
set_option maxHeartbeats 8000000 in
set_option maxRecDepth 100000 in
theorem frame_widths.runs (w : World) :
    Calls Try.prog 45 #[] w fun e w' => e = .returned (.agg widV) ∧ Below w.heap.size w w' := by
  have HB := Aside0.mk (Below.refl w.heap.size w)
  go_enter Try.func45, Try.ntmps45
  go_wp2_with (first | ((with_reducible refine gate_dst (N := 0) rfl ?_); refine arr_alloc ?hg (N := 0) ?hd 78 ?ho zero7 ?hz ?_; (case hd => rfl); (case hg => rfl); (case ho => rfl); (case hz => kernel_rfl); intro g hg w1 hbl hb; have n0_ := Aside0.mk (below_step HB.out hb); have n1_ := Aside0.mk hbl; have n2_ := Aside0.mk ((by rw [hg]; exact Nat.le_refl _ : w.heap.size ≤ g)); clear HB; have HB := n0_; have HR := n1_; have HG := n2_; clear n0_ n1_ n2_ hb hbl hg) | (refine arr_store (w0 := w) ?hg ?hd 78 (.tmp 0) (.tmp 1) ?ho (cs := zero7) (cs' := widV) (by kernel_rfl) ?hx ?hy HR.out rfl widV_one HB.out HG.out ?_; (case hd => rfl); (case hg => rfl); (case ho => rfl); (case hx => rfl); (case hy => rfl); intro w9 hr9 hb9; have HR9 := Aside0.mk hr9; have HB9 := Aside0.mk hb9; clear hr9 hb9 HR HB))
  exact bodyPost_ret (v := .agg widV) (results_arr 78 rfl Try.underlying78 (cs := widV) (by kernel_rfl) rfl HR9.out) rfl ⟨rfl, HB9.out⟩
theorem frame_widths.runs' (w : World) :
    Calls Try.prog 45 #[] w fun e w' => e = .returned (.agg #[.int .i64 4, .int .i64 1, .int .i64 1, .int .i64 2, .int .i64 4, .int .i64 4, .int .i64 8]) ∧ Below w.heap.size w w' := frame_widths.runs w
theorem run_index_int {P : Program} {W : World} (t : TypeId) {n e : Nat} {k kk : IntKind} (ht : P.underlying t = some (.array n e)) (he : P.underlying e = some (.int k)) (hs : (P.info? e).map (·.size) = some 1) (vs : Array Value) {v : Value} (i : Int) (h0 : 0 ≤ i) (hn : i < n) (hv : vs[i.toNat]? = some v) :
    (Instr.index t (.agg vs) (.int kk i)).run P W = .ok v W := by
  obtain ⟨ie, hi, hs⟩ := Option.map_eq_some_iff.1 hs
  have hp : (part e vs (i.toNat * 1)).run P W = .ok v W := by simp [part, isAgg, run_underlying he, hv]
  rw [Nat.mul_one] at hp
  simp [Instr.index, asIntOf, run_underlying ht, h0, hn, sizeOf, typeInfo, hi, hs, hp]
/-- Numbers behind one another, each with its width. -/
def putAll (k : Nat) : List (Int × Int) → List Int → Option (List Int)
  | [], acc => some acc
  | (v, n) :: t, acc => (octet_Put.f k acc v n).bind (putAll k t)
def headV (p0 p1 p2 p3 p4 : Int) : List (Int × Int) := [(0, 4), (IntKind.u64.wrap p0, 1), (1, 1), (IntKind.u64.wrap p1, 2), (IntKind.u64.wrap p2, 4), (IntKind.u64.wrap p3, 4), (p4, 8)]
def frame_Put.fk (k : Nat) (a0 p0 p1 p2 p3 p4 : Int) (p5 : ByteArray) : Option (ByteArray × Int) := (frame_may.f a0 p0 p1 p2 p3 p4 p5).bind fun b => if b = true then ((putAll k (headV p0 p1 p2 p3 p4) []).bind fun l => if 4 ≤ l.length then (if (strOfNums (l.drop 4)).size + p5.size ≤ 9223372036854775807 then ((crc_Of.f (strOfNums (l.drop 4) ++ p5)).bind fun c => (octet_Put.f k ([] : List Int) (IntKind.u64.wrap c) 4).bind fun h => if (strOfNums h).size + (strOfNums (l.drop 4) ++ p5).size ≤ 9223372036854775807 then some (strOfNums h ++ (strOfNums (l.drop 4) ++ p5), 0) else none) else none) else none) else some ((⟨#[]⟩ : ByteArray), 2)
def frame_Put.T9 : Bool × List (List Nat × List Nat) := (true, [([], []), ([0], [0]), ([1], [1]), ([], []), ([3], [3]), ([2, 4], [2, 4]), ([5, 0, 1, 2, 3, 4, 5], [5])])
theorem frame_Put.tab9 : rtab .any (opsOf Try.f17 9) = frame_Put.T9 := by kernel_rfl
set_option maxHeartbeats 8000000 in
set_option maxRecDepth 100000 in
theorem frame_Put.callsk (k : Nat) (a0 p0 p1 p2 p3 p4 : Int) (p5 : ByteArray) (r1 : ByteArray) (r2 : Int) (w : World) (h : frame_Put.fk k a0 p0 p1 p2 p3 p4 p5 = some (r1, r2)) :
    Calls Try.prog 17 #[.int .i64 a0, .agg #[.int .i64 p0, .int .i64 p1, .int .u32 p2, .int .u32 p3, .int .u64 p4, .string p5]] w fun e w' => e = .returned (.tuple #[.string r1, .int .i64 r2]) ∧ Below w.heap.size w w' := by
  have HB := Aside0.mk (Below.refl w.heap.size w)
  unfold frame_Put.fk at h
  obtain ⟨b, h1, h⟩ := Option.bind_eq_some_iff.mp h
  have A1 := Aside0.mk h1
  clear h1
  cases b with
  | false =>
    simp only [Bool.false_eq_true, if_false, Option.some.injEq, Prod.mk.injEq] at h
    obtain ⟨rfl, rfl⟩ := h
    go_enter Try.func17, Try.ntmps17
    go_wp2_with (first | ((with_reducible refine gate_dst (N := 3) rfl ?_); refine box_event ?hg (N := 3) ?hd (cs := #[.int .i64 p0, .int .i64 p1, .int .u32 p2, .int .u32 p3, .int .u64 p4, .string p5]) (t := 27) ?hr ?_; (case hd => rfl); (case hg => rfl); (case hr => first | (go_simp; done) | (go_simp; rfl)); intro gb hg_ w1 hb hbel; have n0_ := Aside0.mk (below_step HB.out hbel); have BK := Aside0.mk hb; have GE := Aside0.mk ((by rw [hg_]; exact Nat.le_refl _ : w.heap.size ≤ gb)); clear HB; have HB := n0_; clear n0_ hg_ hb hbel; have hc0 : w1.cell? ⟨gb, 0, none⟩ = some (.int .i64 p0) := (blk_cell BK.out 0).trans rfl; have hc1 : w1.cell? ⟨gb, 1, none⟩ = some (.int .i64 p1) := (blk_cell BK.out 1).trans rfl; have hc2 : w1.cell? ⟨gb, 2, none⟩ = some (.int .u32 p2) := (blk_cell BK.out 2).trans rfl; have hc3 : w1.cell? ⟨gb, 3, none⟩ = some (.int .u32 p3) := (blk_cell BK.out 3).trans rfl; have hc4 : w1.cell? ⟨gb, 4, none⟩ = some (.int .u64 p4) := (blk_cell BK.out 4).trans rfl; have hc5 : w1.cell? ⟨gb, 5, none⟩ = some (.string p5) := (blk_cell BK.out 5).trans rfl; have hf0 := blk_frozen BK.out 0; have hf1 := blk_frozen BK.out 1; have hf2 := blk_frozen BK.out 2; have hf3 := blk_frozen BK.out 3; have hf4 := blk_frozen BK.out 4; have hf5 := blk_frozen BK.out 5) | (go_at_call 44; (with_reducible refine (frame_may.calls a0 p0 p1 p2 p3 p4 p5 false _ A1.out).mono ?_); rintro e w2 ⟨rfl, hb⟩; have n0_ := Aside0.mk (blk_below (g := gb) (o := .cells #[.int .i64 p0, .int .i64 p1, .int .u32 p2, .int .u32 p3, .int .u64 p4, .string p5] 27 (0, 0)) (by (with_reducible repeat (first | refine blk_drewN ?_ _ | refine blk_drew ?_ | refine blk_alloc ?_ _)); exact BK.out) hb); have n1_ := Aside0.mk (below_step HB.out hb); clear hc0 hc1 hc2 hc3 hc4 hc5 hf0 hf1 hf2 hf3 hf4 hf5; clear BK HB hb; have BK := n0_; have HB := n1_; clear n0_ n1_; have hc0 : w2.cell? ⟨gb, 0, none⟩ = some (.int .i64 p0) := (blk_cell BK.out 0).trans rfl; have hc1 : w2.cell? ⟨gb, 1, none⟩ = some (.int .i64 p1) := (blk_cell BK.out 1).trans rfl; have hc2 : w2.cell? ⟨gb, 2, none⟩ = some (.int .u32 p2) := (blk_cell BK.out 2).trans rfl; have hc3 : w2.cell? ⟨gb, 3, none⟩ = some (.int .u32 p3) := (blk_cell BK.out 3).trans rfl; have hc4 : w2.cell? ⟨gb, 4, none⟩ = some (.int .u64 p4) := (blk_cell BK.out 4).trans rfl; have hc5 : w2.cell? ⟨gb, 5, none⟩ = some (.string p5) := (blk_cell BK.out 5).trans rfl; have hf0 := blk_frozen BK.out 0; have hf1 := blk_frozen BK.out 1; have hf2 := blk_frozen BK.out 2; have hf3 := blk_frozen BK.out 3; have hf4 := blk_frozen BK.out 4; have hf5 := blk_frozen BK.out 5))
    go_ret2
    exact ⟨rfl, HB.out⟩
  | true =>
    rw [if_pos rfl] at h
    obtain ⟨l7, h1, h⟩ := Option.bind_eq_some_iff.mp h
    have A2 := Aside0.mk h1
    clear h1
    have A9 := Aside0.mk h
    clear h
    go_enter Try.func17, Try.ntmps17
    go_wp2_with (first | ((with_reducible refine gate_dst (N := 3) rfl ?_); refine box_event ?hg (N := 3) ?hd (cs := #[.int .i64 p0, .int .i64 p1, .int .u32 p2, .int .u32 p3, .int .u64 p4, .string p5]) (t := 27) ?hr ?_; (case hd => rfl); (case hg => rfl); (case hr => first | (go_simp; done) | (go_simp; rfl)); intro gb hg_ w1 hb hbel; have n0_ := Aside0.mk (below_step HB.out hbel); have BK := Aside0.mk hb; have GE := Aside0.mk ((by rw [hg_]; exact Nat.le_refl _ : w.heap.size ≤ gb)); clear HB; have HB := n0_; clear n0_ hg_ hb hbel; have hc0 : w1.cell? ⟨gb, 0, none⟩ = some (.int .i64 p0) := (blk_cell BK.out 0).trans rfl; have hc1 : w1.cell? ⟨gb, 1, none⟩ = some (.int .i64 p1) := (blk_cell BK.out 1).trans rfl; have hc2 : w1.cell? ⟨gb, 2, none⟩ = some (.int .u32 p2) := (blk_cell BK.out 2).trans rfl; have hc3 : w1.cell? ⟨gb, 3, none⟩ = some (.int .u32 p3) := (blk_cell BK.out 3).trans rfl; have hc4 : w1.cell? ⟨gb, 4, none⟩ = some (.int .u64 p4) := (blk_cell BK.out 4).trans rfl; have hc5 : w1.cell? ⟨gb, 5, none⟩ = some (.string p5) := (blk_cell BK.out 5).trans rfl; have hf0 := blk_frozen BK.out 0; have hf1 := blk_frozen BK.out 1; have hf2 := blk_frozen BK.out 2; have hf3 := blk_frozen BK.out 3; have hf4 := blk_frozen BK.out 4; have hf5 := blk_frozen BK.out 5) | (go_at_call 44; (with_reducible refine (frame_may.calls a0 p0 p1 p2 p3 p4 p5 true _ A1.out).mono ?_); rintro e w2 ⟨rfl, hb⟩; have n0_ := Aside0.mk (blk_below (g := gb) (o := .cells #[.int .i64 p0, .int .i64 p1, .int .u32 p2, .int .u32 p3, .int .u64 p4, .string p5] 27 (0, 0)) (by (with_reducible repeat (first | refine blk_drewN ?_ _ | refine blk_drew ?_ | refine blk_alloc ?_ _)); exact BK.out) hb); have n1_ := Aside0.mk (below_step HB.out hb); clear hc0 hc1 hc2 hc3 hc4 hc5 hf0 hf1 hf2 hf3 hf4 hf5; clear BK HB hb; have BK := n0_; have HB := n1_; clear n0_ n1_; have hc0 : w2.cell? ⟨gb, 0, none⟩ = some (.int .i64 p0) := (blk_cell BK.out 0).trans rfl; have hc1 : w2.cell? ⟨gb, 1, none⟩ = some (.int .i64 p1) := (blk_cell BK.out 1).trans rfl; have hc2 : w2.cell? ⟨gb, 2, none⟩ = some (.int .u32 p2) := (blk_cell BK.out 2).trans rfl; have hc3 : w2.cell? ⟨gb, 3, none⟩ = some (.int .u32 p3) := (blk_cell BK.out 3).trans rfl; have hc4 : w2.cell? ⟨gb, 4, none⟩ = some (.int .u64 p4) := (blk_cell BK.out 4).trans rfl; have hc5 : w2.cell? ⟨gb, 5, none⟩ = some (.string p5) := (blk_cell BK.out 5).trans rfl; have hf0 := blk_frozen BK.out 0; have hf1 := blk_frozen BK.out 1; have hf2 := blk_frozen BK.out 2; have hf3 := blk_frozen BK.out 3; have hf4 := blk_frozen BK.out 4; have hf5 := blk_frozen BK.out 5))
    go_loopg [6, 29] 7 (fun kq v6 v29 w' => ∃ (n : Nat) (z : Int) (x : List Int), v29 = .int .i64 z ∧ Aside0 (z = (n : Int)) ∧ Aside0 (kq + n = 7) ∧ Aside0 (putAll k ((headV p0 p1 p2 p3 p4).drop n) x = some l7) ∧ Aside0 (Kd.R (Kd.int .u8) 5 w' w.heap.size (fun _ => True) v6 x) ∧ Aside0 (w'.heap[gb]? = some (.cells #[.int .i64 p0, .int .i64 p1, .int .u32 p2, .int .u32 p3, .int .u64 p4, .string p5] 27 (0, 0))) ∧ Aside0 (Below w.heap.size w w'))
    case atStart => exact ⟨0, 0, [], rfl, ⟨rfl⟩, ⟨rfl⟩, ⟨A2.out⟩, ⟨Kd.R_nil _ _ _ _ _⟩, ⟨BK.out⟩, ⟨HB.out⟩⟩
    case round =>
      clear hc0 hc1 hc2 hc3 hc4 hc5 hf0 hf1 hf2 hf3 hf4 hf5
      clear HB BK
      obtain ⟨n, z, x, rfl, HZ, HK, HP, HO, BK, HB⟩ := hrel
      by_cases hn : n < 7
      · cases gk with
        | zero => have := HK.out; omega
        | succ k1 =>
        obtain ⟨Ao, co, eo⟩ := Kd.R_slice HO.out
        subst eo
        have h7 : n = 0 ∨ n = 1 ∨ n = 2 ∨ n = 3 ∨ n = 4 ∨ n = 5 ∨ n = 6 := by omega
        rcases h7 with rfl | rfl | rfl | rfl | rfl | rfl | rfl
        · obtain rfl : z = 0 := by have := HZ.out; omega
          obtain ⟨t, h1, h2⟩ := Option.bind_eq_some_iff.mp (show (octet_Put.f k x 0 4).bind (putAll k [((IntKind.u64.wrap p0), 1), (1, 1), ((IntKind.u64.wrap p1), 2), ((IntKind.u64.wrap p2), 4), ((IntKind.u64.wrap p3), 4), (p4, 8)]) = some l7 from HP.out)
          have A3 := Aside0.mk h1
          have HQ := Aside0.mk h2
          clear h1 h2 HP
          have hx1 : ∀ W, (Instr.index 77 (.agg #[.int .u64 0, .int .u64 (IntKind.u64.wrap p0), .int .u64 1, .int .u64 (IntKind.u64.wrap p1), .int .u64 (IntKind.u64.wrap p2), .int .u64 (IntKind.u64.wrap p3), .int .u64 p4]) (.int .i64 0)).run Try.prog W = .ok (.int .u64 0) W := fun W => run_index_int 77 Try.underlying77 Try.underlying22 (by kernel_rfl) _ 0 (by decide) (by decide) rfl
          have hx2 : ∀ W, (Instr.index 78 (.agg #[.int .i64 4, .int .i64 1, .int .i64 1, .int .i64 2, .int .i64 4, .int .i64 4, .int .i64 8]) (.int .i64 0)).run Try.prog W = .ok (.int .i64 4) W := fun W => run_index_int 78 Try.underlying78 Try.underlying3 (by kernel_rfl) _ 0 (by decide) (by decide) rfl
          go_wp2_with (first | (go_at_call 45; (with_reducible refine (frame_widths.runs' _).mono ?_); rintro e w3 ⟨rfl, hb⟩; have n0_ := Aside0.mk (Kd.R_below (by (with_reducible repeat (first | apply Kd.R_alloc | apply Kd.R_drewN | apply Kd.R_drew)); exact HO.out) hb); have n1_ := Aside0.mk (blk_below (g := gb) (o := .cells #[.int .i64 p0, .int .i64 p1, .int .u32 p2, .int .u32 p3, .int .u64 p4, .string p5] 27 (0, 0)) (by (with_reducible repeat (first | refine blk_drewN ?_ _ | refine blk_drew ?_ | refine blk_alloc ?_ _)); exact BK.out) hb); have n2_ := Aside0.mk (below_step HB.out hb); clear HO BK HB hb; have HO := n0_; have BK := n1_; have HB := n2_; clear n0_ n1_ n2_) | (go_at_call 40; (with_reducible refine (octet_Put.calls k _ _ x 0 4 t _ ?side1 ?side2 A3.out).mono ?_); (case side1 => repeat (first | exact (Kd.R_reads' HO.out).2.2 | (with_reducible refine Kd.C_alloc ?_ _) | (with_reducible refine Kd.C_drewN ?_ _) | (with_reducible refine Kd.C_drew ?_))); (case side2 => exact (Kd.R_reads' HO.out).2.1); rintro e w4 ⟨vp, rfl, ho0, hb⟩; have n0_ := Aside0.mk (Kd.R_lower ho0 (below_size HB.out)); have n1_ := Aside0.mk (blk_below (g := gb) (o := .cells #[.int .i64 p0, .int .i64 p1, .int .u32 p2, .int .u32 p3, .int .u64 p4, .string p5] 27 (0, 0)) (by (with_reducible repeat (first | refine blk_drewN ?_ _ | refine blk_drew ?_ | refine blk_alloc ?_ _)); exact BK.out) hb); have n2_ := Aside0.mk (below_step HB.out hb); clear HO BK HB hb ho0; have HO := n0_; have BK := n1_; have HB := n2_; clear n0_ n1_ n2_))
          go_roundg k1
          case measure => omega
          case rel => exact ⟨1, 1, t, by rfl, ⟨rfl⟩, ⟨by have := HK.out; omega⟩, ⟨HQ.out⟩, ⟨HO.out⟩, ⟨BK.out⟩, ⟨HB.out⟩⟩
        · obtain rfl : z = 1 := by have := HZ.out; omega
          obtain ⟨t, h1, h2⟩ := Option.bind_eq_some_iff.mp (show (octet_Put.f k x (IntKind.u64.wrap p0) 1).bind (putAll k [(1, 1), ((IntKind.u64.wrap p1), 2), ((IntKind.u64.wrap p2), 4), ((IntKind.u64.wrap p3), 4), (p4, 8)]) = some l7 from HP.out)
          have A3 := Aside0.mk h1
          have HQ := Aside0.mk h2
          clear h1 h2 HP
          have hx1 : ∀ W, (Instr.index 77 (.agg #[.int .u64 0, .int .u64 (IntKind.u64.wrap p0), .int .u64 1, .int .u64 (IntKind.u64.wrap p1), .int .u64 (IntKind.u64.wrap p2), .int .u64 (IntKind.u64.wrap p3), .int .u64 p4]) (.int .i64 1)).run Try.prog W = .ok (.int .u64 (IntKind.u64.wrap p0)) W := fun W => run_index_int 77 Try.underlying77 Try.underlying22 (by kernel_rfl) _ 1 (by decide) (by decide) rfl
          have hx2 : ∀ W, (Instr.index 78 (.agg #[.int .i64 4, .int .i64 1, .int .i64 1, .int .i64 2, .int .i64 4, .int .i64 4, .int .i64 8]) (.int .i64 1)).run Try.prog W = .ok (.int .i64 1) W := fun W => run_index_int 78 Try.underlying78 Try.underlying3 (by kernel_rfl) _ 1 (by decide) (by decide) rfl
          go_wp2_with (first | (go_at_call 45; (with_reducible refine (frame_widths.runs' _).mono ?_); rintro e w3 ⟨rfl, hb⟩; have n0_ := Aside0.mk (Kd.R_below (by (with_reducible repeat (first | apply Kd.R_alloc | apply Kd.R_drewN | apply Kd.R_drew)); exact HO.out) hb); have n1_ := Aside0.mk (blk_below (g := gb) (o := .cells #[.int .i64 p0, .int .i64 p1, .int .u32 p2, .int .u32 p3, .int .u64 p4, .string p5] 27 (0, 0)) (by (with_reducible repeat (first | refine blk_drewN ?_ _ | refine blk_drew ?_ | refine blk_alloc ?_ _)); exact BK.out) hb); have n2_ := Aside0.mk (below_step HB.out hb); clear HO BK HB hb; have HO := n0_; have BK := n1_; have HB := n2_; clear n0_ n1_ n2_) | (go_at_call 40; (with_reducible refine (octet_Put.calls k _ _ x (IntKind.u64.wrap p0) 1 t _ ?side1 ?side2 A3.out).mono ?_); (case side1 => repeat (first | exact (Kd.R_reads' HO.out).2.2 | (with_reducible refine Kd.C_alloc ?_ _) | (with_reducible refine Kd.C_drewN ?_ _) | (with_reducible refine Kd.C_drew ?_))); (case side2 => exact (Kd.R_reads' HO.out).2.1); rintro e w4 ⟨vp, rfl, ho0, hb⟩; have n0_ := Aside0.mk (Kd.R_lower ho0 (below_size HB.out)); have n1_ := Aside0.mk (blk_below (g := gb) (o := .cells #[.int .i64 p0, .int .i64 p1, .int .u32 p2, .int .u32 p3, .int .u64 p4, .string p5] 27 (0, 0)) (by (with_reducible repeat (first | refine blk_drewN ?_ _ | refine blk_drew ?_ | refine blk_alloc ?_ _)); exact BK.out) hb); have n2_ := Aside0.mk (below_step HB.out hb); clear HO BK HB hb ho0; have HO := n0_; have BK := n1_; have HB := n2_; clear n0_ n1_ n2_))
          go_roundg k1
          case measure => omega
          case rel => exact ⟨2, 2, t, by rfl, ⟨rfl⟩, ⟨by have := HK.out; omega⟩, ⟨HQ.out⟩, ⟨HO.out⟩, ⟨BK.out⟩, ⟨HB.out⟩⟩
        · obtain rfl : z = 2 := by have := HZ.out; omega
          obtain ⟨t, h1, h2⟩ := Option.bind_eq_some_iff.mp (show (octet_Put.f k x 1 1).bind (putAll k [((IntKind.u64.wrap p1), 2), ((IntKind.u64.wrap p2), 4), ((IntKind.u64.wrap p3), 4), (p4, 8)]) = some l7 from HP.out)
          have A3 := Aside0.mk h1
          have HQ := Aside0.mk h2
          clear h1 h2 HP
          have hx1 : ∀ W, (Instr.index 77 (.agg #[.int .u64 0, .int .u64 (IntKind.u64.wrap p0), .int .u64 1, .int .u64 (IntKind.u64.wrap p1), .int .u64 (IntKind.u64.wrap p2), .int .u64 (IntKind.u64.wrap p3), .int .u64 p4]) (.int .i64 2)).run Try.prog W = .ok (.int .u64 1) W := fun W => run_index_int 77 Try.underlying77 Try.underlying22 (by kernel_rfl) _ 2 (by decide) (by decide) rfl
          have hx2 : ∀ W, (Instr.index 78 (.agg #[.int .i64 4, .int .i64 1, .int .i64 1, .int .i64 2, .int .i64 4, .int .i64 4, .int .i64 8]) (.int .i64 2)).run Try.prog W = .ok (.int .i64 1) W := fun W => run_index_int 78 Try.underlying78 Try.underlying3 (by kernel_rfl) _ 2 (by decide) (by decide) rfl
          go_wp2_with (first | (go_at_call 45; (with_reducible refine (frame_widths.runs' _).mono ?_); rintro e w3 ⟨rfl, hb⟩; have n0_ := Aside0.mk (Kd.R_below (by (with_reducible repeat (first | apply Kd.R_alloc | apply Kd.R_drewN | apply Kd.R_drew)); exact HO.out) hb); have n1_ := Aside0.mk (blk_below (g := gb) (o := .cells #[.int .i64 p0, .int .i64 p1, .int .u32 p2, .int .u32 p3, .int .u64 p4, .string p5] 27 (0, 0)) (by (with_reducible repeat (first | refine blk_drewN ?_ _ | refine blk_drew ?_ | refine blk_alloc ?_ _)); exact BK.out) hb); have n2_ := Aside0.mk (below_step HB.out hb); clear HO BK HB hb; have HO := n0_; have BK := n1_; have HB := n2_; clear n0_ n1_ n2_) | (go_at_call 40; (with_reducible refine (octet_Put.calls k _ _ x 1 1 t _ ?side1 ?side2 A3.out).mono ?_); (case side1 => repeat (first | exact (Kd.R_reads' HO.out).2.2 | (with_reducible refine Kd.C_alloc ?_ _) | (with_reducible refine Kd.C_drewN ?_ _) | (with_reducible refine Kd.C_drew ?_))); (case side2 => exact (Kd.R_reads' HO.out).2.1); rintro e w4 ⟨vp, rfl, ho0, hb⟩; have n0_ := Aside0.mk (Kd.R_lower ho0 (below_size HB.out)); have n1_ := Aside0.mk (blk_below (g := gb) (o := .cells #[.int .i64 p0, .int .i64 p1, .int .u32 p2, .int .u32 p3, .int .u64 p4, .string p5] 27 (0, 0)) (by (with_reducible repeat (first | refine blk_drewN ?_ _ | refine blk_drew ?_ | refine blk_alloc ?_ _)); exact BK.out) hb); have n2_ := Aside0.mk (below_step HB.out hb); clear HO BK HB hb ho0; have HO := n0_; have BK := n1_; have HB := n2_; clear n0_ n1_ n2_))
          go_roundg k1
          case measure => omega
          case rel => exact ⟨3, 3, t, by rfl, ⟨rfl⟩, ⟨by have := HK.out; omega⟩, ⟨HQ.out⟩, ⟨HO.out⟩, ⟨BK.out⟩, ⟨HB.out⟩⟩
        · obtain rfl : z = 3 := by have := HZ.out; omega
          obtain ⟨t, h1, h2⟩ := Option.bind_eq_some_iff.mp (show (octet_Put.f k x (IntKind.u64.wrap p1) 2).bind (putAll k [((IntKind.u64.wrap p2), 4), ((IntKind.u64.wrap p3), 4), (p4, 8)]) = some l7 from HP.out)
          have A3 := Aside0.mk h1
          have HQ := Aside0.mk h2
          clear h1 h2 HP
          have hx1 : ∀ W, (Instr.index 77 (.agg #[.int .u64 0, .int .u64 (IntKind.u64.wrap p0), .int .u64 1, .int .u64 (IntKind.u64.wrap p1), .int .u64 (IntKind.u64.wrap p2), .int .u64 (IntKind.u64.wrap p3), .int .u64 p4]) (.int .i64 3)).run Try.prog W = .ok (.int .u64 (IntKind.u64.wrap p1)) W := fun W => run_index_int 77 Try.underlying77 Try.underlying22 (by kernel_rfl) _ 3 (by decide) (by decide) rfl
          have hx2 : ∀ W, (Instr.index 78 (.agg #[.int .i64 4, .int .i64 1, .int .i64 1, .int .i64 2, .int .i64 4, .int .i64 4, .int .i64 8]) (.int .i64 3)).run Try.prog W = .ok (.int .i64 2) W := fun W => run_index_int 78 Try.underlying78 Try.underlying3 (by kernel_rfl) _ 3 (by decide) (by decide) rfl
          go_wp2_with (first | (go_at_call 45; (with_reducible refine (frame_widths.runs' _).mono ?_); rintro e w3 ⟨rfl, hb⟩; have n0_ := Aside0.mk (Kd.R_below (by (with_reducible repeat (first | apply Kd.R_alloc | apply Kd.R_drewN | apply Kd.R_drew)); exact HO.out) hb); have n1_ := Aside0.mk (blk_below (g := gb) (o := .cells #[.int .i64 p0, .int .i64 p1, .int .u32 p2, .int .u32 p3, .int .u64 p4, .string p5] 27 (0, 0)) (by (with_reducible repeat (first | refine blk_drewN ?_ _ | refine blk_drew ?_ | refine blk_alloc ?_ _)); exact BK.out) hb); have n2_ := Aside0.mk (below_step HB.out hb); clear HO BK HB hb; have HO := n0_; have BK := n1_; have HB := n2_; clear n0_ n1_ n2_) | (go_at_call 40; (with_reducible refine (octet_Put.calls k _ _ x (IntKind.u64.wrap p1) 2 t _ ?side1 ?side2 A3.out).mono ?_); (case side1 => repeat (first | exact (Kd.R_reads' HO.out).2.2 | (with_reducible refine Kd.C_alloc ?_ _) | (with_reducible refine Kd.C_drewN ?_ _) | (with_reducible refine Kd.C_drew ?_))); (case side2 => exact (Kd.R_reads' HO.out).2.1); rintro e w4 ⟨vp, rfl, ho0, hb⟩; have n0_ := Aside0.mk (Kd.R_lower ho0 (below_size HB.out)); have n1_ := Aside0.mk (blk_below (g := gb) (o := .cells #[.int .i64 p0, .int .i64 p1, .int .u32 p2, .int .u32 p3, .int .u64 p4, .string p5] 27 (0, 0)) (by (with_reducible repeat (first | refine blk_drewN ?_ _ | refine blk_drew ?_ | refine blk_alloc ?_ _)); exact BK.out) hb); have n2_ := Aside0.mk (below_step HB.out hb); clear HO BK HB hb ho0; have HO := n0_; have BK := n1_; have HB := n2_; clear n0_ n1_ n2_))
          go_roundg k1
          case measure => omega
          case rel => exact ⟨4, 4, t, by rfl, ⟨rfl⟩, ⟨by have := HK.out; omega⟩, ⟨HQ.out⟩, ⟨HO.out⟩, ⟨BK.out⟩, ⟨HB.out⟩⟩
        · obtain rfl : z = 4 := by have := HZ.out; omega
          obtain ⟨t, h1, h2⟩ := Option.bind_eq_some_iff.mp (show (octet_Put.f k x (IntKind.u64.wrap p2) 4).bind (putAll k [((IntKind.u64.wrap p3), 4), (p4, 8)]) = some l7 from HP.out)
          have A3 := Aside0.mk h1
          have HQ := Aside0.mk h2
          clear h1 h2 HP
          have hx1 : ∀ W, (Instr.index 77 (.agg #[.int .u64 0, .int .u64 (IntKind.u64.wrap p0), .int .u64 1, .int .u64 (IntKind.u64.wrap p1), .int .u64 (IntKind.u64.wrap p2), .int .u64 (IntKind.u64.wrap p3), .int .u64 p4]) (.int .i64 4)).run Try.prog W = .ok (.int .u64 (IntKind.u64.wrap p2)) W := fun W => run_index_int 77 Try.underlying77 Try.underlying22 (by kernel_rfl) _ 4 (by decide) (by decide) rfl
          have hx2 : ∀ W, (Instr.index 78 (.agg #[.int .i64 4, .int .i64 1, .int .i64 1, .int .i64 2, .int .i64 4, .int .i64 4, .int .i64 8]) (.int .i64 4)).run Try.prog W = .ok (.int .i64 4) W := fun W => run_index_int 78 Try.underlying78 Try.underlying3 (by kernel_rfl) _ 4 (by decide) (by decide) rfl
          go_wp2_with (first | (go_at_call 45; (with_reducible refine (frame_widths.runs' _).mono ?_); rintro e w3 ⟨rfl, hb⟩; have n0_ := Aside0.mk (Kd.R_below (by (with_reducible repeat (first | apply Kd.R_alloc | apply Kd.R_drewN | apply Kd.R_drew)); exact HO.out) hb); have n1_ := Aside0.mk (blk_below (g := gb) (o := .cells #[.int .i64 p0, .int .i64 p1, .int .u32 p2, .int .u32 p3, .int .u64 p4, .string p5] 27 (0, 0)) (by (with_reducible repeat (first | refine blk_drewN ?_ _ | refine blk_drew ?_ | refine blk_alloc ?_ _)); exact BK.out) hb); have n2_ := Aside0.mk (below_step HB.out hb); clear HO BK HB hb; have HO := n0_; have BK := n1_; have HB := n2_; clear n0_ n1_ n2_) | (go_at_call 40; (with_reducible refine (octet_Put.calls k _ _ x (IntKind.u64.wrap p2) 4 t _ ?side1 ?side2 A3.out).mono ?_); (case side1 => repeat (first | exact (Kd.R_reads' HO.out).2.2 | (with_reducible refine Kd.C_alloc ?_ _) | (with_reducible refine Kd.C_drewN ?_ _) | (with_reducible refine Kd.C_drew ?_))); (case side2 => exact (Kd.R_reads' HO.out).2.1); rintro e w4 ⟨vp, rfl, ho0, hb⟩; have n0_ := Aside0.mk (Kd.R_lower ho0 (below_size HB.out)); have n1_ := Aside0.mk (blk_below (g := gb) (o := .cells #[.int .i64 p0, .int .i64 p1, .int .u32 p2, .int .u32 p3, .int .u64 p4, .string p5] 27 (0, 0)) (by (with_reducible repeat (first | refine blk_drewN ?_ _ | refine blk_drew ?_ | refine blk_alloc ?_ _)); exact BK.out) hb); have n2_ := Aside0.mk (below_step HB.out hb); clear HO BK HB hb ho0; have HO := n0_; have BK := n1_; have HB := n2_; clear n0_ n1_ n2_))
          go_roundg k1
          case measure => omega
          case rel => exact ⟨5, 5, t, by rfl, ⟨rfl⟩, ⟨by have := HK.out; omega⟩, ⟨HQ.out⟩, ⟨HO.out⟩, ⟨BK.out⟩, ⟨HB.out⟩⟩
        · obtain rfl : z = 5 := by have := HZ.out; omega
          obtain ⟨t, h1, h2⟩ := Option.bind_eq_some_iff.mp (show (octet_Put.f k x (IntKind.u64.wrap p3) 4).bind (putAll k [(p4, 8)]) = some l7 from HP.out)
          have A3 := Aside0.mk h1
          have HQ := Aside0.mk h2
          clear h1 h2 HP
          have hx1 : ∀ W, (Instr.index 77 (.agg #[.int .u64 0, .int .u64 (IntKind.u64.wrap p0), .int .u64 1, .int .u64 (IntKind.u64.wrap p1), .int .u64 (IntKind.u64.wrap p2), .int .u64 (IntKind.u64.wrap p3), .int .u64 p4]) (.int .i64 5)).run Try.prog W = .ok (.int .u64 (IntKind.u64.wrap p3)) W := fun W => run_index_int 77 Try.underlying77 Try.underlying22 (by kernel_rfl) _ 5 (by decide) (by decide) rfl
          have hx2 : ∀ W, (Instr.index 78 (.agg #[.int .i64 4, .int .i64 1, .int .i64 1, .int .i64 2, .int .i64 4, .int .i64 4, .int .i64 8]) (.int .i64 5)).run Try.prog W = .ok (.int .i64 4) W := fun W => run_index_int 78 Try.underlying78 Try.underlying3 (by kernel_rfl) _ 5 (by decide) (by decide) rfl
          go_wp2_with (first | (go_at_call 45; (with_reducible refine (frame_widths.runs' _).mono ?_); rintro e w3 ⟨rfl, hb⟩; have n0_ := Aside0.mk (Kd.R_below (by (with_reducible repeat (first | apply Kd.R_alloc | apply Kd.R_drewN | apply Kd.R_drew)); exact HO.out) hb); have n1_ := Aside0.mk (blk_below (g := gb) (o := .cells #[.int .i64 p0, .int .i64 p1, .int .u32 p2, .int .u32 p3, .int .u64 p4, .string p5] 27 (0, 0)) (by (with_reducible repeat (first | refine blk_drewN ?_ _ | refine blk_drew ?_ | refine blk_alloc ?_ _)); exact BK.out) hb); have n2_ := Aside0.mk (below_step HB.out hb); clear HO BK HB hb; have HO := n0_; have BK := n1_; have HB := n2_; clear n0_ n1_ n2_) | (go_at_call 40; (with_reducible refine (octet_Put.calls k _ _ x (IntKind.u64.wrap p3) 4 t _ ?side1 ?side2 A3.out).mono ?_); (case side1 => repeat (first | exact (Kd.R_reads' HO.out).2.2 | (with_reducible refine Kd.C_alloc ?_ _) | (with_reducible refine Kd.C_drewN ?_ _) | (with_reducible refine Kd.C_drew ?_))); (case side2 => exact (Kd.R_reads' HO.out).2.1); rintro e w4 ⟨vp, rfl, ho0, hb⟩; have n0_ := Aside0.mk (Kd.R_lower ho0 (below_size HB.out)); have n1_ := Aside0.mk (blk_below (g := gb) (o := .cells #[.int .i64 p0, .int .i64 p1, .int .u32 p2, .int .u32 p3, .int .u64 p4, .string p5] 27 (0, 0)) (by (with_reducible repeat (first | refine blk_drewN ?_ _ | refine blk_drew ?_ | refine blk_alloc ?_ _)); exact BK.out) hb); have n2_ := Aside0.mk (below_step HB.out hb); clear HO BK HB hb ho0; have HO := n0_; have BK := n1_; have HB := n2_; clear n0_ n1_ n2_))
          go_roundg k1
          case measure => omega
          case rel => exact ⟨6, 6, t, by rfl, ⟨rfl⟩, ⟨by have := HK.out; omega⟩, ⟨HQ.out⟩, ⟨HO.out⟩, ⟨BK.out⟩, ⟨HB.out⟩⟩
        · obtain rfl : z = 6 := by have := HZ.out; omega
          obtain ⟨t, h1, h2⟩ := Option.bind_eq_some_iff.mp (show (octet_Put.f k x p4 8).bind (putAll k []) = some l7 from HP.out)
          have A3 := Aside0.mk h1
          have HQ := Aside0.mk h2
          clear h1 h2 HP
          have hx1 : ∀ W, (Instr.index 77 (.agg #[.int .u64 0, .int .u64 (IntKind.u64.wrap p0), .int .u64 1, .int .u64 (IntKind.u64.wrap p1), .int .u64 (IntKind.u64.wrap p2), .int .u64 (IntKind.u64.wrap p3), .int .u64 p4]) (.int .i64 6)).run Try.prog W = .ok (.int .u64 p4) W := fun W => run_index_int 77 Try.underlying77 Try.underlying22 (by kernel_rfl) _ 6 (by decide) (by decide) rfl
          have hx2 : ∀ W, (Instr.index 78 (.agg #[.int .i64 4, .int .i64 1, .int .i64 1, .int .i64 2, .int .i64 4, .int .i64 4, .int .i64 8]) (.int .i64 6)).run Try.prog W = .ok (.int .i64 8) W := fun W => run_index_int 78 Try.underlying78 Try.underlying3 (by kernel_rfl) _ 6 (by decide) (by decide) rfl
          go_wp2_with (first | (go_at_call 45; (with_reducible refine (frame_widths.runs' _).mono ?_); rintro e w3 ⟨rfl, hb⟩; have n0_ := Aside0.mk (Kd.R_below (by (with_reducible repeat (first | apply Kd.R_alloc | apply Kd.R_drewN | apply Kd.R_drew)); exact HO.out) hb); have n1_ := Aside0.mk (blk_below (g := gb) (o := .cells #[.int .i64 p0, .int .i64 p1, .int .u32 p2, .int .u32 p3, .int .u64 p4, .string p5] 27 (0, 0)) (by (with_reducible repeat (first | refine blk_drewN ?_ _ | refine blk_drew ?_ | refine blk_alloc ?_ _)); exact BK.out) hb); have n2_ := Aside0.mk (below_step HB.out hb); clear HO BK HB hb; have HO := n0_; have BK := n1_; have HB := n2_; clear n0_ n1_ n2_) | (go_at_call 40; (with_reducible refine (octet_Put.calls k _ _ x p4 8 t _ ?side1 ?side2 A3.out).mono ?_); (case side1 => repeat (first | exact (Kd.R_reads' HO.out).2.2 | (with_reducible refine Kd.C_alloc ?_ _) | (with_reducible refine Kd.C_drewN ?_ _) | (with_reducible refine Kd.C_drew ?_))); (case side2 => exact (Kd.R_reads' HO.out).2.1); rintro e w4 ⟨vp, rfl, ho0, hb⟩; have n0_ := Aside0.mk (Kd.R_lower ho0 (below_size HB.out)); have n1_ := Aside0.mk (blk_below (g := gb) (o := .cells #[.int .i64 p0, .int .i64 p1, .int .u32 p2, .int .u32 p3, .int .u64 p4, .string p5] 27 (0, 0)) (by (with_reducible repeat (first | refine blk_drewN ?_ _ | refine blk_drew ?_ | refine blk_alloc ?_ _)); exact BK.out) hb); have n2_ := Aside0.mk (below_step HB.out hb); clear HO BK HB hb ho0; have HO := n0_; have BK := n1_; have HB := n2_; clear n0_ n1_ n2_))
          go_roundg k1
          case measure => omega
          case rel => exact ⟨7, 7, t, by rfl, ⟨rfl⟩, ⟨by have := HK.out; omega⟩, ⟨HQ.out⟩, ⟨HO.out⟩, ⟨BK.out⟩, ⟨HB.out⟩⟩
      · have hn7 : n = 7 := by have := HK.out; omega
        subst hn7
        obtain rfl : z = 7 := by have := HZ.out; omega
        obtain rfl : x = l7 := Option.some.inj HP.out
        clear HP HK HZ hn
        have H := A9.out
        clear A9 A2
        by_cases c4 : 4 ≤ x.length
        · rw [if_pos c4] at H
          obtain ⟨y, hy⟩ : ∃ y, y = x.drop 4 := ⟨_, rfl⟩
          rw [← hy] at H
          by_cases c5 : (strOfNums y).size + p5.size ≤ 9223372036854775807
          · rw [if_pos c5] at H
            obtain ⟨c, hc, H⟩ := Option.bind_eq_some_iff.mp H
            obtain ⟨hh, hp, H⟩ := Option.bind_eq_some_iff.mp H
            have AC := Aside0.mk hc
            have AP := Aside0.mk hp
            clear hc hp
            by_cases c6 : (strOfNums hh).size + (strOfNums y ++ p5).size ≤ 9223372036854775807
            · rw [if_pos c6] at H
              simp only [Option.some.injEq, Prod.mk.injEq] at H
              obtain ⟨rfl, rfl⟩ := H
              have c5n : ¬ 9223372036854775807 < (strOfNums y).size + p5.size := Nat.not_lt.mpr c5
              have c6n : ¬ 9223372036854775807 < (strOfNums hh).size + (strOfNums y ++ p5).size := Nat.not_lt.mpr c6
              replace c5n := eq_false c5n
              replace c6n := eq_false c6n
              rw [ByteArray.size_append] at c6n
              clear c5 c6
              go_wp2
              obtain ⟨Ao, co, eo⟩ := Kd.R_slice HO.out
              subst eo
              obtain ⟨i0, hi0, _, hsz0, _⟩ := info_parts info5
              have hcut := cut_from (P := Try.prog) 39 5 .i64 Try.underlying39 hi0 1 hsz0 Ao x.length co 4 (by decide) (by omega)
              obtain ⟨A4, hA4⟩ : ∃ A, A = (if co = (4 : Int).toNat then Ao else (Ao : Option Addr).map (·.add ((4 : Int).toNat * 1))) := ⟨_, rfl⟩
              obtain ⟨c9, hc9⟩ : ∃ c, c = co - (4 : Int).toNat := ⟨_, rfl⟩
              have hl4 : y.length = x.length - (4 : Int).toNat := by rw [hy]; exact List.length_drop
              rw [← hl4, ← hA4, ← hc9] at hcut
              have hC4 := Kd.C_drop (m := (4 : Int).toNat) (c := co) (Kd.R_reads' HO.out).2.2 c4 (Kd.R_reads' HO.out).2.1
              replace hC4 : Kd.C (Kd.int .u8) wr A4 y.length y := by rw [hA4, hy]; exact hC4
              refine start_ (n := 7) (S := fun w' => StrHeld Try.prog 39 9 (.slice A4 y.length c9) y w' ∧ w'.cell? ⟨gb, 5, none⟩ = some (.string p5)) (ds := []) #[false, false, false, false, false, false, false] (by kernel_rfl) rfl rfl ⟨strC Try.underlying39 Try.underlying5 Try.underlying9 (Kd.C_drew hC4), (blk_cell BK.out 5).trans rfl⟩ (fun hHeld => ?_)
              refine with_tab frame_Put.tab9 (fun HT_ => ?_)
              have HB1 := Aside0.mk (below_drew1 HB.out)
              clear HB BK HO hC4 hA4 hc9 hl4 hi0 hsz0 hy
              have HB := HB1
              clear HB1
              generalize wr.drew = wd at HB hHeld ⊢
              refine pure_ (i := 0) (N := some 40) (v := ?_) (a' := ?_) #[true, false, false, false, false, false, false] rfl rfl (any_of HT_.out (by kernel_rfl)) (fun _ _ _ h => h) (Or.inl ⟨by rfl, ?_⟩) ?_ ?_
              rotate_left
              · intro w'
                go_simp
                with_reducible rfl
              rotate_left
              · skip
                simp only [Act.put, List.setIfInBounds_toArray, List.set_cons_zero, List.set_cons_succ, i64_w, i32_w]
                rfl
              refine pure_ (i := 1) (N := some 41) (v := ?_) (a' := ?_) #[true, true, false, false, false, false, false] rfl rfl (any_of HT_.out (by kernel_rfl)) (fun _ _ _ h => h) (Or.inl ⟨by rfl, ?_⟩) ?_ ?_
              rotate_left
              · intro w'
                go_simp
                with_reducible rfl
              rotate_left
              · skip
                simp only [Act.put, List.setIfInBounds_toArray, List.set_cons_zero, List.set_cons_succ, i64_w, i32_w]
                rfl
              refine take_ (i := 2) (N := some 42) (v := ?_) (a' := ?_) #[true, true, true, false, false, false, false] rfl rfl (take_of HT_.out (by kernel_rfl)) (fun _ _ _ h => h) (Or.inl ⟨by rfl, ?_⟩) hHeld ?_ ?_
              rotate_left
              · intro w' hS_
                obtain ⟨s0_, s1_⟩ := hS_
                unfold StrHeld at s0_
                go_simp
                with_reducible rfl
              rotate_left
              · skip
                simp only [Act.put, List.setIfInBounds_toArray, List.set_cons_zero, List.set_cons_succ, i64_w, i32_w]
                rfl
              refine pure_ (i := 3) (N := some 43) (v := ?_) (a' := ?_) #[true, true, true, true, false, false, false] rfl rfl (any_of HT_.out (by kernel_rfl)) (fun _ _ _ h => h) (Or.inl ⟨by rfl, ?_⟩) ?_ ?_
              rotate_left
              · intro w'
                go_simp
                with_reducible rfl
              rotate_left
              · skip
                simp only [Act.put, List.setIfInBounds_toArray, List.set_cons_zero, List.set_cons_succ, i64_w, i32_w]
                rfl
              refine take_ (i := 4) (N := some 44) (v := ?_) (a' := ?_) #[true, true, true, true, true, false, false] rfl rfl (take_of HT_.out (by kernel_rfl)) (fun _ _ _ h => h) (Or.inl ⟨by rfl, ?_⟩) hHeld ?_ ?_
              rotate_left
              · intro w' hS_
                obtain ⟨s0_, s1_⟩ := hS_
                unfold StrHeld at s0_
                go_simp
                with_reducible rfl
              rotate_left
              · skip
                simp only [Act.put, List.setIfInBounds_toArray, List.set_cons_zero, List.set_cons_succ, i64_w, i32_w]
                rfl
              refine pure_ (i := 5) (N := some 45) (v := ?_) (a' := ?_) #[true, true, true, true, true, true, false] rfl rfl (any_of HT_.out (by kernel_rfl)) (fun _ _ _ h => h) (Or.inl ⟨by rfl, ?_⟩) ?_ ?_
              rotate_left
              · intro w'
                go_simp
                with_reducible rfl
              rotate_left
              · skip
                simp only [Act.put, List.setIfInBounds_toArray, List.set_cons_zero, List.set_cons_succ, i64_w, i32_w]
                rfl
              refine pure_ (i := 6) (N := some 9) (v := ?_) (a' := ?_) #[true, true, true, true, true, true, true] rfl rfl (any_of HT_.out (by kernel_rfl)) (fun _ _ _ h => h) (Or.inl ⟨by rfl, ?_⟩) ?_ ?_
              rotate_left
              · intro w'
                go_simp
                with_reducible rfl
              rotate_left
              · skip
                simp only [Act.put, List.setIfInBounds_toArray, List.set_cons_zero, List.set_cons_succ, i64_w, i32_w]
                rfl
              refine done_ (done_of HT_.out (by kernel_rfl)) ?_
              clear hHeld hcut HT_
              go_wp2_with (first | (go_at_call 46; (with_reducible refine (crc_Of.calls _ c _ AC.out).mono ?_); rintro e w5 ⟨rfl, hb⟩; have n0_ := Aside0.mk (below_step HB.out hb); clear HB hb; have HB := n0_; clear n0_) | (go_at_call 40; (refine (octet_Put.calls k none 0 ([] : List Int) (IntKind.u64.wrap c) 4 hh _ ?side1 ?side2 AP.out).mono ?_); (case side1 => exact Kd.C_nil _ _); (case side2 => exact Nat.le_refl _); rintro e w6 ⟨vp, rfl, ho0, hb⟩; have HO9 := Aside0.mk ho0; have n0_ := Aside0.mk (below_step HB.out hb); clear HB hb ho0; have HB := n0_; clear n0_))
              have hcv := own_string (P := Try.prog) Try.underlying39 Try.underlying5 Try.underlying9 (Kd.own_of_R HO9.out)
              rw [hcv]
              go_wp2
              go_ret2
              exact ⟨rfl, HB.out⟩
            · rw [if_neg c6] at H
              cases H
          · rw [if_neg c5] at H
            cases H
        · rw [if_neg c4] at H
          cases H
/-- Twelve rounds are enough for a number of eight bytes. -/
def frame_Put.f (a0 p0 p1 p2 p3 p4 : Int) (p5 : ByteArray) : Option (ByteArray × Int) := frame_Put.fk 12 a0 p0 p1 p2 p3 p4 p5
theorem frame_Put.calls (a0 p0 p1 p2 p3 p4 : Int) (p5 : ByteArray) (r1 : ByteArray) (r2 : Int) (w : World) (h : frame_Put.f a0 p0 p1 p2 p3 p4 p5 = some (r1, r2)) :
    Calls Try.prog 17 #[.int .i64 a0, .agg #[.int .i64 p0, .int .i64 p1, .int .u32 p2, .int .u32 p3, .int .u64 p4, .string p5]] w fun e w' => e = .returned (.tuple #[.string r1, .int .i64 r2]) ∧ Below w.heap.size w w' := frame_Put.callsk 12 a0 p0 p1 p2 p3 p4 p5 r1 r2 w h
end Go.Proofs.Ytlnmdfffmflhgaa.P

namespace Go.Proofs.YtlnmdfffmflhgaaO
set_option linter.unusedVariables false
set_option linter.unusedSimpArgs false
open Go.RowKit Go.Proofs.YtlnmdfffmflhgaaW.PrintWords Go.Proofs.YtlnmdfffmflhgaaW.PrintLast
variable {P : Program} {ops : Array Oper} {Q : Exit → Act → World → Prop}
/-- What is left to do when a function leaves asks of its slots the results alone. -/
theorem leaves_congr {fn : Func} {t1 t2 : Array Value} {R : Ending → World → Prop} (hr : results fn t1 = results fn t2) : ∀ (ds : List Deferred) (u : FrameMode) (w : World), Leaves P fn t1 R ds u w → Leaves P fn t2 R ds u w
  | [], .returning, w, h => by
    obtain ⟨v, h1, h2⟩ := h
    exact ⟨v, by rw [← hr]; exact h1, h2⟩
  | [], .panicking _, _, h => h
  | [], .run, _, h => h
  | d :: ds, u, w, h => by
    obtain ⟨hu, fv, cap, f, args, h1, h2, h3⟩ := h
    refine ⟨hu, fv, cap, f, args, h1, h2, h3.mono fun e u' w' hh => ?_⟩
    cases e with
    | returned v => exact leaves_congr hr ds _ _ hh
    | panicked chain => exact leaves_congr hr ds _ _ hh
    | outgrown => exact hh
theorem panicD_put {fn : Func} {R : Ending → World → Prop} (d : Tmp) (v : Value) (hr : ∀ t : Array Value, results fn (t.setIfInBounds d v) = results fn t) (c : List PanicEntry) (a : Act) (w : World) (h : bodyPostD P fn R (.panic c) (a.put (some d) v) w) : bodyPostD P fn R (.panic c) a w :=
  leaves_congr (hr a.tmps) _ _ _ h
/-- Two results that lie in variables of their own. -/
theorem results_two {fn : Func} {p q : Tmp} {t u : TypeId} (hr : fn.results = #[.cell p t, .cell q u]) (d : Tmp) (v : Value) (h1 : p ≠ d) (h2 : q ≠ d) (s : Array Value) : results fn (s.setIfInBounds d v) = results fn s := by
  unfold results
  rw [hr]
  have e (k : Tmp) (hk : k ≠ d) : (s.setIfInBounds d v).getD k undef = s.getD k undef := by
    rw [Array.getD_eq_getD_getElem?, Array.getD_eq_getD_getElem?, Array.getElem?_setIfInBounds_ne (Ne.symm hk)]
  simp only [List.mapM_toArray, Array.mapM_eq_mapM_toList]
  simp only [List.mapM_cons, List.mapM_nil, e p h1, e q h2]
end Go.Proofs.YtlnmdfffmflhgaaO

namespace Go.Proofs.Ytlnmdfffmflhgaa.P
open Go.RowKit Go.Proofs.YtlnmdfffmflhgaaW.PrintWords Go.Proofs.YtlnmdfffmflhgaaW.PrintLast Go.Proofs.YtlnmdfffmflhgaaW.PrintMore
attribute [local go_sem] max2_int min2_int max_two min_two max_three min_three max_four min_four   -- for this text's walks alone
open Go.Proofs.YtlnmdfffmflhgaaO
attribute [local go_sem] min2_str max2_str
set_option linter.unusedVariables false
set_option linter.unusedSimpArgs false
/-- A state of type 94 at block g of W; what its slices lead to came in by w0. -/
def IsS94 (w0 W : World) (g : Nat) (f0 : ByteArray) : Prop := W.heap[g]? = some (.cells #[.string f0] 94 (0, 0)) ∧ w0.heap.size ≤ g
theorem IsS94.grown {w0 W : World} {g : Nat} {f0 : ByteArray} {W1 : World} {row : Option Nat} (h : IsS94 w0 W g f0) (hw : W.grownBy W1 row) (hne : some g ≠ row) : IsS94 w0 W1 g f0 := by
  obtain ⟨hb, hg⟩ := h
  exact ⟨blk_grown hb hw hne, hg⟩
theorem IsS94.below {w0 W : World} {g : Nat} {f0 : ByteArray} {W1 : World} (h : IsS94 w0 W g f0) (hw : Below W.heap.size W W1) : IsS94 w0 W1 g f0 := h.grown (grown_of_below hw none) (by simp)
theorem IsS94.apart {w0 W : World} {g : Nat} {f0 : ByteArray} {α : Type} {d : Kd α} {e : Nat} {base : Nat} {ok : Nat → Prop} {v : Value} {xs : List α} (h : IsS94 w0 W g f0) (ho : d.R e W base ok v xs) (ht : ∀ q, q ∈ e :: d.E → q ≠ 94) : d.R e W base (fun k => ok k ∧ k ≠ g) v xs := by
  obtain ⟨hb, hg⟩ := h
  exact Kd.R_types ho hb ht
theorem IsS94.ge {w0 W : World} {g : Nat} {f0 : ByteArray} (h : IsS94 w0 W g f0) : w0.heap.size ≤ g := by
  obtain ⟨hb, hg⟩ := h
  exact hg
theorem IsS94.ne_blk {w0 W : World} {g : Nat} {f0 : ByteArray} {a : Nat} {cs : Array Value} {t : TypeId} {fr : Nat × Nat} (h : IsS94 w0 W g f0) (hb2 : W.heap[a]? = some (.cells cs t fr)) (ht : t ≠ 94) : g ≠ a := by
  obtain ⟨hb, hg⟩ := h
  rintro rfl
  rw [hb] at hb2
  injection hb2 with hb2
  injection hb2 with _ ht2
  exact ht ht2.symm
theorem cellS94_0 {W : World} {g : Nat} {f0 : ByteArray} (h : W.heap[g]? = some (.cells #[.string f0] 94 (0, 0))) : W.cell? ⟨g, 0, none⟩ = some (.string f0) := (blk_cell h 0).trans rfl
theorem IsS94.set_0 {w0 W : World} {g : Nat} {f0 : ByteArray} (h : IsS94 w0 W g f0) (x : ByteArray) : IsS94 w0 (W.setCell ⟨g, 0, none⟩ (.string x)) g x := by
  obtain ⟨hb, hg⟩ := h
  exact ⟨by first | (simp; done) | (simp at blk_set; done) | simpa using blk_set hb 0 (.string x), hg⟩
/-! ### octet_New: function 42 -/
def octet_New.f (a0 : ByteArray) : Option (ByteArray) := some a0
set_option maxHeartbeats 8000000 in
set_option maxRecDepth 100000 in
theorem octet_New.calls (a0 : ByteArray) (r : ByteArray) (w0 w : World) (hB : Below w0.heap.size w0 w) (h : octet_New.f a0 = some r) :
    Calls Try.prog 42 #[.string a0] w fun e w' => ∃ g_ : Nat, e = .returned (.pointer (some ⟨g_, 0, none⟩)) ∧ IsS94 w0 w' g_ r ∧ Below w0.heap.size w0 w' ∧ Below w.heap.size w w' := by
  have hu94 := Try.underlying94
  have HBW := Aside0.mk (Below.refl w.heap.size w)
  have HW0 := Aside0.mk hB.size
  have HB := Aside0.mk hB
  clear hB
  have H : (some a0) = some r := h
  clear h
  obtain rfl := Option.some.inj H
  go_enter Try.func42, Try.ntmps42
  go_wp2_with (first | ((with_reducible refine gate_dst (N := 5) rfl ?_); refine box_event ?hg (N := 5) ?hd (cs := #[.string a0]) (t := 94) ?hr ?_; (case hd => rfl); (case hg => rfl); (case hr => first | (go_simp; done) | (go_simp; rfl)); intro gb133 hg w2 hbox hb; have n0_ := Aside0.mk (below_step HBW.out hb); have n1_ := Aside0.mk (below_step (by repeat (first | (with_reducible first | exact HB.out | apply below_alloc | apply pw_below_drewN | apply below_drew1) | exact HB.out)) hb); have n2_ := Aside0.mk (hbox); have n3_ := Aside0.mk ((by rw [hg]; exact (below_size (by repeat (first | (with_reducible first | exact HBW.out | apply below_alloc | apply pw_below_drewN | apply below_drew1) | exact HBW.out))) : w.heap.size ≤ gb133)); have n4_ := Aside0.mk ((Nat.le_trans HW0.out (by rw [hg]; exact (below_size (by repeat (first | (with_reducible first | exact HBW.out | apply below_alloc | apply pw_below_drewN | apply below_drew1) | exact HBW.out))) : w.heap.size ≤ gb133) : w0.heap.size ≤ gb133)); clear HBW; clear HB; have HBW := n0_; have HB := n1_; have BK133 := n2_; have GW133 := n3_; have GE133 := n4_; clear n0_ n1_ n2_ n3_ n4_; clear hb hbox hg))
  go_ret
  exact ⟨_, rfl, (show IsS94 w0 _ gb133 a0 from ⟨by (with_reducible repeat (first | refine blk_drewN ?_ _ | refine blk_drew ?_ | refine blk_alloc ?_ _)); exact BK133.out, GE133.out⟩), by repeat (first | (with_reducible first | exact HB.out | apply below_alloc | apply pw_below_drewN | apply below_drew1 | refine below_set ?_ GE133.out) | exact HB.out), by repeat (first | (with_reducible first | exact HBW.out | apply below_alloc | apply pw_below_drewN | apply below_drew1 | refine below_set ?_ GW133.out) | exact HBW.out)⟩
end Go.Proofs.Ytlnmdfffmflhgaa.P

namespace Go.Proofs.Ytlnmdfffmflhgaa.P
open Go.RowKit Go.Proofs.YtlnmdfffmflhgaaW.PrintWords Go.Proofs.YtlnmdfffmflhgaaW.PrintLast Go.Proofs.YtlnmdfffmflhgaaW.PrintMore
attribute [local go_sem] max2_int min2_int max_two min_two max_three min_three max_four min_four   -- for this text's walks alone
open Go.Proofs.YtlnmdfffmflhgaaO
attribute [local go_sem] min2_str max2_str
set_option linter.unusedVariables false
set_option linter.unusedSimpArgs false
/-! ### octet_Reader_take: function 64 -/
def octet_Reader_take.f (s0_0 : ByteArray) (a1 : Int) : Option (ByteArray × Int × ByteArray) := if a1 > (s0_0.size : Int) then (some ((⟨#[]⟩ : ByteArray), 7, s0_0)) else (if 0 ≤ a1 then (if a1 ≤ (s0_0.size : Int) then (some (s0_0.extract 0 (a1 : Int).toNat, 0, s0_0.extract (a1 : Int).toNat s0_0.size)) else (none)) else (none))
set_option maxHeartbeats 8000000 in
set_option maxRecDepth 100000 in
theorem octet_Reader_take.calls (g : Nat) (s0_0 : ByteArray) (a1 : Int) (r1 : ByteArray) (r2 : Int) (r3 : ByteArray) (w0 w : World) (hI : IsS94 w0 w g s0_0) (hB : Below w0.heap.size w0 w) (h : octet_Reader_take.f s0_0 a1 = some (r1, r2, r3)) :
    Calls Try.prog 64 #[.pointer (some ⟨g, 0, none⟩), .int .i64 a1] w fun e w' => e = .returned (.tuple #[.string r1, .int .i64 r2]) ∧ IsS94 w0 w' g r3 ∧ Below w0.heap.size w0 w' ∧ KeepBut w w' g none := by
  have HI0 := Aside0.mk hI
  have HK := Aside0.mk (KeepBut.refl w g none)
  have HL := Aside0.mk hB.size
  clear hI
  have HW0 := Aside0.mk hB.size
  have HB := Aside0.mk hB
  clear hB
  have H : (if a1 > (s0_0.size : Int) then (some ((⟨#[]⟩ : ByteArray), 7, s0_0)) else (if 0 ≤ a1 then (if a1 ≤ (s0_0.size : Int) then (some (s0_0.extract 0 (a1 : Int).toNat, 0, s0_0.extract (a1 : Int).toNat s0_0.size)) else (none)) else (none))) = some (r1, r2, r3) := h
  clear h
  by_cases c3 : a1 > (s0_0.size : Int)
  · rw [if_pos c3] at H
    have c3b0 : decide ((s0_0.size : Int) < a1) = true := decide_eq_true c3
    clear c3
    simp only [Option.some.injEq, Prod.mk.injEq] at H
    obtain ⟨rfl, rfl, rfl⟩ := H
    obtain ⟨HGz4, hgz4⟩ := HI0.out
    have hcz4_0 := cellS94_0 HGz4
    have hfz4_0 := blk_frozen HGz4 0
    clear HGz4 hgz4
    go_enter Try.func64, Try.ntmps64
    go_wp2
    go_ret2
    exact ⟨by first | rfl | (simp [errW_none, errW_some] <;> rfl) | (simp [*, errW_none, errW_some] <;> rfl), by repeat (first | (with_reducible first | exact HI0.out | apply IsS94.alloc | apply IsS94.drewN | apply IsS94.drew | apply IsS94.set_0) | exact HI0.out), by repeat (first | (with_reducible first | exact HB.out | apply below_alloc | apply pw_below_drewN | apply below_drew1 | refine below_set ?_ (IsS94.ge HI0.out)) | exact HB.out), by repeat (first | (with_reducible first | exact HK.out | apply KeepBut.set_ | apply keep_drewN | apply keep_drew | apply keep_alloc) | exact HK.out)⟩
  · rw [if_neg c3] at H
    have c3b0 : decide ((s0_0.size : Int) < a1) = false := decide_eq_false c3
    clear c3
    by_cases c5 : 0 ≤ a1
    · rw [if_pos c5] at H
      have c5b0 := eq_true c5
      have c5b1 : decide (0 ≤ a1) = true := decide_eq_true c5
      clear c5
      by_cases c6 : a1 ≤ (s0_0.size : Int)
      · rw [if_pos c6] at H
        have c6b0 := eq_true c6
        have c6b1 : decide (a1 ≤ (s0_0.size : Int)) = true := decide_eq_true c6
        clear c6
        have c7b0 := eq_true (of_decide_eq_true (by first | (with_reducible assumption) | assumption) : 0 ≤ a1)
        have c8b0 := eq_true (of_decide_eq_true (by first | (with_reducible assumption) | assumption) : a1 ≤ (s0_0.size : Int))
        simp only [Option.some.injEq, Prod.mk.injEq] at H
        obtain ⟨rfl, rfl, rfl⟩ := H
        obtain ⟨HGz9, hgz9⟩ := HI0.out
        have hcz9_0 := cellS94_0 HGz9
        have hfz9_0 := blk_frozen HGz9 0
        clear HGz9 hgz9
        go_enter Try.func64, Try.ntmps64
        go_wp2
        go_ret2
        exact ⟨by first | rfl | (simp [errW_none, errW_some] <;> rfl) | (simp [*, errW_none, errW_some] <;> rfl), by repeat (first | (with_reducible first | exact HI0.out | apply IsS94.alloc | apply IsS94.drewN | apply IsS94.drew | apply IsS94.set_0) | exact HI0.out), by repeat (first | (with_reducible first | exact HB.out | apply below_alloc | apply pw_below_drewN | apply below_drew1 | refine below_set ?_ (IsS94.ge HI0.out)) | exact HB.out), by repeat (first | (with_reducible first | exact HK.out | apply KeepBut.set_ | apply keep_drewN | apply keep_drew | apply keep_alloc) | exact HK.out)⟩
      · rw [if_neg c6] at H
        exact absurd H (by simp)
    · rw [if_neg c5] at H
      exact absurd H (by simp)
end Go.Proofs.Ytlnmdfffmflhgaa.P

namespace Go.Proofs.Ytlnmdfffmflhgaa.P
open Go.RowKit Go.Proofs.YtlnmdfffmflhgaaW.PrintWords Go.Proofs.YtlnmdfffmflhgaaW.PrintLast Go.Proofs.YtlnmdfffmflhgaaW.PrintMore
attribute [local go_sem] max2_int min2_int max_two min_two max_three min_three max_four min_four   -- for this text's walks alone
open Go.Proofs.YtlnmdfffmflhgaaO
attribute [local go_sem] min2_str max2_str
set_option linter.unusedVariables false
set_option linter.unusedSimpArgs false
/-! ### octet_Reader_Number: function 43 -/
def octet_Reader_Number.l0 : Nat → Int → Int → ByteArray → Int → Int → ByteArray → Option (Int × Int × ByteArray)
  | 0, _, _, _, _, _, _ => none
  | k + 1, x4, x5, x6, x25, x26, x1000 => if x26 < x25 then (if 0 ≤ x26 then (if x26 < (x6.size : Int) then (if 0 ≤ (wrap64 (8 * x26)) then (octet_Reader_Number.l0 k (Go.bits .or .u64 x4 (shl .u64 (IntKind.u64.wrap (bt x6 x26)) (wrap64 (8 * x26)))) x5 x6 x25 (wrap64 (x26 + 1)) x1000) else (none)) else (none)) else (none)) else (some (x4, x5, x1000))
def octet_Reader_Number.f (k : Nat) (s0_0 : ByteArray) (a1 : Int) : Option (Int × Int × ByteArray) := if a1 < 1 then (some (0, 2, s0_0)) else (if a1 > 8 then (some (0, 2, s0_0)) else ((octet_Reader_take.f s0_0 a1).bind fun bt134 => (octet_Reader_Number.l0 k 0 bt134.2.1 bt134.1 (bt134.1.size : Int) 0 bt134.2.2)))
set_option maxHeartbeats 8000000 in
set_option maxRecDepth 100000 in
theorem octet_Reader_Number.calls (k : Nat) (g : Nat) (s0_0 : ByteArray) (a1 : Int) (r1 : Int) (r2 : Int) (r3 : ByteArray) (w0 w : World) (hI : IsS94 w0 w g s0_0) (hB : Below w0.heap.size w0 w) (h : octet_Reader_Number.f k s0_0 a1 = some (r1, r2, r3)) :
    Calls Try.prog 43 #[.pointer (some ⟨g, 0, none⟩), .int .i64 a1] w fun e w' => e = .returned (.tuple #[.int .u64 r1, .int .i64 r2]) ∧ IsS94 w0 w' g r3 ∧ Below w0.heap.size w0 w' ∧ KeepBut w w' g none := by
  have HI0 := Aside0.mk hI
  have HK := Aside0.mk (KeepBut.refl w g none)
  have HL := Aside0.mk hB.size
  clear hI
  have HW0 := Aside0.mk hB.size
  have HB := Aside0.mk hB
  clear hB
  have H : (if a1 < 1 then (some (0, 2, s0_0)) else (if a1 > 8 then (some (0, 2, s0_0)) else ((octet_Reader_take.f s0_0 a1).bind fun bt134 => (octet_Reader_Number.l0 k 0 bt134.2.1 bt134.1 (bt134.1.size : Int) 0 bt134.2.2)))) = some (r1, r2, r3) := h
  clear h
  by_cases c3 : a1 < 1
  · rw [if_pos c3] at H
    have c3b0 : decide (a1 < 1) = true := decide_eq_true c3
    clear c3
    simp only [Option.some.injEq, Prod.mk.injEq] at H
    obtain ⟨rfl, rfl, rfl⟩ := H
    go_enter Try.func43, Try.ntmps43
    go_wp2
    go_ret2
    exact ⟨by first | rfl | (simp [errW_none, errW_some] <;> rfl) | (simp [*, errW_none, errW_some] <;> rfl), by repeat (first | (with_reducible first | exact HI0.out | apply IsS94.alloc | apply IsS94.drewN | apply IsS94.drew | apply IsS94.set_0) | exact HI0.out), by repeat (first | (with_reducible first | exact HB.out | apply below_alloc | apply pw_below_drewN | apply below_drew1 | refine below_set ?_ (IsS94.ge HI0.out)) | exact HB.out), by repeat (first | (with_reducible first | exact HK.out | apply KeepBut.set_ | apply keep_drewN | apply keep_drew | apply keep_alloc) | exact HK.out)⟩
  · rw [if_neg c3] at H
    have c3b0 : decide (a1 < 1) = false := decide_eq_false c3
    clear c3
    by_cases c4 : a1 > 8
    · rw [if_pos c4] at H
      have c4b0 : decide (8 < a1) = true := decide_eq_true c4
      clear c4
      simp only [Option.some.injEq, Prod.mk.injEq] at H
      obtain ⟨rfl, rfl, rfl⟩ := H
      go_enter Try.func43, Try.ntmps43
      go_wp2
      go_ret2
      exact ⟨by first | rfl | (simp [errW_none, errW_some] <;> rfl) | (simp [*, errW_none, errW_some] <;> rfl), by repeat (first | (with_reducible first | exact HI0.out | apply IsS94.alloc | apply IsS94.drewN | apply IsS94.drew | apply IsS94.set_0) | exact HI0.out), by repeat (first | (with_reducible first | exact HB.out | apply below_alloc | apply pw_below_drewN | apply below_drew1 | refine below_set ?_ (IsS94.ge HI0.out)) | exact HB.out), by repeat (first | (with_reducible first | exact HK.out | apply KeepBut.set_ | apply keep_drewN | apply keep_drew | apply keep_alloc) | exact HK.out)⟩
    · rw [if_neg c4] at H
      have c4b0 : decide (8 < a1) = false := decide_eq_false c4
      clear c4
      replace H := Option.bind_eq_some_iff.mp H
      obtain ⟨⟨t134, t135, t136⟩, A50, H⟩ := H
      replace H : (octet_Reader_Number.l0 k 0 t135 t134 (t134.size : Int) 0 t136) = some (r1, r2, r3) := H
      have A5 := Aside0.mk A50
      clear A50
      have H' := Aside0.mk H
      clear H
      go_enter Try.func43, Try.ntmps43
      go_wp2_with (first | ((with_reducible refine gate_callee (f := 64) rfl ?_); refine goesL_ (some 21) rfl rfl Try.func64 (by kernel_rfl) rfl #[.pointer (some ⟨g, 0, none⟩), .int .i64 a1] rfl (by (try simp only [List.map_toArray, List.map_cons, List.map_nil]); first | done | rfl | (simp only [List.length_drop, List.length_take]; rfl)) ?_; (with_reducible refine (octet_Reader_take.calls g s0_0 a1 t134 t135 t136 w0 _ ?side1 ?side2 A5.out).mono ?_); (case side1 => repeat (first | (with_reducible first | exact HI0.out | apply IsS94.alloc | apply IsS94.drewN | apply IsS94.drew | apply IsS94.set_0) | exact HI0.out)); (case side2 => repeat (first | (with_reducible first | exact HB.out | apply below_alloc | apply pw_below_drewN | apply below_drew1 | refine below_set ?_ (IsS94.ge HI0.out)) | exact HB.out)); rintro e w6 ⟨rfl, hi, hb, hk⟩; refine ⟨_, rfl, ?_⟩; have n0_ := Aside0.mk (KeepBut.trans (by repeat (first | (with_reducible first | exact HK.out | apply KeepBut.set_ | apply keep_drewN | apply keep_drew | apply keep_alloc) | exact HK.out)) hk (.inl rfl)); have n1_ := Aside0.mk (hb); have n2_ := Aside0.mk (hi); clear HK; clear HB; clear HI0; have HK := n0_; have HB := n1_; have HI0 := n2_; clear n0_ n1_ n2_; (try clear hb); (try clear hb2); (try clear hk); (try clear hi)))
      go_loopg [4, 26] k (fun kq v4 v26 w' => ∃ (x4_1 : Int) (x26_1 : Int), v4 = .int .u64 x4_1 ∧ v26 = .int .i64 x26_1 ∧ Aside0 (octet_Reader_Number.l0 kq x4_1 t135 t134 (t134.size : Int) x26_1 t136 = some (r1, r2, r3)) ∧ Aside0 (kq ≤ k) ∧ Aside0 (IsS94 w0 w' g t136) ∧ Aside0 (KeepBut w w' g none) ∧ Aside0 (Below w0.heap.size w0 w'))
      case atStart => exact ⟨(0), (0), (by first | rfl | (simp; done) | (simp [*]; done)), (by first | rfl | (simp; done) | (simp [*]; done)), H', ⟨Nat.le_refl _⟩, ⟨by repeat (first | (with_reducible first | exact HI0.out | apply IsS94.alloc | apply IsS94.drewN | apply IsS94.drew | apply IsS94.set_0) | exact HI0.out)⟩, ⟨by repeat (first | (with_reducible first | exact HK.out | apply KeepBut.set_ | apply keep_drewN | apply keep_drew | apply keep_alloc) | exact HK.out)⟩, ⟨by repeat (first | (with_reducible first | exact HB.out | apply below_alloc | apply pw_below_drewN | apply below_drew1 | refine below_set ?_ (IsS94.ge HI0.out)) | exact HB.out)⟩⟩
      case round =>
        clear H'
        try clear p2
        try clear c3
        try clear c3b0
        try clear c4
        try clear c4b0
        try clear c6
        obtain ⟨x4_1, x26_1, rfl, rfl, HA, HK1, HI0, HK, HB⟩ := hrel
        cases gk with
        | zero => exact absurd HA.out (by simp [octet_Reader_Number.l0])
        | succ k1 =>
          have H := HA.out
          clear HA
          simp only [octet_Reader_Number.l0] at H
          by_cases c7 : x26_1 < (t134.size : Int)
          · rw [if_pos c7] at H
            have c7b0 : decide (x26_1 < (t134.size : Int)) = true := decide_eq_true c7
            clear c7
            by_cases c8 : 0 ≤ x26_1
            · rw [if_pos c8] at H
              have c8b0 : decide (0 ≤ x26_1) = true := decide_eq_true c8
              clear c8
              by_cases c9 : x26_1 < (t134.size : Int)
              · rw [if_pos c9] at H
                have c9b0 : decide (x26_1 < (t134.size : Int)) = true := decide_eq_true c9
                clear c9
                obtain ⟨ji11, hji11⟩ : ∃ j_ : Int, (wrap64 (8 * x26_1)) = j_ := ⟨_, rfl⟩
                replace H : (if 0 ≤ (ji11) then (octet_Reader_Number.l0 k1 (Go.bits .or .u64 x4_1 (shl .u64 (IntKind.u64.wrap (bt t134 x26_1)) (ji11))) t135 t134 (t134.size : Int) (wrap64 (x26_1 + 1)) t136) else (none)) = some (r1, r2, r3) := by first | (rw [hji11] at H; exact H) | (simp only [hji11] at H ⊢; exact H)
                have hji11w : (IntKind.i64.wrap (8 * x26_1)) = ji11 := (i64_w _).trans hji11
                by_cases c12 : 0 ≤ (ji11)
                · rw [if_pos c12] at H
                  have c12b0 := eq_true c12
                  have c12b1 : decide (0 ≤ (ji11)) = true := decide_eq_true c12
                  clear c12
                  obtain ⟨ji13, hji13⟩ : ∃ j_ : Int, (shl .u64 (IntKind.u64.wrap (bt t134 x26_1)) (ji11)) = j_ := ⟨_, rfl⟩
                  replace H : (octet_Reader_Number.l0 k1 (Go.bits .or .u64 x4_1 (ji13)) t135 t134 (t134.size : Int) (wrap64 (x26_1 + 1)) t136) = some (r1, r2, r3) := by first | (rw [hji13] at H; exact H) | (simp only [hji13] at H ⊢; exact H)
                  have hji13_ : (IntKind.u64.wrap ((IntKind.u64.wrap (bt t134 x26_1)) * 2 ^ min (ji11).toNat 64)) = ji13 := hji13
                  have hji13z : (ji11) ≤ 64 → (IntKind.u64.wrap ((IntKind.u64.wrap (bt t134 x26_1)) * 2 ^ (ji11).toNat)) = ji13 := shl_small hji13
                  have H' := Aside0.mk H
                  clear H
                  have p10 : 0 ≤ (x26_1 : Int) := of_decide_eq_true (by first | (with_reducible assumption) | assumption)
                  have q10 : x26_1 < (t134.size : Int) := of_decide_eq_true (by first | (with_reducible assumption) | assumption)
                  have hx10 := bt_at t134 x26_1
                  replace p10 := eq_true p10
                  replace q10 := eq_true q10
                  go_wp2
                  go_roundg k1
                  case measure => have := HK1.out; omega
                  case rel => exact ⟨(Go.bits .or .u64 x4_1 (ji13)), (wrap64 (x26_1 + 1)), (by first | rfl | (simp; done) | (simp only [← hji13] <;> (first | rfl | simp)) | (simp [*]; done)), (by first | rfl | (simp; done) | (simp [*]; done)), H', ⟨by have := HK1.out; omega⟩, ⟨by repeat (first | (with_reducible first | exact HI0.out | apply IsS94.alloc | apply IsS94.drewN | apply IsS94.drew | apply IsS94.set_0) | exact HI0.out)⟩, ⟨by repeat (first | (with_reducible first | exact HK.out | apply KeepBut.set_ | apply keep_drewN | apply keep_drew | apply keep_alloc) | exact HK.out)⟩, ⟨by repeat (first | (with_reducible first | exact HB.out | apply below_alloc | apply pw_below_drewN | apply below_drew1 | refine below_set ?_ (IsS94.ge HI0.out)) | exact HB.out)⟩⟩
                · rw [if_neg c12] at H
                  exact absurd H (by simp)
              · rw [if_neg c9] at H
                exact absurd H (by simp)
            · rw [if_neg c8] at H
              exact absurd H (by simp)
          · rw [if_neg c7] at H
            have c7b0 : decide (x26_1 < (t134.size : Int)) = false := decide_eq_false c7
            clear c7
            simp only [Option.some.injEq, Prod.mk.injEq] at H
            obtain ⟨rfl, rfl, rfl⟩ := H
            go_wp2
            go_ret2
            exact ⟨by first | rfl | (simp [errW_none, errW_some] <;> rfl) | (simp [*, errW_none, errW_some] <;> rfl), by repeat (first | (with_reducible first | exact HI0.out | apply IsS94.alloc | apply IsS94.drewN | apply IsS94.drew | apply IsS94.set_0) | exact HI0.out), by repeat (first | (with_reducible first | exact HB.out | apply below_alloc | apply pw_below_drewN | apply below_drew1 | refine below_set ?_ (IsS94.ge HI0.out)) | exact HB.out), by repeat (first | (with_reducible first | exact HK.out | apply KeepBut.set_ | apply keep_drewN | apply keep_drew | apply keep_alloc) | exact HK.out)⟩
end Go.Proofs.Ytlnmdfffmflhgaa.P

namespace Go.Proofs.Ytlnmdfffmflhgaa.P
open Go.RowKit Go.Proofs.YtlnmdfffmflhgaaW.PrintWords Go.Proofs.YtlnmdfffmflhgaaW.PrintLast Go.Proofs.YtlnmdfffmflhgaaW.PrintMore
attribute [local go_sem] max2_int min2_int max_two min_two max_three min_three max_four min_four   -- for this text's walks alone
open Go.Proofs.YtlnmdfffmflhgaaO
attribute [local go_sem] min2_str max2_str
set_option linter.unusedVariables false
set_option linter.unusedSimpArgs false
/-! ### octet_Reader_Rest: function 50 -/
def octet_Reader_Rest.f (s0_0 : ByteArray) : Option (ByteArray) := some s0_0
set_option maxHeartbeats 8000000 in
set_option maxRecDepth 100000 in
theorem octet_Reader_Rest.calls (g : Nat) (s0_0 : ByteArray) (r : ByteArray) (w0 w : World) (hI : IsS94 w0 w g s0_0) (hB : Below w0.heap.size w0 w) (h : octet_Reader_Rest.f s0_0 = some r) :
    Calls Try.prog 50 #[.pointer (some ⟨g, 0, none⟩)] w fun e w' => e = .returned (.string r) ∧ IsS94 w0 w' g s0_0 ∧ Below w0.heap.size w0 w' ∧ KeepBut w w' g none := by
  have HI0 := Aside0.mk hI
  have HK := Aside0.mk (KeepBut.refl w g none)
  have HL := Aside0.mk hB.size
  clear hI
  have HW0 := Aside0.mk hB.size
  have HB := Aside0.mk hB
  clear hB
  have H : (some s0_0) = some r := h
  clear h
  obtain rfl := Option.some.inj H
  obtain ⟨HGz2, hgz2⟩ := HI0.out
  have hcz2_0 := cellS94_0 HGz2
  have hfz2_0 := blk_frozen HGz2 0
  clear HGz2 hgz2
  go_enter Try.func50, Try.ntmps50
  go_wp2
  go_ret
  exact ⟨by first | rfl | (simp [errW_none, errW_some] <;> rfl) | (simp [*, errW_none, errW_some] <;> rfl), by repeat (first | (with_reducible first | exact HI0.out | apply IsS94.alloc | apply IsS94.drewN | apply IsS94.drew | apply IsS94.set_0) | exact HI0.out), by repeat (first | (with_reducible first | exact HB.out | apply below_alloc | apply pw_below_drewN | apply below_drew1 | refine below_set ?_ (IsS94.ge HI0.out)) | exact HB.out), by repeat (first | (with_reducible first | exact HK.out | apply KeepBut.set_ | apply keep_drewN | apply keep_drew | apply keep_alloc) | exact HK.out)⟩
end Go.Proofs.Ytlnmdfffmflhgaa.P
