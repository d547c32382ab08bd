/- Words of my own: the check as Go's own numbers tell it: the table, one step, one byte, a string. -/
import Derived.Test.YteackhccflojpaaOArr
import Derived.Test.YteackhccflojpaaOCrc
import Derived.Test.YteackhccflojpaaOBytes
set_option linter.unusedVariables false
set_option linter.unusedSimpArgs false
namespace Go.Proofs.YteackhccflojpaaO
open Go.RowKit Go.Proofs.YteackhccflojpaaW.PrintWords
/-- The table's first n entries. -/
def tabL (n : Nat) : List Value := (List.range 256).map (fun j => .int .u32 (if j < n then (Tn 8 j : Int) else 0))
def tabV (n : Nat) : Array Value := (tabL n).toArray
theorem tabV_size (n : Nat) : (tabV n).size = 256 := by simp [tabV, tabL]
theorem tabV_zero : tabV 0 = (Array.replicate 256 (.int .u32 0)) := by kernel_rfl
theorem tabV_set (n : Nat) (h : n < 256) : (tabV n).setIfInBounds n (.int .u32 (Tn 8 n)) = tabV (n + 1) := by
  apply Array.ext'
  simp only [tabV, tabL, Array.toList_setIfInBounds]
  apply List.ext_getElem?
  intro j
  rw [List.getElem?_set]
  by_cases hj : j < 256
  · by_cases e : n = j
    · subst e
      simp [h]
    · have : (j < n) ↔ (j < n + 1) := by omega
      simp [e, hj, this]
  · simp [List.getElem?_eq_none, hj, show ¬ n = j by omega]
theorem tabV_one (n : Nat) : ∀ v ∈ tabV n, v.oneCell' = true := by
  intro v hv
  simp only [tabV, tabL, List.mem_toArray, List.mem_map] at hv
  obtain ⟨j, _, rfl⟩ := hv
  rfl
/-- One step, as Go's numbers tell it. -/
theorem step_go (c : Nat) (h : c < 4294967296) : bits .xor .u32 ((c : Int) / 2) (bits .and .u32 2197175160 (-bits .and .u32 (c : Int) 1 % 4294967296)) = ((T c : Nat) : Int) := by
  have h1 : bits .and .u32 (c : Int) 1 = ((c % 2 : Nat) : Int) := by rw [show (1 : Int) = ((1 : Nat) : Int) from rfl, u32_and_nat c 1 h (by decide), nat_mask1]
  rw [h1]
  have hd : (c : Int) / 2 = ((c / 2 : Nat) : Int) := by omega
  rw [hd]
  unfold T
  have hc := Nat.mod_two_eq_zero_or_one c
  rcases hc with hc | hc
  · rw [hc, if_neg (by decide)]
    rw [show bits .and .u32 2197175160 (-((0 : Nat) : Int) % 4294967296) = ((0 : Nat) : Int) from by decide, u32_xor_nat _ _ (by omega) (by decide), Nat.xor_zero]
  · rw [hc, if_pos rfl]
    rw [show bits .and .u32 2197175160 (-((1 : Nat) : Int) % 4294967296) = ((2197175160 : Nat) : Int) from by decide, u32_xor_nat _ _ (by omega) (by decide)]
/-- The document's own step (it tests the bit). -/
theorem bit_go (c : Nat) (h : c < 4294967296) : bits .and .u32 (c : Int) 1 = ((c % 2 : Nat) : Int) := by rw [show (1 : Int) = ((1 : Nat) : Int) from rfl, u32_and_nat c 1 h (by decide), nat_mask1]
theorem xor_go (c : Nat) (h : c < 4294967296) : bits .xor .u32 ((c : Int) / 2) 2197175160 = ((c / 2 ^^^ 2197175160 : Nat) : Int) := by
  have hd : (c : Int) / 2 = ((c / 2 : Nat) : Int) := by omega
  rw [hd, show (2197175160 : Int) = ((2197175160 : Nat) : Int) from rfl, u32_xor_nat _ _ (by omega) (by decide)]
/-- The bytes of a string, as numbers. -/
def nb (s : ByteArray) : List Nat := s.toList.map (·.toNat)
theorem nb_lt (s : ByteArray) : ∀ b ∈ nb s, b < 256 := by
  intro b hb
  simp only [nb, List.mem_map] at hb
  obtain ⟨u, _, rfl⟩ := hb
  exact u.toNat_lt
theorem nb_length (s : ByteArray) : (nb s).length = s.size := by simp [nb, Lib.toList_data]
theorem nb_B (s : ByteArray) : nb s = (bytesOf s).map Int.toNat := by
  simp only [nb, bytesOf, Lib.toList_data, List.map_map]
  rfl
theorem bt_nb (s : ByteArray) (i : Nat) (h : i < s.size) : bt s (i : Int) = (((nb s)[i]'(by rw [nb_length]; exact h) : Nat) : Int) := by
  simp [bt, h, nb, Lib.toList_data, ByteArray.getElem_eq_getElem_data]
/-- The register behind the first m bytes. -/
def reg (c : Nat) (s : ByteArray) (m : Nat) : Nat := ((nb s).take m).foldl cb (4294967295 ^^^ c)
theorem reg_lt {c : Nat} (h : c < 4294967296) (s : ByteArray) (m : Nat) : reg c s m < 4294967296 :=
  fold_lt _ _ (Nat.xor_lt_two_pow (n := 32) (by decide) h) (fun b hb => nb_lt s b (List.mem_of_mem_take hb))
theorem reg_zero (c : Nat) (s : ByteArray) : reg c s 0 = 4294967295 ^^^ c := by simp [reg]
theorem reg_all (c : Nat) (s : ByteArray) : 4294967295 ^^^ reg c s s.size = crcN c (nb s) := by
  rw [reg, List.take_of_length_le (by rw [nb_length]; exact Nat.le_refl _)]
  rfl
theorem reg_succ (c : Nat) (s : ByteArray) (m : Nat) (h : m < s.size) : reg c s (m + 1) = cb (reg c s m) ((nb s)[m]'(by rw [nb_length]; exact h)) := by
  simp only [reg]
  rw [List.take_succ_eq_append_getElem (by rw [nb_length]; exact h), List.foldl_append]
  rfl
theorem not_go (c : Nat) (h : c < 4294967296) : bits .xor .u32 (c : Int) 4294967295 = ((4294967295 ^^^ c : Nat) : Int) := by
  rw [show (4294967295 : Int) = ((4294967295 : Nat) : Int) from rfl, u32_xor_nat _ _ h (by decide), Nat.xor_comm]
theorem not_go' (c : Nat) (h : c < 4294967296) : bits .xor .u32 4294967295 (c : Int) = ((4294967295 ^^^ c : Nat) : Int) := by
  rw [show (4294967295 : Int) = ((4294967295 : Nat) : Int) from rfl, u32_xor_nat _ _ (by decide) h]
/-- The cell's number, and what one byte makes of the register. -/
theorem ix_go (c b : Nat) (hb : b < 256) : bits .xor .u8 ((c : Int) % 256) (b : Int) = ((c % 256 ^^^ b : Nat) : Int) := by
  rw [show (c : Int) % 256 = ((c % 256 : Nat) : Int) from by omega, u8_xor_nat _ _ (Nat.mod_lt _ (by decide)) hb]
theorem ix_lt (c b : Nat) (hb : b < 256) : c % 256 ^^^ b < 256 := Nat.xor_lt_two_pow (n := 8) (Nat.mod_lt _ (by decide)) hb
theorem tab_at (j : Nat) (h : j < 256) : (tabV 256)[j]? = some (.int .u32 ((Tn 8 j : Nat) : Int)) := by simp [tabV, tabL, h]
theorem tn_lt (j : Nat) (h : j < 256) : Tn 8 j < 4294967296 := Tn_lt 8 (by omega)
theorem byte_go (c b : Nat) (hc : c < 4294967296) (hb : b < 256) : bits .xor .u32 ((Tn 8 (c % 256 ^^^ b) : Nat) : Int) ((c : Int) / 256) = ((cb c b : Nat) : Int) := by
  rw [show (c : Int) / 256 = ((c / 256 : Nat) : Int) from by omega, u32_xor_nat _ _ (tn_lt _ (ix_lt c b hb)) (by omega), cb_table c b hb]
theorem byte_go' (c b : Nat) (hc : c < 4294967296) (hb : b < 256) : bits .xor .u32 ((c : Int) / 256) ((Tn 8 (c % 256 ^^^ b) : Nat) : Int) = ((cb c b : Nat) : Int) := by
  rw [show (c : Int) / 256 = ((c / 256 : Nat) : Int) from by omega, u32_xor_nat _ _ (by omega) (tn_lt _ (ix_lt c b hb)), Nat.xor_comm, cb_table c b hb]
theorem tn_lt' {n : Nat} (m : Nat) (h : n < 4294967296) : Tn m n < 4294967296 := Tn_lt m h
theorem tn_next (m n : Nat) : T (Tn m n) = Tn (m + 1) n := by rw [Tn_add m 1]; rfl
theorem w64_next {m n : Nat} (h : m < n) (hs : n < 4611686018427387904) : wrap64 ((m : Int) + 1) = ((m + 1 : Nat) : Int) := by unfold wrap64; omega
/-- The check of a string, as Go's number. -/
def crcI (c : Int) (s : ByteArray) : Int := ((crcN c.toNat (nb s) : Nat) : Int)
end Go.Proofs.YteackhccflojpaaO
