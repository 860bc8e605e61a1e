/- The order of a shuffle, column by column; plain numbers, no program. -/
import Derived.Test.YtlbfndibgojbiaaRows
import Derived.Test.YtlbfndibgojbiaaShufM
namespace Go.Proofs.Ytlbfndibgojbiaa

section
variable {n c : Nat}
/-- a place of a column lies in the row just where its number is below the column's height -/
theorem col_in (hc : 0 < c) {i j : Nat} (hj : j < c) : j + i * c < n ↔ i < colH n c j := by
  have h2 := Nat.div_add_mod n c
  have h4 := Nat.mod_lt n hc
  have e1 : (j + i * c) % c = j := by rw [Nat.add_mul_mod_self_right]; exact Nat.mod_eq_of_lt hj
  have e2 : (j + i * c) / c = i := by rw [Nat.add_mul_div_right _ _ hc, Nat.div_eq_of_lt hj, Nat.zero_add]
  constructor
  · intro h
    have := row_lt (n := n) hc h
    rwa [e1, e2] at this
  · intro h
    unfold colH at h
    have h5 : n / c * c = c * (n / c) := Nat.mul_comm _ _
    split at h
    · have h6 : i * c ≤ n / c * c := Nat.mul_le_mul_right c (by omega)
      omega
    · have h6 : (i + 1) * c ≤ n / c * c := Nat.mul_le_mul_right c (by omega)
      rw [Nat.add_mul] at h6
      omega
theorem pos_at (hc : 0 < c) {i j : Nat} (hj : j < c) : pos n c (j + i * c) = colA n c j + i := by
  have e1 : (j + i * c) % c = j := by rw [Nat.add_mul_mod_self_right]; exact Nat.mod_eq_of_lt hj
  have e2 : (j + i * c) / c = i := by rw [Nat.add_mul_div_right _ _ hc, Nat.div_eq_of_lt hj, Nat.zero_add]
  rw [pos_eq, e1, e2]
theorem colA_zero : colA n c 0 = 0 := by unfold colA; simp
/-- the order's first k places -/
def ordL (n c k : Nat) : List Nat := (List.range k).map (ord n c)
theorem ordL_length (n c k : Nat) : (ordL n c k).length = k := by simp [ordL]
theorem ordL_succ (n c k : Nat) : ordL n c (k + 1) = ordL n c k ++ [ord n c k] := by simp [ordL, List.range_succ]
theorem ordL_at {k i : Nat} (h : i < k) : (ordL n c k).getD i 0 = ord n c i := by simp [ordL, List.getD, h]
/-- a place that lies in the row is the next one -/
theorem ord_next (hc : 0 < c) (hcn : c ≤ n) {i j : Nat} (hj : j < c) (h : j + i * c < n) : ord n c (colA n c j + i) = j + i * c ∧ colA n c j + i < n := by
  have h1 := pos_at (n := n) hc (i := i) hj
  rw [← h1]
  exact ⟨ord_pos hc hcn h, pos_lt hc h⟩
end
end Go.Proofs.Ytlbfndibgojbiaa
