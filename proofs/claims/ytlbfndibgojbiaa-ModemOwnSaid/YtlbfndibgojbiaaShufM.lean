/- The places of a shuffle: written by rows, read by columns; plain numbers, no program. -/
import Derived.Test.YtlbfndibgojbiaaRows
namespace Go.Proofs.Ytlbfndibgojbiaa

/-- column and place of the k-th one -/
def ordS (n c : Nat) : Nat → Nat × Nat
  | 0 => (0, 0)
  | k + 1 => if (ordS n c k).2 + c < n then ((ordS n c k).1, (ordS n c k).2 + c) else ((ordS n c k).1 + 1, (ordS n c k).1 + 1)
def ord (n c k : Nat) : Nat := (ordS n c k).2
/-- where a place comes -/
def pos (n c p : Nat) : Nat := p % c * (n / c) + min (p % c) (n % c) + p / c
section
variable {n c : Nat}
/-- how many places are ahead of a column -/
def colA (n c j : Nat) : Nat := j * (n / c) + min j (n % c)
/-- how many places a column has -/
def colH (n c j : Nat) : Nat := n / c + if j < n % c then 1 else 0
theorem colA_full (hc : 0 < c) : colA n c c = n := by
  unfold colA
  have h1 := Nat.div_add_mod n c
  have h2 := Nat.mod_lt n hc
  rw [Nat.min_eq_right (by omega)]
  exact h1
theorem colA_succ (j : Nat) : colA n c (j + 1) = colA n c j + colH n c j := by
  unfold colA colH
  rw [Nat.succ_mul]
  split <;> omega
theorem colA_mono {i j : Nat} (h : i ≤ j) : colA n c i ≤ colA n c j := by
  unfold colA
  have := Nat.mul_le_mul_right (n / c) h
  omega
/-- a place's row is below its column's height -/
theorem row_lt (hc : 0 < c) {p : Nat} (hp : p < n) : p / c < colH n c (p % c) := by
  unfold colH
  have h1 := Nat.div_add_mod p c
  have h2 := Nat.div_add_mod n c
  have h3 := Nat.mod_lt p hc
  have h4 := Nat.mod_lt n hc
  have h5 : p / c ≤ n / c := Nat.div_le_div_right (by omega)
  split
  · omega
  · rcases Nat.lt_or_ge (p / c) (n / c) with h | h
    · omega
    · have h6 : p / c = n / c := by omega
      rw [h6] at h1
      omega
/-- a column's last place -/
theorem row_last (hc : 0 < c) {p : Nat} (hp : p < n) (hl : n ≤ p + c) : p / c + 1 = colH n c (p % c) := by
  have h0 := row_lt hc hp
  have h1 := Nat.div_add_mod p c
  have h2 := Nat.div_add_mod n c
  have h3 := Nat.mod_lt p hc
  have h4 := Nat.mod_lt n hc
  have h5 : (p + c) / c = p / c + 1 := Nat.add_div_right p hc
  have h6 : n / c ≤ p / c + 1 := by rw [← h5]; exact Nat.div_le_div_right hl
  unfold colH at *
  split
  · rename_i h7
    rw [if_pos h7] at h0
    rcases Nat.lt_or_ge (p / c) (n / c) with h | h
    · exfalso
      have h8 : p / c + 1 = n / c := by omega
      rw [← h8, Nat.mul_add] at h2
      omega
    · omega
  · rename_i h7
    rw [if_neg h7] at h0
    omega
theorem pos_eq (p : Nat) : pos n c p = colA n c (p % c) + p / c := rfl
theorem pos_lt (hc : 0 < c) {p : Nat} (hp : p < n) : pos n c p < n := by
  have h1 := row_lt hc hp
  have h2 : colA n c (p % c + 1) ≤ colA n c c := colA_mono (Nat.mod_lt p hc)
  rw [colA_full hc, colA_succ] at h2
  rw [pos_eq]
  omega
theorem pos_inj (hc : 0 < c) {p q : Nat} (hp : p < n) (hq : q < n) (h : pos n c p = pos n c q) : p = q := by
  have h1 := row_lt hc hp
  have h2 := row_lt hc hq
  rw [pos_eq, pos_eq] at h
  have key : ∀ i j : Nat, i < j → colA n c i + colH n c i ≤ colA n c j := fun i j hij => by
    rw [← colA_succ]; exact colA_mono hij
  have e1 := Nat.div_add_mod p c
  have e2 := Nat.div_add_mod q c
  generalize p / c = a at *
  generalize q / c = b at *
  rcases Nat.lt_trichotomy (p % c) (q % c) with h3 | h3 | h3
  · have := key _ _ h3
    omega
  · rw [h3] at h
    have h4 : a = b := by omega
    rw [h3, h4] at e1
    omega
  · have := key _ _ h3
    omega
/-- the k-th one: its column, its place, and where it comes -/
theorem ordS_inv (hc : 0 < c) (hcn : c ≤ n) (k : Nat) (hk : k < n) : (ordS n c k).2 < n ∧ (ordS n c k).2 % c = (ordS n c k).1 ∧ (ordS n c k).1 < c ∧ pos n c (ordS n c k).2 = k := by
  induction k with
  | zero => simp [ordS, pos, hk, hc]
  | succ k ih =>
    obtain ⟨h1, h2, h3, h4⟩ := ih (by omega)
    simp only [ordS]
    generalize (ordS n c k).2 = p at *
    generalize (ordS n c k).1 = j at *
    split
    · rename_i h5
      have e1 : (p + c) % c = p % c := Nat.add_mod_right p c
      have e2 : (p + c) / c = p / c + 1 := Nat.add_div_right p hc
      refine ⟨h5, e1.trans h2, h3, ?_⟩
      rw [pos_eq, e1, e2]
      rw [pos_eq] at h4
      omega
    · rename_i h5
      have h6 := row_last hc h1 (by omega)
      rw [pos_eq, h2] at h4
      rw [h2] at h6
      have h7 : colA n c (j + 1) = k + 1 := by rw [colA_succ]; omega
      have h8 : j + 1 < c := by
        rcases Nat.lt_or_ge (j + 1) c with h | h
        · exact h
        · exfalso
          have : j + 1 = c := by omega
          rw [this, colA_full hc] at h7
          omega
      have e1 : (j + 1) % c = j + 1 := Nat.mod_eq_of_lt h8
      have e2 : (j + 1) / c = 0 := Nat.div_eq_of_lt h8
      refine ⟨by simp only; omega, e1, h8, ?_⟩
      rw [pos_eq, e1, e2]
      omega
theorem ord_lt (hc : 0 < c) (hcn : c ≤ n) {k : Nat} (hk : k < n) : ord n c k < n := (ordS_inv hc hcn k hk).1
theorem pos_ord (hc : 0 < c) (hcn : c ≤ n) {k : Nat} (hk : k < n) : pos n c (ord n c k) = k := (ordS_inv hc hcn k hk).2.2.2
theorem ord_pos (hc : 0 < c) (hcn : c ≤ n) {p : Nat} (hp : p < n) : ord n c (pos n c p) = p :=
  pos_inj hc (ord_lt hc hcn (pos_lt hc hp)) hp (pos_ord hc hcn (pos_lt hc hp))
/-- the last one of all: behind it the columns are at their end -/
theorem ordS_end (hc : 0 < c) (hcn : c ≤ n) {k : Nat} (hk : k + 1 = n) : (ordS n c n).1 = c ∧ ¬ (ordS n c k).2 + c < n := by
  obtain ⟨h1, h2, h3, h4⟩ := ordS_inv hc hcn k (by omega)
  subst hk
  have h5 : ¬ (ordS (k + 1) c k).2 + c < k + 1 := by
    intro h5
    have e1 : ((ordS (k + 1) c k).2 + c) % c = (ordS (k + 1) c k).2 % c := Nat.add_mod_right _ c
    have e2 : ((ordS (k + 1) c k).2 + c) / c = (ordS (k + 1) c k).2 / c + 1 := Nat.add_div_right _ hc
    have := pos_lt hc h5
    rw [pos_eq, e1, e2] at this
    rw [pos_eq] at h4
    omega
  have h6 := row_last hc h1 (by omega)
  rw [pos_eq, h2] at h4
  rw [h2] at h6
  have h7 : colA (k + 1) c ((ordS (k + 1) c k).1 + 1) = k + 1 := by rw [colA_succ]; omega
  refine ⟨?_, h5⟩
  show (if (ordS (k + 1) c k).2 + c < k + 1 then ((ordS (k + 1) c k).1, (ordS (k + 1) c k).2 + c) else ((ordS (k + 1) c k).1 + 1, (ordS (k + 1) c k).1 + 1)).1 = c
  rw [if_neg h5]
  simp only
  rcases Nat.lt_or_ge ((ordS (k + 1) c k).1 + 1) c with h | h
  · exfalso
    have h8 : (ordS (k + 1) c k).1 + 1 < k + 1 := by omega
    have h9 := pos_lt hc h8
    rw [pos_eq, Nat.mod_eq_of_lt h, Nat.div_eq_of_lt h] at h9
    omega
  · omega
end
end Go.Proofs.Ytlbfndibgojbiaa
