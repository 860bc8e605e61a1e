/- Levels that are near one another come apart; of numbers alone. -/
import Derived.Test.YtlbfndibgojbiaaRows
import Derived.Test.YtlbfndibgojbiaaMHistM
namespace Go.Proofs.Ytlbfndibgojbiaa

theorem colH_ge (n c j : Nat) : n / c ≤ colH n c j := by unfold colH; split <;> omega
/-- two places of the order that are near one another lie far apart -/
theorem ord_far {n c I J : Nat} (hc : 0 < c) (hcn : c ≤ n) (hIJ : I < J) (hJ : J < n) (hf : J - I < n / c) :
    ord n c I ≠ ord n c J ∧ (ord n c I + (c - 1) ≤ ord n c J ∨ ord n c J + (c - 1) ≤ ord n c I) := by
  have hP := pos_ord hc hcn (show I < n by omega)
  have hQ := pos_ord hc hcn hJ
  have lP := ord_lt hc hcn (show I < n by omega)
  have lQ := ord_lt hc hcn hJ
  generalize ord n c I = P at *
  generalize ord n c J = Q at *
  have r1 := row_lt hc lP
  have r2 := row_lt hc lQ
  rw [pos_eq] at hP hQ
  have e1 := Nat.div_add_mod P c
  have e2 := Nat.div_add_mod Q c
  have m2 := Nat.mod_lt Q hc
  have g1 := colH_ge n c (P % c)
  have g2 := colH_ge n c (P % c + 1)
  have key : ∀ i j : Nat, i < j → colA n c i + colH n c i ≤ colA n c j := fun i j hij => by
    rw [← colA_succ]; exact colA_mono hij
  generalize P / c = a at *
  generalize Q / c = b at *
  rcases Nat.lt_trichotomy (P % c) (Q % c) with h | h | h
  · have h2 : Q % c = P % c + 1 := by
      rcases Nat.lt_or_ge (P % c + 1) (Q % c) with h3 | h3
      · exfalso
        have k1 := key _ _ h3
        have k2 := key _ _ (show P % c < P % c + 1 by omega)
        omega
      · omega
    have k2 := key _ _ h
    have hab : b < a := by omega
    obtain ⟨s, rfl⟩ : ∃ s, a = b + 1 + s := ⟨a - b - 1, by omega⟩
    rw [Nat.mul_add, Nat.mul_add, Nat.mul_one] at e1
    generalize c * s = cs at *
    generalize c * b = cb at *
    omega
  · rw [h] at hP
    have hab : a < b := by omega
    obtain ⟨s, rfl⟩ : ∃ s, b = a + 1 + s := ⟨b - a - 1, by omega⟩
    rw [Nat.mul_add, Nat.mul_add, Nat.mul_one] at e2
    generalize c * s = cs at *
    generalize c * a = ca at *
    omega
  · exfalso
    have k1 := key _ _ h
    omega
/-- a row of zeros with a one -/
def oneR (n i : Nat) : List Nat := (List.replicate n 0).set i 1
theorem oneR_length (n i : Nat) : (oneR n i).length = n := by simp [oneR]
theorem rep_at (n k : Nat) : (List.replicate n 0).getD k 0 = 0 := by
  rcases Nat.lt_or_ge k n with h | h
  · simp [List.getD, h]
  · simp [List.getD, h]
theorem oneR_at {n i k : Nat} (hk : k < n) : (oneR n i).getD k 0 = if k = i then 1 else 0 := by
  unfold oneR
  rw [List.getD, List.getElem?_set]
  split
  · rename_i e
    subst e
    simp [hk]
  · rename_i e
    rw [if_neg (Ne.symm e)]
    simp [hk]
theorem oneR_le (n i k : Nat) : (oneR n i).getD k 0 ≤ 1 := by
  rcases Nat.lt_or_ge k n with h | h
  · rw [oneR_at h]; split <;> omega
  · rw [getD_far' (by rw [oneR_length]; exact h)]; omega
theorem turn_two (d T S : Nat) (xs : List Nat) {i : Nat} (hi : i < xs.length) (h : xs.getD i 0 ≤ 1) : (turnL d T S 2 xs).getD i 0 ≤ 1 := by
  rw [turnL_at _ _ _ _ _ hi]; split <;> omega
/-- a window shows the one just where its place has come to -/
theorem win_one (d T S q n i : Nat) (hq : 0 < q) (hi : i < n) {t : Nat} (ht : t < n) :
    ((winL d T S q 2 (oneR n i)).getD t 0 ≠ (winL d T S q 2 (List.replicate n 0)).getD t 0) ↔ t = ord n (colC n q) i := by
  obtain ⟨h1, h2⟩ := colC_pos (n := n) (r := q) (by omega) hq
  have hp := pos_lt h1 ht
  rw [winL_at d T S q 2 hq _ (by rw [oneR_length]; exact ht), winL_at d T S q 2 hq _ (by simpa using ht)]
  rw [oneR_length, List.length_replicate]
  rw [turnL_at _ _ _ _ _ (by rw [oneR_length]; exact hp), turnL_at _ _ _ _ _ (by simpa using hp), rep_at, oneR_at hp]
  have key : (t = ord n (colC n q) i) ↔ pos n (colC n q) t = i := by
    constructor
    · intro e; rw [e]; exact pos_ord h1 h2 hi
    · intro e; rw [← e]; exact (ord_pos h1 h2 ht).symm
  rw [key]
  by_cases e : pos n (colC n q) t = i
  · rw [if_pos e]
    simp only [e, ne_eq, iff_true]
    split <;> omega
  · rw [if_neg e]
    simp [e]
theorem lev_two {xs : List Nat} (h : ∀ i, xs.getD i 0 ≤ 1) : Lev 2 xs := fun i _ => by have := h i; omega
end Go.Proofs.Ytlbfndibgojbiaa
