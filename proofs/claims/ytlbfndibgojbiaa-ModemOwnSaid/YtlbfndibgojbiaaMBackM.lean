/- There and back: symbols made levels, turned, unshuffled; of numbers alone. -/
import Derived.Test.YtlbfndibgojbiaaRows
import Derived.Test.YtlbfndibgojbiaaMWin
import Derived.Test.YtlbfndibgojbiaaMLev
namespace Go.Proofs.Ytlbfndibgojbiaa

theorem levL_at (L : Nat) (xs : List Nat) (i : Nat) : (levL L xs).getD i 0 = xs.getD i 0 * (L - 1) := by
  unfold levL
  rcases Nat.lt_or_ge i xs.length with hi | hi
  · rw [fill_at _ hi]
  · rw [fill_far _ hi, getD_far' hi, Nat.zero_mul]
theorem hardL_at (L : Nat) (xs : List Nat) {i : Nat} (hi : i < xs.length) : (hardL L xs).getD i 0 = if L - 1 < 2 * xs.getD i 0 then 1 else 0 := by
  unfold hardL
  rw [fill_at _ hi]
theorem levL_lev (L : Nat) (hL : 2 ≤ L) (xs : List Nat) (hb : ∀ i, xs.getD i 0 ≤ 1) : Lev L (levL L xs) := by
  intro i _
  rw [levL_at]
  have := hb i
  rcases (show xs.getD i 0 = 0 ∨ xs.getD i 0 = 1 by omega) with e | e
  · rw [e]; omega
  · rw [e]; omega
theorem turn_lev (d T S L : Nat) (xs : List Nat) (hb : ∀ i, xs.getD i 0 ≤ 1) : turnL d T S L (levL L (whiteL d T S xs)) = levL L xs := by
  refine ext_getD (by rw [turnL_length, levL_length, levL_length, whiteL_length]) fun i hi => ?_
  rw [turnL_length, levL_length, whiteL_length] at hi
  rw [turnL_at _ _ _ _ _ (by rw [levL_length, whiteL_length]; exact hi), levL_at, levL_at, whiteL_at _ _ _ _ hi]
  have h1 := hb i
  have h2 : Gf2.stpN d T i S % 2 = 0 ∨ Gf2.stpN d T i S % 2 = 1 := by omega
  rcases (show xs.getD i 0 = 0 ∨ xs.getD i 0 = 1 by omega) with e | e <;> rcases h2 with e2 | e2 <;> rw [e, e2] <;> simp
theorem ord_mem {n r p : Nat} (hr : 0 < r) (hp : p < n) : pos n (colC n r) p < n ∧ ord n (colC n r) (pos n (colC n r) p) = p := by
  obtain ⟨h1, h2⟩ := colC_pos (n := n) (r := r) (by omega) hr
  exact ⟨pos_lt h1 hp, ord_pos h1 h2 hp⟩
theorem unsh_lev (q L : Nat) (hq : 0 < q) (xs : List Nat) : unshL q (levL L (shufL q xs)) = levL L xs := by
  refine ext_getD (by rw [unshL_length, levL_length, levL_length, shufL_length]) fun i hi => ?_
  rw [unshL_length, levL_length, shufL_length] at hi
  obtain ⟨h1, h2⟩ := ord_mem hq hi
  unfold unshL
  rw [levL_length, shufL_length, fill_at _ hi, levL_at, levL_at]
  unfold shufL
  rw [fill_at _ h1, h2]
theorem win_lev (d T S q L : Nat) (hq : 0 < q) (xs : List Nat) (hb : ∀ i, xs.getD i 0 ≤ 1) : winL d T S q L (levL L (whiteL d T S (shufL q xs))) = levL L xs := by
  unfold winL
  rw [turn_lev _ _ _ _ _ (fun i => shufL_all (P := fun y => y ≤ 1) (by decide) hb i), unsh_lev q L hq]
theorem hard_lev (L : Nat) (hL : 2 ≤ L) (xs : List Nat) (hb : ∀ i, xs.getD i 0 ≤ 1) : hardL L (levL L xs) = xs := by
  refine ext_getD (by rw [hardL_length, levL_length]) fun i hi => ?_
  rw [hardL_length] at hi
  rw [hardL_at _ _ hi, levL_at]
  have := hb i
  rcases (show xs.getD i 0 = 0 ∨ xs.getD i 0 = 1 by omega) with e | e
  · rw [e, if_neg (by omega)]
  · rw [e, if_pos (by omega)]
end Go.Proofs.Ytlbfndibgojbiaa
