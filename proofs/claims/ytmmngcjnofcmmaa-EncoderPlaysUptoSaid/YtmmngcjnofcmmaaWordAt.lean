/- A complete word, symbol by symbol: the document's sums. -/
import Derived.Test.YtmmngcjnofcmmaaRows
import Derived.Test.YtmmngcjnofcmmaaCodeB
import Derived.Test.YtmmngcjnofcmmaaEncode
import Derived.Test.YtmmngcjnofcmmaaProdM
namespace Go.Proofs.Ytmmngcjnofcmmaa
open Go.RowKit

section
variable {a b c n i t : Nat} {R : Int} {xs : List Nat}
theorem gen_lt (hck : checkF (n + 1) R a b c = 0) (hi : i < rateN R) : genN a b c i < 2 ^ (n + 1) := by
  obtain ⟨-, hg, -⟩ := checkF_zero hck
  rw [show ((n : Int) + 1).toNat = n + 1 by omega] at hg
  obtain ⟨h1, h2, h3⟩ := hg
  have hr : rateN R = countF R := rfl
  have hc := countF_or R
  unfold genN
  by_cases e0 : i = 0
  · rw [if_pos e0]; exact h1.2
  · rw [if_neg e0]
    by_cases e1 : i = 1
    · rw [if_pos e1]; exact h2.2
    · rw [if_neg e1]; exact (h3 (by omega)).2
theorem symK_at (hi : i < rateN R) (m : Nat) : (symK R a b c m).getD i 0 = outF m (genN a b c i) := by
  unfold rateN at hi
  unfold symK genN
  by_cases h : R = 2
  · rw [if_pos h] at hi ⊢
    have : i = 0 ∨ i = 1 := by omega
    rcases this with rfl | rfl <;> rfl
  · rw [if_neg h] at hi ⊢
    have : i = 0 ∨ i = 1 ∨ i = 2 := by omega
    rcases this with rfl | rfl | rfl <;> rfl
theorem block_at {S : List Nat} {k : Nat} (hi : i < rateN R) : (blockAt R S k).getD i 0 = S.getD (k * rateN R + i) 0 := by
  unfold blockAt
  rw [List.getD_eq_getElem?_getD, List.getElem?_take, if_pos hi, List.getElem?_drop, ← List.getD_eq_getElem?_getD]
theorem word_at (hck : checkF (n + 1) R a b c = 0) (hn : n ≤ 31) (hb : Bits xs) (hi : i < rateN R) (ht : t < xs.length + n) : (wordF R a b c n xs).getD (t * rateN R + i) 0 = symP (genN a b c i) xs t (n + 1) := by
  rw [← block_at hi]
  unfold wordF
  rw [syms_block ht, symK_at hi]
  exact outF_sym hb.all hn (gen_lt hck hi) t
theorem prodL_at (g : Nat) (ht : t < xs.length + n) : (prodL g n xs).getD t 0 = symP g xs t (n + 1) := by simp [prodL, List.getD, ht]
theorem word_length : (wordF R a b c n xs).length = (xs.length + n) * rateN R := by rw [wordF, syms_rate]
end
end Go.Proofs.Ytmmngcjnofcmmaa
