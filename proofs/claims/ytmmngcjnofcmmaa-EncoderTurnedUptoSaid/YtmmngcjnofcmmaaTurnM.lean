/- A word of the code turned round; of numbers alone. -/
import Derived.Test.YtmmngcjnofcmmaaRows
import Derived.Test.YtmmngcjnofcmmaaWordAt
import Derived.Test.YtmmngcjnofcmmaaRevK
import Derived.Test.YtmmngcjnofcmmaaLfExt
namespace Go.Proofs.Ytmmngcjnofcmmaa

def sumX (f : Nat → Nat) : Nat → Nat
  | 0 => 0
  | k + 1 => sumX f k ^^^ f k
theorem sumX_shift (f : Nat → Nat) : ∀ k, sumX f (k + 1) = f 0 ^^^ sumX (fun j => f (j + 1)) k
  | 0 => by simp [sumX]
  | k + 1 => by
    rw [sumX, sumX_shift f k, sumX, Nat.xor_assoc]
theorem sumX_congr {f g : Nat → Nat} : ∀ {k : Nat}, (∀ j, j < k → f j = g j) → sumX f k = sumX g k
  | 0, _ => rfl
  | k + 1, h => by rw [sumX, sumX, sumX_congr (fun j hj => h j (by omega)), h k (by omega)]
theorem sumX_rev : ∀ (k : Nat) (f : Nat → Nat), sumX f k = sumX (fun j => f (k - 1 - j)) k
  | 0, _ => rfl
  | k + 1, f => by
    rw [sumX, sumX_shift, Nat.xor_comm, sumX_rev k f]
    congr 1
    exact sumX_congr fun j hj => by rw [show k + 1 - 1 - (j + 1) = k - 1 - j by omega]
theorem symP_sum (g : Nat) (xs : List Nat) (t : Nat) : ∀ k, symP g xs t k = sumX (fun j => if g / 2 ^ j % 2 = 1 then backAt xs t j else 0) k
  | 0 => rfl
  | k + 1 => by rw [symP, symP_sum g xs t k, sumX]
theorem bit_dec (x j : Nat) : x.testBit j = decide (x / 2 ^ j % 2 = 1) := Nat.testBit_eq_decide_div_mod_eq
theorem revP_dig {n g j : Nat} (hj : j ≤ n) : (Rev.revP n g / 2 ^ j % 2 = 1) ↔ (g / 2 ^ (n - j) % 2 = 1) := by
  have h := Rev.revP_bit n g j
  rw [bit_dec, bit_dec] at h
  simp only [hj, decide_true, Bool.true_and] at h
  exact decide_eq_decide.1 h
theorem rev_at (xs : List Nat) {i : Nat} (h : i < xs.length) : xs.reverse.getD i 0 = xs.getD (xs.length - 1 - i) 0 := by
  simp [List.getD, List.getElem?_reverse h]
theorem rev_far (xs : List Nat) {i : Nat} (h : xs.length ≤ i) : xs.reverse.getD i 0 = 0 := by
  simp [List.getD, h]
theorem far0 {xs : List Nat} {i : Nat} (h : xs.length ≤ i) : xs.getD i 0 = 0 := by simp [List.getD, h]
theorem back_rev {n j t : Nat} (xs : List Nat) (hj : j ≤ n) (ht : t < xs.length + n) : backAt xs.reverse t (n - j) = backAt xs (xs.length + n - 1 - t) j := by
  unfold backAt
  by_cases h1 : n - j ≤ t
  · rw [if_pos h1]
    by_cases h2 : t - (n - j) < xs.length
    · rw [rev_at xs h2, if_pos (by omega), show xs.length - 1 - (t - (n - j)) = xs.length + n - 1 - t - j by omega]
    · rw [rev_far xs (by omega), if_neg (by omega)]
  · rw [if_neg h1]
    split
    · rw [far0 (by omega)]
    · rfl
theorem sym_rev {n t g : Nat} (xs : List Nat) (ht : t < xs.length + n) : symP (Rev.revP n g) xs.reverse t (n + 1) = symP g xs (xs.length + n - 1 - t) (n + 1) := by
  rw [symP_sum, symP_sum, sumX_rev (n + 1) (fun j => if Rev.revP n g / 2 ^ j % 2 = 1 then backAt xs.reverse t j else 0)]
  refine sumX_congr fun j hj => ?_
  rw [show n + 1 - 1 - j = n - j by omega, back_rev xs (by omega) ht]
  have h := revP_dig (g := g) (show n - j ≤ n by omega)
  rw [show n - (n - j) = j by omega] at h
  by_cases e : g / 2 ^ j % 2 = 1
  · rw [if_pos e, if_pos (h.2 e)]
  · rw [if_neg e, if_neg (fun e2 => e (h.1 e2))]
/-- the last s steps of T, the last one first -/
def stepsK (r T : Nat) (L : List Nat) : Nat → List Nat
  | 0 => []
  | s + 1 => stepsK r T L s ++ (L.drop ((T - 1 - s) * r)).take r
theorem stepsK_length {r T : Nat} {L : List Nat} (hl : L.length = T * r) : ∀ s, s ≤ T → (stepsK r T L s).length = s * r
  | 0, _ => by simp [stepsK]
  | s + 1, h => by
    rw [stepsK, List.length_append, stepsK_length hl s (by omega), List.length_take, List.length_drop, hl]
    have h1 : (T - 1 - s) * r + r ≤ T * r := by
      have : (T - 1 - s + 1) * r ≤ T * r := Nat.mul_le_mul_right r (by omega)
      rw [Nat.add_mul] at this
      omega
    rw [Nat.add_mul]
    omega
theorem stepsK_at {r T : Nat} {L : List Nat} (hl : L.length = T * r) : ∀ s, s ≤ T → ∀ t i, t < s → i < r → (stepsK r T L s).getD (t * r + i) 0 = L.getD ((T - 1 - t) * r + i) 0
  | 0, _, t, i, h, _ => absurd h (by omega)
  | s + 1, h, t, i, ht, hi => by
    have hlen := stepsK_length hl s (by omega)
    rw [stepsK, List.getD]
    by_cases e : t < s
    · have h1 : t * r + i < s * r := by
        have : (t + 1) * r ≤ s * r := Nat.mul_le_mul_right r (by omega)
        rw [Nat.add_mul] at this
        omega
      rw [List.getElem?_append_left (by omega)]
      exact stepsK_at hl s (by omega) t i e hi
    · obtain rfl : t = s := by omega
      rw [List.getElem?_append_right (by omega), hlen, Nat.add_sub_cancel_left, List.getElem?_take, if_pos hi, List.getElem?_drop]
      rfl
theorem stepsK_one (xs : List Nat) : stepsK 1 xs.length xs xs.length = xs.reverse := by
  have hl : xs.length = xs.length * 1 := by omega
  refine ext_getD (by rw [stepsK_length hl _ (Nat.le_refl _), List.length_reverse]; omega) fun i hi => ?_
  rw [stepsK_length hl _ (Nat.le_refl _)] at hi
  have h := stepsK_at hl xs.length (Nat.le_refl _) i 0 (by omega) (by omega)
  rw [Nat.mul_one, Nat.add_zero, Nat.mul_one, Nat.add_zero] at h
  rw [h, rev_at xs (by omega)]
section
variable {R : Int} {n a b c : Nat} {xs : List Nat}
theorem genN_rev (hR : R = 2 ∨ R = 3) {i : Nat} (hi : i < rateN R) : genN (Rev.revP n a) (Rev.revP n b) (revC R n c) i = Rev.revP n (genN a b c i) := by
  unfold genN revC rateN at *
  rcases hR with rfl | rfl
  · have : i = 0 ∨ i = 1 := by simp at hi; omega
    rcases this with rfl | rfl <;> simp
  · have : i = 0 ∨ i = 1 ∨ i = 2 := by simp at hi; omega
    rcases this with rfl | rfl | rfl <;> simp
theorem word_rev (hR : R = 2 ∨ R = 3) (hck : checkF (n + 1) R a b c = 0) (hn : n ≤ 31) (hb : Bits xs) :
    wordF R (Rev.revP n a) (Rev.revP n b) (revC R n c) n xs.reverse = stepsK (rateN R) (xs.length + n) (wordF R a b c n xs) (xs.length + n) := by
  have hl : (wordF R a b c n xs).length = (xs.length + n) * rateN R := word_length
  have hck2 := checkF_rev hck
  have hb2 : Bits xs.reverse := fun i hi => by
    rw [List.length_reverse] at hi
    rw [rev_at xs hi]
    exact hb.all _
  refine ext_getD (by rw [stepsK_length hl _ (Nat.le_refl _), word_length, List.length_reverse]) fun i hi => ?_
  rw [word_length, List.length_reverse] at hi
  have hr := rateN_pos R
  have e := Nat.div_add_mod i (rateN R)
  have h1 : i / rateN R < xs.length + n := by rw [Nat.div_lt_iff_lt_mul hr]; exact hi
  have h2 := Nat.mod_lt i hr
  generalize i / rateN R = t at *
  generalize i % rateN R = j at *
  have e' : i = t * rateN R + j := by rw [Nat.mul_comm] at e; exact e.symm
  rw [e', stepsK_at hl _ (Nat.le_refl _) t j h1 h2, word_at hck2 hn hb2 h2 (by rw [List.length_reverse]; exact h1), genN_rev hR h2, sym_rev xs h1,
    show xs.length + n - 1 - t = xs.length + n - 1 - t from rfl, word_at hck hn hb h2 (by omega)]
end
end Go.Proofs.Ytmmngcjnofcmmaa
