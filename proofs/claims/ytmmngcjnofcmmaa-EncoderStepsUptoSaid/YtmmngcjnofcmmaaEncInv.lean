/- Words and their messages: of numbers alone. -/
import Derived.Test.YtmmngcjnofcmmaaRows
import Derived.Test.YtmmngcjnofcmmaaInvert
import Derived.Test.YtmmngcjnofcmmaaGood
import Derived.Test.YtmmngcjnofcmmaaOwn
namespace Go.Proofs.Ytmmngcjnofcmmaa
open Go.RowKit

section
variable {K R : Int} {a b c : Nat} {xs ys S : List Nat}
theorem enc_msg (h : encE K R a b c xs = 0) : IsMsg R a b c (K - 1).toNat (encO K R a b c xs) xs := ⟨(encE_zero h).2.all, (encO_some h).symm⟩
theorem encO_le (K R : Int) (a b c : Nat) (xs : List Nat) (i : Nat) : (encO K R a b c xs).getD i 0 ≤ 1 := by
  by_cases h : encE K R a b c xs = 0
  · rw [encO_some h]; exact getD_le (syms_le _ _ _ _ _ _ _ _) i
  · rw [encO_none h]; simp
theorem encO_length (h : encE K R a b c xs = 0) : (encO K R a b c xs).length = (xs.length + (K - 1).toNat) * rateN R := by rw [encO_some h, wordF, syms_rate]
theorem inv_enc (h : encE K R a b c xs = 0) : invE K R a b c (encO K R a b c xs) = 0 ∧ invO K R a b c (encO K R a b c xs) = xs := by
  refine invE_yes (rdE_good (encE_zero h).1 ?_ (fun i _ => encO_le _ _ _ _ _ _ i)) (enc_msg h)
  rw [encO_length h, Nat.mul_mod_left, Nat.mul_div_cancel _ (rateN_pos R)]
  omega
theorem enc_inv (h : invE K R a b c S = 0) : encE K R a b c (invO K R a b c S) = 0 ∧ encO K R a b c (invO K R a b c S) = S := by
  have hz : rdE K R a b c S = 0 := by
    by_cases h1 : rdE K R a b c S = 0
    · exact h1
    · rw [(invE_err h1).1] at h; exact absurd h h1
  have hm : HasMsg K R a b c S := by
    by_cases h1 : HasMsg K R a b c S
    · exact h1
    · rw [(invE_no hz h1).1] at h; exact absurd h (by decide)
  obtain ⟨ys, hm⟩ := hm
  rw [(invE_yes hz hm).2]
  have he : encE K R a b c ys = 0 := encE_good (rdE_zero hz).1 (fun i _ => hm.1 i)
  exact ⟨he, (encO_some he).trans hm.2⟩
theorem invO_length (K R : Int) (a b c : Nat) (S : List Nat) : (invO K R a b c S).length ≤ S.length := by
  by_cases h : invE K R a b c S = 0
  · have h1 := (enc_msg (enc_inv h).1).len
    rw [(enc_inv h).2] at h1
    rw [h1]
    have := rateN_pos R
    exact Nat.le_trans (Nat.le_add_right _ _) (Nat.le_mul_of_pos_right _ this)
  · by_cases hz : rdE K R a b c S = 0
    · by_cases hm : HasMsg K R a b c S
      · obtain ⟨ys, hm⟩ := hm; exact absurd (invE_yes hz hm).1 h
      · rw [(invE_no hz hm).2]; simp
    · rw [(invE_err hz).2]; simp
theorem sameB_eq (hx : ∀ i, xs.getD i 0 ≤ 255) (hy : ∀ i, ys.getD i 0 ≤ 255) : sameB xs ys = decide (xs = ys) := by
  unfold sameB
  by_cases h : xs = ys
  · subst h; simp
  · rw [decide_eq_false h, beq_eq_false_iff_ne]
    exact fun e => h (strN_inj hx hy e)
theorem same_words (h : encE K R a b c xs = 0) (h2 : encE K R a b c ys = 0) : sameB (encO K R a b c ys) (encO K R a b c xs) = sameB ys xs := by
  rw [sameB_eq (fun i => Nat.le_trans (encO_le _ _ _ _ _ _ i) (by omega)) (fun i => Nat.le_trans (encO_le _ _ _ _ _ _ i) (by omega)),
    sameB_eq (fun i => Nat.le_trans ((encE_zero h2).2.all i) (by omega)) (fun i => Nat.le_trans ((encE_zero h).2.all i) (by omega))]
  by_cases e : ys = xs
  · rw [e]; simp
  · have : encO K R a b c ys ≠ encO K R a b c xs := fun e2 => e ((enc_msg h2).unique (tells_good (encE_zero h).1) (by rw [e2]; exact enc_msg h))
    rw [decide_eq_false e, decide_eq_false this]
end
end Go.Proofs.Ytmmngcjnofcmmaa
