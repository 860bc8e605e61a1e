/- How many ways lead from a state to 0 first with a weight: they come to an end. Of numbers alone. -/
import Derived.Test.YtpmnbdkncmjafaaRows
import Derived.Test.YtpmnbdkncmjafaaLpA
import Derived.Test.YtpmnbdkncmjafaaSyms
namespace Go.Proofs.Ytpmnbdkncmjafaa
open Gf2 Rev

def popN (x : Nat) : Nat := if x = 0 then 0 else x % 2 + popN (x / 2)
termination_by x
decreasing_by omega
theorem popN_zero : popN 0 = 0 := by rw [popN]; simp
theorem popN_two (y p : Nat) (hp : p ≤ 1) : popN (2 * y + p) = popN y + p := by
  by_cases h : 2 * y + p = 0
  · rw [show p = 0 by omega, show y = 0 by omega]; simp [popN_zero]
  · rw [popN, if_neg h, show (2 * y + p) % 2 = p by omega, show (2 * y + p) / 2 = y by omega]; omega
/-- the weight of all symbols of a register -/
def wtM (n a b c m : Nat) : Nat := popN (yRow n a m) + popN (yRow n b m) + popN (yRow n c m)
section
variable {n : Nat} {R : Int} {a b c : Nat}
theorem GoodN.third (h : GoodN n R a b c) (w : Nat) : third R (outF w c) = outF w c := by
  unfold Proofs.Ytpmnbdkncmjafaa.third
  split
  · rename_i e; rw [h.two e]; simp [outF, Nat.and_zero, Gf2.par, Gf2.popF_zero]
  · rfl
theorem wtM_step (h : GoodN n R a b c) (m : Nat) {x : Nat} (hx : x ≤ 1) : wtM n a b c (2 * m + x) = wtM n a b c m + wtF R a b c (m % 2 ^ n) x := by
  unfold wtM wtF
  rw [yRow_step n a m x h.n31 h.al hx, yRow_step n b m x h.n31 h.bl hx, yRow_step n c m x h.n31 h.cl hx, popN_two _ _ (outF_le _ _), popN_two _ _ (outF_le _ _), popN_two _ _ (outF_le _ _), h.third]
  omega
theorem outF_flip (s g : Nat) : outF (2 * s + 1) g = outF (2 * s) g ^^^ g % 2 := by
  have e : 2 * s + 1 = 2 * s ^^^ 1 := two_bit s 1 (by omega)
  have h1 : outF 1 g = g % 2 := by
    unfold outF Gf2.par
    rw [Nat.and_comm, and1, Gf2.popF_small (i := 1) (j := 32) (by omega) (by omega)]
    simp [Gf2.popF]
  rw [e, outF_xor, h1]
/-- of the two steps from a state one at most puts out nothing -/
theorem one_of (h : GoodN n R a b c) (s : Nat) (h0 : wtF R a b c s 0 = 0) : wtF R a b c s 1 ≠ 0 := by
  unfold wtF at *
  rw [h.third] at *
  rw [Nat.add_zero] at h0
  rw [outF_flip, outF_flip, outF_flip]
  have ea : outF (2 * s) a = 0 := by omega
  have eb : outF (2 * s) b = 0 := by omega
  have ec : outF (2 * s) c = 0 := by omega
  rw [ea, eb, ec, Nat.zero_xor, Nat.zero_xor, Nat.zero_xor]
  rcases h.odd with e | e | e <;> omega
/-- for how many steps nothing can be put out -/
def zr (nx wt : Nat → Nat → Nat) : Nat → Nat → Nat
  | 0, _ => 0
  | k + 1, s => if wt s 0 = 0 then 1 + zr nx wt k (nx s 0) else if wt s 1 = 0 then 1 + zr nx wt k (nx s 1) else 0
theorem zr_le (nx wt : Nat → Nat → Nat) (k s : Nat) : zr nx wt k s ≤ k := by
  induction k generalizing s with
  | zero => exact Nat.le_refl _
  | succ k ih =>
    simp only [zr]
    have h0 := ih (nx s 0)
    have h1 := ih (nx s 1)
    split
    · omega
    · split <;> omega
theorem zr_succ (nx wt : Nat → Nat → Nat) (k s : Nat) : zr nx wt (k + 1) s = if wt s 0 = 0 then 1 + zr nx wt k (nx s 0) else if wt s 1 = 0 then 1 + zr nx wt k (nx s 1) else 0 := rfl
theorem zr_stay (nx wt : Nat → Nat → Nat) (k s : Nat) (h : zr nx wt k s < k) : zr nx wt (k + 1) s = zr nx wt k s := by
  induction k generalizing s with
  | zero => omega
  | succ k ih =>
    rw [zr_succ nx wt (k + 1) s]
    rw [zr_succ nx wt k s] at h ⊢
    by_cases h0 : wt s 0 = 0
    · rw [if_pos h0] at *
      rw [if_pos h0, ih _ (by omega)]
    · rw [if_neg h0] at *
      by_cases h1 : wt s 1 = 0
      · rw [if_pos h1] at *
        rw [if_neg h0, if_pos h1, ih _ (by omega)]
      · rw [if_neg h1] at *
        rw [if_neg h0, if_neg h1]
theorem nx_mod (n m x : Nat) : nxF n (m % 2 ^ n) x = (2 * m + x) % 2 ^ n := by
  unfold nxF
  rw [Nat.add_mod, Nat.mul_mod, Nat.mod_mod, ← Nat.mul_mod, ← Nat.add_mod]
theorem zr_path (h : GoodN n R a b c) (k : Nat) : ∀ m, zr (nxF n) (wtF R a b c) k (m % 2 ^ n) = k → ∃ u, u < 2 ^ k ∧ yRow n a (m * 2 ^ k + u) % 2 ^ k = 0 ∧ yRow n b (m * 2 ^ k + u) % 2 ^ k = 0 ∧ yRow n c (m * 2 ^ k + u) % 2 ^ k = 0 ∧
    yRow n a (m * 2 ^ k + u) / 2 ^ k = yRow n a m ∧ yRow n b (m * 2 ^ k + u) / 2 ^ k = yRow n b m ∧ yRow n c (m * 2 ^ k + u) / 2 ^ k = yRow n c m := by
  induction k with
  | zero => intro m _; exact ⟨0, by simp, by simp [Nat.mod_one], by simp [Nat.mod_one], by simp [Nat.mod_one], by simp, by simp, by simp⟩
  | succ k ih =>
    intro m hm
    have step : ∀ x, x ≤ 1 → wtF R a b c (m % 2 ^ n) x = 0 → zr (nxF n) (wtF R a b c) k (nxF n (m % 2 ^ n) x) = k → ∃ u, u < 2 ^ (k + 1) ∧ yRow n a (m * 2 ^ (k + 1) + u) % 2 ^ (k + 1) = 0 ∧ yRow n b (m * 2 ^ (k + 1) + u) % 2 ^ (k + 1) = 0 ∧ yRow n c (m * 2 ^ (k + 1) + u) % 2 ^ (k + 1) = 0 ∧
        yRow n a (m * 2 ^ (k + 1) + u) / 2 ^ (k + 1) = yRow n a m ∧ yRow n b (m * 2 ^ (k + 1) + u) / 2 ^ (k + 1) = yRow n b m ∧ yRow n c (m * 2 ^ (k + 1) + u) / 2 ^ (k + 1) = yRow n c m := by
      intro x hx hw hz
      rw [nx_mod] at hz
      obtain ⟨u, hu, u1, u2, u3, v1, v2, v3⟩ := ih (2 * m + x) hz
      have e : m * 2 ^ (k + 1) + (x * 2 ^ k + u) = (2 * m + x) * 2 ^ k + u := by
        rw [Nat.pow_succ, Nat.add_mul, Nat.mul_comm (2 ^ k) 2, ← Nat.mul_assoc, Nat.mul_comm m 2, Nat.add_assoc]
      have hw2 := hw
      unfold wtF at hw2
      rw [h.third] at hw2
      have row : ∀ g, g < 2 ^ (n + 1) → outF (2 * (m % 2 ^ n) + x) g = 0 → yRow n g ((2 * m + x) * 2 ^ k + u) % 2 ^ k = 0 → yRow n g ((2 * m + x) * 2 ^ k + u) / 2 ^ k = yRow n g (2 * m + x) →
          yRow n g ((2 * m + x) * 2 ^ k + u) % 2 ^ (k + 1) = 0 ∧ yRow n g ((2 * m + x) * 2 ^ k + u) / 2 ^ (k + 1) = yRow n g m := fun g hg h0 h1 h2 => by
        have h3 := yRow_step n g m x h.n31 hg hx
        rw [h0] at h3
        constructor
        · rw [Nat.pow_succ, Nat.mod_mul, h1, h2, h3]; simp
        · rw [Nat.pow_succ, ← Nat.div_div_eq_div_mul, h2, h3]; omega
      refine ⟨x * 2 ^ k + u, ?_, ?_⟩
      · rw [Nat.pow_succ]
        have : x * 2 ^ k ≤ 1 * 2 ^ k := Nat.mul_le_mul_right _ hx
        omega
      · rw [e]
        obtain ⟨p1, q1⟩ := row a h.al (by omega) u1 v1
        obtain ⟨p2, q2⟩ := row b h.bl (by omega) u2 v2
        obtain ⟨p3, q3⟩ := row c h.cl (by omega) u3 v3
        exact ⟨p1, p2, p3, q1, q2, q3⟩
    simp only [zr] at hm
    by_cases h0 : wtF R a b c (m % 2 ^ n) 0 = 0
    · rw [if_pos h0] at hm
      exact step 0 (by omega) h0 (by omega)
    · rw [if_neg h0] at hm
      by_cases h1 : wtF R a b c (m % 2 ^ n) 1 = 0
      · rw [if_pos h1] at hm
        exact step 1 (by omega) h1 (by omega)
      · rw [if_neg h1] at hm; omega
theorem zr_lt (h : GoodN n R a b c) {s : Nat} (hs : s < 2 ^ n) (h0 : s ≠ 0) : zr (nxF n) (wtF R a b c) n s < n := by
  rcases Nat.lt_or_ge (zr (nxF n) (wtF R a b c) n s) n with h1 | h1
  · exact h1
  · exfalso
    have h2 := zr_le (nxF n) (wtF R a b c) n s
    obtain ⟨u, hu, u1, u2, u3, _⟩ := zr_path h n s (by rw [Nat.mod_eq_of_lt hs]; omega)
    have hM : s * 2 ^ n + u < 2 ^ (2 * n) := by
      have : (s + 1) * 2 ^ n ≤ 2 ^ n * 2 ^ n := Nat.mul_le_mul_right _ hs
      rw [show 2 * n = n + n by omega, Nat.pow_add]
      rw [Nat.add_mul] at this
      omega
    have := window_zero h hM u1 u2 u3
    have : 1 * 2 ^ n ≤ s * 2 ^ n := Nat.mul_le_mul_right _ (by omega)
    have := Nat.two_pow_pos n
    omega
theorem zr_step (h : GoodN n R a b c) {s x : Nat} (hs : s < 2 ^ n) (h0 : s ≠ 0) (hx : x ≤ 1) (hw : wtF R a b c s x = 0) : zr (nxF n) (wtF R a b c) n (nxF n s x) < zr (nxF n) (wtF R a b c) n s := by
  have hlt := zr_lt h hs h0
  obtain ⟨k, hk⟩ : ∃ k, n = k + 1 := ⟨n - 1, by have := h.n2; omega⟩
  have e1 : zr (nxF n) (wtF R a b c) n s = 1 + zr (nxF n) (wtF R a b c) k (nxF n s x) := by
    conv => lhs; rw [show zr (nxF n) (wtF R a b c) n = zr (nxF n) (wtF R a b c) (k + 1) by rw [← hk]]
    rw [zr]
    have hx2 : x = 0 ∨ x = 1 := by omega
    rcases hx2 with rfl | rfl
    · rw [if_pos hw]
    · rw [if_neg (fun e => one_of h s e hw), if_pos hw]
  have e2 := zr_stay (nxF n) (wtF R a b c) k (nxF n s x) (by omega)
  rw [← hk] at e2
  omega
/-- the ways from a state to 0, of so many steps at most, with a weight -/
def fF (nx wt : Nat → Nat → Nat) : Nat → Nat → Nat → Nat
  | 0, _, _ => 0
  | k + 1, s, r => (if wt s 0 ≤ r then (if nx s 0 = 0 then (if wt s 0 = r then 1 else 0) else fF nx wt k (nx s 0) (r - wt s 0)) else 0) +
      (if wt s 1 ≤ r then (if nx s 1 = 0 then (if wt s 1 = r then 1 else 0) else fF nx wt k (nx s 1) (r - wt s 1)) else 0)
theorem nx_lt' (n s x : Nat) : nxF n s x < 2 ^ n := nxF_lt n s x
theorem fF_stay (h : GoodN n R a b c) (k : Nat) : ∀ s r, s < 2 ^ n → s ≠ 0 → r * n + zr (nxF n) (wtF R a b c) n s < k → fF (nxF n) (wtF R a b c) (k + 1) s r = fF (nxF n) (wtF R a b c) k s r := by
  induction k with
  | zero => intro s r _ _ h; omega
  | succ k ih =>
    intro s r hs h0 hk
    have part : ∀ x, x ≤ 1 → wtF R a b c s x ≤ r → nxF n s x ≠ 0 → fF (nxF n) (wtF R a b c) (k + 1) (nxF n s x) (r - wtF R a b c s x) = fF (nxF n) (wtF R a b c) k (nxF n s x) (r - wtF R a b c s x) := fun x hx hw hn => by
      refine ih _ _ (nxF_lt n s x) hn ?_
      by_cases e : wtF R a b c s x = 0
      · have := zr_step h hs h0 hx e
        rw [e, Nat.sub_zero]; omega
      · have h1 := zr_lt h (nxF_lt n s x) hn
        have h2 : (r - wtF R a b c s x + 1) * n ≤ r * n := Nat.mul_le_mul_right _ (by omega)
        rw [Nat.add_mul] at h2
        omega
    rw [fF]
    conv => rhs; rw [fF]
    congr 1
    · by_cases hw : wtF R a b c s 0 ≤ r
      · rw [if_pos hw, if_pos hw]
        by_cases hn : nxF n s 0 = 0
        · rw [if_pos hn, if_pos hn]
        · rw [if_neg hn, if_neg hn, part 0 (by omega) hw hn]
      · rw [if_neg hw, if_neg hw]
    · by_cases hw : wtF R a b c s 1 ≤ r
      · rw [if_pos hw, if_pos hw]
        by_cases hn : nxF n s 1 = 0
        · rw [if_pos hn, if_pos hn]
        · rw [if_neg hn, if_neg hn, part 1 (by omega) hw hn]
      · rw [if_neg hw, if_neg hw]
/-- the ways from a state to 0 with a weight -/
def ways (n : Nat) (R : Int) (a b c s r : Nat) : Nat := fF (nxF n) (wtF R a b c) (r * n + n) s r
theorem fF_ways (h : GoodN n R a b c) {s r : Nat} (hs : s < 2 ^ n) (h0 : s ≠ 0) (k : Nat) (hk : r * n + zr (nxF n) (wtF R a b c) n s < k) : fF (nxF n) (wtF R a b c) k s r = ways n R a b c s r := by
  have hz := zr_lt h hs h0
  have go : ∀ k, r * n + zr (nxF n) (wtF R a b c) n s + 1 ≤ k → fF (nxF n) (wtF R a b c) k s r = fF (nxF n) (wtF R a b c) (r * n + zr (nxF n) (wtF R a b c) n s + 1) s r := fun k hk => by
    obtain ⟨d, rfl⟩ : ∃ d, k = r * n + zr (nxF n) (wtF R a b c) n s + 1 + d := ⟨k - (r * n + zr (nxF n) (wtF R a b c) n s + 1), by omega⟩
    clear hk
    induction d with
    | zero => rfl
    | succ d ih => rw [← Nat.add_assoc, fF_stay h _ s r hs h0 (by omega), ih]
  unfold ways
  rw [go k (by omega), go (r * n + n) (by omega)]
/-- what a step adds -/
def wayT (n : Nat) (R : Int) (a b c s r x : Nat) : Nat := if wtF R a b c s x ≤ r then (if nxF n s x = 0 then (if wtF R a b c s x = r then 1 else 0) else ways n R a b c (nxF n s x) (r - wtF R a b c s x)) else 0
theorem ways_rec (h : GoodN n R a b c) {s r : Nat} (hs : s < 2 ^ n) (h0 : s ≠ 0) : ways n R a b c s r = wayT n R a b c s r 0 + wayT n R a b c s r 1 := by
  have hz := zr_lt h hs h0
  obtain ⟨k, hk⟩ : ∃ k, r * n + n = k + 1 := ⟨r * n + n - 1, by have := h.n2; omega⟩
  have part : ∀ x, x ≤ 1 → wtF R a b c s x ≤ r → nxF n s x ≠ 0 → fF (nxF n) (wtF R a b c) k (nxF n s x) (r - wtF R a b c s x) = ways n R a b c (nxF n s x) (r - wtF R a b c s x) := fun x hx hw hn => by
    refine fF_ways h (nxF_lt n s x) hn k ?_
    by_cases e : wtF R a b c s x = 0
    · have := zr_step h hs h0 hx e
      rw [e, Nat.sub_zero]; omega
    · have h1 := zr_lt h (nxF_lt n s x) hn
      have h2 : (r - wtF R a b c s x + 1) * n ≤ r * n := Nat.mul_le_mul_right _ (by omega)
      rw [Nat.add_mul] at h2
      omega
  rw [show ways n R a b c s r = fF (nxF n) (wtF R a b c) (k + 1) s r by rw [← hk]; rfl, fF]
  unfold wayT
  congr 1
  · by_cases hw : wtF R a b c s 0 ≤ r
    · rw [if_pos hw, if_pos hw]
      by_cases hn : nxF n s 0 = 0
      · rw [if_pos hn, if_pos hn]
      · rw [if_neg hn, if_neg hn, part 0 (by omega) hw hn]
    · rw [if_neg hw, if_neg hw]
  · by_cases hw : wtF R a b c s 1 ≤ r
    · rw [if_pos hw, if_pos hw]
      by_cases hn : nxF n s 1 = 0
      · rw [if_pos hn, if_pos hn]
      · rw [if_neg hn, if_neg hn, part 1 (by omega) hw hn]
    · rw [if_neg hw, if_neg hw]
/-- the loops of a weight -/
def loopsN (n : Nat) (R : Int) (a b c v : Nat) : Nat := wayT n R a b c 0 v 1
end
end Go.Proofs.Ytpmnbdkncmjafaa
