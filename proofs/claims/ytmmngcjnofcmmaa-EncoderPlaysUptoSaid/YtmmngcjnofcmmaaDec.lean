/- Which rows of symbols are words, and whose: of numbers alone. -/
import Derived.Test.YtmmngcjnofcmmaaRows
import Derived.Test.YtmmngcjnofcmmaaConv
namespace Go.Proofs.Ytmmngcjnofcmmaa
open Go.RowKit

section
variable {R : Int} {a b c n : Nat}
/-- how many symbols a step has -/
def rateN (R : Int) : Nat := if R = 2 then 2 else 3
theorem symK_rate (R : Int) (a b c m : Nat) : (symK R a b c m).length = rateN R := by
  by_cases h : R = 2 <;> simp [symK, rateN, h]
theorem syms_rate (R : Int) (a b c n s : Nat) (xs : List Nat) : ∀ k, (symsAt R a b c n s xs k).length = k * rateN R
  | 0 => by simp [symsAt]
  | k + 1 => by
    show (symsAt R a b c n s xs k ++ _).length = _
    rw [List.length_append, syms_rate R a b c n s xs k, symK_rate, Nat.succ_mul]
/-- only the first k bits count -/
theorem stAt_congr {xs ys : List Nat} {s : Nat} : ∀ k, (∀ i, i < k → xs.getD i 0 = ys.getD i 0) → stAt n s xs k = stAt n s ys k
  | 0, _ => rfl
  | k + 1, h => by
    show (2 * stAt n s xs k + xs.getD k 0) % 2 ^ n = (2 * stAt n s ys k + ys.getD k 0) % 2 ^ n
    rw [stAt_congr k fun i hi => h i (by omega), h k (by omega)]
theorem syms_congr {xs ys : List Nat} {s : Nat} : ∀ k, (∀ i, i < k → xs.getD i 0 = ys.getD i 0) → symsAt R a b c n s xs k = symsAt R a b c n s ys k
  | 0, _ => rfl
  | k + 1, h => by
    show symsAt R a b c n s xs k ++ symK R a b c _ = symsAt R a b c n s ys k ++ symK R a b c _
    rw [syms_congr k fun i hi => h i (by omega), stAt_congr k fun i hi => h i (by omega), h k (by omega)]
/-- the code that tells a bit: one of its generators has the term 1 -/
def Tells (R : Int) (a b c : Nat) : Prop := ∀ s, symK R a b c (2 * s) ≠ symK R a b c (2 * s + 1)
theorem outF_odd (s g : Nat) : outF (2 * s + 1) g = outF (2 * s) g ^^^ g % 2 := by
  have e : 2 * s + 1 = 2 * s ^^^ 1 := two_bit s 1 (by omega)
  have h1 : outF 1 g = g % 2 := by
    unfold outF Gf2.par
    rw [Nat.and_comm, and1, Gf2.popF_small (i := 1) (j := 32) (by omega) (by omega)]
    simp [Gf2.popF]
  rw [e, outF_xor, h1]
theorem xor_one_ne (x : Nat) : x ≠ x ^^^ 1 := fun h => by
  have := congrArg (fun y => x ^^^ y) h
  simp only [Nat.xor_self, ← Nat.xor_assoc, Nat.zero_xor] at this
  omega
theorem tells_of (h : a % 2 = 1 ∨ b % 2 = 1 ∨ (R ≠ 2 ∧ c % 2 = 1)) : Tells R a b c := fun s e => by
  by_cases hR : R = 2
  · simp only [symK, if_pos hR, List.cons.injEq, and_true, outF_odd] at e
    rcases h with h | h | ⟨h, _⟩
    · rw [h] at e; exact xor_one_ne _ e.1
    · rw [h] at e; exact xor_one_ne _ e.2
    · exact h hR
  · simp only [symK, if_neg hR, List.cons.injEq, and_true, outF_odd] at e
    rcases h with h | h | ⟨_, h⟩
    · rw [h] at e; exact xor_one_ne _ e.1
    · rw [h] at e; exact xor_one_ne _ e.2.1
    · rw [h] at e; exact xor_one_ne _ e.2.2
theorem symK_inj (h : Tells R a b c) {s x y : Nat} (hx : x ≤ 1) (hy : y ≤ 1) (e : symK R a b c (2 * s + x) = symK R a b c (2 * s + y)) : x = y := by
  have := h s
  have h1 : x = 0 ∨ x = 1 := by omega
  have h2 : y = 0 ∨ y = 1 := by omega
  rcases h1 with rfl | rfl <;> rcases h2 with rfl | rfl
  · rfl
  · exact absurd e this
  · exact absurd e.symm this
  · rfl
theorem syms_inj (h : Tells R a b c) {xs ys : List Nat} {s : Nat} (hx : ∀ i, xs.getD i 0 ≤ 1) (hy : ∀ i, ys.getD i 0 ≤ 1) : ∀ k, symsAt R a b c n s xs k = symsAt R a b c n s ys k → ∀ i, i < k → xs.getD i 0 = ys.getD i 0
  | 0, _ => fun i hi => absurd hi (by omega)
  | k + 1, e => by
    have e' : symsAt R a b c n s xs k ++ symK R a b c _ = symsAt R a b c n s ys k ++ symK R a b c _ := e
    obtain ⟨e1, e2⟩ := List.append_inj e' (by rw [syms_rate, syms_rate])
    have ih := syms_inj h hx hy k e1
    rw [stAt_congr k ih] at e2
    have hk := symK_inj h (hx k) (hy k) e2
    intro i hi
    by_cases hik : i = k
    · rw [hik]; exact hk
    · exact ih i (by omega)
theorem syms_take {xs : List Nat} {s : Nat} : ∀ d k, (symsAt R a b c n s xs (k + d)).take (k * rateN R) = symsAt R a b c n s xs k
  | 0, k => by rw [Nat.add_zero, List.take_of_length_le (by rw [syms_rate]; exact Nat.le_refl _)]
  | d + 1, k => by
    show (symsAt R a b c n s xs (k + d) ++ symK R a b c _).take _ = _
    rw [List.take_append_of_le_length (by rw [syms_rate]; exact Nat.mul_le_mul_right _ (by omega)), syms_take d k]
/-- step k of a row of symbols -/
def blockAt (R : Int) (S : List Nat) (k : Nat) : List Nat := (S.drop (k * rateN R)).take (rateN R)
theorem syms_block {xs : List Nat} {s k d : Nat} (hk : k < d) : blockAt R (symsAt R a b c n s xs d) k = symK R a b c (2 * stAt n s xs k + xs.getD k 0) := by
  have h1 := syms_take (R := R) (a := a) (b := b) (c := c) (n := n) (xs := xs) (s := s) (d - (k + 1)) (k + 1)
  rw [show k + 1 + (d - (k + 1)) = d by omega] at h1
  have h2 : symsAt R a b c n s xs (k + 1) = symsAt R a b c n s xs k ++ symK R a b c (2 * stAt n s xs k + xs.getD k 0) := rfl
  unfold blockAt
  have h3 : ((symsAt R a b c n s xs d).take ((k + 1) * rateN R)).drop (k * rateN R) = symK R a b c (2 * stAt n s xs k + xs.getD k 0) := by
    rw [h1, h2, List.drop_append_of_le_length (by rw [syms_rate]; exact Nat.le_refl _), List.drop_of_length_le (by rw [syms_rate]; exact Nat.le_refl _), List.nil_append]
  rw [← h3, List.drop_take, Nat.succ_mul, Nat.add_sub_cancel_left]
/-- a complete word -/
def wordF (R : Int) (a b c n : Nat) (xs : List Nat) : List Nat := symsAt R a b c n 0 xs (xs.length + n)
/-- xs is the message of S -/
def IsMsg (R : Int) (a b c n : Nat) (S xs : List Nat) : Prop := (∀ i, xs.getD i 0 ≤ 1) ∧ wordF R a b c n xs = S
theorem rateN_pos (R : Int) : 0 < rateN R := by unfold rateN; split <;> omega
theorem IsMsg.len {S xs : List Nat} (h : IsMsg R a b c n S xs) : S.length = (xs.length + n) * rateN R := by
  rw [← h.2, wordF, syms_rate]
theorem getD_far' {l : List Nat} {i : Nat} (h : l.length ≤ i) : l.getD i 0 = 0 := by simp [List.getD, h]
theorem getD_ext {xs ys : List Nat} (hl : xs.length = ys.length) (h : ∀ i, i < xs.length → xs.getD i 0 = ys.getD i 0) : xs = ys := by
  apply List.ext_getElem hl
  intro i h1 h2
  have := h i h1
  simpa [List.getD, h1, h2] using this
theorem IsMsg.unique (ht : Tells R a b c) {S xs ys : List Nat} (h : IsMsg R a b c n S xs) (h' : IsMsg R a b c n S ys) : xs = ys := by
  have hl : xs.length = ys.length := by
    have e := h.len.symm.trans h'.len
    have := Nat.eq_of_mul_eq_mul_right (rateN_pos R) e
    omega
  have e : symsAt R a b c n 0 xs (xs.length + n) = symsAt R a b c n 0 ys (xs.length + n) := by
    have h1 := h.2
    have h2 := h'.2
    unfold wordF at h1 h2
    rw [hl] at h1 ⊢
    rw [h1, h2]
  exact getD_ext hl fun i hi => syms_inj ht h.1 h'.1 _ e i (by omega)
/-- the first k bits of the decoder -/
structure DecR (R : Int) (a b c n m : Nat) (S : List Nat) (k : Nat) (bs : List Nat) : Prop where
  len : bs.length = k
  bit : ∀ i, bs.getD i 0 ≤ 1
  sym : symsAt R a b c n 0 bs k = S.take (k * rateN R)
  tail : ∀ i, m ≤ i → bs.getD i 0 = 0
theorem DecR.start (R : Int) (a b c n m : Nat) (S : List Nat) : DecR R a b c n m S 0 [] := ⟨rfl, fun i => by simp, by simp [symsAt], fun i _ => by simp⟩
theorem getD_snoc (bs : List Nat) (x i : Nat) : (bs ++ [x]).getD i 0 = if i < bs.length then bs.getD i 0 else if i = bs.length then x else 0 := by
  simp only [List.getD]
  rcases Nat.lt_trichotomy i bs.length with h | h | h
  · rw [if_pos h, List.getElem?_append_left h]
  · subst h; simp
  · rw [if_neg (by omega), if_neg (by omega), List.getElem?_eq_none (by simp; omega)]; rfl
theorem DecR.next {m k x : Nat} {S bs : List Nat} (h : DecR R a b c n m S k bs) (hx : x ≤ 1) (hm : k < m ∨ x = 0) (hb : symK R a b c (2 * stAt n 0 bs k + x) = blockAt R S k) : DecR R a b c n m S (k + 1) (bs ++ [x]) := by
  have hk : ∀ i, i < k → (bs ++ [x]).getD i 0 = bs.getD i 0 := fun i hi => by rw [getD_snoc, h.len, if_pos hi]
  have hx2 : (bs ++ [x]).getD k 0 = x := by rw [getD_snoc, h.len, if_neg (by omega), if_pos rfl]
  refine ⟨by simp [h.len], fun i => ?_, ?_, fun i hi => ?_⟩
  · rw [getD_snoc]
    have := h.bit i
    split
    · exact this
    · split <;> omega
  · show symsAt R a b c n 0 (bs ++ [x]) k ++ symK R a b c (2 * stAt n 0 (bs ++ [x]) k + (bs ++ [x]).getD k 0) = _
    rw [syms_congr k hk, stAt_congr k hk, hx2, h.sym, hb, Nat.succ_mul, List.take_add]
    rfl
  · rw [getD_snoc, h.len]
    split
    · exact h.tail i hi
    · split
      · rcases hm with hm | hm <;> omega
      · rfl
theorem DecR.fail (ht : Tells R a b c) {m k : Nat} {S bs : List Nat} (h : DecR R a b c n m S k bs) (hk : k < m + n) (h0 : symK R a b c (2 * stAt n 0 bs k) ≠ blockAt R S k) (h1 : symK R a b c (2 * stAt n 0 bs k + 1) ≠ blockAt R S k ∨ m ≤ k)
    {xs : List Nat} (hl : xs.length = m) : ¬ IsMsg R a b c n S xs := fun hm => by
  have e1 : symsAt R a b c n 0 xs (k + (m + n - k)) = S := by rw [show k + (m + n - k) = m + n by omega, ← hl]; exact hm.2
  have e2 := syms_take (R := R) (a := a) (b := b) (c := c) (n := n) (xs := xs) (s := 0) (m + n - k) k
  rw [e1, ← h.sym] at e2
  have hc := syms_inj ht h.bit hm.1 k e2
  have e3 := syms_block (R := R) (a := a) (b := b) (c := c) (n := n) (xs := xs) (s := 0) (k := k) (d := m + n) hk
  rw [show k + (m + n - k) = m + n by omega] at e1
  rw [e1, ← stAt_congr k hc] at e3
  have hb := hm.1 k
  have : xs.getD k 0 = 0 ∨ xs.getD k 0 = 1 := by omega
  rcases this with hz | ho
  · rw [hz] at e3; exact h0 e3.symm
  · rw [ho] at e3
    rcases h1 with h1 | h1
    · exact h1 e3.symm
    · rw [show xs.getD k 0 = 0 from getD_far' (by omega)] at ho; omega
theorem DecR.done {m : Nat} {S bs : List Nat} (h : DecR R a b c n m S (m + n) bs) (hS : S.length = (m + n) * rateN R) : IsMsg R a b c n S (bs.take m) ∧ (bs.take m).length = m := by
  have hg : ∀ i, (bs.take m).getD i 0 = bs.getD i 0 := fun i => by
    rcases Nat.lt_or_ge i m with hi | hi
    · simp [List.getD, hi]
    · rw [h.tail i hi]; exact getD_far' (by rw [List.length_take]; omega)
  have hl : (bs.take m).length = m := by rw [List.length_take, h.len]; omega
  refine ⟨⟨fun i => by rw [hg]; exact h.bit i, ?_⟩, hl⟩
  unfold wordF
  rw [hl, syms_congr (m + n) fun i _ => hg i, h.sym, List.take_of_length_le (by omega)]
end
end Go.Proofs.Ytmmngcjnofcmmaa
