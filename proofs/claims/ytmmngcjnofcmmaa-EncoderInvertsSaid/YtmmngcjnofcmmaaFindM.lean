/- The document's way back from a word to its message: of numbers alone. -/
import Derived.Test.YtmmngcjnofcmmaaRows
import Derived.Test.YtmmngcjnofcmmaaR6Sym
import Derived.Test.YtmmngcjnofcmmaaInvert
namespace Go.Proofs.Ytmmngcjnofcmmaa
open Go.RowKit

section
variable {a b c n f r : Nat} {xs ys bs S : List Nat}
theorem back_take (t j : Nat) : backAt (xs.take (t + 1)) t j = backAt xs t j := by
  unfold backAt
  split
  · rw [List.getD_eq_getElem?_getD, List.getElem?_take, if_pos (by omega), ← List.getD_eq_getElem?_getD]
  · rfl
theorem symP_take (g t : Nat) : ∀ m, symP g (xs.take (t + 1)) t m = symP g xs t m
  | 0 => rfl
  | m + 1 => by
    show symP g (xs.take (t + 1)) t m ^^^ (if g / 2 ^ m % 2 = 1 then backAt (xs.take (t + 1)) t m else 0) = symP g xs t m ^^^ (if g / 2 ^ m % 2 = 1 then backAt xs t m else 0)
    rw [symP_take g t m, back_take]
/-- of an odd generator: the newest bit goes in as it is -/
theorem symP_split {g t m : Nat} (hg : g % 2 = 1) (ht : t < xs.length) : symP g xs t (m + 1) = symP g (xs.take t) t (m + 1) ^^^ xs.getD t 0 := by
  have h := symP_next (xs := xs) (g := g) (t := t) ht (m + 1)
  rw [symP_take] at h
  rw [h, if_pos ⟨Nat.le_refl _, by omega, by rw [Nat.sub_self, Nat.pow_zero, Nat.div_one]; exact hg⟩]
theorem symP_zero {g t m : Nat} (ht : bs.length = t) : symP g (bs ++ [0]) t (m + 1) = symP g bs t (m + 1) := by
  have h := symP_next (xs := bs ++ [0]) (g := g) (k := t) (t := t) (by simp; omega) (m + 1)
  rw [symP_take] at h
  have e1 : (bs ++ [0]).take t = bs := by rw [← ht, List.take_left']; rfl
  have e2 : (bs ++ [0]).getD t 0 = 0 := by rw [← ht]; simp [List.getD]
  rw [h, e1, e2]
  simp
/-- bits that the way back gives -/
def FindR (g n f r : Nat) (S bs : List Nat) : Prop := ∀ t, t < bs.length → bs.getD t 0 = symP g (bs.take t) t (n + 1) ^^^ S.getD (t * r + f) 0
theorem FindR.nil (g n f r : Nat) (S : List Nat) : FindR g n f r S [] := fun t ht => by simp at ht
theorem FindR.next {g : Nat} (h : FindR g n f r S bs) : FindR g n f r S (bs ++ [symP g bs bs.length (n + 1) ^^^ S.getD (bs.length * r + f) 0]) := fun t ht => by
  rw [List.length_append, List.length_singleton] at ht
  by_cases e : t < bs.length
  · have e1 : (bs ++ [symP g bs bs.length (n + 1) ^^^ S.getD (bs.length * r + f) 0]).take t = bs.take t := List.take_append_of_le_length (by omega)
    rw [e1, ← h t e]
    simp [List.getD, List.getElem?_append_left e]
  · obtain rfl : t = bs.length := by omega
    rw [List.take_left']
    · simp [List.getD]
    · rfl
theorem FindR.msg {g m : Nat} (h : FindR g n f r S bs) (hg : g % 2 = 1) (hy : ∀ t, t < ys.length → S.getD (t * r + f) 0 = symP g ys t (n + 1)) (hb : bs.length = m) (hm : ys.length = m) : bs = ys := by
  have key : ∀ t, t ≤ m → bs.take t = ys.take t := fun t => by
    induction t with
    | zero => intro _; simp
    | succ t ih =>
      intro ht
      have ih := ih (by omega)
      have h1 := h t (by omega)
      rw [hy t (by omega), symP_split (xs := ys) hg (by omega), ih, ← Nat.xor_assoc, Nat.xor_self, Nat.zero_xor] at h1
      rw [List.take_add_one, List.take_add_one, ih]
      congr 1
      rw [List.getElem?_eq_getElem (by omega), List.getElem?_eq_getElem (by omega)]
      have e1 : bs.getD t 0 = bs[t]'(by omega) := by simp [List.getD, show t < bs.length by omega]
      have e2 : ys.getD t 0 = ys[t]'(by omega) := by simp [List.getD, show t < ys.length by omega]
      rw [← e1, ← e2, h1]
  have := key m (Nat.le_refl _)
  rwa [← hb, List.take_length, hb, ← hm, List.take_length] at this
/-- the first generator that is odd -/
theorem first_odd (hr : r = 2 ∨ r = 3) (hck : checkF (n + 1) r a b c = 0) : ∃ f, f < r ∧ genN a b c f % 2 = 1 ∧ ∀ i, i < f → genN a b c i % 2 = 0 := by
  obtain ⟨_, _, ho, _⟩ := checkF_zero hck
  have om : ∀ x y : Nat, (x ||| y) % 2 = 0 ↔ x % 2 = 0 ∧ y % 2 = 0 := fun x y => by
    have := Nat.or_mod_two_pow (a := x) (b := y) (n := 1)
    simp only [Nat.pow_one] at this
    rw [this]
    have h1 : x % 2 = 0 ∨ x % 2 = 1 := by omega
    have h2 : y % 2 = 0 ∨ y % 2 = 1 := by omega
    rcases h1 with h1 | h1 <;> rcases h2 with h2 | h2 <;> rw [h1, h2] <;> decide
  by_cases ha : a % 2 = 1
  · exact ⟨0, by omega, ha, fun i hi => absurd hi (by omega)⟩
  · by_cases hb : b % 2 = 1
    · exact ⟨1, by omega, hb, fun i hi => by obtain rfl : i = 0 := by omega
                                             show a % 2 = 0; omega⟩
    · rcases hr with rfl | rfl
      · exfalso; apply ho
        show (0 ||| a ||| b) % 2 = 0
        rw [om, om]; omega
      · refine ⟨2, by omega, ?_, fun i hi => ?_⟩
        · show c % 2 = 1
          by_cases hc : c % 2 = 1
          · exact hc
          · exfalso; apply ho
            show (0 ||| a ||| b ||| c) % 2 = 0
            rw [om, om, om]; omega
        · have : i = 0 ∨ i = 1 := by omega
          rcases this with rfl | rfl
          · show a % 2 = 0; omega
          · show b % 2 = 0; omega
theorem FindR.bits {g : Nat} (h : FindR g n f r S bs) (hS : Bits S) : ∀ t, bs.getD t 0 ≤ 1 := fun t => by
  induction t using Nat.strongRecOn with
  | ind t ih =>
    by_cases ht : t < bs.length
    · rw [h t ht]
      refine xor_le1 (symP_le (fun i => ?_) _) (hS.all _)
      rw [List.getD_eq_getElem?_getD, List.getElem?_take]
      split
      · rw [← List.getD_eq_getElem?_getD]; exact ih i (by assumption)
      · simp
    · rw [getD_far' (by omega)]; omega
/-- what the way back gives is the message, if there is one -/
theorem FindR.has {m : Nat} (hr : r = 2 ∨ r = 3) (hn : n ≤ 31) (hck : checkF (n + 1) r a b c = 0) (hf : f < r) (hodd : genN a b c f % 2 = 1) (hS : Bits S) (hl : S.length = (m + n) * r) (hb : bs.length = m) (h : FindR (genN a b c f) n f r S bs) :
    (wordF r a b c n bs = S → IsMsg r a b c n S bs) ∧ (∀ ys, IsMsg r a b c n S ys → bs = ys ∧ wordF r a b c n bs = S) := by
  have hrate : rateN r = r := by rcases hr with rfl | rfl <;> rfl
  refine ⟨fun e => ⟨h.bits hS, e⟩, fun ys hy => ?_⟩
  have hyl := hy.len
  rw [hrate, hl] at hyl
  have hym : ys.length = m := by
    have := Nat.eq_of_mul_eq_mul_right (show 0 < r by omega) hyl
    omega
  have e : bs = ys := h.msg hodd (fun t ht => by
    rw [← hy.2]
    have := word_at (R := r) hck hn (fun i _ => hy.1 i) (i := f) (t := t) (by rw [hrate]; exact hf) (by omega)
    rwa [hrate] at this) hb hym
  exact ⟨e, by rw [e]; exact hy.2⟩
end
end Go.Proofs.Ytmmngcjnofcmmaa
