/- A row of bits times a generator: term by term. Of numbers alone. -/
import Derived.Test.YtmmngcjnofcmmaaRows
import Derived.Test.YtmmngcjnofcmmaaConv
namespace Go.Proofs.Ytmmngcjnofcmmaa
open Go.RowKit

/-- the product, whole -/
def prodL (g n : Nat) (xs : List Nat) : List Nat := (List.range (xs.length + n)).map fun p => symP g xs p (n + 1)
theorem prodL_length (g n : Nat) (xs : List Nat) : (prodL g n xs).length = xs.length + n := by simp [prodL]
theorem symP_nil (g t : Nat) : ∀ m, symP g [] t m = 0
  | 0 => rfl
  | m + 1 => by
    show symP g [] t m ^^^ (if g / 2 ^ m % 2 = 1 then backAt [] t m else 0) = 0
    rw [symP_nil g t m]
    simp [backAt]
theorem take_next {xs : List Nat} {k i : Nat} (hk : k < xs.length) : (xs.take (k + 1)).getD i 0 = if i = k then xs.getD k 0 else (xs.take k).getD i 0 := by
  simp only [List.getD_eq_getElem?_getD, List.getElem?_take]
  by_cases h : i = k
  · subst h; simp
  · by_cases h2 : i < k
    · rw [if_neg h, if_pos (by omega), if_pos h2]
    · rw [if_neg h, if_neg (by omega), if_neg h2]
theorem back_next {xs : List Nat} {k t j : Nat} (hk : k < xs.length) : backAt (xs.take (k + 1)) t j = backAt (xs.take k) t j ^^^ (if k ≤ t ∧ t = k + j then xs.getD k 0 else 0) := by
  unfold backAt
  by_cases h : j ≤ t
  · rw [if_pos h, if_pos h, take_next hk]
    by_cases e : t - j = k
    · rw [if_pos e, if_pos ⟨by omega, by omega⟩]
      have : (xs.take k).getD (t - j) 0 = 0 := by
        rw [List.getD_eq_getElem?_getD, List.getElem?_eq_none (by rw [List.length_take]; omega)]; rfl
      rw [this, Nat.zero_xor]
    · rw [if_neg e, if_neg (by omega), Nat.xor_zero]
  · rw [if_neg h, if_neg h, if_neg (by omega), Nat.xor_zero]
/-- one bit more of the row, the first m terms of the generator -/
theorem symP_next {xs : List Nat} {g k t : Nat} (hk : k < xs.length) : ∀ m, symP g (xs.take (k + 1)) t m = symP g (xs.take k) t m ^^^ (if k ≤ t ∧ t < k + m ∧ g / 2 ^ (t - k) % 2 = 1 then xs.getD k 0 else 0)
  | 0 => by rw [if_neg (by omega), Nat.xor_zero]; rfl
  | m + 1 => by
    show symP g (xs.take (k + 1)) t m ^^^ (if g / 2 ^ m % 2 = 1 then backAt (xs.take (k + 1)) t m else 0) = (symP g (xs.take k) t m ^^^ (if g / 2 ^ m % 2 = 1 then backAt (xs.take k) t m else 0)) ^^^ _
    rw [symP_next hk m, back_next hk]
    by_cases hm : t = k + m
    · have e : t - k = m := by omega
      rw [e, if_neg (by omega)]
      by_cases hb : g / 2 ^ m % 2 = 1
      · rw [if_pos hb, if_pos hb, if_pos ⟨by omega, hm⟩, if_pos ⟨by omega, by omega, hb⟩, Nat.xor_zero, Nat.xor_assoc]
      · rw [if_neg hb, if_neg hb, if_neg (by omega)]
    · have hc : ∀ y : Nat, (if k ≤ t ∧ t < k + (m + 1) ∧ g / 2 ^ (t - k) % 2 = 1 then y else 0) = (if k ≤ t ∧ t < k + m ∧ g / 2 ^ (t - k) % 2 = 1 then y else 0) := fun y => by
        by_cases h2 : k ≤ t ∧ t < k + m ∧ g / 2 ^ (t - k) % 2 = 1
        · rw [if_pos h2, if_pos ⟨h2.1, by omega, h2.2.2⟩]
        · rw [if_neg h2, if_neg (fun h3 => h2 ⟨h3.1, by omega, h3.2.2⟩)]
      rw [hc, if_neg (c := k ≤ t ∧ t = k + m) (fun h => hm h.2), Nat.xor_zero, Nat.xor_assoc, Nat.xor_assoc]
      congr 1
      exact Nat.xor_comm _ _
/-- the product as it stands when k bits are done, and of the next one j terms -/
def prodF (g n : Nat) (xs : List Nat) (k j p : Nat) : Nat := symP g (xs.take k) p (n + 1) ^^^ (if k ≤ p ∧ p < k + j ∧ g / 2 ^ (p - k) % 2 = 1 then xs.getD k 0 else 0)
def prodK (g n : Nat) (xs : List Nat) (k j : Nat) : List Nat := (List.range (xs.length + n)).map (prodF g n xs k j)
theorem prodK_length (g n : Nat) (xs : List Nat) (k j : Nat) : (prodK g n xs k j).length = xs.length + n := by simp [prodK]
theorem prodK_start (g n : Nat) (xs : List Nat) : prodK g n xs 0 0 = List.replicate (xs.length + n) 0 := by
  refine List.ext_getElem (by simp [prodK]) fun i h1 h2 => ?_
  simp [prodK, prodF, symP_nil]
theorem prodK_next {g n : Nat} {xs : List Nat} {k : Nat} (hk : k < xs.length) : prodK g n xs k (n + 1) = prodK g n xs (k + 1) 0 := by
  unfold prodK
  refine List.map_congr_left fun p _ => ?_
  unfold prodF
  rw [symP_next hk, if_neg (c := k + 1 ≤ p ∧ p < k + 1 + 0 ∧ g / 2 ^ (p - (k + 1)) % 2 = 1) (by omega), Nat.xor_zero]
theorem prodK_done (g n : Nat) (xs : List Nat) : prodK g n xs xs.length 0 = prodL g n xs := by
  unfold prodK prodL
  refine List.map_congr_left fun p _ => ?_
  unfold prodF
  rw [List.take_length, if_neg (by omega), Nat.xor_zero]
theorem prodK_at {g n : Nat} {xs : List Nat} {k j p : Nat} (hp : p < xs.length + n) : (prodK g n xs k j).getD p 0 = prodF g n xs k j p := by simp [prodK, List.getD, hp]
theorem prodF_le {g n : Nat} {xs : List Nat} (hx : ∀ i, xs.getD i 0 ≤ 1) (k j p : Nat) : prodF g n xs k j p ≤ 1 := by
  have hx1 : ∀ a b : Nat, a ≤ 1 → b ≤ 1 → a ^^^ b ≤ 1 := fun a b ha hb => by
    have h1 : a = 0 ∨ a = 1 := by omega
    have h2 : b = 0 ∨ b = 1 := by omega
    rcases h1 with rfl | rfl <;> rcases h2 with rfl | rfl <;> decide
  have ht : ∀ i, (xs.take k).getD i 0 ≤ 1 := fun i => by
    rw [List.getD_eq_getElem?_getD, List.getElem?_take]
    split
    · rw [← List.getD_eq_getElem?_getD]; exact hx i
    · simp
  have hs : ∀ m, symP g (xs.take k) p m ≤ 1 := fun m => by
    induction m with
    | zero => show (0 : Nat) ≤ 1; omega
    | succ m ih =>
      refine hx1 _ _ ih ?_
      split
      · unfold backAt; split
        · exact ht _
        · omega
      · omega
  unfold prodF
  refine hx1 _ _ (hs _) ?_
  split
  · exact hx k
  · omega
/-- a term more -/
theorem prodK_yes {g n : Nat} {xs : List Nat} {k j : Nat} (hk : k < xs.length) (hj : j ≤ n) (hb : g / 2 ^ j % 2 = 1) : (prodK g n xs k j).set (k + j) ((prodK g n xs k j).getD (k + j) 0 ^^^ xs.getD k 0) = prodK g n xs k (j + 1) := by
  rw [prodK_at (by omega)]
  refine List.ext_getElem (by simp [prodK]) fun i h1 h2 => ?_
  rw [List.getElem_set]
  have hi : i < xs.length + n := by simpa [prodK] using h2
  simp only [prodK, List.getElem_map, List.getElem_range]
  unfold prodF
  by_cases e : k + j = i
  · subst e
    rw [if_pos rfl, if_neg (c := k ≤ k + j ∧ k + j < k + j ∧ g / 2 ^ (k + j - k) % 2 = 1) (by omega), if_pos ⟨by omega, by omega, by rw [Nat.add_sub_cancel_left]; exact hb⟩, Nat.xor_zero]
  · rw [if_neg e]
    congr 1
    by_cases h3 : k ≤ i ∧ i < k + j ∧ g / 2 ^ (i - k) % 2 = 1
    · rw [if_pos h3, if_pos ⟨h3.1, by omega, h3.2.2⟩]
    · rw [if_neg h3, if_neg (by omega)]
theorem prodK_no {g n : Nat} {xs : List Nat} {k j : Nat} (hb : g / 2 ^ j % 2 = 0) : prodK g n xs k (j + 1) = prodK g n xs k j := by
  unfold prodK
  refine List.map_congr_left fun p _ => ?_
  unfold prodF
  congr 1
  by_cases e : p = k + j
  · subst e
    rw [if_neg (by rw [Nat.add_sub_cancel_left]; omega), if_neg (by omega)]
  · by_cases h3 : k ≤ p ∧ p < k + j ∧ g / 2 ^ (p - k) % 2 = 1
    · rw [if_pos h3, if_pos ⟨h3.1, by omega, h3.2.2⟩]
    · rw [if_neg h3, if_neg (by omega)]
end Go.Proofs.Ytmmngcjnofcmmaa
