/- The equations of a row of bits; the greedy choice of coefficients is the least answer. Nothing of Go stands here. -/
import Derived.Test.YtknkkoemghceeaaDoorSolvM
namespace Gf2
namespace BM

theorem bt_or (x y i : Nat) : bt (x ||| y) i = max (bt x i) (bt y i) := by
  have h := Nat.testBit_or x y i
  rw [bt_test, bt_test, bt_test] at h
  have h1 := bt_le x i; have h2 := bt_le y i; have h3 := bt_le (x ||| y) i
  by_cases a : bt x i = 1 <;> by_cases b : bt y i = 1 <;> simp [a, b] at h <;> omega
theorem bt_shift (x m i : Nat) : bt (x * 2 ^ m) i = if m ≤ i then bt x (i - m) else 0 := by
  have h : (x * 2 ^ m).testBit i = (decide (m ≤ i) && x.testBit (i - m)) := by rw [Nat.testBit_mul_two_pow]
  rw [bt_test, bt_test] at h
  have h1 := bt_le (x * 2 ^ m) i; have h2 := bt_le x (i - m)
  by_cases a : m ≤ i
  · rw [if_pos a]
    rw [show decide (m ≤ i) = true by simpa using a, Bool.true_and] at h
    have := decide_eq_decide.1 h
    omega
  · rw [if_neg a]
    rw [show decide (m ≤ i) = false by simpa using a, Bool.false_and] at h
    have := of_decide_eq_false h
    omega
theorem bt_bit {x : Nat} (h : x ≤ 1) (i : Nat) : bt x i = if i = 0 then x else 0 := by
  rcases i with _ | i
  · rw [bt_zero, if_pos rfl]; omega
  · rw [if_neg (by omega)]; exact bt_lt (n := 1) (by omega) (by omega)
theorem or_xor {x p : Nat} (h : bt x p = 0) : x ||| 2 ^ p = x ^^^ 2 ^ p := bt_ext fun i => by
  rw [bt_or, bt_xor, bt_pow]
  have := bt_le x i
  by_cases e : i = p
  · subst e; rw [h, if_pos rfl]; rfl
  · rw [if_neg e]; omega
theorem pow_or_one {p : Nat} (hp : 1 ≤ p) : 2 ^ p ||| 1 = 2 ^ p ^^^ 1 := by
  have := or_xor (x := 2 ^ p) (p := 0) (by rw [bt_pow, if_neg (by omega)])
  rwa [Nat.pow_zero] at this
/-- the equation of bit k, its first m coefficients -/
def rowAt (xs : List Nat) (k : Nat) : Nat → Nat
  | 0 => 0
  | m + 1 => rowAt xs k m ||| xs.getD (k - m) 0 * 2 ^ m
theorem rowAt_bit {xs : List Nat} (hx : ∀ i, xs.getD i 0 ≤ 1) (k : Nat) : ∀ m i, bt (rowAt xs k m) i = if i < m then xs.getD (k - i) 0 else 0
  | 0, i => by simp [rowAt, bt]
  | m + 1, i => by
    rw [rowAt, bt_or, rowAt_bit hx k m i, bt_shift, bt_bit (hx _)]
    rcases Nat.lt_trichotomy i m with h | h | h
    · rw [if_pos h, if_neg (by omega), if_pos (by omega)]; omega
    · subst h; rw [if_neg (by omega), if_pos (by omega), if_pos (by omega), if_pos (by omega)]; omega
    · rw [if_neg (by omega), if_pos (by omega), if_neg (by omega), if_neg (by omega)]; rfl
theorem rowAt_lt {xs : List Nat} (hx : ∀ i, xs.getD i 0 ≤ 1) (k m : Nat) : rowAt xs k m < 2 ^ m :=
  Nat.lt_pow_two_of_testBit _ fun i hi => by rw [bt_test, rowAt_bit hx, if_neg (by omega)]; rfl
theorem sumF_cut {f : Nat → Nat} {m : Nat} (h : ∀ i, m ≤ i → f i = 0) : ∀ d, sumF f (m + d) = sumF f m
  | 0 => rfl
  | d + 1 => by show sumF f (m + d) + f (m + d) = _; rw [sumF_cut h d, h _ (by omega)]; rfl
theorem dot_row {xs : List Nat} (hx : ∀ i, xs.getD i 0 ≤ 1) {k L c : Nat} (hk : L ≤ k) (hL : L < 64) (hc : c < 2 ^ (L + 1)) : dot (rowAt xs k (L + 1)) c = (dsc (rowN xs) c k).toNat := by
  rw [← part_done hc, part_sum (L + 1) (by omega)]
  unfold dot
  have e : 64 = (L + 1) + (63 - L) := by omega
  rw [e, sumF_cut (m := L + 1) fun i hi => by rw [rowAt_bit hx, if_neg (by omega)]; simp]
  congr 1
  refine sumF_congr _ fun i hi => ?_
  rw [rowAt_bit hx, if_pos hi, rowN_at hx]
  show _ * (c / 2 ^ i % 2) = _
  rw [Nat.mul_comm]
/-- the equations of length L -/
def rowsL (xs : List Nat) (L : Nat) : List Nat := (List.range (xs.length - L)).map fun j => rowAt xs (L + j) (L + 1)
theorem rowsL_length (xs : List Nat) (L : Nat) : (rowsL xs L).length = xs.length - L := by simp [rowsL]
theorem rowsL_at (xs : List Nat) {L j : Nat} (h : j < xs.length - L) : (rowsL xs L).getD j 0 = rowAt xs (L + j) (L + 1) := by simp [rowsL, List.getD_eq_getElem?_getD, h]
theorem rowsL_lt {xs : List Nat} (hx : ∀ i, xs.getD i 0 ≤ 1) (L : Nat) : ∀ j, j < (rowsL xs L).length → (rowsL xs L).getD j 0 < 2 ^ (L + 1) := fun j hj => by
  rw [rowsL_length] at hj
  rw [rowsL_at xs hj]; exact rowAt_lt hx _ _
theorem met_rows {xs : List Nat} (hx : ∀ i, xs.getD i 0 ≤ 1) {L c : Nat} (hL : L < 64) (h1 : c % 2 = 1) (hc : c < 2 ^ (L + 1)) : Met (rowsL xs L) c ↔ Fits (rowN xs) xs.length L c := by
  constructor
  · intro h
    refine ⟨h1, hc, fun k a b => ?_⟩
    have := h (k - L) (by rw [rowsL_length]; omega)
    rw [rowsL_at xs (by omega), show L + (k - L) = k by omega, dot_row hx a hL hc] at this
    cases h2 : dsc (rowN xs) c k
    · rfl
    · rw [h2] at this; simp at this
  · rintro ⟨_, _, h⟩ j hj
    rw [rowsL_length] at hj
    rw [rowsL_at xs hj, dot_row hx (by omega) hL hc, h (L + j) (by omega) (by omega)]
    rfl
/-- can the equations be met? -/
def Sv (L : Nat) (l : List Nat) : Prop := ∃ c, c % 2 = 1 ∧ c < 2 ^ (L + 1) ∧ Met l c
theorem sv_rows {xs : List Nat} (hx : ∀ i, xs.getD i 0 ≤ 1) {L : Nat} (hL : L < 64) : Sv L (rowsL xs L) ↔ ∃ c, Fits (rowN xs) xs.length L c := by
  constructor
  · rintro ⟨c, h1, h2, h3⟩; exact ⟨c, (met_rows hx hL h1 h2).1 h3⟩
  · rintro ⟨c, hf⟩; exact ⟨c, hf.1, hf.2.1, (met_rows hx hL hf.1 hf.2.1).2 hf⟩
/-- no length below the shortest one serves, it does -/
theorem sv_run {xs : List Nat} (hx : ∀ i, xs.getD i 0 ≤ 1) {L : Nat} (hL : L < 64) : (Sv L (rowsL xs L) → (run (rowN xs) xs.length).L ≤ L) ∧ (L = (run (rowN xs) xs.length).L → Sv L (rowsL xs L)) := by
  rw [sv_rows hx hL]
  exact ⟨fun ⟨c, h⟩ => run_min _ _ _ _ h, fun e => ⟨_, e ▸ run_fits _ _⟩⟩
theorem met_app {l : List Nat} {r c : Nat} : Met (l ++ [r]) c ↔ Met l c ∧ dot r c = 0 := by
  unfold Met
  constructor
  · intro h
    refine ⟨fun j hj => ?_, ?_⟩
    · have := h j (by rw [List.length_append]; omega)
      rwa [List.getD_eq_getElem?_getD, List.getElem?_append_left hj, ← List.getD_eq_getElem?_getD] at this
    · have := h l.length (by rw [List.length_append]; simp)
      rwa [List.getD_eq_getElem?_getD, List.getElem?_append_right (Nat.le_refl _), Nat.sub_self] at this
  · rintro ⟨h1, h2⟩ j hj
    rw [List.length_append, List.length_singleton] at hj
    by_cases e : j < l.length
    · rw [List.getD_eq_getElem?_getD, List.getElem?_append_left e, ← List.getD_eq_getElem?_getD]; exact h1 j e
    · obtain rfl : j = l.length := by omega
      rw [List.getD_eq_getElem?_getD, List.getElem?_append_right (Nat.le_refl _), Nat.sub_self]; exact h2
/-- the greedy choice, the coefficients above i chosen -/
structure Grd (L : Nat) (rows l : List Nat) (c i : Nat) : Prop where
  odd : c % 2 = 1
  lt : c < 2 ^ (L + 1)
  low : ∀ j, 1 ≤ j → j ≤ i → bt c j = 0
  met : ∀ c', c' % 2 = 1 → (Met l c' ↔ Met rows c' ∧ ∀ j, i < j → j ≤ L → bt c' j = bt c j)
  ex : Sv L l
  bnd : ∀ j, j < l.length → l.getD j 0 < 2 ^ (L + 1)
  least : ∀ c', c' % 2 = 1 → c' < 2 ^ (L + 1) → Met rows c' → c / 2 ^ (i + 1) ≤ c' / 2 ^ (i + 1)
section
variable {L c i : Nat} {rows l : List Nat}
theorem Grd.start (h : Sv L rows) (hb : ∀ j, j < rows.length → rows.getD j 0 < 2 ^ (L + 1)) : Grd L rows rows 1 L :=
  ⟨rfl, by have := Nat.two_pow_pos L; rw [Nat.pow_succ]; omega, fun j h1 _ => by rw [bt_bit (Nat.le_refl _), if_neg (by omega)], fun c' _ => ⟨fun h => ⟨h, fun j a b => by omega⟩, fun h => h.1⟩, h, hb, fun c' _ _ _ => by
    rw [Nat.div_eq_of_lt (by have := Nat.two_pow_pos L; rw [Nat.pow_succ]; omega)]; exact Nat.zero_le _⟩
theorem bnd_app {r : Nat} (hb : ∀ j, j < l.length → l.getD j 0 < 2 ^ (L + 1)) (hr : r < 2 ^ (L + 1)) : ∀ j, j < (l ++ [r]).length → (l ++ [r]).getD j 0 < 2 ^ (L + 1) := fun j hj => by
  rw [List.length_append, List.length_singleton] at hj
  by_cases e : j < l.length
  · rw [List.getD_eq_getElem?_getD, List.getElem?_append_left e, ← List.getD_eq_getElem?_getD]; exact hb j e
  · obtain rfl : j = l.length := by omega
    rw [List.getD_eq_getElem?_getD, List.getElem?_append_right (Nat.le_refl _), Nat.sub_self]; exact hr
theorem div_bit (x i : Nat) : x / 2 ^ (i + 1) = 2 * (x / 2 ^ (i + 2)) + bt x (i + 1) := by
  unfold bt
  rw [show i + 2 = (i + 1) + 1 by omega, Nat.pow_succ 2 (i + 1), ← Nat.div_div_eq_div_mul]; omega
theorem Grd.pow_lt (hi : i + 1 ≤ L) : 2 ^ (i + 1) < 2 ^ (L + 1) := Nat.pow_lt_pow_right (by omega) (by omega)
theorem Grd.zero (h : Grd L rows l c (i + 1)) (hi : i + 1 ≤ L) (hL : L < 64) (hs : Sv L (l ++ [2 ^ (i + 1)])) : Grd L rows (l ++ [2 ^ (i + 1)]) c i := by
  obtain ⟨h1, h2, h3, h4, h5, h6, h7⟩ := h
  refine ⟨h1, h2, fun j a b => h3 j a (by omega), fun c' hc' => ?_, hs, bnd_app h6 (Grd.pow_lt hi), fun c' a b d => ?_⟩
  · rw [met_app, h4 c' hc', dot_pow (by omega)]
    constructor
    · rintro ⟨⟨a, b⟩, d⟩
      refine ⟨a, fun j e f => ?_⟩
      by_cases g : j = i + 1
      · rw [g, d, h3 (i + 1) (by omega) (by omega)]
      · exact b j (by omega) f
    · rintro ⟨a, b⟩
      exact ⟨⟨a, fun j e f => b j (by omega) f⟩, by rw [b (i + 1) (by omega) hi, h3 (i + 1) (by omega) (by omega)]⟩
  · have e1 := div_bit c i
    have e2 := div_bit c' i
    have e3 := h3 (i + 1) (by omega) (by omega)
    have e4 := h7 c' a b d
    rw [show i + 1 + 1 = i + 2 by omega] at e4
    omega
theorem Grd.one (h : Grd L rows l c (i + 1)) (hi : i + 1 ≤ L) (hL : L < 64) (hs : ¬ Sv L (l ++ [2 ^ (i + 1)])) : Grd L rows (l ++ [2 ^ (i + 1) ||| 1]) (c ||| 2 ^ (i + 1)) i := by
  obtain ⟨h1, h2, h3, h4, h5, h6, h7⟩ := h
  have hci := h3 (i + 1) (by omega) (by omega)
  have hor := or_xor hci
  have hdot : ∀ c', c' % 2 = 1 → (dot (2 ^ (i + 1) ||| 1) c' = 0 ↔ bt c' (i + 1) = 1) := fun c' hc' => by
    rw [pow_or_one (by omega), dot_xor_left, dot_pow (by omega), dot_one, hc']
    have := bt_le c' (i + 1)
    omega
  have hno : ∀ c', c' % 2 = 1 → c' < 2 ^ (L + 1) → Met l c' → bt c' (i + 1) = 1 := fun c' a b d => by
    have := bt_le c' (i + 1)
    refine Classical.byContradiction fun hne => hs ⟨c', a, b, met_app.2 ⟨d, ?_⟩⟩
    rw [dot_pow (by omega)]; omega
  have hbt : ∀ j, bt (c ||| 2 ^ (i + 1)) j = if j = i + 1 then 1 else bt c j := fun j => by
    rw [bt_or, bt_pow]
    have := bt_le c j
    by_cases e : j = i + 1
    · rw [if_pos e, if_pos e]; omega
    · rw [if_neg e, if_neg e]; omega
  refine ⟨?_, ?_, fun j a b => ?_, fun c' hc' => ?_, ?_, bnd_app h6 ?_, fun c' a b d => ?_⟩
  · rw [← bt_zero, hbt, if_neg (by omega), bt_zero]; exact h1
  · rw [hor]; exact Nat.xor_lt_two_pow h2 (Grd.pow_lt hi)
  · rw [hbt, if_neg (by omega)]; exact h3 j a (by omega)
  · rw [met_app, h4 c' hc', hdot c' hc']
    constructor
    · rintro ⟨⟨a, b⟩, d⟩
      refine ⟨a, fun j e f => ?_⟩
      rw [hbt]
      by_cases g : j = i + 1
      · rw [if_pos g, g, d]
      · rw [if_neg g]; exact b j (by omega) f
    · rintro ⟨a, b⟩
      refine ⟨⟨a, fun j e f => ?_⟩, ?_⟩
      · have := b j (by omega) f
        rwa [hbt, if_neg (by omega)] at this
      · rw [b (i + 1) (by omega) hi, hbt, if_pos rfl]
  · obtain ⟨c', a, b, d⟩ := h5
    exact ⟨c', a, b, met_app.2 ⟨d, (hdot c' a).2 (hno c' a b d)⟩⟩
  · rw [pow_or_one (by omega)]
    exact Nat.xor_lt_two_pow (Grd.pow_lt hi) (by have := Nat.two_pow_pos L; rw [Nat.pow_succ]; omega)
  · have e1 := div_bit (c ||| 2 ^ (i + 1)) i
    have e2 := div_bit c' i
    have e3 : (c ||| 2 ^ (i + 1)) / 2 ^ (i + 2) = c / 2 ^ (i + 2) := by
      rw [hor, xor_high, Nat.div_eq_of_lt (Nat.pow_lt_pow_right (by omega) (by omega)), Nat.xor_zero]
    have e4 := h7 c' a b d
    rw [show i + 1 + 1 = i + 2 by omega] at e4
    rw [hbt, if_pos rfl, e3] at e1
    have e5 := bt_le c' (i + 1)
    rcases Nat.lt_or_ge (c / 2 ^ (i + 2)) (c' / 2 ^ (i + 2)) with hlt | hge
    · omega
    · have heq : c / 2 ^ (i + 2) = c' / 2 ^ (i + 2) := by omega
      have hm : Met l c' := (h4 c' a).2 ⟨d, fun j e f => by
        have key : ∀ x, bt x j = bt (x / 2 ^ (i + 2)) (j - (i + 2)) := fun x => by
          unfold bt
          rw [Nat.div_div_eq_div_mul, ← Nat.pow_add, show i + 2 + (j - (i + 2)) = j by omega]
        rw [key c', key c, heq]⟩
      have := hno c' a b hm
      omega
/-- all chosen: the least one -/
theorem Grd.done {xs : List Nat} (hx : ∀ i, xs.getD i 0 ≤ 1) (hL : L < 64) (hLr : L = (run (rowN xs) xs.length).L) (h : Grd L (rowsL xs L) l c 0) : c = fin (rowN xs) xs.length := by
  obtain ⟨h1, h2, h3, h4, h5, h6, h7⟩ := h
  obtain ⟨c', a, b, d⟩ := h5
  obtain ⟨e1, e2⟩ := (h4 c' a).1 d
  have hcc : c' = c := bt_ext fun j => by
    rcases j with _ | j
    · rw [bt_zero, bt_zero, a, h1]
    · by_cases hj : j + 1 ≤ L
      · exact e2 (j + 1) (by omega) hj
      · rw [bt_lt b (by omega), bt_lt h2 (by omega)]
  rw [hcc] at e1
  have hf := (met_rows hx hL h1 h2).1 e1
  have h8 := fin_least (hLr ▸ hf)
  obtain ⟨lb, hinv⟩ := fin_inv (rowN xs) xs.length
  have hff : Fits (rowN xs) xs.length L (fin (rowN xs) xs.length) := by rw [hLr]; exact ⟨hinv.odd, hinv.deg, hinv.zero⟩
  have h9 := h7 _ hff.1 hff.2.1 ((met_rows hx hL hff.1 hff.2.1).2 hff)
  have h10 := hff.1
  rw [Nat.zero_add, Nat.pow_one] at h9
  omega
end
end BM
end Gf2
