/- Equations over the field of two elements, solved by elimination; the greedy choice of coefficients. Nothing of Go stands here. -/
import Derived.Test.YtknkkoemghceeaaDoorBMleast
namespace Gf2
namespace BM

/-- bit i -/
def bt (x i : Nat) : Nat := x / 2 ^ i % 2
theorem bt_le (x i : Nat) : bt x i ≤ 1 := by unfold bt; omega
theorem bt_xor (x y i : Nat) : bt (x ^^^ y) i = (bt x i + bt y i) % 2 := by unfold bt; rw [xor_high, xor_odd]
theorem bt_test (x i : Nat) : x.testBit i = decide (bt x i = 1) := Nat.testBit_eq_decide_div_mod_eq
theorem bt_pow (p i : Nat) : bt (2 ^ p) i = if i = p then 1 else 0 := by
  have h := Nat.testBit_two_pow (n := p) (m := i)
  rw [bt_test] at h
  have := bt_le (2 ^ p) i
  by_cases e : i = p
  · rw [if_pos e]
    have h2 : decide (p = i) = true := by simp [e]
    rw [h2] at h; simpa using h
  · rw [if_neg e]
    have h2 : decide (p = i) = false := by simp; omega
    rw [h2] at h
    have := of_decide_eq_false h
    omega
theorem bt_lt {x n i : Nat} (h : x < 2 ^ n) (hi : n ≤ i) : bt x i = 0 := by
  have := Nat.testBit_lt_two_pow (Nat.lt_of_lt_of_le h (Nat.pow_le_pow_right (by omega : 0 < 2) hi))
  rw [bt_test] at this
  have h1 := bt_le x i
  have h2 := of_decide_eq_false this
  omega
theorem bt_ext {x y : Nat} (h : ∀ i, bt x i = bt y i) : x = y := Nat.eq_of_testBit_eq fun i => by rw [bt_test, bt_test, h]
theorem bt_zero (x : Nat) : bt x 0 = x % 2 := by unfold bt; rw [Nat.pow_zero, Nat.div_one]
/-- the sum of an equation's coefficients where c has ones -/
def dot (r c : Nat) : Nat := sumF (fun i => bt r i * bt c i) 64 % 2
theorem sumF_add (f g : Nat → Nat) : ∀ n, sumF (fun i => f i + g i) n = sumF f n + sumF g n
  | 0 => rfl
  | n + 1 => by rw [sumF, sumF, sumF, sumF_add f g n]; omega
theorem sumF_mod {f g : Nat → Nat} : ∀ n, (∀ i, i < n → f i % 2 = g i % 2) → sumF f n % 2 = sumF g n % 2
  | 0, _ => rfl
  | n + 1, h => by
    have h1 := sumF_mod n (fun i hi => h i (by omega))
    have h2 := h n (by omega)
    rw [sumF, sumF]; omega
theorem sumF_one {p : Nat} : ∀ n, sumF (fun i => if i = p then 1 else 0) n = if p < n then 1 else 0
  | 0 => by simp [sumF]
  | n + 1 => by
    rw [sumF, sumF_one n]
    by_cases h1 : p < n
    · rw [if_pos h1, if_neg (by omega), if_pos (by omega)]
    · by_cases h2 : n = p
      · rw [if_neg h1, if_pos h2, if_pos (by omega)]
      · rw [if_neg h1, if_neg h2, if_neg (by omega)]
theorem dot_xor_left (r s c : Nat) : dot (r ^^^ s) c = (dot r c + dot s c) % 2 := by
  unfold dot
  rw [sumF_mod (g := fun i => bt r i * bt c i + bt s i * bt c i) 64 (fun i _ => by
    rw [bt_xor]
    have h1 := bt_le r i; have h2 := bt_le s i; have h3 := bt_le c i
    rcases (show bt c i = 0 ∨ bt c i = 1 by omega) with e | e <;> rw [e] <;> omega), sumF_add]
  omega
theorem dot_comm (r c : Nat) : dot r c = dot c r := by
  unfold dot
  rw [sumF_congr 64 fun i _ => Nat.mul_comm (bt r i) (bt c i)]
theorem dot_pow {p : Nat} (hp : p < 64) (c : Nat) : dot (2 ^ p) c = bt c p := by
  unfold dot
  have h := bt_le c p
  rw [sumF_congr (g := fun i => bt c p * (if i = p then 1 else 0)) 64 (fun i _ => by
    rw [bt_pow]
    by_cases e : i = p
    · rw [if_pos e, e]; omega
    · rw [if_neg e]; omega)]
  have key : ∀ n, sumF (fun i => bt c p * (if i = p then 1 else 0)) n = bt c p * (if p < n then 1 else 0) := fun n => by
    induction n with
    | zero => simp [sumF]
    | succ n ih =>
      rw [sumF, ih]
      by_cases h1 : p < n
      · rw [if_pos h1, if_neg (by omega), if_pos (by omega)]; omega
      · by_cases h2 : n = p
        · rw [if_neg h1, if_pos h2, if_pos (by omega)]; omega
        · rw [if_neg h1, if_neg h2, if_neg (by omega)]; simp
  rw [key, if_pos hp]; omega
theorem dot_one (c : Nat) : dot 1 c = c % 2 := by have := dot_pow (p := 0) (by omega) c; rwa [Nat.pow_zero, bt_zero] at this
theorem dot_zero (c : Nat) : dot 0 c = 0 := by
  unfold dot
  rw [sumF_congr (g := fun _ => 0) 64 (fun i _ => by unfold bt; simp)]
  rfl
/-- all equations are met -/
def Met (l : List Nat) (c : Nat) : Prop := ∀ j, j < l.length → dot (l.getD j 0) c = 0
/-- how far the elimination has come: columns above i are done -/
structure Elim (L : Nat) (given l : List Nat) (at_ i : Nat) : Prop where
  len : l.length = given.length
  atl : at_ ≤ l.length
  piv : ∃ pc : Nat → Nat, ∀ r, r < at_ → i < pc r ∧ pc r ≤ L ∧ bt (l.getD r 0) (pc r) = 1 ∧ ∀ j, j < l.length → j ≠ r → bt (l.getD j 0) (pc r) = 0
  zer : ∀ j, at_ ≤ j → j < l.length → ∀ col, i < col → col ≤ L → bt (l.getD j 0) col = 0
  met : ∀ c, Met l c ↔ Met given c
  bnd : ∀ j, j < l.length → l.getD j 0 < 2 ^ (L + 1)
section
variable {L at_ i : Nat} {given l : List Nat}
theorem Elim.start (h : ∀ j, j < given.length → given.getD j 0 < 2 ^ (L + 1)) : Elim L given given 0 L :=
  ⟨rfl, by omega, ⟨fun _ => 0, fun r hr => by omega⟩, fun j _ _ col h1 h2 => by omega, fun c => Iff.rfl, h⟩
/-- no row has the column -/
theorem Elim.none (h : Elim L given l at_ (i + 1)) (hn : ∀ k, at_ ≤ k → k < l.length → bt (l.getD k 0) (i + 1) = 0) : Elim L given l at_ i := by
  obtain ⟨h1, h2, ⟨pc, h3⟩, h4, h5, h6⟩ := h
  refine ⟨h1, h2, ⟨pc, fun r hr => ?_⟩, fun j a b col c1 c2 => ?_, h5, h6⟩
  · obtain ⟨a, b, c, d⟩ := h3 r hr
    exact ⟨by omega, b, c, d⟩
  · by_cases e : col = i + 1
    · rw [e]; exact hn j a b
    · exact h4 j a b col (by omega) c2
/-- two rows exchanged -/
def swp (l : List Nat) (a k : Nat) : List Nat := (l.set a (l.getD k 0)).set k (l.getD a 0)
theorem swp_length (l : List Nat) (a k : Nat) : (swp l a k).length = l.length := by simp [swp]
theorem swp_at {a k : Nat} (ha : a < l.length) (hk : k < l.length) (j : Nat) : (swp l a k).getD j 0 = if j = k then l.getD a 0 else if j = a then l.getD k 0 else l.getD j 0 := by
  unfold swp
  simp only [List.getD_eq_getElem?_getD, List.getElem?_set, List.length_set]
  by_cases e1 : j = k
  · subst e1; simp [hk]
  · by_cases e2 : j = a
    · subst e2; simp [e1, ha, Ne.symm e1]
    · simp [e1, e2, Ne.symm e1, Ne.symm e2]
theorem Elim.swap {k : Nat} (h : Elim L given l at_ i) (hk1 : at_ ≤ k) (hk : k < l.length) : Elim L given (swp l at_ k) at_ i := by
  obtain ⟨h1, h2, ⟨pc, h3⟩, h4, h5, h6⟩ := h
  have hat := swp_at (l := l) (a := at_) (k := k) (by omega) hk
  have hperm : ∀ j, j < l.length → ∃ j', j' < l.length ∧ (swp l at_ k).getD j 0 = l.getD j' 0 ∧ (at_ ≤ j ↔ at_ ≤ j') ∧ (j < at_ → j' = j) := fun j hj => by
    rw [hat]
    by_cases e1 : j = k
    · exact ⟨at_, by omega, by rw [if_pos e1], by omega, by omega⟩
    · by_cases e2 : j = at_
      · exact ⟨k, hk, by rw [if_neg e1, if_pos e2], by omega, by omega⟩
      · exact ⟨j, hj, by rw [if_neg e1, if_neg e2], Iff.rfl, fun _ => rfl⟩
  have hback : ∀ j', j' < l.length → ∃ j, j < l.length ∧ (swp l at_ k).getD j 0 = l.getD j' 0 := fun j' hj => by
    by_cases e1 : j' = k
    · refine ⟨at_, by omega, ?_⟩
      rw [hat]
      by_cases e : at_ = k
      · rw [if_pos e, e1, e]
      · rw [if_neg e, if_pos rfl, e1]
    · by_cases e2 : j' = at_
      · exact ⟨k, hk, by rw [hat, if_pos rfl, e2]⟩
      · exact ⟨j', hj, by rw [hat, if_neg e1, if_neg e2]⟩
  refine ⟨by rw [swp_length]; exact h1, by rw [swp_length]; exact h2, ⟨pc, fun r hr => ?_⟩, fun j a b col c1 c2 => ?_, fun c => ?_, fun j hj => ?_⟩
  · obtain ⟨a, b, c, d⟩ := h3 r hr
    rw [swp_length]
    have er : (swp l at_ k).getD r 0 = l.getD r 0 := by rw [hat, if_neg (by omega), if_neg (by omega)]
    refine ⟨a, b, by rw [er]; exact c, fun j hj hne => ?_⟩
    obtain ⟨j', e1, e2, e3, e4⟩ := hperm j hj
    rw [e2]
    refine d j' e1 (fun e => ?_)
    rcases Nat.lt_or_ge j at_ with hl | hl
    · rw [e4 hl] at e; exact hne e
    · have := e3.1 hl; omega
  · rw [swp_length] at b
    obtain ⟨j', e1, e2, e3, _⟩ := hperm j b
    rw [e2]; exact h4 j' (e3.1 a) e1 col c1 c2
  · rw [← h5 c]
    constructor
    · intro hm j' hj'
      obtain ⟨j, e1, e2⟩ := hback j' hj'
      rw [← e2]; exact hm j (by rw [swp_length]; exact e1)
    · intro hm j hj
      rw [swp_length] at hj
      obtain ⟨j', e1, e2, _⟩ := hperm j hj
      rw [e2]; exact hm j' e1
  · rw [swp_length] at hj
    obtain ⟨j', e1, e2, _⟩ := hperm j hj
    rw [e2]; exact h6 j' e1
/-- the first m rows cleared of column col by row a -/
def clr (l : List Nat) (a col m : Nat) : List Nat := (List.range l.length).map fun j => if j < m ∧ j ≠ a ∧ bt (l.getD j 0) col = 1 then l.getD j 0 ^^^ l.getD a 0 else l.getD j 0
theorem clr_length (l : List Nat) (a col m : Nat) : (clr l a col m).length = l.length := by simp [clr]
theorem clr_at {a col m j : Nat} (hj : j < l.length) : (clr l a col m).getD j 0 = if j < m ∧ j ≠ a ∧ bt (l.getD j 0) col = 1 then l.getD j 0 ^^^ l.getD a 0 else l.getD j 0 := by
  simp [clr, List.getD_eq_getElem?_getD, hj]
theorem clr_zero (l : List Nat) (a col : Nat) : clr l a col 0 = l := by
  refine List.ext_getElem (clr_length _ _ _ _) fun j h1 h2 => ?_
  simp [clr, List.getD_eq_getElem?_getD, h2]
theorem list_getD_ext {xs ys : List Nat} (h1 : xs.length = ys.length) (h2 : ∀ j, j < xs.length → xs.getD j 0 = ys.getD j 0) : xs = ys := by
  refine List.ext_getElem h1 fun j a b => ?_
  have := h2 j a
  rw [List.getD_eq_getElem?_getD, List.getD_eq_getElem?_getD, List.getElem?_eq_getElem a, List.getElem?_eq_getElem b] at this
  exact this
theorem clr_stay {a col m : Nat} (hm : m < l.length) (h : m = a ∨ bt (l.getD m 0) col = 0) : clr l a col (m + 1) = clr l a col m := by
  refine list_getD_ext (by rw [clr_length, clr_length]) fun j hj => ?_
  rw [clr_length] at hj
  rw [clr_at hj, clr_at hj]
  by_cases e : j = m
  · subst e
    rw [if_neg (by rintro ⟨_, a1, a2⟩; rcases h with h | h <;> omega), if_neg (by omega)]
  · by_cases hc : j < m ∧ j ≠ a ∧ bt (l.getD j 0) col = 1
    · rw [if_pos hc, if_pos ⟨by omega, hc.2⟩]
    · rw [if_neg hc, if_neg (fun h2 => hc ⟨by omega, h2.2⟩)]
theorem getD_set {xs : List Nat} {m : Nat} (hm : m < xs.length) (y j : Nat) : (xs.set m y).getD j 0 = if j = m then y else xs.getD j 0 := by
  simp only [List.getD_eq_getElem?_getD, List.getElem?_set]
  by_cases e : j = m
  · subst e; simp [hm]
  · simp [e, Ne.symm e]
theorem clr_next {a col m : Nat} (hm : m < l.length) (h1 : m ≠ a) (h2 : bt (l.getD m 0) col = 1) : clr l a col (m + 1) = (clr l a col m).set m (l.getD m 0 ^^^ l.getD a 0) := by
  refine list_getD_ext (by rw [List.length_set, clr_length, clr_length]) fun j hj => ?_
  rw [clr_length] at hj
  rw [clr_at hj]
  by_cases e : j = m
  · subst e
    rw [if_pos ⟨by omega, h1, h2⟩, getD_set (by rw [clr_length]; exact hj), if_pos rfl]
  · rw [getD_set (by rw [clr_length]; exact hm), if_neg e, clr_at hj]
    by_cases hc : j < m ∧ j ≠ a ∧ bt (l.getD j 0) col = 1
    · rw [if_pos hc, if_pos ⟨by omega, hc.2⟩]
    · rw [if_neg hc, if_neg (fun h2 => hc ⟨by omega, h2.2⟩)]
/-- what stands at the rows while they are cleared -/
theorem clr_pivot {a col m : Nat} (ha : a < l.length) : (clr l a col m).getD a 0 = l.getD a 0 := by rw [clr_at ha, if_neg (by omega)]
theorem clr_later {a col m j : Nat} (hj : j < l.length) (h : m ≤ j) : (clr l a col m).getD j 0 = l.getD j 0 := by rw [clr_at hj, if_neg (by omega)]
theorem Elim.clear (h : Elim L given l at_ (i + 1)) (ha : at_ < l.length) (hb : bt (l.getD at_ 0) (i + 1) = 1) (hiL : i + 1 ≤ L) : Elim L given (clr l at_ (i + 1) l.length) (at_ + 1) i := by
  obtain ⟨h1, h2, ⟨pc, h3⟩, h4, h5, h6⟩ := h
  have hat : ∀ j, j < l.length → (clr l at_ (i + 1) l.length).getD j 0 = if j ≠ at_ ∧ bt (l.getD j 0) (i + 1) = 1 then l.getD j 0 ^^^ l.getD at_ 0 else l.getD j 0 := fun j hj => by
    rw [clr_at hj]
    by_cases hc : j ≠ at_ ∧ bt (l.getD j 0) (i + 1) = 1
    · rw [if_pos hc, if_pos ⟨hj, hc⟩]
    · rw [if_neg hc, if_neg (fun h2 => hc h2.2)]
  -- columns where the pivot row is 0 stay
  have hsame : ∀ j col, j < l.length → bt (l.getD at_ 0) col = 0 → bt ((clr l at_ (i + 1) l.length).getD j 0) col = bt (l.getD j 0) col := fun j col hj h0 => by
    rw [hat j hj]
    split
    · rw [bt_xor, h0, Nat.add_zero]; have := bt_le (l.getD j 0) col; omega
    · rfl
  have hcol : ∀ j, j < l.length → j ≠ at_ → bt ((clr l at_ (i + 1) l.length).getD j 0) (i + 1) = 0 := fun j hj hne => by
    rw [hat j hj]
    by_cases hc : bt (l.getD j 0) (i + 1) = 1
    · rw [if_pos ⟨hne, hc⟩, bt_xor, hc, hb]
    · rw [if_neg (fun h => hc h.2)]; have := bt_le (l.getD j 0) (i + 1); omega
  refine ⟨by rw [clr_length]; exact h1, by rw [clr_length]; omega, ⟨fun r => if r = at_ then i + 1 else pc r, fun r hr => ?_⟩, fun j a b col c1 c2 => ?_, fun c => ?_, fun j hj => ?_⟩
  · rw [clr_length]
    dsimp only
    by_cases e : r = at_
    · rw [if_pos e]
      refine ⟨by omega, hiL, ?_, fun j hj hne => hcol j hj (by rw [← e]; exact hne)⟩
      rw [e, hat at_ ha, if_neg (by omega)]; exact hb
    · rw [if_neg e]
      obtain ⟨a, b, c, d⟩ := h3 r (by omega)
      have h0 := d at_ ha (fun e2 => e e2.symm)
      refine ⟨by omega, b, by rw [hsame r _ (by omega) h0]; exact c, fun j hj hne => by rw [hsame j _ hj h0]; exact d j hj hne⟩
  · rw [clr_length] at b
    by_cases e : col = i + 1
    · rw [e]; exact hcol j b (by omega)
    · rw [hsame j col b (h4 at_ (Nat.le_refl _) ha col (by omega) c2)]
      exact h4 j (by omega) b col (by omega) c2
  · rw [← h5 c]
    constructor
    · intro hm j hj
      have hp := hm at_ (by rw [clr_length]; exact ha)
      rw [hat at_ ha, if_neg (by omega)] at hp
      have hj2 := hm j (by rw [clr_length]; exact hj)
      rw [hat j hj] at hj2
      split at hj2
      · rw [dot_xor_left, hp, Nat.add_zero] at hj2
        have : dot (l.getD j 0) c ≤ 1 := by unfold dot; omega
        omega
      · exact hj2
    · intro hm j hj
      rw [clr_length] at hj
      rw [hat j hj]
      split
      · rw [dot_xor_left, hm j hj, hm at_ ha]
      · exact hm j hj
  · rw [clr_length] at hj
    rw [hat j hj]
    split
    · exact Nat.xor_lt_two_pow (h6 j hj) (h6 at_ ha)
    · exact h6 j hj
/-- a solution out of the pivots -/
def solK (l : List Nat) (pc : Nat → Nat) : Nat → Nat
  | 0 => 1
  | r + 1 => if l.getD r 0 % 2 = 1 then solK l pc r ^^^ 2 ^ pc r else solK l pc r
theorem Elim.done_no (h : Elim L given l at_ 0) {j : Nat} (hj : j < l.length) (e : l.getD j 0 = 1) : ¬ ∃ c, c % 2 = 1 ∧ Met given c := by
  rintro ⟨c, h1, h2⟩
  have := (h.met c).2 h2 j hj
  rw [e, dot_one] at this
  omega
theorem Elim.done_yes (h : Elim L given l at_ 0) (hL : L < 64) (hn : ∀ j, j < l.length → l.getD j 0 ≠ 1) : ∃ c, c % 2 = 1 ∧ c < 2 ^ (L + 1) ∧ Met given c := by
  obtain ⟨h1, h2, ⟨pc, h3⟩, h4, h5, h6⟩ := h
  have hz : ∀ j, at_ ≤ j → j < l.length → l.getD j 0 = 0 := fun j a b => by
    have h7 := hn j b
    have h8 : ∀ i, bt (l.getD j 0) (i + 1) = 0 := fun i => by
      by_cases hi : i + 1 ≤ L
      · exact h4 j a b (i + 1) (by omega) hi
      · exact bt_lt (h6 j b) (by omega)
    have h9 : l.getD j 0 = l.getD j 0 % 2 := bt_ext fun i => by
      rcases i with _ | i
      · rw [bt_zero, bt_zero]; omega
      · rw [h8 i]
        exact (bt_lt (n := 1) (by omega) (by omega)).symm
    omega
  have key : ∀ k, k ≤ at_ → solK l pc k % 2 = 1 ∧ solK l pc k < 2 ^ (L + 1) ∧ ∀ j, j < l.length → dot (l.getD j 0) (solK l pc k) = (l.getD j 0 % 2 + if j < k then l.getD j 0 % 2 else 0) % 2 := by
    intro k
    induction k with
    | zero =>
      intro _
      refine ⟨rfl, by show 1 < 2 ^ (L + 1); have := Nat.two_pow_pos L; rw [Nat.pow_succ]; omega, fun j hj => ?_⟩
      show dot (l.getD j 0) 1 = _
      rw [dot_comm, dot_one, if_neg (by omega)]; omega
    | succ k ih =>
      intro hk
      obtain ⟨a1, a2, a3⟩ := ih (by omega)
      obtain ⟨b1, b2, b3, b4⟩ := h3 k (by omega)
      unfold solK
      by_cases hb : l.getD k 0 % 2 = 1
      · rw [if_pos hb]
        refine ⟨?_, ?_, fun j hj => ?_⟩
        · rw [xor_odd]
          obtain ⟨q, hq⟩ : ∃ q, pc k = q + 1 := ⟨pc k - 1, by omega⟩
          rw [hq, Nat.pow_succ]; omega
        · exact Nat.xor_lt_two_pow a2 (Nat.pow_lt_pow_right (by omega) (by omega))
        · rw [dot_comm, dot_xor_left, dot_comm, a3 j hj, dot_pow (by omega)]
          by_cases e : j = k
          · subst e
            rw [b3, if_neg (by omega), if_pos (by omega)]; omega
          · rw [b4 j hj e]
            by_cases hjk : j < k
            · rw [if_pos hjk, if_pos (by omega)]; omega
            · rw [if_neg hjk, if_neg (by omega)]; omega
      · rw [if_neg hb]
        refine ⟨a1, a2, fun j hj => ?_⟩
        rw [a3 j hj]
        by_cases e : j = k
        · subst e
          rw [if_neg (by omega), if_pos (by omega)]; omega
        · by_cases hjk : j < k
          · rw [if_pos hjk, if_pos (by omega)]
          · rw [if_neg hjk, if_neg (by omega)]
  obtain ⟨a1, a2, a3⟩ := key at_ (Nat.le_refl _)
  refine ⟨solK l pc at_, a1, a2, (h5 _).1 fun j hj => ?_⟩
  rw [a3 j hj]
  by_cases hja : j < at_
  · rw [if_pos hja]; omega
  · rw [if_neg hja, hz j (by omega) hj]
end
end BM
end Gf2
