/- The ways of so many steps, one by one; how many they can be. Of numbers alone. -/
import Derived.Test.YtpmnbdkncmjafaaRows
import Derived.Test.YtpmnbdkncmjafaaLpB
namespace Go.Proofs.Ytpmnbdkncmjafaa
open Gf2 Rev

/-- numbers of few ones -/
def smallL : Nat → Nat → List Nat
  | 0, _ => [0]
  | _ + 1, 0 => [0]
  | k + 1, j + 1 => (smallL k (j + 1)).map (2 * ·) ++ (smallL k j).map (2 * · + 1)
def pas : Nat → Nat → Nat
  | 0, _ => 1
  | _ + 1, 0 => 1
  | k + 1, j + 1 => pas k (j + 1) + pas k j
theorem smallL_length (k j : Nat) : (smallL k j).length = pas k j := by
  induction k generalizing j with
  | zero => rfl
  | succ k ih =>
    cases j with
    | zero => rfl
    | succ j => simp [smallL, pas, ih]
theorem popN_eq_zero {x : Nat} (h : popN x = 0) : x = 0 := by
  induction x using bin_ind with
  | h0 => rfl
  | h x hx ih =>
    rw [popN, if_neg hx] at h
    have := ih (by omega)
    omega
theorem smallL_mem (k j x : Nat) (hx : x < 2 ^ k) (hp : popN x ≤ j) : x ∈ smallL k j := by
  induction k generalizing j x with
  | zero => simp [smallL]; omega
  | succ k ih =>
    cases j with
    | zero => have := popN_eq_zero (x := x) (by omega); simp [smallL, this]
    | succ j =>
      have e := popN_two (x / 2) (x % 2) (by omega)
      rw [show 2 * (x / 2) + x % 2 = x by omega] at e
      rw [Nat.pow_succ] at hx
      simp only [smallL, List.mem_append, List.mem_map]
      rcases Nat.mod_two_eq_zero_or_one x with h | h
      · exact .inl ⟨x / 2, ih _ _ (by omega) (by omega), by omega⟩
      · exact .inr ⟨x / 2, ih _ _ (by omega) (by omega), by omega⟩
def pasRow : Nat → List Nat
  | 0 => List.replicate 13 1
  | k + 1 => 1 :: (List.zipWith (· + ·) (pasRow k).tail (pasRow k))
theorem pasRow_eq (k : Nat) : pasRow k = (List.range 13).map (pas k) := by
  induction k with
  | zero => rfl
  | succ k ih => rw [pasRow, ih]; rfl
theorem pas_small : 2 * pas 176 12 < 9223372036854775808 := by
  have h : (pasRow 176)[12]? = some (pas 176 12) := by rw [pasRow_eq]; rfl
  have h2 : ((pasRow 176)[12]?.map fun x => decide (2 * x < 9223372036854775808)) = some true := by decide +kernel
  rw [h] at h2
  simpa using h2
theorem nodup_len {α : Type} [DecidableEq α] {l l' : List α} (h : l.Nodup) (hs : ∀ x ∈ l, x ∈ l') : l.length ≤ l'.length := h.length_le_of_subset hs
section
variable {n : Nat} {R : Int} {a b c : Nat}
theorem yRow_inj {n g m m' : Nat} (hg : g ≠ 0) (hgl : g < 2 ^ (n + 1)) (h : yRow n g m = yRow n g m') (hm : m % 2 ^ n = m' % 2 ^ n) : m = m' := by
  have low : ∀ x, cm x (revP n g) % 2 ^ n = cm (x % 2 ^ n) (revP n g) % 2 ^ n := fun x => by
    conv => lhs; rw [split_at x n, cm_xor_left, xor_low, cm_shift_left, Nat.mul_mod_left, Nat.zero_xor]
  have e : cm m (revP n g) = cm m' (revP n g) := by
    have h1 := Nat.div_add_mod (cm m (revP n g)) (2 ^ n)
    have h2 := Nat.div_add_mod (cm m' (revP n g)) (2 ^ n)
    unfold yRow at h
    rw [h, low, hm, ← low] at h1
    rw [← h1, h2]
  have e2 : cm (m ^^^ m') (revP n g) = 0 := by rw [cm_xor_left, e, Nat.xor_self]
  by_cases h0 : m ^^^ m' = 0
  · exact xor_zero_eq h0
  · exact absurd e2 (cm_ne h0 (revP_ne hg hgl))
theorem yRow_lt {n g m k : Nat} (hm : m < 2 ^ k) : yRow n g m < 2 ^ k := by
  unfold yRow
  have := cm_lt hm (revP_lt n g)
  rw [Nat.pow_add] at this
  exact Nat.div_lt_of_lt_mul (by rw [Nat.mul_comm]; exact this)
/-- registers of one state and of little weight are few -/
theorem few_regs (h : GoodN n R a b c) (l : List Nat) (hl : l.Nodup) (s : Nat) (hm : ∀ m ∈ l, m < 2 ^ 176 ∧ wtM n a b c m ≤ 24 ∧ m % 2 ^ n = s) : l.length < 9223372036854775808 := by
  have one : ∀ g, g ≠ 0 → g < 2 ^ (n + 1) → ∀ q : List Nat, q.Nodup → (∀ m ∈ q, m ∈ l ∧ popN (yRow n g m) ≤ 12) → q.length ≤ pas 176 12 := fun g hg hgl q hq hqm => by
    have h1 : (q.map (yRow n g)).Nodup := by
      rw [List.nodup_iff_pairwise_ne, List.pairwise_map]
      refine (List.nodup_iff_pairwise_ne.1 hq).imp_of_mem fun {x y} hx hy hne e => hne ?_
      exact yRow_inj hg hgl e ((hm x (hqm x hx).1).2.2.trans (hm y (hqm y hy).1).2.2.symm)
    have h2 := nodup_len h1 (l' := smallL 176 12) fun y hy => by
      obtain ⟨m, hmq, rfl⟩ := List.mem_map.1 hy
      exact smallL_mem _ _ _ (yRow_lt (hm m (hqm m hmq).1).1) (hqm m hmq).2
    rwa [List.length_map, smallL_length] at h2
  have h1 := one a h.a0 h.al (l.filter fun m => decide (popN (yRow n a m) ≤ 12)) (hl.filter _) fun m hmq => by
    simpa using hmq
  have h2 := one b h.b0 h.bl (l.filter fun m => !decide (popN (yRow n a m) ≤ 12)) (hl.filter _) fun m hmq => by
    simp only [List.mem_filter, Bool.not_eq_true', decide_eq_false_iff_not] at hmq
    refine ⟨hmq.1, ?_⟩
    have := (hm m hmq.1).2.1
    unfold wtM at this
    omega
  have h3 := List.length_eq_countP_add_countP (fun m => decide (popN (yRow n a m) ≤ 12)) (l := l)
  rw [List.countP_eq_length_filter, List.countP_eq_length_filter] at h3
  have h4 : (l.filter fun m => decide ¬ (decide (popN (yRow n a m) ≤ 12) = true)) = l.filter fun m => !decide (popN (yRow n a m) ≤ 12) := by
    refine List.filter_congr fun m _ => ?_
    by_cases e : popN (yRow n a m) ≤ 12 <;> simp [e]
  rw [h4] at h3
  have := pas_small
  omega
/-- one step further -/
def nextL (n a b c W m : Nat) : List Nat := [2 * m, 2 * m + 1].filter fun m' => decide (m' % 2 ^ n ≠ 0 ∧ wtM n a b c m' ≤ W)
/-- all ways of L + 1 steps from 0 by a 1 that have not come back, of weight W at most -/
def aL (n a b c W : Nat) : Nat → List Nat
  | 0 => if wtM n a b c 1 ≤ W then [1] else []
  | L + 1 => (aL n a b c W L).flatMap (nextL n a b c W)
theorem nextL_mem {n a b c W m m' : Nat} : m' ∈ nextL n a b c W m ↔ ∃ x, x ≤ 1 ∧ m' = 2 * m + x ∧ m' % 2 ^ n ≠ 0 ∧ wtM n a b c m' ≤ W := by
  unfold nextL
  rw [List.mem_filter]
  simp only [List.mem_cons, List.not_mem_nil, or_false, decide_eq_true_eq]
  constructor
  · rintro ⟨rfl | rfl, h⟩
    · exact ⟨0, by omega, by omega, h⟩
    · exact ⟨1, by omega, by omega, h⟩
  · rintro ⟨x, hx, rfl, h⟩
    exact ⟨by omega, h⟩
theorem wtM_one (h : GoodN n R a b c) : wtM n a b c 1 = wtF R a b c 0 1 := by
  have := wtM_step h 0 (x := 1) (by omega)
  have e : wtM n a b c 0 = 0 := by unfold wtM yRow; simp [cm_zero, popN_zero]
  rw [e] at this
  simpa using this
theorem aL_mem (h : GoodN n R a b c) (W : Nat) : ∀ L m, m ∈ aL n a b c W L → 2 ^ L ≤ m ∧ m < 2 ^ (L + 1) ∧ m % 2 ^ n ≠ 0 ∧ wtM n a b c m ≤ W ∧ L + zr (nxF n) (wtF R a b c) n (m % 2 ^ n) < (wtM n a b c m + 1) * n
  | 0, m, hm => by
    have hn := h.n2
    unfold aL at hm
    split at hm
    · rename_i hw
      obtain rfl : m = 1 := by simpa using hm
      have h1 : 1 % 2 ^ n = 1 := Nat.mod_eq_of_lt (Nat.one_lt_two_pow (by omega))
      refine ⟨by simp, by simp, by rw [h1]; omega, hw, ?_⟩
      have := zr_lt h (s := 1 % 2 ^ n) (Nat.mod_lt _ (Nat.two_pow_pos _)) (by rw [h1]; omega)
      have h2 : 1 * n ≤ (wtM n a b c 1 + 1) * n := Nat.mul_le_mul_right _ (by omega)
      omega
    · simp at hm
  | L + 1, m', hm => by
    obtain ⟨m, hm1, hn⟩ := List.mem_flatMap.1 hm
    obtain ⟨x, hx, rfl, h1, h2⟩ := nextL_mem.1 hn
    obtain ⟨i1, i2, i3, i4, i5⟩ := aL_mem h W L m hm1
    refine ⟨by rw [Nat.pow_succ]; omega, by rw [Nat.pow_succ]; omega, h1, h2, ?_⟩
    have hlt := Nat.mod_lt m (Nat.two_pow_pos n)
    have hw := wtM_step h m hx
    rw [← nx_mod]
    by_cases e : wtF R a b c (m % 2 ^ n) x = 0
    · have := zr_step h hlt i3 hx e
      have h6 : wtM n a b c (2 * m + x) + 1 = wtM n a b c m + 1 := by omega
      rw [h6]
      exact Nat.lt_of_le_of_lt (by omega) i5
    · have h4 := zr_lt h (nxF_lt n (m % 2 ^ n) x) (by rw [nx_mod]; exact h1)
      have h5 : (wtM n a b c m + 1 + 1) * n ≤ (wtM n a b c (2 * m + x) + 1) * n := Nat.mul_le_mul_right _ (by omega)
      rw [Nat.add_mul _ 1 n] at h5
      omega
theorem aL_end (h : GoodN n R a b c) {W L : Nat} (hL : (W + 1) * n ≤ L) : aL n a b c W L = [] := by
  cases e : aL n a b c W L with
  | nil => rfl
  | cons m r =>
    obtain ⟨_, _, _, i4, i5⟩ := aL_mem h W L m (by rw [e]; simp)
    have : (wtM n a b c m + 1) * n ≤ (W + 1) * n := Nat.mul_le_mul_right _ (by omega)
    omega
theorem aL_rise (n a b c W : Nat) : ∀ L, (aL n a b c W L).Pairwise (· < ·)
  | 0 => by unfold aL; split <;> simp
  | L + 1 => by
    unfold aL
    rw [List.pairwise_flatMap]
    refine ⟨fun m _ => ?_, (aL_rise n a b c W L).imp fun {m m'} hlt x hx y hy => ?_⟩
    · exact List.Pairwise.filter _ (by simp)
    · obtain ⟨i, hi, rfl, _⟩ := nextL_mem.1 hx
      obtain ⟨j, hj, rfl, _⟩ := nextL_mem.1 hy
      omega
theorem nodup_of_rise {l : List Nat} (h : l.Pairwise (· < ·)) : l.Nodup := List.nodup_iff_pairwise_ne.2 (h.imp fun {_ _} h => Nat.ne_of_lt h)
/-- how many of them stand in a state with a weight -/
def cN (n a b c W L s w : Nat) : Nat := (aL n a b c W L).countP fun m => decide (m % 2 ^ n = s ∧ wtM n a b c m = w)
/-- how many come back with the next step -/
def lN (n a b c W L v : Nat) : Nat := (aL n a b c W L).countP fun m => decide ((2 * m) % 2 ^ n = 0 ∧ wtM n a b c (2 * m) = v)
theorem cN_small (h : GoodN n R a b c) {W L s w : Nat} (hW : W ≤ 24) (hn : n ≤ 7) : cN n a b c W L s w < 9223372036854775808 := by
  unfold cN
  rw [List.countP_eq_length_filter]
  refine few_regs h _ ((nodup_of_rise (aL_rise n a b c W L)).filter _) s fun m hm => ?_
  rw [List.mem_filter] at hm
  obtain ⟨_, i2, _, i4, i5⟩ := aL_mem h W L m hm.1
  have hc := of_decide_eq_true hm.2
  have h5 : (wtM n a b c m + 1) * n ≤ 25 * 7 := Nat.mul_le_mul (by omega) hn
  refine ⟨Nat.lt_of_lt_of_le i2 (Nat.pow_le_pow_right (by omega) (by omega)), by omega, hc.1⟩
def sumL (f : Nat → Nat) : List Nat → Nat
  | [] => 0
  | x :: r => f x + sumL f r
theorem sumL_append (f : Nat → Nat) (l r : List Nat) : sumL f (l ++ r) = sumL f l + sumL f r := by
  induction l with
  | nil => simp [sumL]
  | cons x l ih => simp [sumL, ih]; omega
/-- one step: what is still to come is what comes now and what is to come then -/
theorem sum_step (h : GoodN n R a b c) {W v : Nat} (hv : v ≤ W) (l : List Nat) (hl : ∀ m ∈ l, m % 2 ^ n ≠ 0) :
    sumL (fun m => if wtM n a b c m ≤ v then ways n R a b c (m % 2 ^ n) (v - wtM n a b c m) else 0) l =
    l.countP (fun m => decide ((2 * m) % 2 ^ n = 0 ∧ wtM n a b c (2 * m) = v)) + sumL (fun m => if wtM n a b c m ≤ v then ways n R a b c (m % 2 ^ n) (v - wtM n a b c m) else 0) (l.flatMap (nextL n a b c W)) := by
  induction l with
  | nil => rfl
  | cons m l ih =>
    have ih := ih fun m hm => hl m (by simp [hm])
    have hm := hl m (by simp)
    have hlt := Nat.mod_lt m (Nat.two_pow_pos n)
    rw [List.flatMap_cons, sumL_append, List.countP_cons, sumL, ih]
    have hn := h.n2
    have hp : ∀ x, x ≤ 1 → (if wtM n a b c m ≤ v then wayT n R a b c (m % 2 ^ n) (v - wtM n a b c m) x else 0) =
        (if (2 * m + x) % 2 ^ n = 0 ∧ wtM n a b c (2 * m + x) = v then 1 else 0) + (if (2 * m + x) % 2 ^ n ≠ 0 ∧ wtM n a b c (2 * m + x) ≤ W then (if wtM n a b c (2 * m + x) ≤ v then ways n R a b c ((2 * m + x) % 2 ^ n) (v - wtM n a b c (2 * m + x)) else 0) else 0) := fun x hx => by
      have hw := wtM_step h m hx
      unfold wayT
      rw [nx_mod]
      by_cases h1 : wtM n a b c m ≤ v
      · rw [if_pos h1]
        by_cases h2 : wtF R a b c (m % 2 ^ n) x ≤ v - wtM n a b c m
        · rw [if_pos h2]
          by_cases h3 : (2 * m + x) % 2 ^ n = 0
          · rw [if_pos h3, if_neg (show ¬ ((2 * m + x) % 2 ^ n ≠ 0 ∧ wtM n a b c (2 * m + x) ≤ W) from fun e => e.1 h3), Nat.add_zero]
            by_cases h4 : wtF R a b c (m % 2 ^ n) x = v - wtM n a b c m
            · rw [if_pos h4, if_pos ⟨h3, by omega⟩]
            · rw [if_neg h4, if_neg (fun e => h4 (by omega))]
          · rw [if_neg h3, if_neg (show ¬ ((2 * m + x) % 2 ^ n = 0 ∧ wtM n a b c (2 * m + x) = v) from fun e => h3 e.1), Nat.zero_add, if_pos ⟨h3, by omega⟩, if_pos (by omega), hw, Nat.sub_sub]
        · rw [if_neg h2, if_neg (show ¬ ((2 * m + x) % 2 ^ n = 0 ∧ wtM n a b c (2 * m + x) = v) from fun e => by omega)]
          split
          · rw [if_neg (by omega)]
          · rfl
      · rw [if_neg h1, if_neg (show ¬ ((2 * m + x) % 2 ^ n = 0 ∧ wtM n a b c (2 * m + x) = v) from fun e => by omega)]
        split
        · rw [if_neg (by omega)]
        · rfl
    have hnext : sumL (fun m => if wtM n a b c m ≤ v then ways n R a b c (m % 2 ^ n) (v - wtM n a b c m) else 0) (nextL n a b c W m) =
        (if (2 * m + 0) % 2 ^ n ≠ 0 ∧ wtM n a b c (2 * m + 0) ≤ W then (if wtM n a b c (2 * m + 0) ≤ v then ways n R a b c ((2 * m + 0) % 2 ^ n) (v - wtM n a b c (2 * m + 0)) else 0) else 0) +
        (if (2 * m + 1) % 2 ^ n ≠ 0 ∧ wtM n a b c (2 * m + 1) ≤ W then (if wtM n a b c (2 * m + 1) ≤ v then ways n R a b c ((2 * m + 1) % 2 ^ n) (v - wtM n a b c (2 * m + 1)) else 0) else 0) := by
      unfold nextL
      simp only [Nat.add_zero]
      by_cases e0 : (2 * m) % 2 ^ n ≠ 0 ∧ wtM n a b c (2 * m) ≤ W
      · by_cases e1 : (2 * m + 1) % 2 ^ n ≠ 0 ∧ wtM n a b c (2 * m + 1) ≤ W
        · rw [List.filter_cons_of_pos (by simpa using e0), List.filter_cons_of_pos (by simpa using e1), if_pos e0, if_pos e1]; simp [sumL]
        · rw [List.filter_cons_of_pos (by simpa using e0), List.filter_cons_of_neg (by simpa using e1), if_pos e0, if_neg e1]; simp [sumL]
      · by_cases e1 : (2 * m + 1) % 2 ^ n ≠ 0 ∧ wtM n a b c (2 * m + 1) ≤ W
        · rw [List.filter_cons_of_neg (by simpa using e0), List.filter_cons_of_pos (by simpa using e1), if_neg e0, if_pos e1]; simp [sumL]
        · rw [List.filter_cons_of_neg (by simpa using e0), List.filter_cons_of_neg (by simpa using e1), if_neg e0, if_neg e1]; simp [sumL]
    have hodd : ¬ ((2 * m + 1) % 2 ^ n = 0 ∧ wtM n a b c (2 * m + 1) = v) := fun e => by
      have := e.1
      obtain ⟨k, hk⟩ : ∃ k, n = k + 1 := ⟨n - 1, by omega⟩
      rw [hk, Nat.pow_succ', Nat.mod_mul] at this
      omega
    have h0 := hp 0 (by omega)
    have h1 := hp 1 (by omega)
    rw [if_neg hodd] at h1
    rw [hnext]
    have hsum : (if wtM n a b c m ≤ v then ways n R a b c (m % 2 ^ n) (v - wtM n a b c m) else 0) = (if wtM n a b c m ≤ v then wayT n R a b c (m % 2 ^ n) (v - wtM n a b c m) 0 else 0) + (if wtM n a b c m ≤ v then wayT n R a b c (m % 2 ^ n) (v - wtM n a b c m) 1 else 0) := by
      by_cases e : wtM n a b c m ≤ v
      · rw [if_pos e, if_pos e, if_pos e, ways_rec h hlt hm]
      · rw [if_neg e, if_neg e, if_neg e]
    rw [hsum, h0, h1]
    rw [Nat.add_zero]
    by_cases e : (2 * m) % 2 ^ n = 0 ∧ wtM n a b c (2 * m) = v
    · rw [if_pos e]; simp [e]; omega
    · rw [if_neg e]; simp [e]; omega
/-- the loops of a weight, counted step by step -/
def lSum (n a b c W v : Nat) : Nat → Nat
  | 0 => 0
  | T + 1 => lSum n a b c W v T + lN n a b c W T v
theorem loops_sum (h : GoodN n R a b c) {W v : Nat} (hv : v ≤ W) (T : Nat) :
    loopsN n R a b c v = lSum n a b c W v T + sumL (fun m => if wtM n a b c m ≤ v then ways n R a b c (m % 2 ^ n) (v - wtM n a b c m) else 0) (aL n a b c W T) := by
  induction T with
  | zero =>
    have h1 : 1 % 2 ^ n = 1 := Nat.mod_eq_of_lt (Nat.one_lt_two_pow (by have := h.n2; omega))
    have hnx : nxF n 0 1 = 1 := by unfold nxF; simpa using h1
    unfold loopsN wayT aL
    rw [hnx, if_neg (show ¬ (1 : Nat) = 0 by omega), lSum, Nat.zero_add, wtM_one h]
    by_cases e : wtF R a b c 0 1 ≤ v
    · rw [if_pos e, if_pos (by omega)]; simp [sumL, h1, wtM_one h, e]
    · rw [if_neg e]
      split
      · simp [sumL, wtM_one h, e]
      · rfl
  | succ T ih =>
    rw [ih, sum_step h hv _ (fun m hm => (aL_mem h W T m hm).2.2.1), lSum, lN, aL]
    omega
theorem loops_small (h : GoodN n R a b c) {v : Nat} (hv : v ≤ 24) (hn : n ≤ 7) (W T : Nat) (hW2 : W ≤ 24) : lSum n a b c W v T < 9223372036854775808 := by
  have len : ∀ T, (((List.range T).flatMap fun L => ((aL n a b c W L).filter fun m => decide ((2 * m) % 2 ^ n = 0 ∧ wtM n a b c (2 * m) = v)).map (2 * ·))).length = lSum n a b c W v T := fun T => by
    induction T with
    | zero => rfl
    | succ T ih => rw [List.range_succ, List.flatMap_append, List.length_append, ih, lSum, lN, List.countP_eq_length_filter]; simp
  rw [← len T]
  refine few_regs h _ (nodup_of_rise ?_) 0 fun y hy => ?_
  · rw [List.pairwise_flatMap]
    refine ⟨fun L _ => ?_, List.Pairwise.imp ?_ List.pairwise_lt_range⟩
    · rw [List.pairwise_map]
      exact (List.Pairwise.filter _ (aL_rise n a b c W L)).imp fun {_ _} h => by omega
    · intro L L' hlt x hx y hy
      obtain ⟨m, hm, rfl⟩ := List.mem_map.1 hx
      obtain ⟨m', hm', rfl⟩ := List.mem_map.1 hy
      have h1 := (aL_mem h W L m (List.mem_filter.1 hm).1).2.1
      have h2 := (aL_mem h W L' m' (List.mem_filter.1 hm').1).1
      have h3 : 2 ^ (L + 1) ≤ 2 ^ L' := Nat.pow_le_pow_right (by omega) (by omega)
      omega
  · obtain ⟨L, _, hy⟩ := List.mem_flatMap.1 hy
    obtain ⟨m, hm, rfl⟩ := List.mem_map.1 hy
    obtain ⟨hm, hd⟩ := List.mem_filter.1 hm
    have hd := of_decide_eq_true hd
    obtain ⟨_, i2, _, i4, i5⟩ := aL_mem h W L m hm
    have h5 : (wtM n a b c m + 1) * n ≤ 25 * 7 := Nat.mul_le_mul (by omega) hn
    have h6 : 2 ^ (L + 1) ≤ 2 ^ 175 := Nat.pow_le_pow_right (by omega) (by omega)
    refine ⟨?_, by omega, hd.1⟩
    rw [show 176 = 175 + 1 from rfl, Nat.pow_succ]
    omega
/-- all loops of a weight have come behind so many steps -/
theorem loops_all (h : GoodN n R a b c) {W v T : Nat} (hv : v ≤ W) (hT : (W + 1) * n ≤ T) : loopsN n R a b c v = lSum n a b c W v T := by
  rw [loops_sum h hv T, aL_end h hT]; rfl
end
end Go.Proofs.Ytpmnbdkncmjafaa
