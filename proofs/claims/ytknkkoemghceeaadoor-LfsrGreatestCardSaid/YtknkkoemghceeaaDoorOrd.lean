/- The order of x modulo a register's polynomial, and the register's period; sequences of the greatest length. Nothing of Go stands here. -/
import Derived.Test.YtknkkoemghceeaaDoorRabin
namespace Gf2

theorem coprime_cancel {a b p : Nat} (hg : gcd a p = 1) (hd : Dvd p (cm a b)) : Dvd p b := by
  obtain ⟨u, v, huv⟩ := Go.Proofs.YtknkkoemghceeaaDoor.Rev.gcd_lin a p
  rw [hg] at huv
  have hb : b = cm u (cm a b) ^^^ cm (cm v b) p := by
    have := congrArg (fun x => cm x b) huv
    simp only [cm_xor_left, cm_one_left] at this
    rw [cm_assoc v b p, cm_comm b p, ← cm_assoc v p b, ← cm_assoc u a b]
    exact this.symm
  rw [hb]
  exact (hd.cm u).xor ((Dvd.refl p).cm _)
theorem odd_gcd_pow {p : Nat} (hp : p % 2 = 1) (i : Nat) : gcd (2 ^ i) p = 1 := by
  obtain ⟨h1, h2⟩ := gcd_dvd (2 ^ i) p
  obtain ⟨q, hq⟩ := h1
  exact Go.Proofs.YtknkkoemghceeaaDoor.Rev.odd_dvd_pow (Go.Proofs.YtknkkoemghceeaaDoor.Rev.dvd_odd h2 hp) i q hq
/-- the order of x modulo p -/
def OrdP (p n : Nat) : Prop := 1 ≤ n ∧ Dvd p (2 ^ n ^^^ 1) ∧ ∀ m, 1 ≤ m → m < n → ¬ Dvd p (2 ^ m ^^^ 1)
/-- x to the k, reduced -/
def px (p k : Nat) : Nat := rem (2 ^ k) p
theorem px_one (p : Nat) : px p 1 = rem 2 p := by unfold px; rw [Nat.pow_one]
theorem px_next {p : Nat} (hp : p ≠ 0) (k : Nat) : rem (2 * px p k) p = px p (k + 1) := by
  refine Cg.small (len_rem _ hp) (len_rem _ hp) ?_
  refine (Cg.rem p _).trans (Cg.trans ?_ (Cg.rem p (2 ^ (k + 1))).symm)
  have h := (Cg.refl p 2).cm (Cg.rem p (2 ^ k))
  have e1 : ∀ y, cm 2 y = 2 * y := fun y => by rw [show (2 : Nat) = 2 ^ 1 from rfl, cm_pow, Nat.pow_one, Nat.mul_comm]
  rw [e1, e1] at h
  rw [Nat.pow_succ, Nat.mul_comm (2 ^ k)]
  exact h
theorem px_eq {p : Nat} (hp : p ≠ 0) (k : Nat) : px p k = rem 1 p ↔ Dvd p (2 ^ k ^^^ 1) := by
  constructor
  · intro h
    have h1 := (Cg.rem p (2 ^ k)).symm
    rw [show rem (2 ^ k) p = rem 1 p from h] at h1
    exact h1.trans (Cg.rem p 1)
  · intro h
    exact Cg.small (len_rem _ hp) (len_rem _ hp) ((Cg.rem p _).trans (Cg.trans h (Cg.rem p 1).symm))
theorem px_lt {p n : Nat} (hl : len p = n + 1) (k : Nat) : px p k < 2 ^ n := by
  have hp : p ≠ 0 := by rintro rfl; rw [len_zero] at hl; omega
  have := len_rem (2 ^ k) hp
  exact lt_of_len (show len (rem (2 ^ k) p) ≤ n by omega)
theorem ord_ex {p n : Nat} (hp : p % 2 = 1) (hl : len p = n + 1) : ∃ k, OrdP p k ∧ k ≤ 2 ^ n := by
  have hp0 : p ≠ 0 := by omega
  obtain ⟨i, j, h1, h2, h3⟩ := pigeon (2 ^ n) (px p) (fun k _ => px_lt hl k)
  have h4 : Dvd p (2 ^ i ^^^ 2 ^ j) := by
    have a := (Cg.rem p (2 ^ i)).symm
    rw [show rem (2 ^ i) p = rem (2 ^ j) p from h3] at a
    exact a.trans (Cg.rem p (2 ^ j))
  have h5 : Dvd p (2 ^ (j - i) ^^^ 1) := by
    refine coprime_cancel (odd_gcd_pow hp i) ?_
    rw [cm_xor_right, cm_one_right, cm_pp, show i + (j - i) = j by omega, Nat.xor_comm]
    exact h4
  obtain ⟨k, ⟨h6, h7⟩, h8⟩ := least_of (P := fun k => 1 ≤ k ∧ Dvd p (2 ^ k ^^^ 1)) ⟨j - i, by omega, h5⟩
  refine ⟨k, ⟨h6, h7, fun m a b c => h8 m b ⟨a, c⟩⟩, ?_⟩
  apply Nat.le_of_not_lt
  intro hc
  exact h8 (j - i) (by omega) ⟨by omega, h5⟩
theorem OrdP.unique {p m n : Nat} (hm : OrdP p m) (hn : OrdP p n) : m = n := by
  rcases Nat.lt_trichotomy m n with h | h | h
  · exact absurd hm.2.1 (hn.2.2 m hm.1 h)
  · exact h
  · exact absurd hn.2.1 (hm.2.2 n hn.1 h)
section
variable {D T : Nat}
theorem act_dvd {v q : Nat} (hD : 1 ≤ D) (hD30 : D ≤ 30) (hT : T < 2 ^ D) (hv : v < 2 ^ D) (h : Dvd (2 ^ D + T) q) : act D T q v = 0 := by
  obtain ⟨a, rfl⟩ := h
  rw [act_cm hD hv, act_pol hD hD30 hT hv, act_none]
theorem stpN_of_dvd {v k : Nat} (hD : 1 ≤ D) (hD30 : D ≤ 30) (hT : T < 2 ^ D) (hv : v < 2 ^ D) (h : Dvd (2 ^ D + T) (2 ^ k ^^^ 1)) : stpN D T k v = v := by
  have := act_dvd hD hD30 hT hv h
  rw [act_xor_left, act_pow, act_one] at this
  exact xor_zero_eq this
/-- the period divides the order -/
theorem per_dvd {v n N : Nat} (hD : 1 ≤ D) (hD30 : D ≤ 30) (hT : T < 2 ^ D) (hv : v < 2 ^ D) (hN : OrdP (2 ^ D + T) N) (hn : Per D T v n) : N % n = 0 :=
  (hn.iff N).1 (stpN_of_dvd hD hD30 hT hv hN.2.1)
theorem dvd_of_stpN {v k : Nat} (hI : Irr (2 ^ D + T)) (hD : 1 ≤ D) (hD30 : D ≤ 30) (hT : T < 2 ^ D) (hv : v < 2 ^ D) (h0 : v ≠ 0) (h : stpN D T k v = v) : Dvd (2 ^ D + T) (2 ^ k ^^^ 1) := by
  have ha : act D T (2 ^ k ^^^ 1) v = 0 := by rw [act_xor_left, act_pow, act_one, h, Nat.xor_self]
  obtain ⟨h1, h2⟩ := gcd_dvd (2 ^ k ^^^ 1) (2 ^ D + T)
  rcases hI.dvd h2 with e | e
  · exfalso
    obtain ⟨u, w, huw⟩ := Go.Proofs.YtknkkoemghceeaaDoor.Rev.gcd_lin (2 ^ k ^^^ 1) (2 ^ D + T)
    rw [e] at huw
    have h3 : act D T 1 v = 0 := by
      rw [← huw, act_xor_left, act_cm hD hv, act_cm hD hv, ha, act_pol hD hD30 hT hv, act_none, act_none, Nat.xor_zero]
    rw [act_one] at h3
    exact h0 h3
  · rw [e] at h1; exact h1
/-- of an irreducible polynomial it is the order -/
theorem per_eq {v n N : Nat} (hI : Irr (2 ^ D + T)) (hD : 1 ≤ D) (hD30 : D ≤ 30) (hT : T < 2 ^ D) (hv : v < 2 ^ D) (h0 : v ≠ 0) (hN : OrdP (2 ^ D + T) N) (hn : Per D T v n) : N = n := by
  have h1 := dvd_of_stpN hI hD hD30 hT hv h0 hn.2.1
  have h2 := stpN_of_dvd hD hD30 hT hv hN.2.1
  rcases Nat.lt_trichotomy N n with h | h | h
  · exact absurd h2 (hn.2.2 N hN.1 h)
  · exact h
  · exact absurd h1 (hN.2.2 n hn.1 h)
theorem stpN_ne {v : Nat} (hD : 1 ≤ D) (hT1 : T % 2 = 1) (hv : v < 2 ^ D) (h0 : v ≠ 0) (k : Nat) : stpN D T k v ≠ 0 := fun e =>
  h0 (stpN_inj hD hT1 hv (Nat.two_pow_pos D) k (by rw [e, stpN_zero]))
theorem per_lt {v n : Nat} (hD : 1 ≤ D) (hT1 : T % 2 = 1) (hv : v < 2 ^ D) (h0 : v ≠ 0) (hn : Per D T v n) : n < 2 ^ D := by
  have hp := Nat.two_pow_pos D
  have hne := stpN_ne hD hT1 hv h0
  obtain ⟨i, j, h1, h2, h3⟩ := pigeon (2 ^ D - 1) (fun k => stpN D T k v - 1) (fun k _ => by
    have := stpN_lt (T := T) hD hv k
    have := hne k
    show stpN D T k v - 1 < 2 ^ D - 1
    omega)
  have h4 : stpN D T i (stpN D T (j - i) v) = stpN D T i v := by
    rw [← stpN_add, show j - i + i = j by omega]
    have a := hne i
    have b := hne j
    have c : stpN D T i v - 1 = stpN D T j v - 1 := h3
    omega
  have h5 := stpN_inj hD hT1 (stpN_lt hD hv _) hv i h4
  apply Nat.lt_of_not_le
  intro hc
  exact hn.2.2 (j - i) (by omega) (by omega) h5
/-- the first n states -/
def statesL (D T v n : Nat) : List Nat := (List.range n).map fun i => stpN D T i v
theorem states_nodup {v n : Nat} (hD : 1 ≤ D) (hT1 : T % 2 = 1) (hv : v < 2 ^ D) (hn : Per D T v n) : (statesL D T v n).Nodup := by
  refine List.pairwise_map.2 (List.Pairwise.imp_of_mem ?_ (List.nodup_range (n := n)))
  intro a b ha hb hne e
  have ha := List.mem_range.1 ha
  have hb := List.mem_range.1 hb
  have key : ∀ i j, i < j → j < n → stpN D T i v = stpN D T j v → False := fun i j hij hj e => by
    have h4 : stpN D T i (stpN D T (j - i) v) = stpN D T i v := by
      rw [← stpN_add, show j - i + i = j by omega]; exact e.symm
    exact hn.2.2 (j - i) (by omega) (by omega) (stpN_inj hD hT1 (stpN_lt hD hv _) hv i h4)
  rcases Nat.lt_or_gt_of_ne hne with h | h
  · exact key a b h hb e
  · exact key b a h ha e.symm
/-- all states but 0 are met -/
theorem states_perm {v : Nat} (hD : 1 ≤ D) (hT1 : T % 2 = 1) (hv : v < 2 ^ D) (h0 : v ≠ 0) (hn : Per D T v (2 ^ D - 1)) : (statesL D T v (2 ^ D - 1)).Perm (upto (2 ^ D - 1)) := by
  have hnd := states_nodup hD hT1 hv hn
  have hsub : ∀ y, y ∈ statesL D T v (2 ^ D - 1) → y ∈ upto (2 ^ D - 1) := fun y hy => by
    obtain ⟨i, _, rfl⟩ := List.mem_map.1 hy
    have := stpN_lt (T := T) hD hv i
    have := stpN_ne hD hT1 hv h0 i
    rw [upto_mem]
    omega
  refine (List.perm_ext_iff_of_nodup hnd (upto_nodup _)).2 fun y => ⟨hsub y, fun hy => ?_⟩
  refine Decidable.byContradiction fun hc => ?_
  have h1 : (y :: statesL D T v (2 ^ D - 1)).Nodup := List.nodup_cons.2 ⟨hc, hnd⟩
  have h2 := h1.length_le_of_subset (l₂ := upto (2 ^ D - 1)) (fun z hz => by
    rcases List.mem_cons.1 hz with e | e
    · rw [e]; exact hy
    · exact hsub z e)
  rw [List.length_cons, upto_length] at h2
  simp [statesL] at h2
  omega
theorem count_odd : ∀ m, (upto (2 * m + 1)).countP (· % 2 == 1) = m + 1
  | 0 => rfl
  | m + 1 => by
    have ih := count_odd m
    unfold upto at *
    rw [show 2 * (m + 1) + 1 = 2 * m + 1 + 1 + 1 by omega, List.range_succ, List.range_succ, List.map_append, List.map_append, List.countP_append, List.countP_append, ih]
    have h1 : ((2 * m + 1 + 1 + 1) % 2 == 1) = true := by rw [beq_iff_eq]; omega
    have h2 : ((2 * m + 1 + 1) % 2 == 1) = false := by rw [beq_eq_false_iff_ne]; omega
    simp [h1, h2]
/-- so many of the first n bits are ones -/
theorem count_states {v : Nat} (hD : 1 ≤ D) (hT1 : T % 2 = 1) (hv : v < 2 ^ D) (h0 : v ≠ 0) (hn : Per D T v (2 ^ D - 1)) : BM.sumF (fun i => stpN D T i v % 2) (2 ^ D - 1) = 2 ^ (D - 1) := by
  have h1 := (states_perm hD hT1 hv h0 hn).countP_eq (· % 2 == 1)
  have h2 : ∀ n, (statesL D T v n).countP (· % 2 == 1) = BM.sumF (fun i => stpN D T i v % 2) n := by
    intro n
    induction n with
    | zero => rfl
    | succ n ih =>
      unfold statesL at *
      rw [List.range_succ, List.map_append, List.countP_append, ih, BM.sumF]
      congr 1
      rcases Nat.mod_two_eq_zero_or_one (stpN D T n v) with h | h <;> simp [h]
  rw [← h2, h1]
  obtain ⟨d, rfl⟩ : ∃ d, D = d + 1 := ⟨D - 1, by omega⟩
  have hp := Nat.two_pow_pos d
  have e : 2 ^ (d + 1) - 1 = 2 * (2 ^ d - 1) + 1 := by rw [Nat.pow_succ]; omega
  rw [e, count_odd, Nat.add_sub_cancel]
  omega
/-- a state that is a sum of two of the sequence has the period too -/
theorem per_any {v u n : Nat} (hI : Irr (2 ^ D + T)) (hD : 1 ≤ D) (hD30 : D ≤ 30) (hT : T < 2 ^ D) (hT1 : T % 2 = 1) (hv : v < 2 ^ D) (h0 : v ≠ 0) (hu : u < 2 ^ D) (hu0 : u ≠ 0) (hn : Per D T v n) : Per D T u n := by
  obtain ⟨N, hN, _⟩ := ord_ex (p := 2 ^ D + T) (n := D) (by
    have : 2 ^ D % 2 = 0 := by obtain ⟨d, rfl⟩ : ∃ d, D = d + 1 := ⟨D - 1, by omega⟩; rw [Nat.pow_succ]; omega
    omega) (len_pol hT)
  obtain ⟨m, hm, _⟩ := per_ex (D := D) (T := T) hD hT1 hu
  have h1 := per_eq hI hD hD30 hT hv h0 hN hn
  have h2 := per_eq hI hD hD30 hT hu hu0 hN hm
  rw [← h1, h2]; exact hm
/-- in how many places the sequence agrees with itself, moved -/
theorem alike_count {v by_ : Nat} (hI : Irr (2 ^ D + T)) (hD : 1 ≤ D) (hD30 : D ≤ 30) (hT : T < 2 ^ D) (hT1 : T % 2 = 1) (hv : v < 2 ^ D) (h0 : v ≠ 0) (hn : Per D T v (2 ^ D - 1)) (h1 : 1 ≤ by_) (h2 : by_ < 2 ^ D - 1) :
    BM.sumF (fun i => if stpN D T i v % 2 = stpN D T (i + by_) v % 2 then 1 else 0) (2 ^ D - 1) = 2 ^ (D - 1) - 1 := by
  have hw := stpN_lt (T := T) hD hv by_
  have hu : v ^^^ stpN D T by_ v < 2 ^ D := Nat.xor_lt_two_pow hv hw
  have hu0 : v ^^^ stpN D T by_ v ≠ 0 := fun e => hn.2.2 by_ h1 h2 (xor_zero_eq e).symm
  have hper := per_any hI hD hD30 hT hT1 hv h0 hu hu0 hn
  have hc := count_states hD hT1 hu hu0 hper
  have key : ∀ n, BM.sumF (fun i => if stpN D T i v % 2 = stpN D T (i + by_) v % 2 then 1 else 0) n + BM.sumF (fun i => stpN D T i (v ^^^ stpN D T by_ v) % 2) n = n := by
    intro n
    induction n with
    | zero => rfl
    | succ n ih =>
      rw [BM.sumF, BM.sumF]
      have e : (if stpN D T n v % 2 = stpN D T (n + by_) v % 2 then 1 else 0) + stpN D T n (v ^^^ stpN D T by_ v) % 2 = 1 := by
        rw [stpN_xor hD hv hw, ← stpN_add, xor_odd, Nat.add_comm n by_]
        split <;> omega
      omega
  have hk := key (2 ^ D - 1)
  rw [hc] at hk
  obtain ⟨d, rfl⟩ : ∃ d, D = d + 1 := ⟨D - 1, by omega⟩
  rw [Nat.add_sub_cancel] at *
  rw [Nat.pow_succ] at hk ⊢
  omega
end
end Gf2
