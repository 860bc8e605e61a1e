/- Irreducible polynomials; a register's row of bits and the register's polynomial turned round; nothing of Go stands here. -/
import Derived.Test.YtknkkoemghceeaaDoorBMmin
import Derived.Test.YtknkkoemghceeaaDoorRevC
import Derived.Test.YtknkkoemghceeaaDoorAct
namespace Gf2

/-- irreducible: of degree 1 or more, and in no way a product -/
def Irr (p : Nat) : Prop := 2 ≤ p ∧ ∀ a b, cm a b = p → a = 1 ∨ b = 1
theorem len_one : len 1 = 1 := len_eq (n := 0) (by simp) (by simp)
theorem len_le_one {a : Nat} (h : len a ≤ 1) (h0 : a ≠ 0) : a = 1 := by
  have := lt_len a
  have h2 : 2 ^ len a ≤ 2 ^ 1 := Nat.pow_le_pow_right (by omega) h
  omega
theorem Irr.dvd {p d : Nat} (h : Irr p) (hd : Dvd d p) : d = 1 ∨ d = p := by
  obtain ⟨q, hq⟩ := hd
  rcases h.2 q d hq with e | e
  · rw [e, cm_one_left] at hq; exact .inr hq
  · exact .inl e
/-- Euclid -/
theorem Irr.prime {p a b : Nat} (h : Irr p) (hd : Dvd p (cm a b)) : Dvd p a ∨ Dvd p b := by
  obtain ⟨h1, h2⟩ := gcd_dvd a p
  rcases h.dvd h2 with e | e
  · right
    obtain ⟨u, v, huv⟩ := Go.Proofs.YtknkkoemghceeaaDoor.Rev.gcd_lin a p
    rw [e] at huv
    have hb : b = cm u (cm a b) ^^^ cm (cm v b) p := by
      have := congrArg (fun x => cm x b) huv
      simp only [cm_xor_left, cm_one_left] at this
      rw [cm_assoc v b p, cm_comm b p, ← cm_assoc v p b, ← cm_assoc u a b]
      exact this.symm
    rw [hb]
    exact (hd.cm u).xor ((Dvd.refl p).cm _)
  · left; rw [e] at h1; exact h1
/-- turned round it stays irreducible -/
theorem Irr.turned {n P : Nat} (h : Irr P) (hP : P < 2 ^ (n + 1)) (hodd : P % 2 = 1) (htop : P / 2 ^ n % 2 = 1) : Irr (Go.Proofs.YtknkkoemghceeaaDoor.Rev.revP n P) ∧ len (Go.Proofs.YtknkkoemghceeaaDoor.Rev.revP n P) = n + 1 := by
  have hlt := Go.Proofs.YtknkkoemghceeaaDoor.Rev.revP_lt n P
  have hlow := Go.Proofs.YtknkkoemghceeaaDoor.Rev.revP_low n P
  have hhigh := Go.Proofs.YtknkkoemghceeaaDoor.Rev.revP_high n P
  have hback := Go.Proofs.YtknkkoemghceeaaDoor.Rev.revP_revP hP
  have hn : n ≠ 0 := by
    rintro rfl
    have := h.1
    simp at hP
    omega
  generalize Go.Proofs.YtknkkoemghceeaaDoor.Rev.revP n P = C at *
  have hlen : len C = n + 1 := by
    refine len_eq ?_ hlt
    apply Nat.le_of_not_lt
    intro hc
    rw [Nat.div_eq_of_lt hc, hodd] at hhigh
    simp at hhigh
  refine ⟨⟨?_, fun a b hab => ?_⟩, hlen⟩
  · apply Nat.le_of_not_lt
    intro hc
    have : len C ≤ 1 := len_le (by simpa using hc)
    omega
  · have ha0 : a ≠ 0 := by rintro rfl; rw [cm_zero] at hab; rw [← hab, len_zero] at hlen; omega
    have hb0 : b ≠ 0 := by rintro rfl; rw [cm_zero_right] at hab; rw [← hab, len_zero] at hlen; omega
    have hl := len_cm ha0 hb0
    have hla := len_pos ha0
    have hlb := len_pos hb0
    rw [hab, hlen] at hl
    have hao : a % 2 = 1 ∧ b % 2 = 1 := by
      have := Go.Proofs.YtknkkoemghceeaaDoor.Rev.cm_odd a b
      rw [hab, hlow, htop] at this
      rcases Nat.mod_two_eq_zero_or_one a with e | e <;> rcases Nat.mod_two_eq_zero_or_one b with e2 | e2 <;> rw [e, e2] at this <;> first | exact ⟨e, e2⟩ | (simp at this)
    obtain ⟨i, hi⟩ : ∃ i, len a = i + 1 := ⟨_, hla⟩
    obtain ⟨j, hj⟩ : ∃ j, len b = j + 1 := ⟨_, hlb⟩
    have hai : a < 2 ^ (i + 1) := by rw [← hi]; exact lt_len a
    have hbj : b < 2 ^ (j + 1) := by rw [← hj]; exact lt_len b
    have hr := Go.Proofs.YtknkkoemghceeaaDoor.Rev.rev_cm hai hbj
    rw [hab, show i + j = n by omega, hback] at hr
    have key : ∀ x k, x < 2 ^ (k + 1) → x % 2 = 1 → len x = k + 1 → Go.Proofs.YtknkkoemghceeaaDoor.Rev.revP k x = 1 → x = 1 := by
      intro x k hx hxo hlx e
      have e2 := Go.Proofs.YtknkkoemghceeaaDoor.Rev.revP_revP hx
      rw [e] at e2
      have e3 := Go.Proofs.YtknkkoemghceeaaDoor.Rev.revP_pow (n := k) (k := 0) (by omega)
      rw [Nat.pow_zero, Nat.sub_zero, e2] at e3
      cases k with
      | zero => simpa using e3
      | succ k => rw [e3, Nat.pow_succ] at hxo; omega
    rcases h.2 _ _ hr.symm with e | e
    · exact .inl (key a i hai hao.1 hi e)
    · exact .inr (key b j hbj hao.2 hj e)
end Gf2
namespace Gf2
namespace BM
/-- sums modulo 2 -/
def sumF (f : Nat → Nat) : Nat → Nat
  | 0 => 0
  | n + 1 => sumF f n + f n
theorem sumF_head (f : Nat → Nat) : ∀ n, sumF f (n + 1) = f 0 + sumF (fun i => f (i + 1)) n
  | 0 => by simp [sumF]
  | n + 1 => by
    rw [sumF, sumF_head f n, sumF]
    omega
theorem sumF_congr {f g : Nat → Nat} : ∀ n, (∀ i, i < n → f i = g i) → sumF f n = sumF g n
  | 0, _ => rfl
  | n + 1, h => by rw [sumF, sumF, sumF_congr n (fun i hi => h i (by omega)), h n (by omega)]
theorem sumF_turn : ∀ (n : Nat) (f : Nat → Nat), sumF f (n + 1) = sumF (fun i => f (n - i)) (n + 1)
  | 0, f => rfl
  | n + 1, f => by
    rw [sumF_head f (n + 1), sumF_turn n (fun i => f (i + 1))]
    show _ = sumF (fun i => f (n + 1 - i)) (n + 1) + f (n + 1 - (n + 1))
    rw [Nat.sub_self, Nat.add_comm]
    congr 1
    exact sumF_congr _ fun i hi => by show f (n - i + 1) = _; rw [show n - i + 1 = n + 1 - i by omega]
theorem part_sum {S c n : Nat} : ∀ i, i ≤ n + 1 → part S c n i = sumF (fun i => c / 2 ^ i % 2 * (S / 2 ^ (n - i) % 2)) i % 2
  | 0, _ => by rw [part_zero]; rfl
  | i + 1, hi => by
    have ih := part_sum (S := S) (c := c) (n := n) i (by omega)
    rw [sumF]
    rcases Nat.mod_two_eq_zero_or_one (c / 2 ^ i) with h | h
    · rw [part_no (.inl h), ih, h, Nat.zero_mul, Nat.add_zero]
    · rw [part_yes h (by omega), ih, h, Nat.one_mul]
      have e : ∀ a b : Nat, (a % 2) ^^^ (b % 2) = (a + b % 2) % 2 := by
        intro a b
        have h1 : a % 2 = 0 ∨ a % 2 = 1 := by omega
        have h2 : b % 2 = 0 ∨ b % 2 = 1 := by omega
        rcases h1 with h1 | h1 <;> rcases h2 with h2 | h2 <;> rw [h1, h2] <;> simp <;> omega
      exact e _ _
theorem act_sum {D T v q : Nat} : ∀ i, act D T (q % 2 ^ i) v % 2 = sumF (fun i => q / 2 ^ i % 2 * (stpN D T i v % 2)) i % 2
  | 0 => by rw [Nat.pow_zero, Nat.mod_one, act_zero]; rfl
  | i + 1 => by
    rw [act_bit2, act_sum i, sumF]
    rcases Nat.mod_two_eq_zero_or_one (q / 2 ^ i) with h | h
    · rw [h, if_neg (by omega), Nat.zero_mul]; omega
    · rw [h, if_pos rfl, Nat.one_mul]; omega
/-- a register's row is made by its polynomial, turned round -/
theorem turned_fits {D T v n : Nat} {xs : List Nat} (hD : 1 ≤ D) (hD30 : D ≤ 30) (hT : T < 2 ^ D) (hv : v < 2 ^ D) (hx : ∀ i, i < n → xs.getD i 0 = stpN D T i v % 2) (k : Nat) (hk : D ≤ k) (hkn : k < n) :
    dsc (rowN xs) (Go.Proofs.YtknkkoemghceeaaDoor.Rev.revP D (2 ^ D + T)) k = false := by
  have hlt := Go.Proofs.YtknkkoemghceeaaDoor.Rev.revP_lt D (2 ^ D + T)
  have h1 := part_done (S := rowN xs) (n := k) hlt
  rw [part_sum (D + 1) (by omega)] at h1
  have h2 : sumF (fun i => Go.Proofs.YtknkkoemghceeaaDoor.Rev.revP D (2 ^ D + T) / 2 ^ i % 2 * (rowN xs / 2 ^ (k - i) % 2)) (D + 1) = sumF (fun i => (2 ^ D + T) / 2 ^ i % 2 * (stpN D T i (stpN D T (k - D) v) % 2)) (D + 1) := by
    rw [sumF_turn D (fun i => (2 ^ D + T) / 2 ^ i % 2 * (stpN D T i (stpN D T (k - D) v) % 2))]
    refine sumF_congr _ fun i hi => ?_
    have e1 : Go.Proofs.YtknkkoemghceeaaDoor.Rev.revP D (2 ^ D + T) / 2 ^ i % 2 = (2 ^ D + T) / 2 ^ (D - i) % 2 := by
      have := Go.Proofs.YtknkkoemghceeaaDoor.Rev.revP_bit D (2 ^ D + T) i
      rw [Nat.testBit_eq_decide_div_mod_eq, Nat.testBit_eq_decide_div_mod_eq, show decide (i ≤ D) = true by simp; omega, Bool.true_and] at this
      have := decide_eq_decide.1 this
      omega
    rw [e1, rowN_bit, hx _ (by omega), ← stpN_add, show k - D + (D - i) = k - i by omega, Nat.mod_mod]
  rw [h2, ← act_sum] at h1
  have hl : 2 ^ D + T < 2 ^ (D + 1) := by rw [Nat.pow_succ]; omega
  rw [Nat.mod_eq_of_lt hl, act_pol hD hD30 hT (stpN_lt hD hv _)] at h1
  cases h : dsc (rowN xs) (Go.Proofs.YtknkkoemghceeaaDoor.Rev.revP D (2 ^ D + T)) k
  · rfl
  · rw [h] at h1; simp at h1
theorem mod_of_zero {x L n : Nat} (hL : L ≤ n) (h : ∀ k, L ≤ k → k < n → x.testBit k = false) : x % 2 ^ n = x % 2 ^ L := by
  refine Nat.eq_of_testBit_eq fun j => ?_
  rw [Nat.testBit_mod_two_pow, Nat.testBit_mod_two_pow]
  by_cases h1 : j < L
  · simp [h1, show j < n by omega]
  · by_cases h2 : j < n
    · simp [h1, h2, h j (by omega) h2]
    · simp [h1, h2]
theorem cm_mod (a x n : Nat) : cm a x % 2 ^ n = cm a (x % 2 ^ n) % 2 ^ n := by
  refine Nat.eq_of_testBit_eq fun j => ?_
  rw [Nat.testBit_mod_two_pow, Nat.testBit_mod_two_pow]
  by_cases hj : j < n
  · have e : x % 2 ^ (j + 1) = (x % 2 ^ n) % 2 ^ (j + 1) := by rw [Nat.mod_mod_of_dvd _ (Nat.pow_dvd_pow 2 (by omega))]
    have := dsc_low (c := a) e
    unfold dsc at this
    rw [this]
  · simp [hj]
theorem cm_small {a b i j n : Nat} (ha : a < 2 ^ (i + 1)) (hb : b < 2 ^ j) (h : i + j ≤ n) : cm a b % 2 ^ n = cm a b := by
  refine Nat.mod_eq_of_lt ?_
  by_cases ha0 : a = 0
  · rw [ha0, cm_zero]; exact Nat.two_pow_pos n
  by_cases hb0 : b = 0
  · rw [hb0, cm_zero_right]; exact Nat.two_pow_pos n
  have h1 := len_cm ha0 hb0
  have h2 := len_le ha
  have h3 := len_le hb
  exact lt_of_len (by omega)
/-- an odd polynomial divides out -/
theorem odd_mod {C S n : Nat} (hC : C % 2 = 1) (h : cm C S % 2 ^ n = 0) : S % 2 ^ n = 0 := by
  rw [cm_mod] at h
  refine Decidable.byContradiction fun h0 => ?_
  obtain ⟨i, r, e⟩ := low_one h0
  have hi : i < n := by
    apply Nat.lt_of_not_le
    intro hc
    have h1 := Nat.mod_lt S (Nat.two_pow_pos n)
    rw [e] at h1
    have h2 : 2 ^ n ≤ 2 ^ i := Nat.pow_le_pow_right (by omega) hc
    have h3 : 1 * 2 ^ i ≤ (2 * r + 1) * 2 ^ i := Nat.mul_le_mul_right _ (by omega)
    omega
  have h2 : (cm C (S % 2 ^ n) % 2 ^ n).testBit i = true := by
    rw [Nat.testBit_mod_two_pow, e, cm_comm, cm_shift, Nat.testBit_mul_two_pow, cm_comm, Nat.sub_self, Go.Proofs.YtknkkoemghceeaaDoor.Rev.bitz, Go.Proofs.YtknkkoemghceeaaDoor.Rev.cm_odd, hC]
    simp [hi]
  rw [h] at h2
  simp at h2
/-- out of bits enough an irreducible register is found again -/
theorem found {S n D L C c : Nat} (hI : Irr C) (hlen : len C = D + 1) (hC : C % 2 = 1) (hCz : ∀ k, D ≤ k → k < n → dsc S C k = false) (hf : Fits S n L c) (hL : L ≤ D) (hn : D + L ≤ n) (hS : S % 2 ^ n ≠ 0) : L = D ∧ c = C := by
  obtain ⟨h1, h2, h3⟩ := hf
  have hCl : C < 2 ^ (D + 1) := by rw [← hlen]; exact lt_len C
  have ea : cm c S % 2 ^ n = cm c S % 2 ^ L := mod_of_zero (by omega) h3
  have eb : cm C S % 2 ^ n = cm C S % 2 ^ D := mod_of_zero (by omega) hCz
  have hk : cm C (cm c S % 2 ^ L) = cm c (cm C S % 2 ^ D) := by
    have e : cm C (cm c S) = cm c (cm C S) := by rw [← cm_assoc, ← cm_assoc, cm_comm C c]
    have e2 : cm C (cm c S) % 2 ^ n = cm c (cm C S) % 2 ^ n := by rw [e]
    rw [cm_mod C (cm c S), cm_mod c (cm C S), ea, eb, cm_small hCl (Nat.mod_lt _ (Nat.two_pow_pos L)) (by omega), cm_small h2 (Nat.mod_lt _ (Nat.two_pow_pos D)) (by omega)] at e2
    exact e2
  have hdv : Dvd C (cm c (cm C S % 2 ^ D)) := ⟨cm c S % 2 ^ L, by rw [cm_comm]; exact hk⟩
  rcases hI.prime hdv with h | h
  · have hc0 : c ≠ 0 := by rintro rfl; simp at h1
    have hll := h.len_le hc0
    have hlc := len_le h2
    obtain ⟨q, hq⟩ := h
    have hq0 : q ≠ 0 := by rintro rfl; rw [cm_zero] at hq; exact hc0 hq.symm
    have hC0 : C ≠ 0 := by rintro rfl; simp at hC
    have := len_cm hq0 hC0
    rw [hq] at this
    have hq1 := len_le_one (by omega) hq0
    rw [hq1, cm_one_left] at hq
    exact ⟨by omega, hq.symm⟩
  · exfalso
    have h0 : cm C S % 2 ^ D = 0 := by
      refine Decidable.byContradiction fun h0 => ?_
      have := h.len_le h0
      have := len_le (Nat.mod_lt (cm C S) (Nat.two_pow_pos D))
      omega
    rw [h0] at eb
    exact hS (odd_mod hC eb)
end BM
end Gf2
