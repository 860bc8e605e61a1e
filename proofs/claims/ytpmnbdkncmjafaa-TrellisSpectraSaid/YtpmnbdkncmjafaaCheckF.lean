/- Whether a code may be, in plain words. Nothing of the program stands here. -/
import Derived.Test.YtpmnbdkncmjafaaWord
namespace Go.Proofs.Ytpmnbdkncmjafaa
open Go.RowKit

/-- the divisor behind k generators -/
def gcdK (a b c : Nat) : Nat → Nat
  | 0 => 0
  | 1 => Gf2.gcd 0 a
  | 2 => Gf2.gcd (Gf2.gcd 0 a) b
  | _ => Gf2.gcd (Gf2.gcd (Gf2.gcd 0 a) b) c
/-- how many generators a code has -/
def countF (R : Int) : Nat := if R = 2 then 2 else 3
theorem countF_or (R : Int) : 2 ≤ countF R ∧ countF R ≤ 3 := by unfold countF; split <;> omega

/-- a generator that may be -/
def goodG (K x : Nat) : Prop := x ≠ 0 ∧ x < 2 ^ K
def orK (a b c : Nat) : Nat → Nat
  | 0 => 0
  | 1 => 0 ||| a
  | 2 => (0 ||| a) ||| b
  | _ => ((0 ||| a) ||| b) ||| c
def headBad (K R : Int) (c : Nat) : Prop := K < 3 ∨ 32 < K ∨ (R ≠ 2 ∧ R ≠ 3) ∨ (R = 2 ∧ c ≠ 0)
def gensGood (K : Nat) (n : Nat) (a b c : Nat) : Prop := goodG K a ∧ goodG K b ∧ (n = 3 → goodG K c)
open Classical in
noncomputable def checkF (K R : Int) (a b c : Nat) : Int :=
  if headBad K R c then 50
  else if ¬ gensGood K.toNat (countF R) a b c then 50
  else if orK a b c (countF R) % 2 = 0 ∨ orK a b c (countF R) / 2 ^ (K.toNat - 1) = 0 then 51
  else if gcdK a b c (countF R) ≠ 1 then 52
  else 0
section
variable {K : Nat} {R : Int} {a b c : Nat}
theorem checkF_head {K : Int} (h : headBad K R c) : checkF K R a b c = 50 := by unfold checkF; rw [if_pos h]
theorem checkF_gens (hh : ¬ headBad K R c) (h : ¬ gensGood K (countF R) a b c) : checkF K R a b c = 50 := by
  unfold checkF; rw [if_neg hh, Int.toNat_natCast, if_pos h]
theorem checkF_low (hh : ¬ headBad K R c) (hg : gensGood K (countF R) a b c) (h : orK a b c (countF R) % 2 = 0 ∨ orK a b c (countF R) / 2 ^ (K - 1) = 0) : checkF K R a b c = 51 := by
  unfold checkF; rw [if_neg hh, Int.toNat_natCast, if_neg (by simpa using hg), if_pos h]
theorem checkF_cata (hh : ¬ headBad K R c) (hg : gensGood K (countF R) a b c) (h1 : orK a b c (countF R) % 2 ≠ 0) (h2 : orK a b c (countF R) / 2 ^ (K - 1) ≠ 0) (h : gcdK a b c (countF R) ≠ 1) : checkF K R a b c = 52 := by
  unfold checkF; rw [if_neg hh, Int.toNat_natCast, if_neg (by simpa using hg), if_neg (fun e => e.elim h1 h2), if_pos h]
theorem checkF_ok (hh : ¬ headBad K R c) (hg : gensGood K (countF R) a b c) (h1 : orK a b c (countF R) % 2 ≠ 0) (h2 : orK a b c (countF R) / 2 ^ (K - 1) ≠ 0) (h : gcdK a b c (countF R) = 1) : checkF K R a b c = 0 := by
  unfold checkF; rw [if_neg hh, Int.toNat_natCast, if_neg (by simpa using hg), if_neg (fun e => e.elim h1 h2), if_neg (by simpa using h)]
theorem checkF_zero {K : Int} (h : checkF K R a b c = 0) : ¬ headBad K R c ∧ gensGood K.toNat (countF R) a b c ∧ orK a b c (countF R) % 2 ≠ 0 ∧ orK a b c (countF R) / 2 ^ (K.toNat - 1) ≠ 0 ∧ gcdK a b c (countF R) = 1 := by
  unfold checkF at h
  by_cases h1 : headBad K R c
  · rw [if_pos h1] at h; omega
  · rw [if_neg h1] at h
    by_cases h2 : gensGood K.toNat (countF R) a b c
    · rw [if_neg (by simpa using h2)] at h
      by_cases h3 : orK a b c (countF R) % 2 = 0 ∨ orK a b c (countF R) / 2 ^ (K.toNat - 1) = 0
      · rw [if_pos h3] at h; omega
      · rw [if_neg h3] at h
        by_cases h4 : gcdK a b c (countF R) = 1
        · exact ⟨h1, h2, fun e => h3 (.inl e), fun e => h3 (.inr e), h4⟩
        · rw [if_pos h4] at h; omega
    · rw [if_pos h2] at h; omega
end
theorem orK_le {a b c : Nat} (ha : a ≤ 4294967295) (hb : b ≤ 4294967295) (hc : c ≤ 4294967295) (k : Nat) : orK a b c k ≤ 4294967295 := by
  have h (x y : Nat) (hx : x < 2 ^ 32) (hy : y < 2 ^ 32) : x ||| y < 2 ^ 32 := Nat.or_lt_two_pow hx hy
  have h1 := h 0 a (by omega) (by omega)
  have h2 := h _ b h1 (by omega)
  have h3 := h _ c h2 (by omega)
  unfold orK
  split <;> omega
theorem or32 {a b : Nat} (ha : a ≤ 4294967295) (hb : b ≤ 4294967295) : bits .or .u32 (a : Int) (b : Int) = ((a ||| b : Nat) : Int) := u32_or_nat a b (by omega) (by omega)
theorem and32 {a b : Nat} (ha : a ≤ 4294967295) (hb : b ≤ 4294967295) : bits .and .u32 (a : Int) (b : Int) = ((a &&& b : Nat) : Int) := u32_and_nat a b (by omega) (by omega)
theorem xor32 {a b : Nat} (ha : a ≤ 4294967295) (hb : b ≤ 4294967295) : bits .xor .u32 (a : Int) (b : Int) = ((a ^^^ b : Nat) : Int) := u32_xor_nat a b (by omega) (by omega)
theorem low32 {a : Nat} (ha : a ≤ 4294967295) : bits .and .u32 (a : Int) 1 = ((a % 2 : Nat) : Int) := by
  have := and32 (a := a) (b := 1) ha (by omega)
  rw [and1] at this
  exact this
theorem natEq {x y : Nat} (h : x = y) : ((x : Int) == (y : Int)) = true := by rw [h]; exact beq_self_eq_true _
theorem natNe {x y : Nat} (h : x ≠ y) : ((x : Int) == (y : Int)) = false := by rw [beq_eq_false_iff_ne]; omega
theorem natBne {x y : Nat} (h : x ≠ y) : ((x : Int) != (y : Int)) = true := by rw [bne_iff_ne]; omega
theorem natBeq {x y : Nat} (h : x = y) : ((x : Int) != (y : Int)) = false := by rw [h]; exact bne_self_eq_false _
theorem zEq {x : Nat} (h : x = 0) : ((x : Int) == 0) = true := by rw [h]; rfl
theorem zNe {x : Nat} (h : x ≠ 0) : ((x : Int) == 0) = false := by rw [beq_eq_false_iff_ne]; omega
theorem zBne {x : Nat} (h : x ≠ 0) : ((x : Int) != 0) = true := by rw [bne_iff_ne]; omega
theorem zBeq {x : Nat} (h : x = 0) : ((x : Int) != 0) = false := by rw [h]; rfl
theorem oneBne {x : Nat} (h : x ≠ 1) : ((x : Int) != 1) = true := by rw [bne_iff_ne]; omega
theorem oneBeq {x : Nat} (h : x = 1) : ((x : Int) != 1) = false := by rw [h]; rfl
theorem lowEq {x : Nat} (hx : x ≤ 4294967295) (h : x % 2 = 0) : (bits .and .u32 (x : Int) 1 == 0) = true := by rw [low32 hx, h]; rfl
theorem lowNe {x : Nat} (hx : x ≤ 4294967295) (h : x % 2 ≠ 0) : (bits .and .u32 (x : Int) 1 == 0) = false := by rw [low32 hx]; exact zNe h
theorem shrEq {x k : Nat} (h : x / 2 ^ k = 0) : ((x : Int) / 2 ^ k == 0) = true := by rw [shrI, h]; rfl
theorem shrNe {x k : Nat} (h : x / 2 ^ k ≠ 0) : ((x : Int) / 2 ^ k == 0) = false := by rw [shrI, beq_eq_false_iff_ne]; omega
theorem shrBne {x k : Nat} (h : x / 2 ^ k ≠ 0) : ((x : Int) / 2 ^ k != 0) = true := by rw [shrI, bne_iff_ne]; omega
theorem shrBeq {x k : Nat} (h : x / 2 ^ k = 0) : ((x : Int) / 2 ^ k != 0) = false := by rw [shrI, h]; rfl
theorem shr_zero_iff {x k : Nat} : x / 2 ^ k = 0 ↔ x < 2 ^ k := by rw [Nat.div_eq_zero_iff]; have := Nat.two_pow_pos k; omega
def lowB (x : Nat) : Bool := decide (x % 2 ≠ 0)
def highB (K x : Nat) : Bool := decide (x / 2 ^ (K - 1) ≠ 0)
theorem lowB_zero {a b c : Nat} : lowB (orK a b c 0) = false := rfl
theorem highB_zero (K : Nat) {a b c : Nat} : highB K (orK a b c 0) = false := by unfold highB; rw [show orK a b c 0 = 0 from rfl, Nat.zero_div]; rfl
theorem lowB_false {x : Nat} (h : lowB x = false) : x % 2 = 0 := by unfold lowB at h; simpa using h
theorem lowB_true {x : Nat} (h : lowB x = true) : x % 2 ≠ 0 := by unfold lowB at h; simpa using h
theorem highB_false {K x : Nat} (h : highB K x = false) : x / 2 ^ (K - 1) = 0 := by
  unfold highB at h
  exact Decidable.byContradiction fun e => by rw [decide_eq_true e] at h; cases h
theorem highB_true {K x : Nat} (h : highB K x = true) : x / 2 ^ (K - 1) ≠ 0 := by unfold highB at h; exact of_decide_eq_true h
theorem or_low (x g : Nat) : (lowB x || ((g : Int) % 2 == 1)) = lowB (x ||| g) := by
  have h1 : ((g : Int) % 2 == 1) = lowB g := by
    unfold lowB
    rw [Bool.eq_iff_iff]
    simp only [beq_iff_eq, decide_eq_true_eq]
    omega
  rw [h1]
  unfold lowB
  have h := Nat.testBit_or x g 0
  simp only [Nat.testBit_zero] at h
  rw [Bool.eq_iff_iff] at h ⊢
  simp only [Bool.or_eq_true, decide_eq_true_eq] at h ⊢
  omega
theorem or_high {K g : Nat} (hg : g < 2 ^ K) (x : Nat) (hK : 1 ≤ K) : (highB K x || ((g : Int) / 2 ^ (K - 1) == 1)) = highB K (x ||| g) := by
  have hgd : g / 2 ^ (K - 1) < 2 := by
    rw [Nat.div_lt_iff_lt_mul (Nat.two_pow_pos _), Nat.mul_comm, ← Nat.pow_succ]
    rw [show (K - 1).succ = K by omega]; exact hg
  have h1 : ((g : Int) / 2 ^ (K - 1) == 1) = highB K g := by
    unfold highB
    rw [shrI, Bool.eq_iff_iff]
    generalize g / 2 ^ (K - 1) = y at *
    simp only [beq_iff_eq, decide_eq_true_eq]
    omega
  rw [h1]
  unfold highB
  have h := Nat.shiftRight_or_distrib (a := x) (b := g) (i := K - 1)
  simp only [Nat.shiftRight_eq_div_pow] at h
  rw [h, Bool.eq_iff_iff]
  simp only [Bool.or_eq_true, decide_eq_true_eq]
  have hz (p q : Nat) : p ||| q = 0 ↔ p = 0 ∧ q = 0 := Nat.or_eq_zero_iff
  constructor
  · rintro (e | e) e2
    · exact e ((hz _ _).1 e2).1
    · exact e ((hz _ _).1 e2).2
  · intro e
    by_cases hx : x / 2 ^ (K - 1) = 0
    · exact .inr fun e2 => e ((hz _ _).2 ⟨hx, e2⟩)
    · exact .inl hx
theorem shrLe {x k : Nat} (h : x / 2 ^ k = 0) : (x : Int) / 2 ^ k ≤ 0 := by rw [shrI, h]; exact Int.le_refl _
theorem shrGt {x k : Nat} (h : x / 2 ^ k ≠ 0) : 0 < (x : Int) / 2 ^ k := by
  rw [shrI]
  generalize x / 2 ^ k = y at *
  omega
end Go.Proofs.Ytpmnbdkncmjafaa
