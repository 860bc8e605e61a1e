/- Counting the ones of a word of at most 24 bits by adding neighbours. Nothing of Go stands here. -/
import Derived.Test.YtknkkoemghceeaaDoorPop
namespace Gf2
theorem and_split (X m : Nat) : X &&& m = 256 * (X / 256 &&& m / 256) + (X % 256 &&& m % 256) := by
  have h1 := Nat.and_div_two_pow (a := X) (b := m) (n := 8)
  have h2 := Nat.and_mod_two_pow (a := X) (b := m) (n := 8)
  simp only [Nat.reducePow] at h1 h2
  rw [← h1, ← h2]
  exact (Nat.div_add_mod _ _).symm
def st1 (m x : Nat) : Nat := (x / 2 &&& m) + (x &&& m)
def st2 (m x : Nat) : Nat := (x / 4 &&& m) + (x &&& m)
def st3 (m x : Nat) : Nat := x / 16 + x &&& m
theorem cross1 : ∀ a : Fin 256, ∀ t : Fin 2, (a.val / 2 + 128 * t.val) &&& 85 = a.val / 2 &&& 85 := by decide +kernel
theorem cross2 : ∀ a : Fin 256, ∀ t : Fin 4, (a.val / 4 + 64 * t.val) &&& 51 = a.val / 4 &&& 51 := by decide +kernel
theorem st1_split (m x : Nat) (hm : m % 256 = 85) : st1 m x = 256 * st1 (m / 256) (x / 256) + st1 85 (x % 256) := by
  unfold st1
  rw [and_split (x / 2) m, and_split x m, hm, show x / 2 / 256 = x / 256 / 2 by omega, show x / 2 % 256 = x % 256 / 2 + 128 * (x / 256 % 2) by omega]
  have h := cross1 ⟨x % 256, Nat.mod_lt _ (by omega)⟩ ⟨x / 256 % 2, Nat.mod_lt _ (by omega)⟩
  simp only at h
  rw [h]
  omega
theorem st2_split (m x : Nat) (hm : m % 256 = 51) : st2 m x = 256 * st2 (m / 256) (x / 256) + st2 51 (x % 256) := by
  unfold st2
  rw [and_split (x / 4) m, and_split x m, hm, show x / 4 / 256 = x / 256 / 4 by omega, show x / 4 % 256 = x % 256 / 4 + 64 * (x / 256 % 4) by omega]
  have h := cross2 ⟨x % 256, Nat.mod_lt _ (by omega)⟩ ⟨x / 256 % 4, Nat.mod_lt _ (by omega)⟩
  simp only at h
  rw [h]
  omega
theorem st3_split (m x : Nat) (hm : m % 256 = 15) (h0 : x % 256 ≤ 68) (h1 : x / 256 % 16 ≤ 4) : st3 m x = 256 * st3 (m / 256) (x / 256) + st3 15 (x % 256) := by
  unfold st3
  rw [and_split (x / 16 + x) m, hm, show (x / 16 + x) / 256 = x / 256 / 16 + x / 256 by omega]
  rw [show (x / 16 + x) % 256 &&& 15 = x % 256 / 16 + x % 256 &&& 15 by
    have e : ∀ z, z &&& 15 = z % 16 := fun z => Nat.and_two_pow_sub_one_eq_mod z 4
    rw [e, e]; omega]
theorem st1_byte : ∀ a : Fin 256, st1 85 a.val < 256 := by decide +kernel
theorem st2_byte : ∀ a : Fin 256, st2 51 (st1 85 a.val) ≤ 68 ∧ st2 51 (st1 85 a.val) % 16 ≤ 4 ∧ st3 15 (st2 51 (st1 85 a.val)) = popF 8 a.val := by decide +kernel
theorem ones24 {x : Nat} (h : x < 16777216) : st3 1085102592571150095 (st2 3689348814741910323 (st1 6148914691236517205 x)) = popF 8 (x % 256) + 256 * popF 8 (x / 256 % 256) + 65536 * popF 8 (x / 65536) := by
  have e1 := st1_split 6148914691236517205 x (by decide)
  have e2 := st1_split (6148914691236517205 / 256) (x / 256) (by decide)
  have e3 := st1_split (6148914691236517205 / 256 / 256) (x / 256 / 256) (by decide)
  rw [show x / 256 / 256 / 256 = 0 by omega, show st1 (6148914691236517205 / 256 / 256 / 256) 0 = 0 by simp [st1]] at e3
  have b0 := st1_byte ⟨x % 256, Nat.mod_lt _ (by omega)⟩
  have b1 := st1_byte ⟨x / 256 % 256, Nat.mod_lt _ (by omega)⟩
  have b2 := st1_byte ⟨x / 256 / 256 % 256, Nat.mod_lt _ (by omega)⟩
  have c0 := st2_byte ⟨x % 256, Nat.mod_lt _ (by omega)⟩
  have c1 := st2_byte ⟨x / 256 % 256, Nat.mod_lt _ (by omega)⟩
  have c2 := st2_byte ⟨x / 256 / 256 % 256, Nat.mod_lt _ (by omega)⟩
  simp only at b0 b1 b2 c0 c1 c2
  have ex : x / 65536 = x / 256 / 256 % 256 := by omega
  rw [ex, e1, e2, e3]
  generalize x % 256 = a0 at *
  generalize x / 256 % 256 = a1 at *
  generalize x / 256 / 256 % 256 = a2 at *
  clear e1 e2 e3 ex h
  generalize popF 8 a0 = p0 at *
  generalize popF 8 a1 = p1 at *
  generalize popF 8 a2 = p2 at *
  generalize st1 85 a0 = s0 at *
  generalize st1 85 a1 = s1 at *
  generalize st1 85 a2 = s2 at *
  have d1 := st2_split 3689348814741910323 (256 * (256 * (256 * 0 + s2) + s1) + s0) (by decide)
  have d2 := st2_split (3689348814741910323 / 256) (256 * (256 * 0 + s2) + s1) (by decide)
  have d3 := st2_split (3689348814741910323 / 256 / 256) (256 * 0 + s2) (by decide)
  rw [show (256 * (256 * (256 * 0 + s2) + s1) + s0) / 256 = 256 * (256 * 0 + s2) + s1 by omega, show (256 * (256 * (256 * 0 + s2) + s1) + s0) % 256 = s0 by omega] at d1
  rw [show (256 * (256 * 0 + s2) + s1) / 256 = 256 * 0 + s2 by omega, show (256 * (256 * 0 + s2) + s1) % 256 = s1 by omega] at d2
  rw [show (256 * 0 + s2) / 256 = 0 by omega, show (256 * 0 + s2) % 256 = s2 by omega, show st2 (3689348814741910323 / 256 / 256 / 256) 0 = 0 by simp [st2]] at d3
  rw [d1, d2, d3]
  clear d1 d2 d3
  obtain ⟨u0, v0, w0⟩ := c0
  obtain ⟨u1, v1, w1⟩ := c1
  obtain ⟨u2, v2, w2⟩ := c2
  generalize st2 51 s0 = t0 at *
  generalize st2 51 s1 = t1 at *
  generalize st2 51 s2 = t2 at *
  have d1 := st3_split 1085102592571150095 (256 * (256 * (256 * 0 + t2) + t1) + t0) (by decide) (by omega) (by omega)
  have d2 := st3_split (1085102592571150095 / 256) (256 * (256 * 0 + t2) + t1) (by decide) (by omega) (by omega)
  have d3 := st3_split (1085102592571150095 / 256 / 256) (256 * 0 + t2) (by decide) (by omega) (by omega)
  rw [show (256 * (256 * (256 * 0 + t2) + t1) + t0) / 256 = 256 * (256 * 0 + t2) + t1 by omega, show (256 * (256 * (256 * 0 + t2) + t1) + t0) % 256 = t0 by omega] at d1
  rw [show (256 * (256 * 0 + t2) + t1) / 256 = 256 * 0 + t2 by omega, show (256 * (256 * 0 + t2) + t1) % 256 = t1 by omega] at d2
  rw [show (256 * 0 + t2) / 256 = 0 by omega, show (256 * 0 + t2) % 256 = t2 by omega, show st3 (1085102592571150095 / 256 / 256 / 256) 0 = 0 by simp [st3]] at d3
  rw [d1, d2, d3, w0, w1, w2]
  omega
/-- the last folds -/
def folds (x : Nat) : Nat := (x + x / 256) + (x + x / 256) / 65536 + ((x + x / 256) + (x + x / 256) / 65536) / 4294967296
theorem folds_pop {x : Nat} (h : x < 16777216) : folds (popF 8 (x % 256) + 256 * popF 8 (x / 256 % 256) + 65536 * popF 8 (x / 65536)) % 128 = popF 32 x := by
  have h1 := popF_add 8 24 x
  have h2 := popF_add 8 16 (x / 2 ^ 8)
  have h3 := popF_small (x := x / 2 ^ 8 / 2 ^ 8) (i := 8) (j := 16) (by simp only [Nat.reducePow]; omega) (by omega)
  have h4 := popF_mod 8 x
  have h5 := popF_mod 8 (x / 256)
  simp only [Nat.reducePow, Nat.reduceAdd] at h1 h2 h3 h4 h5
  rw [show x / 256 / 256 = x / 65536 by omega] at h2 h3
  rw [h1, h2, h3, h4, h5]
  have l0 := popF_le 8 x
  have l1 := popF_le 8 (x / 256)
  have l2 := popF_le 8 (x / 65536)
  generalize popF 8 x = p0 at *
  generalize popF 8 (x / 256) = p1 at *
  generalize popF 8 (x / 65536) = p2 at *
  unfold folds
  rw [show (p0 + 256 * p1 + 65536 * p2) / 256 = p1 + 256 * p2 by omega]
  rw [show (p0 + 256 * p1 + 65536 * p2 + (p1 + 256 * p2)) / 65536 = p2 by omega]
  rw [show (p0 + 256 * p1 + 65536 * p2 + (p1 + 256 * p2) + p2) / 4294967296 = 0 by omega]
  omega
end Gf2
