/- Sums over states and weights, up to whole turns of 64 bits: what Spectrum keeps. Of numbers alone. -/
import Derived.Test.YtpmnbdkncmjafaaRows
import Derived.Test.YtpmnbdkncmjafaaLpC
namespace Go.Proofs.Ytpmnbdkncmjafaa
open Go.RowKit

def M64 (x y : Int) : Prop := ∃ k : Int, x = y + k * 18446744073709551616
theorem M64.refl (x : Int) : M64 x x := ⟨0, by omega⟩
theorem M64.of_eq {x y : Int} (h : x = y) : M64 x y := ⟨0, by omega⟩
theorem M64.trans {x y z : Int} (h : M64 x y) (h2 : M64 y z) : M64 x z := by
  obtain ⟨k, hk⟩ := h
  obtain ⟨j, hj⟩ := h2
  exact ⟨k + j, by omega⟩
theorem M64.symm {x y : Int} (h : M64 x y) : M64 y x := by
  obtain ⟨k, hk⟩ := h
  exact ⟨-k, by omega⟩
theorem M64.add {x y u v : Int} (h : M64 x y) (h2 : M64 u v) : M64 (x + u) (y + v) := by
  obtain ⟨k, hk⟩ := h
  obtain ⟨j, hj⟩ := h2
  exact ⟨k + j, by omega⟩
theorem M64.mul {x y : Int} (h : M64 x y) (c : Int) : M64 (x * c) (y * c) := by
  obtain ⟨k, hk⟩ := h
  refine ⟨k * c, ?_⟩
  rw [hk, Int.add_mul, Int.mul_right_comm]
theorem M64.wrap (x : Int) : M64 (wrap64 x) x := by
  rw [← IntWalk.i64_left, IntKind.wrap_i64]
  exact ⟨-((x + 9223372036854775808) / 18446744073709551616), by omega⟩
theorem M64.eq {x y : Int} (h : M64 x y) (hx : -9223372036854775808 ≤ x ∧ x ≤ 9223372036854775807) (hy : -9223372036854775808 ≤ y ∧ y ≤ 9223372036854775807) : x = y := by
  obtain ⟨k, hk⟩ := h
  omega
theorem wrap_range (x : Int) : -9223372036854775808 ≤ wrap64 x ∧ wrap64 x ≤ 9223372036854775807 := by
  rw [← IntWalk.i64_left, IntKind.wrap_i64]; omega
def sumI (g : Nat → Int) : Nat → Int
  | 0 => 0
  | k + 1 => sumI g k + g k
theorem sumI_congr {g h : Nat → Int} {k : Nat} (e : ∀ i, i < k → g i = h i) : sumI g k = sumI h k := by
  induction k with
  | zero => rfl
  | succ k ih => rw [sumI, sumI, ih fun i hi => e i (by omega), e k (by omega)]
theorem sumI_zero {g : Nat → Int} {k : Nat} (e : ∀ i, i < k → g i = 0) : sumI g k = 0 := by
  induction k with
  | zero => rfl
  | succ k ih => rw [sumI, ih fun i hi => e i (by omega), e k (by omega)]; rfl
theorem sumI_one {g h : Nat → Int} {k i : Nat} (hi : i < k) (e : ∀ j, j < k → j ≠ i → h j = g j) : sumI h k = sumI g k + (h i - g i) := by
  induction k with
  | zero => omega
  | succ k ih =>
    rw [sumI, sumI]
    by_cases hk : i = k
    · subst hk
      rw [sumI_congr fun j hj => e j (by omega) (by omega)]
      omega
    · rw [ih (by omega) fun j hj hne => e j (by omega) hne, e k (by omega) (by omega)]
      omega
theorem M64.sum {g h : Nat → Int} {k : Nat} (e : ∀ i, i < k → M64 (g i) (h i)) : M64 (sumI g k) (sumI h k) := by
  induction k with
  | zero => exact M64.refl _
  | succ k ih => exact M64.add (ih fun i hi => e i (by omega)) (e k (by omega))
theorem sumI_add (g h : Nat → Int) (k : Nat) : sumI (fun i => g i + h i) k = sumI g k + sumI h k := by
  induction k with
  | zero => rfl
  | succ k ih => simp only [sumI, ih]; omega
def valO (o : Option Int) : Int := o.getD 0
section
variable (n : Nat) (R : Int) (a b c : Nat)
/-- what the entries of one map still bring at a weight -/
def rowT (f : Nat → Option Int) (r : Nat) : Int := sumI (fun s => valO (f s) * (ways n R a b c s r : Nat)) (2 ^ n)
/-- what has come and what is to come -/
def totT (most : Nat) (f : Nat → Nat → Option Int) (out : Nat → Int) (v : Nat) : Int := out v + sumI (fun w => if w ≤ v then rowT n R a b c (f w) (v - w) else 0) (most + 1)
/-- an entry put in, or counted -/
def putF (most : Nat) (f : Nat → Nat → Option Int) (v t : Nat) (q : Int) : Nat → Nat → Option Int := if most < v ∨ t = 0 then f else fun w s => if w = v ∧ s = t then some (wrap64 (valO (f v t) + q)) else f w s
def putO (most : Nat) (out : Nat → Int) (v t : Nat) (q : Int) : Nat → Int := if most < v ∨ t ≠ 0 then out else fun w => if w = v then wrap64 (out v + q) else out w
variable {n R a b c}
theorem rowT_upd {f g : Nat → Option Int} {t : Nat} (ht : t < 2 ^ n) {q : Int} (he : ∀ s, s ≠ t → g s = f s) (hq : M64 (valO (g t)) (valO (f t) + q)) (r : Nat) : M64 (rowT n R a b c g r) (rowT n R a b c f r + q * (ways n R a b c t r : Nat)) := by
  unfold rowT
  rw [sumI_one (g := fun s => valO (f s) * (ways n R a b c s r : Nat)) ht fun s _ hne => by simp only [he s hne]]
  obtain ⟨k, hk⟩ := hq
  refine ⟨k * (ways n R a b c t r : Nat), ?_⟩
  simp only [hk, Int.add_mul]
  rw [Int.mul_right_comm k 18446744073709551616]
  omega
/-- an entry put in brings just what its step brings -/
theorem tot_put {most : Nat} (f : Nat → Nat → Option Int) (out : Nat → Int) {s x w : Nat} (q : Int) {v : Nat} (hv : v ≤ most) :
    M64 (totT n R a b c most (putF most f (w + wtF R a b c s x) (nxF n s x) q) (putO most out (w + wtF R a b c s x) (nxF n s x) q) v) (totT n R a b c most f out v + (if w ≤ v then q * (wayT n R a b c s (v - w) x : Nat) else 0)) := by
  have hlt := nxF_lt n s x
  unfold wayT putF putO
  generalize wtF R a b c s x = d
  generalize nxF n s x = t at *
  by_cases hm : most < w + d
  · rw [if_pos (.inl hm), if_pos (.inl hm)]
    refine M64.of_eq ?_
    split
    · rw [if_neg (by omega)]; simp
    · simp
  · by_cases ht : t = 0
    · rw [if_pos (.inr ht), if_neg (fun e => e.elim hm (fun e => e ht))]
      unfold totT
      by_cases hvd : v = w + d
      · simp only [hvd, if_true]
        rw [if_pos (by omega), if_pos (by omega), if_pos ht, if_pos (by omega)]
        have := M64.wrap (out (w + d) + q)
        obtain ⟨k, hk⟩ := this
        exact ⟨k, by simp; omega⟩
      · simp only [if_neg hvd]
        refine M64.of_eq ?_
        split
        · split
          · rw [if_neg (by omega)]; simp
          · simp
        · simp
    · rw [if_neg (fun e => e.elim hm ht), if_pos (.inr ht)]
      unfold totT
      by_cases hle : w + d ≤ v
      · rw [if_pos (by omega : w ≤ v), if_pos (by omega), if_neg ht]
        rw [sumI_one (k := most + 1) (i := w + d) (g := fun w => if w ≤ v then rowT n R a b c (f w) (v - w) else 0) (by omega) fun j _ hne => by
          simp only [hne, false_and, if_false]]
        rw [if_pos hle, if_pos hle]
        have hr := rowT_upd (R := R) (a := a) (b := b) (c := c) (f := f (w + d)) (g := fun s => if w + d = w + d ∧ s = t then some (wrap64 (valO (f (w + d) t) + q)) else f (w + d) s) hlt (q := q) (fun s hne => by simp [hne]) (by simpa [valO] using M64.wrap _) (v - (w + d))
        rw [show v - w - d = v - (w + d) by omega]
        obtain ⟨k, hk⟩ := hr
        exact ⟨k, by rw [hk]; omega⟩
      · refine M64.of_eq ?_
        have e1 : (if w ≤ v then q * ((if d ≤ v - w then (if t = 0 then (if d = v - w then 1 else 0) else ways n R a b c t (v - w - d)) else 0 : Nat) : Int) else 0) = 0 := by
          split
          · rw [if_neg (by omega)]; simp
          · rfl
        rw [e1, Int.add_zero]
        congr 1
        refine sumI_congr fun j _ => ?_
        by_cases hj : j ≤ v
        · rw [if_pos hj, if_pos hj]
          have : j ≠ w + d := by omega
          simp only [this, false_and, if_false]
        · rw [if_neg hj, if_neg hj]
/-- a map that is taken out -/
theorem tot_take {most w : Nat} (f : Nat → Nat → Option Int) (out : Nat → Int) {v : Nat} (hw : w ≤ most) :
    totT n R a b c most f out v = totT n R a b c most (fun j s => if j = w then none else f j s) out v + (if w ≤ v then rowT n R a b c (f w) (v - w) else 0) := by
  unfold totT
  rw [sumI_one (k := most + 1) (i := w) (h := fun j => if j ≤ v then rowT n R a b c (f j) (v - j) else 0) (g := fun j => if j ≤ v then rowT n R a b c (fun s => if j = w then none else f j s) (v - j) else 0) (by omega) fun j _ hne => by
    simp only [if_neg hne]]
  have e0 : rowT n R a b c (fun s => if w = w then none else f w s) (v - w) = 0 := by
    unfold rowT
    exact sumI_zero fun s _ => by simp [valO]
  have e : (if w ≤ v then rowT n R a b c (fun s => if w = w then none else f w s) (v - w) else 0) = 0 := by
    split
    · exact e0
    · rfl
  rw [e, Int.sub_zero, Int.add_assoc]
theorem rowT_empty {f : Nat → Option Int} (h : ∀ s, s < 2 ^ n → f s = none) (r : Nat) : rowT n R a b c f r = 0 := sumI_zero fun s hs => by rw [h s hs]; simp [valO]
/-- one entry taken out of a row -/
theorem rowT_take {f : Nat → Option Int} {rem : Nat → Bool} {t : Nat} {q : Int} (ht : t < 2 ^ n) (hr : rem t = true) (hf : f t = some q) (r : Nat) :
    rowT n R a b c (fun s => if rem s then f s else none) r = rowT n R a b c (fun s => if rem s && !decide (s = t) then f s else none) r + q * (ways n R a b c t r : Nat) := by
  unfold rowT
  rw [sumI_one (k := 2 ^ n) (i := t) (h := fun s => valO (if rem s then f s else none) * (ways n R a b c s r : Nat)) (g := fun s => valO (if rem s && !decide (s = t) then f s else none) * (ways n R a b c s r : Nat)) ht fun s _ hne => by simp [hne]]
  simp [hr, hf, valO]
end
end Go.Proofs.Ytpmnbdkncmjafaa
