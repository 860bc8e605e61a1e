/- Days and strikes drawn by a register, in plain words. Nothing of Go stands here. -/
import Derived.Test.YtmagpmoghnmhmaaReg
namespace Gf2
/-- the number of the next k bits of a register -/
def drw (D T : Nat) : Nat → Nat → Nat
  | 0, _ => 0
  | k + 1, S => 2 * drw D T k S + stpN D T k S % 2
theorem drw_lt (D T k S : Nat) : drw D T k S < 2 ^ k := by
  induction k with
  | zero => simp [drw]
  | succ k ih => simp only [drw, Nat.pow_succ]; omega
/-- a weather's numbers -/
structure Wp where
  D : Nat
  T : Nat
  W : Int
  B : Int
  C : Int
  M : Int
section
variable (p : Wp) (lv : Nat) (s : Nat × Bool)
/-- the day behind a step -/
def wday : Bool := if s.2 then decide (p.B ≤ (drw p.D p.T 8 s.1 : Int)) else decide ((drw p.D p.T 8 s.1 : Int) < p.W)
def wlim : Int := if wday p s then p.M else p.C
/-- is a symbol struck -/
def whit : Bool := decide ((drw p.D p.T 8 (stpN p.D p.T 8 s.1) : Int) < wlim p s)
def wnx : Nat × Bool := (stpN p.D p.T 16 s.1, wday p s)
def wat : Nat → Nat × Bool → Nat × Bool
  | 0, s => s
  | k + 1, s => wnx p (wat k s)
theorem wat_add (k l : Nat) : wat p (k + l) s = wat p l (wat p k s) := by
  induction l with
  | zero => rfl
  | succ l ih => rw [← Nat.add_assoc]; simp only [wat]; rw [ih]
theorem wat_lt {p : Wp} {s : Nat × Bool} (hD : 1 ≤ p.D) (h : s.1 < 2 ^ p.D) (k : Nat) : (wat p k s).1 < 2 ^ p.D := by
  induction k with
  | zero => exact h
  | succ k ih => exact stpN_lt hD ih 16
def wone (x : Nat) : Nat := if whit p s then lv - 1 - x else x
def wturn (xs : List Nat) : List Nat := (List.range xs.length).map fun i => wone p lv (wat p i s) (xs.getD i 0)
theorem wturn_length (xs : List Nat) : (wturn p lv s xs).length = xs.length := by simp [wturn]
theorem wturn_at (xs : List Nat) {i : Nat} (h : i < xs.length) : (wturn p lv s xs).getD i 0 = wone p lv (wat p i s) (xs.getD i 0) := by
  simp [wturn, List.getD, h]
theorem getD_ext2 {xs ys : List Nat} (hl : xs.length = ys.length) (h : ∀ i, i < xs.length → xs.getD i 0 = ys.getD i 0) : xs = ys := by
  apply List.ext_getElem hl
  intro i h1 h2
  have := h i h1
  simpa [List.getD, h1, h2] using this
theorem wturn_append (xs ys : List Nat) : wturn p lv s (xs ++ ys) = wturn p lv s xs ++ wturn p lv (wat p xs.length s) ys := by
  apply getD_ext2
  · simp [wturn_length]
  · intro i hi
    rw [wturn_length, List.length_append] at hi
    rw [wturn_at _ _ _ _ (by rw [List.length_append]; exact hi)]
    rcases Nat.lt_or_ge i xs.length with h | h
    · have e1 : (xs ++ ys).getD i 0 = xs.getD i 0 := by simp [List.getD, List.getElem?_append_left h]
      have e2 : (wturn p lv s xs ++ wturn p lv (wat p xs.length s) ys).getD i 0 = (wturn p lv s xs).getD i 0 := by
        simp only [List.getD]; rw [List.getElem?_append_left (by rw [wturn_length]; exact h)]
      rw [e1, e2, wturn_at _ _ _ _ h]
    · have e1 : (xs ++ ys).getD i 0 = ys.getD (i - xs.length) 0 := by simp only [List.getD]; rw [List.getElem?_append_right h]
      have e2 : (wturn p lv s xs ++ wturn p lv (wat p xs.length s) ys).getD i 0 = (wturn p lv (wat p xs.length s) ys).getD (i - xs.length) 0 := by
        simp only [List.getD]; rw [List.getElem?_append_right (by rw [wturn_length]; exact h), wturn_length]
      rw [e1, e2, wturn_at _ _ _ _ (by omega), ← wat_add, show xs.length + (i - xs.length) = i by omega]
theorem wone_le {x : Nat} (h : x < lv) : wone p lv s x < lv := by unfold wone; split <;> omega
theorem wone_back {x : Nat} (h : x < lv) : wone p lv s (wone p lv s x) = x := by unfold wone; split <;> omega
theorem wturn_lv {xs : List Nat} (h : ∀ i, i < xs.length → xs.getD i 0 < lv) : ∀ i, i < (wturn p lv s xs).length → (wturn p lv s xs).getD i 0 < lv := fun i hi => by
  rw [wturn_length] at hi
  rw [wturn_at _ _ _ _ hi]
  exact wone_le _ _ _ (h i hi)
theorem wturn_back {xs : List Nat} (h : ∀ i, i < xs.length → xs.getD i 0 < lv) : wturn p lv s (wturn p lv s xs) = xs := by
  apply getD_ext2
  · rw [wturn_length, wturn_length]
  · intro i hi
    rw [wturn_length, wturn_length] at hi
    rw [wturn_at _ _ _ _ (by rw [wturn_length]; exact hi), wturn_at _ _ _ _ hi]
    exact wone_back _ _ _ (h i hi)
/-- the days of a spell -/
def wspell (n : Nat) : List Nat := (List.range n).map fun i => if (wat p (i + 1) s).2 then 1 else 0
end
end Gf2
