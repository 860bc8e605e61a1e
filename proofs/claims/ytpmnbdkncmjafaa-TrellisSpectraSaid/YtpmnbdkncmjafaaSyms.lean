/- The register behind some bits, and the symbols of some bits; they add up: of numbers alone. -/
import Derived.Test.YtpmnbdkncmjafaaRows
import Derived.Test.YtpmnbdkncmjafaaSym
namespace Go.Proofs.Ytpmnbdkncmjafaa
open Go.RowKit

/-- the state behind the first k bits -/
def stAt (n s : Nat) (xs : List Nat) : Nat → Nat
  | 0 => s
  | k + 1 => (2 * stAt n s xs k + xs.getD k 0) % 2 ^ n
/-- a step's symbols -/
def symK (R : Int) (a b c m : Nat) : List Nat := if R = 2 then [outF m a, outF m b] else [outF m a, outF m b, outF m c]
/-- the symbols of the first k bits -/
def symsAt (R : Int) (a b c n s : Nat) (xs : List Nat) : Nat → List Nat
  | 0 => []
  | k + 1 => symsAt R a b c n s xs k ++ symK R a b c (2 * stAt n s xs k + xs.getD k 0)
theorem stAt_lt {n s : Nat} {xs : List Nat} (hs : s < 2 ^ n) : ∀ k, stAt n s xs k < 2 ^ n
  | 0 => hs
  | _ + 1 => Nat.mod_lt _ (Nat.two_pow_pos n)
theorem two_bit (a p : Nat) (h : p ≤ 1) : 2 * a + p = 2 * a ^^^ p := by
  have e := Gf2.split_bit (2 * a + p)
  rw [show (2 * a + p) % 2 = p by omega, show (2 * a + p) / 2 = a by omega, Nat.xor_comm] at e
  exact e
theorem xor_bit {p q : Nat} (hp : p ≤ 1) (hq : q ≤ 1) : p ^^^ q ≤ 1 := by
  have := Nat.xor_lt_two_pow (x := p) (y := q) (n := 1) (by omega) (by omega)
  omega
theorem outF_xor (m n g : Nat) : outF (m ^^^ n) g = outF m g ^^^ outF n g := by
  unfold outF
  rw [Nat.and_xor_distrib_right, Gf2.par_xor]
theorem next_xor {p q : Nat} (a b : Nat) (hp : p ≤ 1) (hq : q ≤ 1) : 2 * (a ^^^ b) + (p ^^^ q) = (2 * a + p) ^^^ (2 * b + q) := by
  rw [two_bit _ _ (xor_bit hp hq), two_bit a p hp, two_bit b q hq, Gf2.two_xor, Gf2.xor_swap]
section
variable {n s t : Nat} {xs ys zs : List Nat}
theorem stAt_xor (hx : ∀ i, xs.getD i 0 ≤ 1) (hy : ∀ i, ys.getD i 0 ≤ 1) (hz : ∀ i, zs.getD i 0 = xs.getD i 0 ^^^ ys.getD i 0) : ∀ k, stAt n (s ^^^ t) zs k = stAt n s xs k ^^^ stAt n t ys k
  | 0 => rfl
  | k + 1 => by
    show (2 * stAt n (s ^^^ t) zs k + zs.getD k 0) % 2 ^ n = (2 * stAt n s xs k + xs.getD k 0) % 2 ^ n ^^^ (2 * stAt n t ys k + ys.getD k 0) % 2 ^ n
    rw [stAt_xor hx hy hz k, hz k, next_xor _ _ (hx k) (hy k), Nat.xor_mod_two_pow]
theorem symK_xor (R : Int) (a b c m n : Nat) : symK R a b c (m ^^^ n) = List.zipWith (· ^^^ ·) (symK R a b c m) (symK R a b c n) := by
  by_cases h : R = 2 <;> simp [symK, h, outF_xor]
theorem symK_length (R : Int) (a b c m n : Nat) : (symK R a b c m).length = (symK R a b c n).length := by
  by_cases h : R = 2 <;> simp [symK, h]
theorem syms_length (R : Int) (a b c n s t : Nat) (xs ys : List Nat) : ∀ k, (symsAt R a b c n s xs k).length = (symsAt R a b c n t ys k).length
  | 0 => rfl
  | k + 1 => by
    show (symsAt R a b c n s xs k ++ _).length = (symsAt R a b c n t ys k ++ _).length
    rw [List.length_append, List.length_append, syms_length R a b c n s t xs ys k, symK_length]
theorem syms_xor (R : Int) (a b c : Nat) (hx : ∀ i, xs.getD i 0 ≤ 1) (hy : ∀ i, ys.getD i 0 ≤ 1) (hz : ∀ i, zs.getD i 0 = xs.getD i 0 ^^^ ys.getD i 0) :
    ∀ k, symsAt R a b c n (s ^^^ t) zs k = List.zipWith (· ^^^ ·) (symsAt R a b c n s xs k) (symsAt R a b c n t ys k)
  | 0 => rfl
  | k + 1 => by
    show symsAt R a b c n (s ^^^ t) zs k ++ symK R a b c _ = List.zipWith _ (symsAt R a b c n s xs k ++ symK R a b c _) (symsAt R a b c n t ys k ++ symK R a b c _)
    rw [List.zipWith_append (syms_length R a b c n s t xs ys k), syms_xor R a b c hx hy hz k, stAt_xor hx hy hz k, hz k, next_xor _ _ (hx k) (hy k), symK_xor]
theorem symK_le (R : Int) (a b c m : Nat) : ∀ y ∈ symK R a b c m, y ≤ 1 := by
  by_cases h : R = 2 <;> simp [symK, h, outF_le]
theorem syms_le (R : Int) (a b c n s : Nat) (xs : List Nat) : ∀ k, ∀ y ∈ symsAt R a b c n s xs k, y ≤ 1
  | 0 => fun y h => by cases h
  | k + 1 => fun y h => by
    rcases List.mem_append.1 h with h | h
    · exact syms_le R a b c n s xs k y h
    · exact symK_le R a b c _ y h
theorem getD_le {l : List Nat} {m : Nat} (h : ∀ y ∈ l, y ≤ m) (i : Nat) : l.getD i 0 ≤ m := by
  rcases Nat.lt_or_ge i l.length with hi | hi
  · simp only [List.getD, List.getElem?_eq_getElem hi, Option.getD_some]
    exact h _ (List.getElem_mem hi)
  · simp [List.getD, List.getElem?_eq_none hi]
theorem zip_at {l m : List Nat} {i : Nat} (h : l.length = m.length) : (List.zipWith (· ^^^ ·) l m).getD i 0 = l.getD i 0 ^^^ m.getD i 0 := by
  simp only [List.getD, List.getElem?_zipWith]
  rcases Nat.lt_or_ge i l.length with hi | hi
  · rw [List.getElem?_eq_getElem hi, List.getElem?_eq_getElem (by omega)]; rfl
  · rw [List.getElem?_eq_none hi, List.getElem?_eq_none (by omega)]; rfl
end
end Go.Proofs.Ytpmnbdkncmjafaa
