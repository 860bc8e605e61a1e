/- Small helpers: rows as strings, rows written out, a number of levels out of any number. -/
import Derived.Test.YtlbfndibgojbiaaRows
import Derived.Test.YtlbfndibgojbiaaMB
namespace Go.Proofs.Ytlbfndibgojbiaa
open Go.RowKit
set_option linter.unusedVariables false

theorem RowA.convN {w : World} {ad : Option Addr} {xs : List Nat} (h : RowA w ad xs) {n : Nat} (hn : n = xs.length) (c : Nat) : (convert 33 9 (.slice ad n c)).run Try.prog w = .ok (.string (strN xs)) w := by
  subst hn; exact h.conv c
/-- a row of the call's own, its slice written out -/
theorem OwnB.rowN {w : World} {B : Nat} {v : Value} {xs : List Nat} {n : Nat} (h : OwnB w B v xs) (hn : xs.length = n) : ∃ ad cap, v = .slice ad n cap ∧ RowA w ad xs ∧ n ≤ cap := by
  subst hn
  obtain ⟨ad, cap, e, r, hc, _⟩ := h.rowc
  exact ⟨ad, cap, e, r, hc⟩
theorem lev15 (x : Int) : ∃ (t : Int) (L : Nat), x.tmod 15 = t ∧ -15 < t ∧ t < 15 ∧ (t + 15) % 15 = L - 2 ∧ 2 ≤ L ∧ L ≤ 16 := by
  have h1 := Int.tmod_lt_of_pos x (show (0 : Int) < 15 by omega)
  have h2 : -15 < x.tmod 15 := by
    rcases Int.le_total 0 x with h | h
    · rw [Int.tmod_eq_emod_of_nonneg h]; omega
    · have e : (-x).tmod 15 = -(x.tmod 15) := Int.neg_tmod x 15
      rw [Int.tmod_eq_emod_of_nonneg (by omega)] at e
      omega
  exact ⟨x.tmod 15, 2 + ((x.tmod 15 + 15) % 15).toNat, rfl, h2, h1, by omega, by omega, by omega⟩
end Go.Proofs.Ytlbfndibgojbiaa
