/- Two lists of numbers that read alike. -/
import Derived.Test.YtmmngcjnofcmmaaRows
namespace Go.Proofs.Ytmmngcjnofcmmaa

theorem ext_getD {xs ys : List Nat} (hl : xs.length = ys.length) (h : ∀ i, i < xs.length → xs.getD i 0 = ys.getD i 0) : xs = ys := by
  apply List.ext_getElem hl
  intro i h1 h2
  have := h i h1
  simpa [List.getD, h1, h2] using this
end Go.Proofs.Ytmmngcjnofcmmaa
