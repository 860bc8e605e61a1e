/- The law EncoderPlays: it returns true. -/
import Derived.Test.YtmmngcjnofcmmaaRows
import Derived.Test.YtmmngcjnofcmmaaLtPlays
import Derived.Test.YtmmngcjnofcmmaaOpenE
namespace Go.Proofs.Ytmmngcjnofcmmaa
open Go.RowKit
theorem law_plays (K R : Int) (a b c : Nat) (hA : a ≤ 4294967295) (hB : b ≤ 4294967295) (hC : c ≤ 4294967295) (A1 : Option Addr) (l1 c1 : Nat) (hl1 : l1 ≤ 1048576) (w : World) (hO : EOpB w A1 l1) :
    Calls Try.prog 7 #[.agg #[.int .i64 K, .int .i64 R, .int .u32 a, .int .u32 b, .int .u32 c], .slice A1 l1 c1] w fun e w' => e = .returned (.bool true) ∧ Below w.heap.size w w' := by
  by_cases hck : checkF K R a b c = 0
  · obtain ⟨hh, _⟩ := checkF_zero hck
    have h1 : 3 ≤ K := Decidable.byContradiction fun e => hh (.inl (by omega))
    have h2 : K ≤ 32 := Decidable.byContradiction fun e => hh (.inr (.inl (by omega)))
    have h3 : R = 2 ∨ R = 3 := by
      by_cases h : R = 2
      · exact .inl h
      · exact .inr (Decidable.byContradiction fun e => hh (.inr (.inr (.inl ⟨h, e⟩))))
    obtain ⟨n, rfl⟩ : ∃ n : Nat, K = (n : Int) + 1 := ⟨(K - 1).toNat, by omega⟩
    obtain ⟨r, rfl⟩ : ∃ r : Nat, R = (r : Int) := ⟨R.toNat, by omega⟩
    exact plays_good n r a b c (by omega) (by omega) hA hB hC hck A1 l1 c1 hl1 w hO
  · exact plays_bad K R a b c hA hB hC hck A1 l1 c1 w
end Go.Proofs.Ytmmngcjnofcmmaa
