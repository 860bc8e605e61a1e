/- Rows of bytes in memory. -/
import Derived.Test.YtpmnbdkncmjafaaRows
import Derived.Test.YtpmnbdkncmjafaaCode
namespace Go.Proofs.Ytpmnbdkncmjafaa
open Go.RowKit

/-- v is a slice of bytes that reads as xs -/
def RowB (w : World) (v : Value) (xs : List Nat) : Prop :=
  (v = .slice none 0 0 ∧ xs = []) ∨
  ∃ b off cap, v = .slice (some ⟨b, off, none⟩) xs.length cap ∧ b < w.heap.size ∧ ∀ i, i < xs.length → w.cell? ⟨b, off + i, none⟩ = some (.int .u8 (xs.getD i 0 : Nat))
theorem RowB.below {w w' : World} {v : Value} {xs : List Nat} (h : RowB w v xs) (hb : Below w.heap.size w w') : RowB w' v xs := by
  rcases h with h | ⟨b, off, cap, hv, hlt, hc⟩
  · exact .inl h
  · exact .inr ⟨b, off, cap, hv, Nat.lt_of_lt_of_le hlt hb.size, fun i hi => bcell hb hlt (hc i hi)⟩
end Go.Proofs.Ytpmnbdkncmjafaa
