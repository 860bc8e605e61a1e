/- The named codes: what names, Named and the reference's answer. -/
import Derived.Test.YtfjaohadjmigoaaDoorRows
import Derived.Test.YtfjaohadjmigoaaDoorGf2
import Derived.Test.YtfjaohadjmigoaaDoorWord
import Derived.Test.YtfjaohadjmigoaaDoorLong
import Derived.Test.YtfjaohadjmigoaaDoorPoly
import Derived.Test.YtfjaohadjmigoaaDoorMul
import Derived.Test.YtfjaohadjmigoaaDoorDiv
import Derived.Test.YtfjaohadjmigoaaDoorRef2W
import Derived.Test.YtfjaohadjmigoaaDoorRef2
import Derived.Test.YtfjaohadjmigoaaDoorCheckF
import Derived.Test.YtfjaohadjmigoaaDoorEval
import Derived.Test.YtfjaohadjmigoaaDoorCode
import Derived.Test.YtfjaohadjmigoaaDoorRCheck
namespace Go.Proofs.YtfjaohadjmigoaaDoor
open Go.RowKit

def nmL : List ByteArray := [⟨#[107, 51]⟩, ⟨#[107, 51, 50]⟩, ⟨#[107, 51, 50, 108, 111, 111, 107]⟩, ⟨#[107, 51, 114, 51]⟩, ⟨#[107, 53]⟩, ⟨#[107, 55]⟩, ⟨#[107, 55, 114, 51]⟩, ⟨#[107, 57]⟩, ⟨#[107, 57, 114, 51]⟩]
def nmArr : Array Value := #[.string ⟨#[107, 51]⟩, .string ⟨#[107, 51, 50]⟩, .string ⟨#[107, 51, 50, 108, 111, 111, 107]⟩, .string ⟨#[107, 51, 114, 51]⟩, .string ⟨#[107, 53]⟩, .string ⟨#[107, 55]⟩, .string ⟨#[107, 55, 114, 51]⟩, .string ⟨#[107, 57]⟩, .string ⟨#[107, 57, 114, 51]⟩]
/-- the named codes: K, Rate, the generators -/
def cdL : List (Nat × Nat × Nat × Nat × Nat) := [(3, 2, 7, 5, 0), (32, 2, 4073739089, 3831577671, 0), (32, 2, 3153030071, 3153030069, 0), (3, 3, 7, 7, 5), (5, 2, 19, 29, 0), (7, 2, 121, 91, 0), (7, 3, 121, 117, 91), (9, 2, 491, 369, 0), (9, 3, 367, 435, 457)]
def cdArr : Array Value := #[.int .i64 3, .int .i64 2, .int .u32 7, .int .u32 5, .int .u32 0, .int .i64 32, .int .i64 2, .int .u32 4073739089, .int .u32 3831577671, .int .u32 0, .int .i64 32, .int .i64 2, .int .u32 3153030071, .int .u32 3153030069, .int .u32 0,
  .int .i64 3, .int .i64 3, .int .u32 7, .int .u32 7, .int .u32 5, .int .i64 5, .int .i64 2, .int .u32 19, .int .u32 29, .int .u32 0, .int .i64 7, .int .i64 2, .int .u32 121, .int .u32 91, .int .u32 0, .int .i64 7, .int .i64 3, .int .u32 121, .int .u32 117, .int .u32 91,
  .int .i64 9, .int .i64 2, .int .u32 491, .int .u32 369, .int .u32 0, .int .i64 9, .int .i64 3, .int .u32 367, .int .u32 435, .int .u32 457]
def cdAt (k : Nat) : Nat × Nat × Nat × Nat × Nat := cdL.getD k (0, 0, 0, 0, 0)
def cdV (k : Nat) : Value := .agg #[.int .i64 (cdAt k).1, .int .i64 (cdAt k).2.1, .int .u32 (cdAt k).2.2.1, .int .u32 (cdAt k).2.2.2.1, .int .u32 (cdAt k).2.2.2.2]
theorem cdArr_at : ∀ k < 9, cdArr[k * 5]? = some (.int .i64 (cdAt k).1) ∧ cdArr[k * 5 + 1]? = some (.int .i64 (cdAt k).2.1) ∧ cdArr[k * 5 + 2]? = some (.int .u32 (cdAt k).2.2.1) ∧ cdArr[k * 5 + 3]? = some (.int .u32 (cdAt k).2.2.2.1) ∧ cdArr[k * 5 + 4]? = some (.int .u32 (cdAt k).2.2.2.2) := by
  intro k hk
  have h9 : k = 0 ∨ k = 1 ∨ k = 2 ∨ k = 3 ∨ k = 4 ∨ k = 5 ∨ k = 6 ∨ k = 7 ∨ k = 8 := by omega
  rcases h9 with rfl | rfl | rfl | rfl | rfl | rfl | rfl | rfl | rfl <;> exact ⟨rfl, rfl, rfl, rfl, rfl⟩
theorem nmArr_at : ∀ k < 9, nmArr[k]? = some (.string (nmL.getD k ByteArray.empty)) := by
  intro k hk
  have h9 : k = 0 ∨ k = 1 ∨ k = 2 ∨ k = 3 ∨ k = 4 ∨ k = 5 ∨ k = 6 ∨ k = 7 ∨ k = 8 := by omega
  rcases h9 with rfl | rfl | rfl | rfl | rfl | rfl | rfl | rfl | rfl <;> rfl

set_option maxRecDepth 100000 in
set_option maxHeartbeats 1000000 in
theorem names_any (w : World) :
    Calls Tryd.prog 31 #[] w fun e w' => e = .returned (.tuple #[.slice (some ⟨w.heap.size, 0, none⟩) 9 9, .slice (some ⟨w.heap.size + 1, 0, none⟩) 9 9]) ∧ (w.alloc (.cells nmArr 9)).alloc (.cells cdArr 25) = w' := by
  go_enter Tryd.func31, Tryd.ntmps31
  go_wp2
  go_ret2
  exact ⟨rfl, rfl⟩
end Go.Proofs.YtfjaohadjmigoaaDoor
