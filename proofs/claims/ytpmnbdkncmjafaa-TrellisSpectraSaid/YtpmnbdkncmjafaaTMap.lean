/- The maps of package trellis; a step's next state and weight; the weight of three symbols. -/
import Derived.Test.YtpmnbdkncmjafaaRows
import Derived.Test.YtpmnbdkncmjafaaTKnows
import Derived.Test.YtpmnbdkncmjafaaMapV
import Derived.Test.YtpmnbdkncmjafaaWayM
namespace Go.Proofs.Ytpmnbdkncmjafaa
open Go.RowKit

def mapN : MapK Try.prog 74 22 3 Nat Nat where
  und := Try.underlying74
  K := Go.Maps.int_keyed Try.underlying22
  kv := fun n => .int .u32 (n : Int)
  lt := fun n => .int .u32 (n : Int)
  ok := fun n => n ≤ 4294967295
  mv := fun n => .int .i64 (n : Int)
  vok := fun _ => True
  zero := 0
  vzero := trivial
  hz := fun w => by kernel_rfl
  hkey := fun x hx => Go.Maps.keyOf_int_mk Try.underlying22 (by simp [Lit.wf, IntKind.min, IntKind.max, IntKind.signed, IntKind.bits]; omega)
  linj := fun x y _ _ h => by injection h with _ h; omega
  inv := fun key kl h => keyOf_u32_inv Try.underlying22 h
  vinj := fun c d h => by injection h with _ h; omega
/-- the next state -/
def nxF (n s x : Nat) : Nat := (2 * s + x) % 2 ^ n
/-- the weight of a step's symbols -/
def wtF (R : Int) (a b c s x : Nat) : Nat := outF (2 * s + x) a + outF (2 * s + x) b + third R (outF (2 * s + x) c)
theorem third_le1 (R : Int) {x : Nat} (h : x ≤ 1) : third R x ≤ 1 := by unfold third; split <;> omega
theorem wtF_le (R : Int) (a b c s x : Nat) : wtF R a b c s x ≤ 3 := by
  have h1 := outF_le (2 * s + x) a
  have h2 := outF_le (2 * s + x) b
  have h3 := third_le1 R (outF_le (2 * s + x) c)
  unfold wtF; omega
theorem nxF_lt (n s x : Nat) : nxF n s x < 2 ^ n := Nat.mod_lt _ Nat.one_le_two_pow
theorem weight_any (x y z : Nat) (hx : x ≤ 1) (hy : y ≤ 1) (hz : z ≤ 1) (w : World) :
    Calls Try.prog 43 #[.agg #[.int .u8 x, .int .u8 y, .int .u8 z]] w fun e w' => e = .returned (.int .i64 ((x + y + z : Nat) : Int)) ∧ Below w.heap.size w w' := by
  go_enter Try.func43, Try.ntmps43
  go_wp2_with fail
  refine bodyPost_ret (v := .int .i64 ((x + y + z : Nat) : Int)) (by simp [results, Try.results43, go_sem]) rfl ⟨rfl, ?_⟩
  exact (Below.refl _ _).alloc (Nat.le_refl _) _
theorem rones_any (x y z : Nat) (hx : x ≤ 1) (hy : y ≤ 1) (hz : z ≤ 1) (w : World) :
    Calls Try.prog 46 #[.agg #[.int .u8 x, .int .u8 y, .int .u8 z]] w fun e w' => e = .returned (.int .i64 ((x + y + z : Nat) : Int)) ∧ Below w.heap.size w w' := by
  go_enter Try.func46, Try.ntmps46
  go_wp2_with fail
  refine bodyPost_ret (v := .int .i64 ((x + y + z : Nat) : Int)) (by simp [results, Try.results46, go_sem]) rfl ⟨rfl, ?_⟩
  exact (Below.refl _ _).alloc (Nat.le_refl _) _
end Go.Proofs.Ytpmnbdkncmjafaa
