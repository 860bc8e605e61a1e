/- math/bits.OnesCount64 of at most 24 bits, walked. -/
import Derived.Test.YtknkkoemghceeaaDoorRows
import Derived.Test.YtknkkoemghceeaaDoorWord
import Derived.Test.YtknkkoemghceeaaDoorPop64
import Derived.WalkKit
import Derived.Laws.Bits128
namespace Go.Proofs.YtknkkoemghceeaaDoor
open Go.RowKit

theorem st1_le (m x : Nat) : Gf2.st1 m x ≤ x / 2 + x := by
  unfold Gf2.st1
  have h1 : (x / 2 &&& m) ≤ x / 2 := Nat.and_le_left
  have h2 : (x &&& m) ≤ x := Nat.and_le_left
  omega
theorem st2_le (m x : Nat) : Gf2.st2 m x ≤ x / 4 + x := by
  unfold Gf2.st2
  have h1 : (x / 4 &&& m) ≤ x / 4 := Nat.and_le_left
  have h2 : (x &&& m) ≤ x := Nat.and_le_left
  omega
theorem st3_le (m x : Nat) : Gf2.st3 m x ≤ x / 16 + x := Nat.and_le_left
set_option maxHeartbeats 1000000 in
theorem ones64_any (x : Nat) (hx : x < 16777216) (w : World) :
    Calls Tryd.prog 75 #[.int .u64 x] w fun e w' => e = .returned (.int .i64 (Gf2.popF 32 x : Nat)) ∧ w = w' := by
  have f1 := Gf2.ones24 hx
  have f2 := Gf2.folds_pop hx
  rw [← f1] at f2
  clear f1
  have b1 := st1_le 6148914691236517205 x
  have a1 : bits .and .u64 ((x : Int) / 2) 6148914691236517205 = ((x / 2 &&& 6148914691236517205 : Nat) : Int) := and64 (a := x / 2) (b := 6148914691236517205) (by omega) (by decide)
  have a2 : bits .and .u64 (x : Int) 6148914691236517205 = ((x &&& 6148914691236517205 : Nat) : Int) := and64 (b := 6148914691236517205) (by omega) (by decide)
  have s1 : ((x / 2 &&& 6148914691236517205 : Nat) : Int) + ((x &&& 6148914691236517205 : Nat) : Int) = (Gf2.st1 6148914691236517205 x : Nat) := by unfold Gf2.st1; omega
  generalize Gf2.st1 6148914691236517205 x = x1 at *
  have b2 := st2_le 3689348814741910323 x1
  have a3 : bits .and .u64 ((x1 : Int) / 4) 3689348814741910323 = ((x1 / 4 &&& 3689348814741910323 : Nat) : Int) := and64 (a := x1 / 4) (b := 3689348814741910323) (by omega) (by decide)
  have a4 : bits .and .u64 (x1 : Int) 3689348814741910323 = ((x1 &&& 3689348814741910323 : Nat) : Int) := and64 (b := 3689348814741910323) (by omega) (by decide)
  have s2 : ((x1 / 4 &&& 3689348814741910323 : Nat) : Int) + ((x1 &&& 3689348814741910323 : Nat) : Int) = (Gf2.st2 3689348814741910323 x1 : Nat) := by unfold Gf2.st2; omega
  generalize Gf2.st2 3689348814741910323 x1 = x2 at *
  have b3 := st3_le 1085102592571150095 x2
  have a5 : bits .and .u64 ((x2 : Int) / 16 + x2) 1085102592571150095 = (Gf2.st3 1085102592571150095 x2 : Nat) := by
    have := and64 (a := x2 / 16 + x2) (b := 1085102592571150095) (by omega) (by decide)
    simpa [Gf2.st3] using this
  generalize Gf2.st3 1085102592571150095 x2 = x3 at *
  have e3 : x3 ≤ 4294967295 := by omega
  have e7 : bits .and .i64 ((x3 : Int) + x3 / 256 + (x3 + x3 / 256) / 65536 + (x3 + x3 / 256 + (x3 + x3 / 256) / 65536) / 4294967296) 127 = (Gf2.popF 32 x : Nat) := by
    rw [i64_and127, ← f2]
    unfold Gf2.folds
    omega
  clear f2
  go_enter Tryd.func75, Tryd.ntmps75
  go_wp2
  go_ret
  exact ⟨rfl, rfl⟩
end Go.Proofs.YtknkkoemghceeaaDoor
