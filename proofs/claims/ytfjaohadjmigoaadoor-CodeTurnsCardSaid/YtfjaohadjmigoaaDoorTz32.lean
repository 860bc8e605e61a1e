/- math/bits.TrailingZeros32 of a power of two, where its table lies as the program's text lays it. -/
import Derived.Test.YtfjaohadjmigoaaDoorRows
import Derived.Test.YtfjaohadjmigoaaDoorLookM
import Derived.Test.YtfjaohadjmigoaaDoorRCheck
import Derived.IntWalk
namespace Go.Proofs.YtfjaohadjmigoaaDoor
open Go.RowKit

/-- where the table tells of i -/
def tzIdx (i : Nat) : Nat := 2 ^ i * 125613361 % 4294967296 / 134217728
theorem tz_lt (i : Nat) : tzIdx i < 32 := by
  unfold tzIdx
  have : 2 ^ i * 125613361 % 4294967296 < 4294967296 := Nat.mod_lt _ (by omega)
  omega
/-- the table lies there -/
def TabW (w : World) : Prop := ∀ i, i < 32 → w.cell? ⟨0, tzIdx i, none⟩ = some (.int .u8 (i : Nat))
theorem TabW.size {w : World} (h : TabW w) : 0 < w.heap.size := by
  have := h 0 (by omega)
  exact World.block_lt_of_cell? w _ this
theorem TabW.keep {w w' : World} (h : TabW w) (hk : w'.heap[0]? = w.heap[0]?) : TabW w' := fun i hi => (World.cell?_of_block (a := ⟨0, tzIdx i, none⟩) hk).trans (h i hi)
theorem TabW.below {w w' : World} (h : TabW w) (hb : Below w.heap.size w w') : TabW w' := h.keep (hb.block 0 h.size)
theorem TabW.drewN {w : World} (h : TabW w) (n : Nat) : TabW (w.drewN n) := h
theorem tz_key : ∀ i : Fin 32, bits .and .u32 ((2 ^ i.val : Nat) : Int) (-((2 ^ i.val : Nat) : Int) % 4294967296) * 125613361 % 4294967296 / 134217728 = (tzIdx i.val : Int) := by decide +kernel
set_option maxHeartbeats 1000000 in
theorem tz_core (x k idx : Nat) (w : World) (hx0 : ((x : Int) == 0) = false)
    (key : bits .and .u32 (x : Int) (-(x : Int) % 4294967296) * 125613361 % 4294967296 / 134217728 = (idx : Int))
    (hi : idx < 32) (hk : k < 32) (hcell : w.cell? ⟨0, idx, none⟩ = some (.int .u8 k)) :
    Calls Tryd.prog 22 #[.int .u32 x] w fun e w' => e = .returned (.int .i64 k) ∧ w = w' := by
  go_enter Tryd.func22, Tryd.ntmps22
  go_wp2_with (simp only [key])
  go_ret
  exact ⟨rfl, rfl⟩
theorem tz_any (i : Nat) (hi : i < 32) (w : World) (ht : TabW w) :
    Calls Tryd.prog 22 #[.int .u32 (2 ^ i : Nat)] w fun e w' => e = .returned (.int .i64 (i : Nat)) ∧ w = w' :=
  tz_core (2 ^ i) i (tzIdx i) w (zNe (Nat.pos_iff_ne_zero.1 (Nat.two_pow_pos i))) (tz_key ⟨i, hi⟩) (tz_lt i) hi (ht i hi)
end Go.Proofs.YtfjaohadjmigoaaDoor
