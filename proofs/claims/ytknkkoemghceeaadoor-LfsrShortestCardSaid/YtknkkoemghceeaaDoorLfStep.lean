/- lfsr.step, walked; registers in memory. -/
import Derived.Test.YtknkkoemghceeaaDoorRows
import Derived.Test.YtknkkoemghceeaaDoorBase
import Derived.Test.YtknkkoemghceeaaDoorReg
import Derived.Test.YtknkkoemghceeaaDoorOnes64
import Derived.Test.YtknkkoemghceeaaDoorLfCheck
import Derived.StillTailTactics
import Derived.BigQuiet
import Derived.Deep.QuietTactic
import Derived.Deep.RegionWith
import Derived.IntWalk
namespace Go.Proofs.YtknkkoemghceeaaDoor
open Go.RowKit

/-- block g holds a register -/
def RegL (w : World) (g : Nat) (D : Int) (T S : Nat) : Prop := ∃ ty, w.heap[g]? = some (.cells #[.int .i64 D, .int .u64 T, .int .u64 S] ty (0, 0))
section
variable {w w' : World} {g : Nat} {D : Int} {T S : Nat}
theorem RegL.parts (h : RegL w g D T S) : g < w.heap.size ∧ w.cell? ⟨g, 0, none⟩ = some (.int .i64 D) ∧ w.cell? ⟨g, 1, none⟩ = some (.int .u64 T) ∧ w.cell? ⟨g, 2, none⟩ = some (.int .u64 S) ∧ w.frozen? ⟨g, 2, none⟩ = false := by
  obtain ⟨ty, h⟩ := h
  exact ⟨(Array.getElem?_eq_some_iff.1 h).1, cell_of_row w g 0 _ ty (0, 0) h, cell_of_row w g 1 _ ty (0, 0) h, cell_of_row w g 2 _ ty (0, 0) h, frozen_of_row w g 2 _ ty h⟩
theorem RegL.keep (h : RegL w g D T S) (hk : w'.heap[g]? = w.heap[g]?) : RegL w' g D T S := by
  obtain ⟨ty, h⟩ := h
  exact ⟨ty, hk.trans h⟩
theorem RegL.below {B : Nat} (h : RegL w g D T S) (hb : Below B w w') (hg : g < B) : RegL w' g D T S := h.keep (hb.block g hg)
theorem RegL.lt (h : RegL w g D T S) : g < w.heap.size := h.parts.1
theorem RegL.alloc (h : RegL w g D T S) (o : Obj) : RegL (w.alloc o) g D T S := h.keep (Below.heap_alloc _ _ _ h.lt)
theorem RegL.far (h : RegL w g D T S) {p : Addr} (hp : g ≠ p.block) (u : Value) : RegL (w.setCell p u) g D T S := h.keep (Below.heap_setCell _ _ _ _ hp)
theorem RegL.grown {row : Option Nat} (h : RegL w g D T S) (hb : w.grownBy w' row) (hne : some g ≠ row) : RegL w' g D T S := h.keep (hb.block g h.lt hne)
theorem RegL.drewN (h : RegL w g D T S) (n : Nat) : RegL (w.drewN n) g D T S := h
theorem RegL.set (h : RegL w g D T S) (t : Nat) : RegL (w.setCell ⟨g, 2, none⟩ (.int .u64 (t : Nat))) g D T t := by
  obtain ⟨ty, h⟩ := h
  exact ⟨ty, heap_setCell_same w g 2 _ ty _ h⟩
end
theorem i64_and1 (n : Nat) (h : n ≤ 1000) : bits .and .i64 (n : Int) 1 = ((n % 2 : Nat) : Int) := by
  have h1 : (BitVec.ofInt 64 1).toNat = 2 ^ 1 - 1 := by decide
  have key : (BitVec.ofInt 64 (n : Int) &&& BitVec.ofInt 64 1).toNat = ((n : Int) % ((2 ^ 64 : Nat) : Int)).toNat % 2 ^ 1 := by
    rw [BitVec.toNat_and, BitVec.toNat_ofInt, h1, Nat.and_two_pow_sub_one_eq_mod]
  show IntKind.i64.wrap ((BitVec.ofInt 64 (n : Int) &&& BitVec.ofInt 64 1).toNat : Nat) = ((n % 2 : Nat) : Int)
  rw [key, IntKind.wrap_i64]
  omega
theorem stp_or {d T S : Nat} (hd : d ≤ 19) (hS : S < 2 ^ (d + 1)) : bits .or .u64 ((S : Int) / 2) (IntKind.u64.wrap ((Gf2.par (S &&& T) : Nat) * 2 ^ d)) = (Gf2.stp (d + 1) T S : Nat) := by
  have hp := Gf2.par_le (S &&& T)
  have h2 : 2 ^ d ≤ 2 ^ 19 := Nat.pow_le_pow_right (by omega) hd
  have hh : S / 2 < 2 ^ d := by rw [Nat.pow_succ] at hS; omega
  unfold Gf2.stp
  rw [Nat.add_sub_cancel]
  generalize Gf2.par (S &&& T) = q at *
  have hm : q * 2 ^ d ≤ 1 * 2 ^ d := Nat.mul_le_mul_right _ hp
  have e1 : IntKind.u64.wrap ((q : Int) * 2 ^ d) = ((q * 2 ^ d : Nat) : Int) := by
    have e0 : (q : Int) * 2 ^ d = ((q * 2 ^ d : Nat) : Int) := by simp
    rw [e0]
    exact IntWalk.u64_in _ (by omega)
  have e2 : (S : Int) / 2 = ((S / 2 : Nat) : Int) := by simp
  rw [e1, e2, or64 (by omega) (by omega), Nat.or_comm, Nat.mul_comm, ← Nat.two_pow_add_eq_or_of_lt hh, Nat.add_comm]
set_option maxRecDepth 100000 in
set_option maxHeartbeats 1000000 in
theorem lstep_any (n T S g : Nat) (hg : GoodL n T S) (w : World) (hr : RegL w g n T S) :
    Calls Tryd.prog 58 #[.pointer (some ⟨g, 0, none⟩)] w fun e w' => e = .returned (.int .u8 (S % 2 : Nat)) ∧ RegL w' g n T (Gf2.stp n T S) ∧ w.grownBy w' (some g) := by
  obtain ⟨d, rfl⟩ : ∃ d, n = d + 1 := ⟨n - 1, by have := hg.lo; omega⟩
  obtain ⟨hlt, q0, q1, q2, fz⟩ := hr.parts
  have q0 : w.cell? ⟨g, 0, none⟩ = some (.int .i64 (d + 1)) := q0
  have HR := hide hr
  clear hr
  have p20 := pow20 hg.hi
  have hS : S ≤ 1048575 := by have := hg.seed; omega
  have hT : T ≤ 1048575 := by have := hg.tap; omega
  have h2 := hg.lo
  have h20 := hg.hi
  have e1 := and1_64 (a := S) (by omega)
  have e2 := and64 (a := S) (b := T) (by omega) (by omega)
  have hst : S &&& T ≤ 1048575 := Nat.le_trans Nat.and_le_left hS
  have HO := hide (ones64_any (S &&& T) (by omega))
  have hpl := Gf2.popF_le 32 (S &&& T)
  have e3 : bits .and .i64 ((Gf2.popF 32 (S &&& T) : Nat) : Int) 1 = (Gf2.par (S &&& T) : Nat) := i64_and1 _ (by omega)
  have hp1 := Gf2.par_le (S &&& T)
  have e5 := hide (stp_or (T := T) (d := d) (S := S) (by omega) hg.seed)
  clear p20 hg
  go_enter Tryd.func58, Tryd.ntmps58
  go_wp2_with fail
  go_quiet ((go_at_call 75; exact quiet_eq (HO.out _)))
  go_wp2_with fail
  have q0n : (w.drewN nq).cell? ⟨g, 0, none⟩ = some (.int .i64 (d + 1)) := q0
  have q2n : (w.drewN nq).cell? ⟨g, 2, none⟩ = some (.int .u64 S) := q2
  have fzn : (w.drewN nq).frozen? ⟨g, 2, none⟩ = false := fz
  have HR1 := hide (HR.out.drewN nq)
  have HW := hide (grownBy_dr (World.grownBy.refl w (some g)) nq)
  have ew : IntKind.i64.wrap (d : Int) = d := IntWalk.i64_in (d : Int) (by omega)
  generalize w.drewN nq = w1 at *
  clear q0 q1 q2 fz HR
  go_still_tail 16, (by kernel_rfl)
  change wpList _ _ _ _ _ w1.drew
  rw [e5.out]
  have HR2 := hide (show RegL (w1.setCell ⟨g, 2, none⟩ (.int .u64 (Gf2.stp (d + 1) T S : Nat))).drew g ((d + 1 : Nat) : Int) T (Gf2.stp (d + 1) T S) from (HR1.out.set (Gf2.stp (d + 1) T S)).drewN 1)
  have HW2 := hide (grownBy_d1 (grownBy_set HW.out ⟨g, 2, none⟩ (.int .u64 (Gf2.stp (d + 1) T S : Nat)) (.inl rfl)))
  go_wp2_with fail
  go_ret
  exact ⟨rfl, HR2.out, HW2.out⟩
end Go.Proofs.YtknkkoemghceeaaDoor
