/- outpostref04.Step, walked. -/
import Derived.Test.YtknkkoemghceeaaDoorRows
import Derived.Test.YtknkkoemghceeaaDoorLfStep
import Derived.Test.YtknkkoemghceeaaDoorBase
namespace Go.Proofs.YtknkkoemghceeaaDoor
open Go.RowKit

theorem par_pow20 : ∀ i : Fin 20, Gf2.par (2 ^ i.val) = 1 := by decide +kernel
/-- a one less: the sum of the ones changes -/
theorem par_less {u : Nat} (h : u ≤ 1048575) (h0 : u ≠ 0) : 1 ^^^ Gf2.par (u &&& (u - 1)) = Gf2.par u ∧ (u &&& (u - 1)) < u := by
  obtain ⟨i, r, hir⟩ := Gf2.low_one h0
  obtain ⟨e1, e2⟩ := Gf2.low_off hir
  have hp : 0 < 2 ^ i := Nat.two_pow_pos i
  have hi : i < 20 := by
    rcases Nat.lt_or_ge i 20 with h1 | h1
    · exact h1
    · have h2 : 2 ^ 20 ≤ 2 ^ i := Nat.pow_le_pow_right (by omega) h1
      have h3 : 2 ^ i ≤ u := by rw [hir]; exact Nat.le_mul_of_pos_left _ (by omega)
      omega
  constructor
  · have e3 : Gf2.par u = Gf2.par (2 ^ i) ^^^ Gf2.par (r * 2 ^ (i + 1)) := by rw [← Gf2.par_xor, ← e2]
    rw [e1, e3, par_pow20 ⟨i, hi⟩]
  · rw [e1, hir, Nat.pow_succ, Nat.add_mul, Nat.one_mul, Nat.mul_comm (2 ^ i) 2, ← Nat.mul_assoc, Nat.mul_comm r 2]
    omega
theorem and_pred2 {u : Nat} (h : u ≤ 1048576) (h0 : u ≠ 0) : bits .and .u64 (u : Int) ((u : Int) - 1) = ((u &&& (u - 1) : Nat) : Int) := by
  have := and64 (a := u) (b := u - 1) (by omega) (by omega)
  rw [← this]
  congr 1
  omega
theorem xor1_64 {a : Nat} (h : a ≤ 1) : bits .xor .u64 (a : Int) 1 = ((a ^^^ 1 : Nat) : Int) := by
  have : a = 0 ∨ a = 1 := by omega
  rcases this with rfl | rfl <;> decide
set_option maxRecDepth 100000 in
set_option maxHeartbeats 1000000 in
theorem rstep_any (n T S : Nat) (hg : GoodL n T S) (w : World) :
    Calls Tryd.prog 63 #[.agg #[.int .i64 n, .int .u64 T, .int .u64 S]] w fun e w' => e = .returned (.agg #[.int .i64 n, .int .u64 T, .int .u64 (Gf2.stp n T S : Nat)]) ∧ Below w.heap.size w w' := by
  obtain ⟨d, rfl⟩ : ∃ d, n = d + 1 := ⟨n - 1, by have := hg.lo; omega⟩
  have p20 := pow20 hg.hi
  have hS : S ≤ 1048575 := by have := hg.seed; omega
  have hT : T ≤ 1048575 := by have := hg.tap; omega
  have h2 := hg.lo
  have h20 := hg.hi
  have e2 : bits .and .u64 (T : Int) (S : Int) = ((T &&& S : Nat) : Int) := and64 (a := T) (b := S) (by omega) (by omega)
  have hst : T &&& S ≤ 1048575 := Nat.le_trans Nat.and_le_left hT
  have e5 := hide (stp_or (T := T) (d := d) (S := S) (by omega) hg.seed)
  rw [Nat.and_comm S T] at e5
  have hp1 := Gf2.par_le (T &&& S)
  clear p20 hg
  generalize hst2 : Gf2.stp (d + 1) T S = st at *
  clear hst2
  generalize hx0 : T &&& S = x0 at *
  generalize hq0 : Gf2.par x0 = q at *
  have HQ := hide hq0
  clear hq0 hx0
  have ew : IntKind.i64.wrap (d : Int) = d := IntWalk.i64_in (d : Int) (by omega)
  have ew2 : IntKind.u64.wrap (d : Int) = d := IntWalk.u64_in (d : Int) (by omega)
  go_enter Tryd.func63, Tryd.ntmps63
  go_wp2_with fail
  go_loop [3, 4] (fun s x => ∃ u y : Nat, u ≤ x0 ∧ y ≤ 1 ∧ s = .int .u64 y ∧ x = .int .u64 u ∧ Hid (y ^^^ Gf2.par u = q)) (fun _ x => (intOf x).toNat)
  case atStart => exact ⟨x0, 0, Nat.le_refl _, by omega, rfl, rfl, hide ((Nat.zero_xor _).trans HQ.out)⟩
  case round =>
    obtain ⟨u, y, hu, hy, rfl, rfl, hxy⟩ := hrel
    by_cases h0 : u = 0
    · subst h0
      have he := hxy.out
      rw [Gf2.par_zero, Nat.xor_zero] at he
      subst he
      go_wp2_with fail
      rw [e5.out]
      refine bodyPost_ret (v := .agg #[.int .i64 ((d : Int) + 1), .int .u64 T, .int .u64 st]) (by simp [results, Tryd.results63, go_sem]) rfl ⟨rfl, ?_⟩
      exact ((Below.refl _ _).alloc (Nat.le_refl _) _).alloc (by simp) _
    · obtain ⟨h3, h4⟩ := par_less (u := u) (by omega) h0
      have e6 := and_pred2 (u := u) (by omega) h0
      have e7 := xor1_64 hy
      have hb0 := zNe h0
      have hbn := nzBne (x := (u : Int)) (by omega)
      have hxy2 : (y ^^^ 1) ^^^ Gf2.par (u &&& (u - 1)) = q := by rw [Nat.xor_assoc, h3]; exact hxy.out
      have hy2 : y ^^^ 1 ≤ 1 := by
        have : y = 0 ∨ y = 1 := by omega
        rcases this with rfl | rfl <;> decide
      have HXY := hide hxy2
      clear hxy hxy2 h3 ew ew2
      generalize u &&& (u - 1) = u2 at *
      generalize y ^^^ 1 = y2 at *
      go_wp2_with fail
      go_round
      case rel => exact ⟨u2, y2, by omega, hy2, rfl, rfl, HXY⟩
      case measure => simp [intOf]; omega
end Go.Proofs.YtknkkoemghceeaaDoor
