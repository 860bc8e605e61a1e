/- Several texts in one: LfCheck R4Check Ones64 LfStep LfRun Lit LfEach LfBits LfTurn R4Step ApS LfLive LjBack R4Turn. -/
import Derived.Test.YtlbfndibgojbiaaRows
import Derived.Test.YtlbfndibgojbiaaMA
import Derived.WalkKit
import Derived.Laws.Bits128
import Derived.StillTailTactics
import Derived.BigQuiet
import Derived.Deep.QuietTactic
import Derived.Deep.RegionWith
import Derived.IntWalk
import Derived.Deep.DeepCutAuto
import Derived.Deep.RegionHeld3

/- lfsr.Check, walked. -/
namespace Go.Proofs.Ytlbfndibgojbiaa
open Go.RowKit

/-- the error of a register -/
def lchk (D : Int) (T S : Nat) : Int :=
  if D < 2 ∨ 20 < D then 21
  else if T % 2 = 0 ∨ T / 2 ^ D.toNat ≠ 0 then 40
  else if S = 0 ∨ S / 2 ^ D.toNat ≠ 0 then 41
  else 0
section
variable {D : Int} {T S : Nat}
theorem lchk_deg (h : D < 2 ∨ 20 < D) : lchk D T S = 21 := if_pos h
theorem lchk_taps (h : ¬ (D < 2 ∨ 20 < D)) (h2 : T % 2 = 0 ∨ T / 2 ^ D.toNat ≠ 0) : lchk D T S = 40 := by unfold lchk; rw [if_neg h, if_pos h2]
theorem lchk_seed (h : ¬ (D < 2 ∨ 20 < D)) (h2 : ¬ (T % 2 = 0 ∨ T / 2 ^ D.toNat ≠ 0)) (h3 : S = 0 ∨ S / 2 ^ D.toNat ≠ 0) : lchk D T S = 41 := by unfold lchk; rw [if_neg h, if_neg h2, if_pos h3]
theorem lchk_ok (h : ¬ (D < 2 ∨ 20 < D)) (h2 : ¬ (T % 2 = 0 ∨ T / 2 ^ D.toNat ≠ 0)) (h3 : ¬ (S = 0 ∨ S / 2 ^ D.toNat ≠ 0)) : lchk D T S = 0 := by unfold lchk; rw [if_neg h, if_neg h2, if_neg h3]
/-- a register that may be -/
structure GoodL (n T S : Nat) : Prop where
  lo : 2 ≤ n
  hi : n ≤ 20
  odd : T % 2 = 1
  tap : T < 2 ^ n
  ne : S ≠ 0
  seed : S < 2 ^ n
theorem pow20 {n : Nat} (h : n ≤ 20) : 2 ^ n ≤ 1048576 := by
  have := Nat.pow_le_pow_right (n := 2) (by omega) h
  simpa using this
theorem div_zero_lt {a n : Nat} (h : ¬ a / 2 ^ n ≠ 0) : a < 2 ^ n := by
  have h0 : a / 2 ^ n = 0 := Classical.byContradiction h
  rcases Nat.lt_or_ge a (2 ^ n) with h1 | h1
  · exact h1
  · have := Nat.div_pos h1 (Nat.two_pow_pos n); omega
theorem lchk_zero (h : lchk D T S = 0) : ∃ n : Nat, D = n ∧ GoodL n T S := by
  by_cases h1 : D < 2 ∨ 20 < D
  · rw [lchk_deg h1] at h; exact absurd h (by decide)
  · by_cases h2 : T % 2 = 0 ∨ T / 2 ^ D.toNat ≠ 0
    · rw [lchk_taps h1 h2] at h; exact absurd h (by decide)
    · by_cases h3 : S = 0 ∨ S / 2 ^ D.toNat ≠ 0
      · rw [lchk_seed h1 h2 h3] at h; exact absurd h (by decide)
      · refine ⟨D.toNat, by omega, by omega, by omega, ?_, ?_, ?_, ?_⟩
        · have : ¬ T % 2 = 0 := fun e => h2 (.inl e)
          omega
        · exact div_zero_lt fun e => h2 (.inr e)
        · exact fun e => h3 (.inl e)
        · exact div_zero_lt fun e => h3 (.inr e)
theorem lchk_good {n : Nat} (h : GoodL n T S) : lchk n T S = 0 := by
  have h1 := h.lo; have h2 := h.hi; have h3 := h.odd; have h4 := h.ne
  refine lchk_ok (by omega) (fun e => ?_) (fun e => ?_)
  · rcases e with e | e
    · omega
    · exact e (by rw [Int.toNat_natCast]; exact Nat.div_eq_of_lt h.tap)
  · rcases e with e | e
    · omega
    · exact e (by rw [Int.toNat_natCast]; exact Nat.div_eq_of_lt h.seed)
end
theorem and1_64 {a : Nat} (ha : a ≤ 18446744073709551615) : bits .and .u64 (a : Int) 1 = ((a % 2 : Nat) : Int) := by
  have := u64_and_nat a 1 (by omega) (by omega)
  rw [Nat.and_one_is_mod] at this
  simpa using this
set_option maxHeartbeats 1000000 in
theorem lcheck_any (D : Int) (T S : Nat) (hT : T ≤ 18446744073709551615) (hS : S ≤ 18446744073709551615) (w : World) :
    Calls Try.prog 40 #[.agg #[.int .i64 D, .int .u64 T, .int .u64 S]] w fun e w' => e = .returned (.int .i64 (lchk D T S)) ∧ Below w.heap.size w w' := by
  by_cases h1 : D < 2 ∨ 20 < D
  · rw [lchk_deg h1]
    rcases h1 with h1 | h1
    · go_enter Try.func40, Try.ntmps40
      go_wp2
      go_ret
      exact ⟨rfl, (Below.refl _ _).alloc (Nat.le_refl _) _⟩
    · have h2 : ¬ D < 2 := by omega
      go_enter Try.func40, Try.ntmps40
      go_wp2
      go_ret
      exact ⟨rfl, (Below.refl _ _).alloc (Nat.le_refl _) _⟩
  · obtain ⟨n, rfl⟩ : ∃ n : Nat, D = n := ⟨D.toNat, by omega⟩
    have l1 : (2 : Int) ≤ n := by omega
    have l2 : (n : Int) ≤ 20 := by omega
    have n2 : decide ((n : Int) < 2) = false := by simp; omega
    have n20 : decide ((20 : Int) < n) = false := by simp; omega
    have et := and1_64 hT
    have es := hS
    by_cases h2 : T % 2 = 0 ∨ T / 2 ^ n ≠ 0
    · rw [lchk_taps h1 (by simpa using h2)]
      by_cases h3 : T % 2 = 0
      · rw [h3] at et
        clear h1 h2 h3
        go_enter Try.func40, Try.ntmps40
        go_wp2
        go_ret
        exact ⟨rfl, (Below.refl _ _).alloc (Nat.le_refl _) _⟩
      · rw [show T % 2 = 1 by omega] at et
        have hb := shrBne (h2.resolve_left h3)
        clear h1 h2 h3
        go_enter Try.func40, Try.ntmps40
        go_wp2
        go_ret
        exact ⟨rfl, (Below.refl _ _).alloc (Nat.le_refl _) _⟩
    · rw [show T % 2 = 1 by have : ¬ T % 2 = 0 := fun e => h2 (.inl e); omega] at et
      have hb := shrBeq (x := T) (k := n) (Classical.byContradiction fun e => h2 (.inr e))
      by_cases h3 : S = 0 ∨ S / 2 ^ n ≠ 0
      · rw [lchk_seed h1 (by simpa using h2) (by simpa using h3)]
        by_cases h4 : S = 0
        · subst h4
          clear h1 h2 h3
          go_enter Try.func40, Try.ntmps40
          go_wp2
          go_ret
          exact ⟨rfl, (Below.refl _ _).alloc (Nat.le_refl _) _⟩
        · have hz := zNe h4
          have hb2 := shrBne (h3.resolve_left h4)
          clear h1 h2 h3 h4
          go_enter Try.func40, Try.ntmps40
          go_wp2
          go_ret
          exact ⟨rfl, (Below.refl _ _).alloc (Nat.le_refl _) _⟩
      · rw [lchk_ok h1 (by simpa using h2) (by simpa using h3)]
        have hz := zNe (x := S) (fun e => h3 (.inl e))
        have hb2 := shrBeq (x := S) (k := n) (Classical.byContradiction fun e => h3 (.inr e))
        clear h1 h2 h3
        go_enter Try.func40, Try.ntmps40
        go_wp2
        go_ret
        exact ⟨rfl, (Below.refl _ _).alloc (Nat.le_refl _) _⟩
end Go.Proofs.Ytlbfndibgojbiaa

/- outpostref04.Check, walked. -/
namespace Go.Proofs.Ytlbfndibgojbiaa
open Go.RowKit

theorem shl_one {n : Nat} (h : n ≤ 20) : IntKind.u64.wrap ((2 : Int) ^ n) = ((2 ^ n : Nat) : Int) := by
  have h2 := pow20 h
  have e : (2 : Int) ^ n = ((2 ^ n : Nat) : Int) := by simp
  rw [e]
  generalize 2 ^ n = q at *
  exact IntWalk.u64_in (q : Int) (by omega)
theorem ge_pow {x n : Nat} (h : x / 2 ^ n ≠ 0) : decide (2 ^ n ≤ x) = true := by
  have : ¬ x < 2 ^ n := fun e => h (Nat.div_eq_of_lt e)
  simp only [decide_eq_true_eq]; omega
theorem not_ge_pow {x n : Nat} (h : x < 2 ^ n) : decide (2 ^ n ≤ x) = false := by
  simp only [decide_eq_false_iff_not]; omega
set_option maxHeartbeats 1000000 in
theorem r4check_any (D : Int) (T S : Nat) (hT : T ≤ 18446744073709551615) (hS : S ≤ 18446744073709551615) (w : World) :
    Calls Try.prog 43 #[.agg #[.int .i64 D, .int .u64 T, .int .u64 S]] w fun e w' => e = .returned (.int .i64 (lchk D T S)) ∧ Below w.heap.size w w' := by
  by_cases h1 : D < 2 ∨ 20 < D
  · rw [lchk_deg h1]
    rcases h1 with h1 | h1
    · go_enter Try.func43, Try.ntmps43
      go_wp2
      go_ret
      exact ⟨rfl, (Below.refl _ _).alloc (Nat.le_refl _) _⟩
    · have h2 : ¬ D < 2 := by omega
      go_enter Try.func43, Try.ntmps43
      go_wp2
      go_ret
      exact ⟨rfl, (Below.refl _ _).alloc (Nat.le_refl _) _⟩
  · obtain ⟨n, rfl⟩ : ∃ n : Nat, D = n := ⟨D.toNat, by omega⟩
    have l1 : (2 : Int) ≤ n := by omega
    have l2 : (n : Int) ≤ 20 := by omega
    have n2 : decide ((n : Int) < 2) = false := by simp; omega
    have n20 : decide ((20 : Int) < n) = false := by simp; omega
    have p20 := pow20 (n := n) (by omega)
    have e2 : ((2 : Int) ^ n) = ((2 ^ n : Nat) : Int) := by simp
    have sh := shl_one (n := n) (by omega)
    by_cases h2 : T % 2 = 0 ∨ T / 2 ^ n ≠ 0
    · rw [lchk_taps h1 (by simpa using h2)]
      by_cases h3 : T % 2 = 0
      · have hb : (((T : Int) % 2) == 0) = true := by rw [beq_iff_eq]; omega
        have hr : (T : Int) % 2 = 0 := by omega
        clear h1 h2 h3 e2
        go_enter Try.func43, Try.ntmps43
        go_wp2
        go_ret
        exact ⟨rfl, (Below.refl _ _).alloc (Nat.le_refl _) _⟩
      · have hr : (T : Int) % 2 = 1 := by omega
        have hb := ge_pow (h2.resolve_left h3)
        clear h1 h2 h3 e2
        generalize hq : 2 ^ n = q at *
        clear hq
        go_enter Try.func43, Try.ntmps43
        go_wp2
        go_ret
        exact ⟨rfl, (Below.refl _ _).alloc (Nat.le_refl _) _⟩
    · have hr : (T : Int) % 2 = 1 := by have : ¬ T % 2 = 0 := fun e => h2 (.inl e); omega
      have hb := not_ge_pow (div_zero_lt fun e => h2 (.inr e))
      by_cases h3 : S = 0 ∨ S / 2 ^ n ≠ 0
      · rw [lchk_seed h1 (by simpa using h2) (by simpa using h3)]
        by_cases h4 : S = 0
        · subst h4
          clear h1 h2 h3 e2
          generalize hq : 2 ^ n = q at *
          clear hq
          go_enter Try.func43, Try.ntmps43
          go_wp2
          go_ret
          exact ⟨rfl, (Below.refl _ _).alloc (Nat.le_refl _) _⟩
        · have hz := zNe h4
          have hb2 := ge_pow (h3.resolve_left h4)
          clear h1 h2 h3 h4 e2
          generalize hq : 2 ^ n = q at *
          clear hq
          go_enter Try.func43, Try.ntmps43
          go_wp2
          go_ret
          exact ⟨rfl, (Below.refl _ _).alloc (Nat.le_refl _) _⟩
      · rw [lchk_ok h1 (by simpa using h2) (by simpa using h3)]
        have hz := zNe (x := S) (fun e => h3 (.inl e))
        have hb2 := not_ge_pow (div_zero_lt fun e => h3 (.inr e))
        clear h1 h2 h3 e2
        generalize hq : 2 ^ n = q at *
        clear hq
        go_enter Try.func43, Try.ntmps43
        go_wp2
        go_ret
        exact ⟨rfl, (Below.refl _ _).alloc (Nat.le_refl _) _⟩
end Go.Proofs.Ytlbfndibgojbiaa

/- math/bits.OnesCount64 of at most 24 bits, walked. -/
namespace Go.Proofs.Ytlbfndibgojbiaa
open Go.RowKit

theorem st1_le (m x : Nat) : Gf2.st1 m x ≤ x / 2 + x := by
  unfold Gf2.st1
  have h1 : (x / 2 &&& m) ≤ x / 2 := Nat.and_le_left
  have h2 : (x &&& m) ≤ x := Nat.and_le_left
  omega
theorem st2_le (m x : Nat) : Gf2.st2 m x ≤ x / 4 + x := by
  unfold Gf2.st2
  have h1 : (x / 4 &&& m) ≤ x / 4 := Nat.and_le_left
  have h2 : (x &&& m) ≤ x := Nat.and_le_left
  omega
theorem st3_le (m x : Nat) : Gf2.st3 m x ≤ x / 16 + x := Nat.and_le_left
set_option maxHeartbeats 1000000 in
theorem ones64_any (x : Nat) (hx : x < 16777216) (w : World) :
    Calls Try.prog 102 #[.int .u64 x] w fun e w' => e = .returned (.int .i64 (Gf2.popF 32 x : Nat)) ∧ w = w' := by
  have f1 := Gf2.ones24 hx
  have f2 := Gf2.folds_pop hx
  rw [← f1] at f2
  clear f1
  have b1 := st1_le 6148914691236517205 x
  have a1 : bits .and .u64 ((x : Int) / 2) 6148914691236517205 = ((x / 2 &&& 6148914691236517205 : Nat) : Int) := and64 (a := x / 2) (b := 6148914691236517205) (by omega) (by decide)
  have a2 : bits .and .u64 (x : Int) 6148914691236517205 = ((x &&& 6148914691236517205 : Nat) : Int) := and64 (b := 6148914691236517205) (by omega) (by decide)
  have s1 : ((x / 2 &&& 6148914691236517205 : Nat) : Int) + ((x &&& 6148914691236517205 : Nat) : Int) = (Gf2.st1 6148914691236517205 x : Nat) := by unfold Gf2.st1; omega
  generalize Gf2.st1 6148914691236517205 x = x1 at *
  have b2 := st2_le 3689348814741910323 x1
  have a3 : bits .and .u64 ((x1 : Int) / 4) 3689348814741910323 = ((x1 / 4 &&& 3689348814741910323 : Nat) : Int) := and64 (a := x1 / 4) (b := 3689348814741910323) (by omega) (by decide)
  have a4 : bits .and .u64 (x1 : Int) 3689348814741910323 = ((x1 &&& 3689348814741910323 : Nat) : Int) := and64 (b := 3689348814741910323) (by omega) (by decide)
  have s2 : ((x1 / 4 &&& 3689348814741910323 : Nat) : Int) + ((x1 &&& 3689348814741910323 : Nat) : Int) = (Gf2.st2 3689348814741910323 x1 : Nat) := by unfold Gf2.st2; omega
  generalize Gf2.st2 3689348814741910323 x1 = x2 at *
  have b3 := st3_le 1085102592571150095 x2
  have a5 : bits .and .u64 ((x2 : Int) / 16 + x2) 1085102592571150095 = (Gf2.st3 1085102592571150095 x2 : Nat) := by
    have := and64 (a := x2 / 16 + x2) (b := 1085102592571150095) (by omega) (by decide)
    simpa [Gf2.st3] using this
  generalize Gf2.st3 1085102592571150095 x2 = x3 at *
  have e3 : x3 ≤ 4294967295 := by omega
  have e7 : bits .and .i64 ((x3 : Int) + x3 / 256 + (x3 + x3 / 256) / 65536 + (x3 + x3 / 256 + (x3 + x3 / 256) / 65536) / 4294967296) 127 = (Gf2.popF 32 x : Nat) := by
    rw [i64_and127, ← f2]
    unfold Gf2.folds
    omega
  clear f2
  go_enter Try.func102, Try.ntmps102
  go_wp2
  go_ret
  exact ⟨rfl, rfl⟩
end Go.Proofs.Ytlbfndibgojbiaa

/- lfsr.step, walked; registers in memory. -/
namespace Go.Proofs.Ytlbfndibgojbiaa
open Go.RowKit

/-- block g holds a register -/
def RegL (w : World) (g : Nat) (D : Int) (T S : Nat) : Prop := ∃ ty, w.heap[g]? = some (.cells #[.int .i64 D, .int .u64 T, .int .u64 S] ty (0, 0))
section
variable {w w' : World} {g : Nat} {D : Int} {T S : Nat}
theorem RegL.parts (h : RegL w g D T S) : g < w.heap.size ∧ w.cell? ⟨g, 0, none⟩ = some (.int .i64 D) ∧ w.cell? ⟨g, 1, none⟩ = some (.int .u64 T) ∧ w.cell? ⟨g, 2, none⟩ = some (.int .u64 S) ∧ w.frozen? ⟨g, 2, none⟩ = false := by
  obtain ⟨ty, h⟩ := h
  exact ⟨(Array.getElem?_eq_some_iff.1 h).1, cell_of_row w g 0 _ ty (0, 0) h, cell_of_row w g 1 _ ty (0, 0) h, cell_of_row w g 2 _ ty (0, 0) h, frozen_of_row w g 2 _ ty h⟩
theorem RegL.keep (h : RegL w g D T S) (hk : w'.heap[g]? = w.heap[g]?) : RegL w' g D T S := by
  obtain ⟨ty, h⟩ := h
  exact ⟨ty, hk.trans h⟩
theorem RegL.below {B : Nat} (h : RegL w g D T S) (hb : Below B w w') (hg : g < B) : RegL w' g D T S := h.keep (hb.block g hg)
theorem RegL.lt (h : RegL w g D T S) : g < w.heap.size := h.parts.1
theorem RegL.alloc (h : RegL w g D T S) (o : Obj) : RegL (w.alloc o) g D T S := h.keep (Below.heap_alloc _ _ _ h.lt)
theorem RegL.far (h : RegL w g D T S) {p : Addr} (hp : g ≠ p.block) (u : Value) : RegL (w.setCell p u) g D T S := h.keep (Below.heap_setCell _ _ _ _ hp)
theorem RegL.grown {row : Option Nat} (h : RegL w g D T S) (hb : w.grownBy w' row) (hne : some g ≠ row) : RegL w' g D T S := h.keep (hb.block g h.lt hne)
theorem RegL.drewN (h : RegL w g D T S) (n : Nat) : RegL (w.drewN n) g D T S := h
theorem RegL.set (h : RegL w g D T S) (t : Nat) : RegL (w.setCell ⟨g, 2, none⟩ (.int .u64 (t : Nat))) g D T t := by
  obtain ⟨ty, h⟩ := h
  exact ⟨ty, heap_setCell_same w g 2 _ ty _ h⟩
end
theorem i64_and1 (n : Nat) (h : n ≤ 1000) : bits .and .i64 (n : Int) 1 = ((n % 2 : Nat) : Int) := by
  have h1 : (BitVec.ofInt 64 1).toNat = 2 ^ 1 - 1 := by decide
  have key : (BitVec.ofInt 64 (n : Int) &&& BitVec.ofInt 64 1).toNat = ((n : Int) % ((2 ^ 64 : Nat) : Int)).toNat % 2 ^ 1 := by
    rw [BitVec.toNat_and, BitVec.toNat_ofInt, h1, Nat.and_two_pow_sub_one_eq_mod]
  show IntKind.i64.wrap ((BitVec.ofInt 64 (n : Int) &&& BitVec.ofInt 64 1).toNat : Nat) = ((n % 2 : Nat) : Int)
  rw [key, IntKind.wrap_i64]
  omega
theorem stp_or {d T S : Nat} (hd : d ≤ 19) (hS : S < 2 ^ (d + 1)) : bits .or .u64 ((S : Int) / 2) (IntKind.u64.wrap ((Gf2.par (S &&& T) : Nat) * 2 ^ d)) = (Gf2.stp (d + 1) T S : Nat) := by
  have hp := Gf2.par_le (S &&& T)
  have h2 : 2 ^ d ≤ 2 ^ 19 := Nat.pow_le_pow_right (by omega) hd
  have hh : S / 2 < 2 ^ d := by rw [Nat.pow_succ] at hS; omega
  unfold Gf2.stp
  rw [Nat.add_sub_cancel]
  generalize Gf2.par (S &&& T) = q at *
  have hm : q * 2 ^ d ≤ 1 * 2 ^ d := Nat.mul_le_mul_right _ hp
  have e1 : IntKind.u64.wrap ((q : Int) * 2 ^ d) = ((q * 2 ^ d : Nat) : Int) := by
    have e0 : (q : Int) * 2 ^ d = ((q * 2 ^ d : Nat) : Int) := by simp
    rw [e0]
    exact IntWalk.u64_in _ (by omega)
  have e2 : (S : Int) / 2 = ((S / 2 : Nat) : Int) := by simp
  rw [e1, e2, or64 (by omega) (by omega), Nat.or_comm, Nat.mul_comm, ← Nat.two_pow_add_eq_or_of_lt hh, Nat.add_comm]
set_option maxRecDepth 100000 in
set_option maxHeartbeats 1000000 in
theorem lstep_any (n T S g : Nat) (hg : GoodL n T S) (w : World) (hr : RegL w g n T S) :
    Calls Try.prog 95 #[.pointer (some ⟨g, 0, none⟩)] w fun e w' => e = .returned (.int .u8 (S % 2 : Nat)) ∧ RegL w' g n T (Gf2.stp n T S) ∧ w.grownBy w' (some g) := by
  obtain ⟨d, rfl⟩ : ∃ d, n = d + 1 := ⟨n - 1, by have := hg.lo; omega⟩
  obtain ⟨hlt, q0, q1, q2, fz⟩ := hr.parts
  have q0 : w.cell? ⟨g, 0, none⟩ = some (.int .i64 (d + 1)) := q0
  have HR := hide hr
  clear hr
  have p20 := pow20 hg.hi
  have hS : S ≤ 1048575 := by have := hg.seed; omega
  have hT : T ≤ 1048575 := by have := hg.tap; omega
  have h2 := hg.lo
  have h20 := hg.hi
  have e1 := and1_64 (a := S) (by omega)
  have e2 := and64 (a := S) (b := T) (by omega) (by omega)
  have hst : S &&& T ≤ 1048575 := Nat.le_trans Nat.and_le_left hS
  have HO := hide (ones64_any (S &&& T) (by omega))
  have hpl := Gf2.popF_le 32 (S &&& T)
  have e3 : bits .and .i64 ((Gf2.popF 32 (S &&& T) : Nat) : Int) 1 = (Gf2.par (S &&& T) : Nat) := i64_and1 _ (by omega)
  have hp1 := Gf2.par_le (S &&& T)
  have e5 := hide (stp_or (T := T) (d := d) (S := S) (by omega) hg.seed)
  clear p20 hg
  go_enter Try.func95, Try.ntmps95
  go_wp2_with fail
  go_quiet ((go_at_call 102; exact quiet_eq (HO.out _)))
  go_wp2_with fail
  have q0n : (w.drewN nq).cell? ⟨g, 0, none⟩ = some (.int .i64 (d + 1)) := q0
  have q2n : (w.drewN nq).cell? ⟨g, 2, none⟩ = some (.int .u64 S) := q2
  have fzn : (w.drewN nq).frozen? ⟨g, 2, none⟩ = false := fz
  have HR1 := hide (HR.out.drewN nq)
  have HW := hide (grownBy_dr (World.grownBy.refl w (some g)) nq)
  have ew : IntKind.i64.wrap (d : Int) = d := IntWalk.i64_in (d : Int) (by omega)
  generalize w.drewN nq = w1 at *
  clear q0 q1 q2 fz HR
  go_still_tail 16, (by kernel_rfl)
  change wpList _ _ _ _ _ w1.drew
  rw [e5.out]
  have HR2 := hide (show RegL (w1.setCell ⟨g, 2, none⟩ (.int .u64 (Gf2.stp (d + 1) T S : Nat))).drew g ((d + 1 : Nat) : Int) T (Gf2.stp (d + 1) T S) from (HR1.out.set (Gf2.stp (d + 1) T S)).drewN 1)
  have HW2 := hide (grownBy_d1 (grownBy_set HW.out ⟨g, 2, none⟩ (.int .u64 (Gf2.stp (d + 1) T S : Nat)) (.inl rfl)))
  go_wp2_with fail
  go_ret
  exact ⟨rfl, HR2.out, HW2.out⟩
end Go.Proofs.Ytlbfndibgojbiaa

/- lfsr.Series, Next, none, walked. -/
namespace Go.Proofs.Ytlbfndibgojbiaa
open Go.RowKit

theorem GoodL.stp {n T S : Nat} (h : GoodL n T S) : GoodL n T (Gf2.stp n T S) := by
  have hlt := Gf2.stp_lt (D := n) (T := T) (v := S) (by have := h.lo; omega) h.seed
  refine ⟨h.lo, h.hi, h.odd, h.tap, fun e => h.ne ?_, hlt⟩
  exact Gf2.stp_inj (D := n) (T := T) (by have := h.lo; omega) h.odd h.seed (Nat.two_pow_pos n) (by rw [e, Gf2.stp_zero])
theorem GoodL.stpN {n T S : Nat} (h : GoodL n T S) (k : Nat) : GoodL n T (Gf2.stpN n T k S) := by
  induction k with
  | zero => exact h
  | succ k ih => rw [Gf2.stpN_succ]; exact ih.stp
theorem GoodL.small {n T S : Nat} (h : GoodL n T S) : T ≤ 1048575 ∧ S ≤ 1048575 := by
  have := pow20 h.hi
  exact ⟨by have := h.tap; omega, by have := h.seed; omega⟩
set_option maxHeartbeats 400000 in
theorem lseries_bad (D : Int) (T S : Nat) (hT : T ≤ 18446744073709551615) (hS : S ≤ 18446744073709551615) (hne : lchk D T S ≠ 0) (w : World) :
    Calls Try.prog 77 #[.agg #[.int .i64 D, .int .u64 T, .int .u64 S]] w fun e w' => e = .returned (.tuple #[.pointer none, .int .i64 (lchk D T S)]) ∧ Below w.heap.size w w' := by
  have HC := hide (lcheck_any D T S hT hS)
  have hb := nzBne hne
  generalize lchk D T S = cf at *
  clear hne
  go_enter Try.func77, Try.ntmps77
  go_wp2_with fail
  refine (HC.out _).mono ?_
  rintro e w1 ⟨rfl, hb1⟩
  go_wp2_with fail
  go_ret2
  exact ⟨rfl, below_one hb1⟩
set_option maxHeartbeats 400000 in
theorem lseries_good (n T S : Nat) (hg : GoodL n T S) (w : World) :
    Calls Try.prog 77 #[.agg #[.int .i64 n, .int .u64 T, .int .u64 S]] w fun e w' => ∃ g, e = .returned (.tuple #[.pointer (some ⟨g, 0, none⟩), .int .i64 0]) ∧ RegL w' g n T S ∧ w.heap.size ≤ g ∧ Below w.heap.size w w' := by
  have HC := hide (lcheck_any n T S (by have := hg.small; omega) (by have := hg.small; omega))
  rw [lchk_good hg] at HC
  clear hg
  go_enter Try.func77, Try.ntmps77
  go_wp2_with fail
  refine (HC.out _).mono ?_
  rintro e w1 ⟨rfl, hb1⟩
  have k1 := bk hb1 w.heap.size (by simp)
  have hz := hb1.size
  simp at hz
  go_wp2_with fail
  go_ret2
  refine ⟨w1.heap.size, rfl, ⟨_, heap_alloc_new w1 _⟩, by omega, (below_one hb1).alloc (by omega) _⟩
set_option maxHeartbeats 400000 in
theorem lnone_good (n T S g : Nat) (hg : GoodL n T S) (w : World) (hr : RegL w g n T S) :
    Calls Try.prog 94 #[.pointer (some ⟨g, 0, none⟩)] w fun e w' => e = .returned (.bool false) ∧ w = w' := by
  obtain ⟨hlt, q0, q1, q2, fz⟩ := hr.parts
  have hb := zNe (x := n) (by have := hg.lo; omega)
  clear hr hg
  go_enter Try.func94, Try.ntmps94
  go_wp2_with fail
  go_ret
  exact ⟨rfl, rfl⟩
set_option maxHeartbeats 400000 in
theorem lnext_good (n T S g : Nat) (hg : GoodL n T S) (w : World) (hr : RegL w g n T S) :
    Calls Try.prog 79 #[.pointer (some ⟨g, 0, none⟩)] w fun e w' => e = .returned (.int .u8 (S % 2 : Nat)) ∧ RegL w' g n T (Gf2.stp n T S) ∧ w.grownBy w' (some g) := by
  have HN := hide (lnone_good n T S g hg w hr)
  have HS := hide (lstep_any n T S g hg w hr)
  clear hr hg
  go_enter Try.func79, Try.ntmps79
  go_wp2_with fail
  refine HN.out.mono ?_
  rintro e w' ⟨rfl, rfl⟩
  go_wp2_with fail
  refine HS.out.mono ?_
  rintro e w1 ⟨rfl, hr1, hg1⟩
  have HR1 := hide hr1
  have HG1 := hide hg1
  clear hr1 hg1
  go_wp2_with fail
  go_ret
  exact ⟨rfl, HR1.out, HG1.out⟩
end Go.Proofs.Ytlbfndibgojbiaa

/- A literal of bytes. -/
namespace Go.Proofs.Ytlbfndibgojbiaa
open Go.RowKit

theorem RowA.lit (w : World) (xs : List Nat) (t : TypeId) : RowA (w.alloc (.cells (bytesV xs).toArray t)) (some ⟨w.heap.size, 0, none⟩) xs := fun _ => ⟨w.heap.size, 0, rfl, by simp, fun i hi => by
  have h := cell_of_row (w.alloc (.cells (bytesV xs).toArray t)) w.heap.size (0 + i) _ t (0, 0) (heap_alloc_new w _)
  rw [h, Nat.zero_add, List.getElem?_toArray]
  exact bytesV_at xs i hi⟩
theorem RowA.litAt (w : World) (xs : List Nat) (t : TypeId) {g : Nat} (hg : g = w.heap.size) : RowA (w.alloc (.cells (bytesV xs).toArray t)) (some ⟨g, 0, none⟩) xs := by subst hg; exact RowA.lit w xs t
theorem OwnB.rowg {w : World} {B : Nat} {v : Value} {xs : List Nat} (h : OwnB w B v xs) : ∃ ad cap, v = .slice ad xs.length cap ∧ RowA w ad xs ∧ ∀ b off, ad = some ⟨b, off, none⟩ → B ≤ b ∧ b < w.heap.size := by
  obtain ⟨ad, cap, rfl, hr⟩ := h.row
  refine ⟨ad, cap, rfl, hr, fun b off e => ?_⟩
  subst e
  exact World.ownsRow.lt h b rfl
/-- the same, and the capacity -/
theorem OwnB.rowc {w : World} {B : Nat} {v : Value} {xs : List Nat} (h : OwnB w B v xs) : ∃ ad cap, v = .slice ad xs.length cap ∧ RowA w ad xs ∧ xs.length ≤ cap ∧ ∀ b off, ad = some ⟨b, off, none⟩ → B ≤ b ∧ b < w.heap.size := by
  obtain ⟨ad, cap, rfl, hr, hg⟩ := h.rowg
  refine ⟨ad, cap, rfl, hr, ?_, hg⟩
  rcases h.form with ⟨h1, h2⟩ | ⟨g, c, h1, _, _, h4, _⟩
  · rw [h2]; exact Nat.zero_le _
  · simp only [Value.slice.injEq] at h1
    omega
end Go.Proofs.Ytlbfndibgojbiaa

/- lfsr.each, walked, with each of the closures that are handed to it. -/
namespace Go.Proofs.Ytlbfndibgojbiaa
open Go.RowKit

set_option maxHeartbeats 1000000 in
theorem each_whiten (n T S g m : Nat) (hg : GoodL n T S) (hm : m ≤ 140737488351232) (c0 c1 : Value) (I : Nat → World → Prop)
    (hI : ∀ (k : Nat) (u u1 : World), k < m → I k u → u.grownBy u1 (some g) → RegL u1 g n T (Gf2.stpN n T (k + 1) S) →
      Calls Try.prog 82 #[.int .i64 k, .int .u8 (Gf2.stpN n T k S % 2 : Nat), c0, c1] u1 fun e u2 => e = .returned (.tuple #[]) ∧ RegL u2 g n T (Gf2.stpN n T (k + 1) S) ∧ I (k + 1) u2)
    (w : World) (hr : RegL w g n T S) (h0 : I 0 w) :
    Calls Try.prog 78 #[.int .i64 m, .func (.func 79) #[.pointer (some ⟨g, 0, none⟩)] #[], .func (.func 82) #[] #[c0, c1]] w fun e w' => e = .returned (.tuple #[]) ∧ RegL w' g n T (Gf2.stpN n T m S) ∧ I m w' := by
  have HN := hide fun (k : Nat) (W : World) (h : RegL W g n T (Gf2.stpN n T k S)) => lnext_good n T _ g (hg.stpN k) W h
  have HI := hide hI
  have HR := hide hr
  have H0 := hide h0
  clear hI hr h0 hg
  go_enter Try.func78, Try.ntmps78
  go_wp2_with fail
  go_loopw [8] (fun i u => ∃ k : Nat, k ≤ m ∧ i = .int .i64 k ∧ Hid (RegL u g n T (Gf2.stpN n T k S)) ∧ Hid (I k u)) (fun i _ => m - (intOf i).toNat)
  case atStart => exact ⟨0, by omega, rfl, HR, H0⟩
  case round =>
    obtain ⟨k, hk, rfl, hr, hi⟩ := hrel
    by_cases hlt : k < m
    · have HK := hide (HN.out k _ hr.out)
      have HIk := hide fun u1 => HI.out k _ u1 hlt hi.out
      have E2 := hide (Gf2.stpN_succ (D := n) (T := T) k S)
      have hq1 : Gf2.stpN n T k S % 2 ≤ 1 := by omega
      generalize hq : Gf2.stpN n T k S % 2 = q at *
      have HQ := hide hq
      clear hq
      go_wp2_with fail
      refine HK.out.mono ?_
      rintro e w1 ⟨rfl, hr1, hg1⟩
      rw [← E2.out] at hr1
      have HC := hide (HIk.out w1 hg1 hr1)
      clear hr1 hg1
      go_wp2_with fail
      refine HC.out.mono ?_
      rintro e w2 ⟨rfl, hr2, hi2⟩
      have HR2 := hide hr2
      have HI2 := hide hi2
      clear hr2 hi2
      go_wp2_with fail
      go_roundw
      case rel => exact ⟨k + 1, by omega, by simp, HR2, HI2⟩
      case measure => simp [intOf]; omega
    · obtain rfl : k = m := by omega
      go_wp2_with fail
      go_end0
      exact ⟨rfl, hr.out, hi.out⟩
set_option maxHeartbeats 1000000 in
theorem each_turn (n T S g m : Nat) (hg : GoodL n T S) (hm : m ≤ 140737488351232) (c0 c1 c2 : Value) (I : Nat → World → Prop)
    (hI : ∀ (k : Nat) (u u1 : World), k < m → I k u → u.grownBy u1 (some g) → RegL u1 g n T (Gf2.stpN n T (k + 1) S) →
      Calls Try.prog 80 #[.int .i64 k, .int .u8 (Gf2.stpN n T k S % 2 : Nat), c0, c1, c2] u1 fun e u2 => e = .returned (.tuple #[]) ∧ RegL u2 g n T (Gf2.stpN n T (k + 1) S) ∧ I (k + 1) u2)
    (w : World) (hr : RegL w g n T S) (h0 : I 0 w) :
    Calls Try.prog 78 #[.int .i64 m, .func (.func 79) #[.pointer (some ⟨g, 0, none⟩)] #[], .func (.func 80) #[] #[c0, c1, c2]] w fun e w' => e = .returned (.tuple #[]) ∧ RegL w' g n T (Gf2.stpN n T m S) ∧ I m w' := by
  have HN := hide fun (k : Nat) (W : World) (h : RegL W g n T (Gf2.stpN n T k S)) => lnext_good n T _ g (hg.stpN k) W h
  have HI := hide hI
  have HR := hide hr
  have H0 := hide h0
  clear hI hr h0 hg
  go_enter Try.func78, Try.ntmps78
  go_wp2_with fail
  go_loopw [8] (fun i u => ∃ k : Nat, k ≤ m ∧ i = .int .i64 k ∧ Hid (RegL u g n T (Gf2.stpN n T k S)) ∧ Hid (I k u)) (fun i _ => m - (intOf i).toNat)
  case atStart => exact ⟨0, by omega, rfl, HR, H0⟩
  case round =>
    obtain ⟨k, hk, rfl, hr, hi⟩ := hrel
    by_cases hlt : k < m
    · have HK := hide (HN.out k _ hr.out)
      have HIk := hide fun u1 => HI.out k _ u1 hlt hi.out
      have E2 := hide (Gf2.stpN_succ (D := n) (T := T) k S)
      have hq1 : Gf2.stpN n T k S % 2 ≤ 1 := by omega
      generalize hq : Gf2.stpN n T k S % 2 = q at *
      have HQ := hide hq
      clear hq
      go_wp2_with fail
      refine HK.out.mono ?_
      rintro e w1 ⟨rfl, hr1, hg1⟩
      rw [← E2.out] at hr1
      have HC := hide (HIk.out w1 hg1 hr1)
      clear hr1 hg1
      go_wp2_with fail
      refine HC.out.mono ?_
      rintro e w2 ⟨rfl, hr2, hi2⟩
      have HR2 := hide hr2
      have HI2 := hide hi2
      clear hr2 hi2
      go_wp2_with fail
      go_roundw
      case rel => exact ⟨k + 1, by omega, by simp, HR2, HI2⟩
      case measure => simp [intOf]; omega
    · obtain rfl : k = m := by omega
      go_wp2_with fail
      go_end0
      exact ⟨rfl, hr.out, hi.out⟩
end Go.Proofs.Ytlbfndibgojbiaa

/- lfsr.Bits, walked. -/
namespace Go.Proofs.Ytlbfndibgojbiaa
open Go.RowKit

/-- the first bits of a sequence -/
def firstL (n T S m : Nat) : List Nat := (List.range m).map fun i => Gf2.stpN n T i S % 2
theorem firstL_length (n T S m : Nat) : (firstL n T S m).length = m := by simp [firstL]
theorem firstL_at (n T S : Nat) {m i : Nat} (h : i < m) : (firstL n T S m).getD i 0 = Gf2.stpN n T i S % 2 := by simp [firstL, List.getD, h]
/-- what a closure that fills a row holds -/
structure FillSt (w u : World) (bo g1 m : Nat) (f : Nat → Nat) (k : Nat) : Prop where
  own : OwnB u w.heap.size (.slice (some ⟨g1, 0, none⟩) m m) (fillK f m k)
  box : ∃ ty, u.heap[bo]? = some (.cells #[.slice (some ⟨g1, 0, none⟩) m m] ty (0, 0))
  below : Below w.heap.size w u
section
variable {w u u1 : World} {bo g1 m k : Nat} {f : Nat → Nat}
theorem FillSt.cell (h : FillSt w u bo g1 m f k) : u.cell? ⟨bo, 0, none⟩ = some (.slice (some ⟨g1, 0, none⟩) m m) := by
  obtain ⟨ty, h⟩ := h.box
  exact cell_of_row u bo 0 _ ty (0, 0) h
theorem FillSt.lt (h : FillSt w u bo g1 m f k) : bo < u.heap.size := by
  obtain ⟨ty, h⟩ := h.box
  exact (Array.getElem?_eq_some_iff.1 h).1
theorem FillSt.grown {q : Nat} (h : FillSt w u bo g1 m f k) (hg : u.grownBy u1 (some q)) (h1 : g1 ≠ q) (h2 : bo ≠ q) (hq : w.heap.size ≤ q) : FillSt w u1 bo g1 m f k := by
  refine ⟨h.own.grown hg (fun b e => by simp [Value.ownBlock] at e; simp; omega), ?_, h.below.grown hg h.below.size (fun b e => by simp at e; omega)⟩
  obtain ⟨ty, hb⟩ := h.box
  exact ⟨ty, (hg.block bo (Array.getElem?_eq_some_iff.1 hb).1 (by simpa using h2)).trans hb⟩
theorem FillSt.set (h : FillSt w u bo g1 m f k) (hk : k < m) (hne : bo ≠ g1) (hg : w.heap.size ≤ g1) : FillSt w (u.setCell ⟨g1, k, none⟩ (.int .u8 (f k : Nat))) bo g1 m f (k + 1) := by
  refine ⟨?_, ?_, h.below.setCell hg _⟩
  · have := (h.own.set (fillK_length (Nat.le_of_lt hk)).symm k (f k)).1
    rwa [fillK_set hk] at this
  · obtain ⟨ty, hb⟩ := h.box
    exact ⟨ty, (Below.heap_setCell _ _ _ _ hne).trans hb⟩
theorem FillSt.out (h : FillSt w u bo g1 m f k) (hk : k < m) : u.cell? ⟨g1, k, none⟩ = some (.int .u8 ((fillK f m k).getD k 0 : Nat)) ∧ u.frozen? ⟨g1, k, none⟩ = false :=
  ⟨h.own.cell (fillK_length (Nat.le_of_lt hk)).symm hk, h.own.frz (fillK_length (Nat.le_of_lt hk)).symm k⟩
end
/-- the error of a number of bits -/
def sizeF (m : Int) : Int := if m < 0 then 1 else if 1048576 < m then 6 else 0
end Go.Proofs.Ytlbfndibgojbiaa

/- lfsr.Whiten and lfsr.Turn, walked. -/
namespace Go.Proofs.Ytlbfndibgojbiaa
open Go.RowKit

/-- a box holds one value -/
def BoxAt (u : World) (b : Nat) (v : Value) : Prop := ∃ ty, u.heap[b]? = some (.cells #[v] ty (0, 0))
section
variable {u u' : World} {b : Nat} {v : Value}
theorem BoxAt.cell (h : BoxAt u b v) : u.cell? ⟨b, 0, none⟩ = some v := by
  obtain ⟨ty, h⟩ := h
  exact cell_of_row u b 0 _ ty (0, 0) h
theorem BoxAt.lt (h : BoxAt u b v) : b < u.heap.size := by
  obtain ⟨ty, h⟩ := h
  exact (Array.getElem?_eq_some_iff.1 h).1
theorem BoxAt.keep (h : BoxAt u b v) (hk : u'.heap[b]? = u.heap[b]?) : BoxAt u' b v := by
  obtain ⟨ty, h⟩ := h
  exact ⟨ty, hk.trans h⟩
theorem BoxAt.below (h : BoxAt u b v) {B : Nat} (hb : Below B u u') (hl : b < B) : BoxAt u' b v := h.keep (hb.block b hl)
theorem BoxAt.grown (h : BoxAt u b v) {row : Option Nat} (hg : u.grownBy u' row) (hne : some b ≠ row) : BoxAt u' b v := h.keep (hg.block b h.lt hne)
theorem BoxAt.far (h : BoxAt u b v) {p : Addr} (hp : b ≠ p.block) (x : Value) : BoxAt (u.setCell p x) b v := h.keep (Below.heap_setCell _ _ _ _ hp)
theorem BoxAt.alloc (h : BoxAt u b v) (o : Obj) : BoxAt (u.alloc o) b v := h.keep (Below.heap_alloc _ _ _ h.lt)
theorem BoxAt.drew (h : BoxAt u b v) : BoxAt u.drew b v := h
theorem BoxAt.drewN (h : BoxAt u b v) (n : Nat) : BoxAt (u.drewN n) b v := h
end
theorem FillSt.drew {w u : World} {bo g1 m k : Nat} {f : Nat → Nat} (h : FillSt w u bo g1 m f k) : FillSt w u.drew bo g1 m f k := ⟨h.own.keep fun _ _ => rfl, h.box, h.below.drew⟩
theorem FillSt.set2 {w u : World} {bo g1 m k : Nat} {f : Nat → Nat} (h : FillSt w u bo g1 m f k) (hk : k < m) (hne : bo ≠ g1) (hg : w.heap.size ≤ g1) (x : Nat) :
    FillSt w (((u.setCell ⟨g1, k, none⟩ (.int .u8 (x : Nat))).drew).setCell ⟨g1, k, none⟩ (.int .u8 (f k : Nat))) bo g1 m f (k + 1) := by
  have hl := (fillK_length (f := f) (Nat.le_of_lt hk)).symm
  have h1 := (h.own.set hl k x).1
  have h2 : OwnB (u.setCell ⟨g1, k, none⟩ (.int .u8 (x : Nat))).drew w.heap.size (.slice (some ⟨g1, 0, none⟩) m m) ((fillK f m k).set k x) := h1.keep fun _ _ => rfl
  have h3 := (h2.set (by rw [List.length_set]; exact hl) k (f k)).1
  rw [List.set_set, fillK_set hk] at h3
  refine ⟨h3, ?_, ((h.below.setCell hg _).drew).setCell hg _⟩
  obtain ⟨ty, hb⟩ := h.box
  exact ⟨ty, (Below.heap_setCell _ _ _ _ hne).trans ((Below.heap_setCell u ⟨g1, k, none⟩ (.int .u8 (x : Nat)) _ hne).trans hb)⟩
/-- a bit of a sequence -/
def bitL (n T S k : Nat) : Nat := Gf2.stpN n T k S % 2
set_option maxRecDepth 100000 in
set_option maxHeartbeats 1000000 in
theorem whiten_one {w u1 : World} {bo g1 gr m k T S' br cp q y : Nat} {f : Nat → Nat} {D : Int} {ad : Option Addr} {xs : List Nat} (hS : FillSt w u1 bo g1 m f k) (hB : BoxAt u1 br (.slice ad m cp)) (hx : RowA u1 ad xs) (hm : m = xs.length)
    (hr : RegL u1 gr D T S') (hk : k < m) (hne : bo ≠ g1 ∧ gr ≠ g1 ∧ br ≠ g1) (hg : w.heap.size ≤ g1) (hq : q ≤ 1) (hy : xs.getD k 0 = y) (hy1 : y ≤ 1) (hf : f k = y ^^^ q) :
    Calls Try.prog 82 #[.int .i64 k, .int .u8 q, .pointer (some ⟨br, 0, none⟩), .pointer (some ⟨bo, 0, none⟩)] u1 fun e u2 => e = .returned (.tuple #[]) ∧ RegL u2 gr D T S' ∧ FillSt w u2 bo g1 m f (k + 1) ∧ BoxAt u2 br (.slice ad m cp) := by
  have hc := hS.cell
  have hc2 := hB.cell
  obtain ⟨ho, hfz⟩ := hS.out hk
  have HS := hide (hS.set hk hne.1 hg)
  rw [hf] at HS
  have HR := hide (hr.far (p := ⟨g1, k, none⟩) hne.2.1 (.int .u8 ((y ^^^ q : Nat) : Int)))
  have HBX := hide (hB.far (p := ⟨g1, k, none⟩) hne.2.2 (.int .u8 ((y ^^^ q : Nat) : Int)))
  obtain ⟨b, off, rfl, _, hcx⟩ := hx.at_ (i := k) (by omega)
  rw [hy] at hcx
  have h1 := xorU8 (a := y) (b := q) (by omega) (by omega)
  have hin : (0 : Int) ≤ k := by omega
  have hin2 : (k : Int) < m := by omega
  clear hS hr hB hx hf hy hm
  generalize y ^^^ q = z at *
  go_enter Try.func82, Try.ntmps82
  go_wp2_with fail
  go_still_tail 9, (by kernel_rfl)
  change wpList _ _ _ _ _ u1.drew
  go_wp2_with fail
  go_end0
  exact ⟨rfl, HR.out, HS.out.drew, HBX.out⟩
set_option maxRecDepth 100000 in
set_option maxHeartbeats 1000000 in
theorem turn_one {w u1 : World} {bo g1 gr m k T S' br cp q y bl L : Nat} {f : Nat → Nat} {D : Int} {ad : Option Addr} {xs : List Nat} (hS : FillSt w u1 bo g1 m f k) (hB : BoxAt u1 br (.slice ad m cp)) (hBL : BoxAt u1 bl (.int .i64 L)) (hx : RowA u1 ad xs) (hfar : ∀ b off, ad = some ⟨b, off, none⟩ → b ≠ g1) (hm : m = xs.length)
    (hr : RegL u1 gr D T S') (hk : k < m) (hne : bo ≠ g1 ∧ gr ≠ g1 ∧ br ≠ g1 ∧ bl ≠ g1) (hg : w.heap.size ≤ g1) (hq : q ≤ 1) (hL : 2 ≤ L ∧ L ≤ 16) (hy : xs.getD k 0 = y) (hy1 : y < L) (hf : f k = if q = 1 then L - 1 - y else y) :
    Calls Try.prog 80 #[.int .i64 k, .int .u8 q, .pointer (some ⟨br, 0, none⟩), .pointer (some ⟨bo, 0, none⟩), .pointer (some ⟨bl, 0, none⟩)] u1 fun e u2 => e = .returned (.tuple #[]) ∧ RegL u2 gr D T S' ∧ FillSt w u2 bo g1 m f (k + 1) ∧ BoxAt u2 br (.slice ad m cp) ∧ BoxAt u2 bl (.int .i64 L) := by
  have hc := hS.cell
  have hc2 := hB.cell
  have hc3 := hBL.cell
  obtain ⟨ho, hfz⟩ := hS.out hk
  have HX1 := hide (hx.keep (w' := (u1.setCell ⟨g1, k, none⟩ (.int .u8 (y : Nat))).drew) (by simp) (fun b off e _ => by
    have := hfar b off e
    exact Below.heap_setCell u1 ⟨g1, k, none⟩ _ _ this))
  have HR := hide (hr.far (p := ⟨g1, k, none⟩) hne.2.1 (.int .u8 (y : Nat)))
  have HBX := hide (hB.far (p := ⟨g1, k, none⟩) hne.2.2.1 (.int .u8 (y : Nat)))
  have HBL := hide (hBL.far (p := ⟨g1, k, none⟩) hne.2.2.2 (.int .u8 (y : Nat)))
  have HF := hide hS
  have HFK := hide hf
  obtain ⟨b, off, rfl, _, hcx⟩ := hx.at_ (i := k) (by omega)
  have hcx2 := HX1.out.at_ (i := k) (by omega)
  rw [hy] at hcx hcx2
  have hin : (0 : Int) ≤ k := by omega
  have hin2 : (k : Int) < m := by omega
  clear hS hr hB hx hf hBL hm hy
  go_enter Try.func80, Try.ntmps80
  go_wp2_with fail
  go_still_tail 7, (by kernel_rfl)
  change wpList _ _ _ _ _ u1.drew
  by_cases h1 : q = 1
  · subst h1
    have HS := hide (HF.out.set2 hk hne.1 hg y)
    have hz : L - 1 - y ≤ 255 := by omega
    have HR2 := hide ((show RegL (u1.setCell ⟨g1, k, none⟩ (.int .u8 (y : Nat))).drew gr D T S' from HR.out).far (p := ⟨g1, k, none⟩) hne.2.1 (.int .u8 ((L - 1 - y : Nat) : Int)))
    have HBX2 := hide (HBX.out.drew.far (p := ⟨g1, k, none⟩) hne.2.2.1 (.int .u8 ((L - 1 - y : Nat) : Int)))
    have HBL2 := hide (HBL.out.drew.far (p := ⟨g1, k, none⟩) hne.2.2.2 (.int .u8 ((L - 1 - y : Nat) : Int)))
    rw [HFK.out, if_pos rfl] at HS
    have e3 : IntKind.u8.wrap (((L : Int) - 1) - y) = ((L - 1 - y : Nat) : Int) := by rw [IntKind.wrap_u8]; omega
    have e1 : IntKind.i64.wrap ((L : Int) - 1) = (L : Int) - 1 := IntWalk.i64_in _ (by omega)
    have e2 : IntKind.u8.wrap ((L : Int) - 1) = (L : Int) - 1 := IntWalk.u8_in _ (by omega)
    have hl := (fillK_length (f := f) (Nat.le_of_lt hk)).symm
    have o1 := (HF.out.own.set hl k y).1
    have p0 : (u1.setCell ⟨g1, k, none⟩ (.int .u8 (y : Nat))).drew.cell? ⟨g1, k, none⟩ = some (.int .u8 (((fillK f m k).set k y).getD k 0 : Nat)) := o1.cell (by rw [List.length_set]; exact hl) hk
    have p1 : (u1.setCell ⟨g1, k, none⟩ (.int .u8 (y : Nat))).drew.frozen? ⟨g1, k, none⟩ = false := o1.frz (by rw [List.length_set]; exact hl) k
    have p2 : (u1.setCell ⟨g1, k, none⟩ (.int .u8 (y : Nat))).drew.cell? ⟨bo, 0, none⟩ = some (.slice (some ⟨g1, 0, none⟩) m m) := by
      obtain ⟨ty, hb⟩ := HF.out.box
      exact cell_of_row _ bo 0 _ ty (0, 0) ((Below.heap_setCell u1 ⟨g1, k, none⟩ (.int .u8 (y : Nat)) _ hne.1).trans hb)
    have p3 := HBX.out.drew.cell
    have p4 := HBL.out.drew.cell
    obtain ⟨b', off', e', _, p5⟩ := hcx2
    simp only [Option.some.injEq, Addr.mk.injEq, and_true] at e'
    obtain ⟨rfl, rfl⟩ := e'
    generalize ((fillK f m k).set k y).getD k 0 = yy at *
    clear o1 HX1 HF HFK HR HBX HBL hne hfar hl hg
    go_wp2_with fail
    change Code.wp _ _ _ _ (u1.setCell ⟨g1, k, none⟩ (.int .u8 (y : Nat))).drew
    generalize (u1.setCell ⟨g1, k, none⟩ (.int .u8 (y : Nat))).drew = W1 at *
    clear hc hc2 hc3 ho hfz hcx
    go_still_tail 11, (by kernel_rfl)
    change wpList _ _ _ _ _ W1.drew
    go_wp2_with fail
    go_end0
    exact ⟨rfl, HR2.out, HS.out.drew, HBX2.out, HBL2.out⟩
  · have HS := hide (HF.out.set hk hne.1 hg)
    rw [HFK.out, if_neg h1] at HS
    obtain rfl : q = 0 := by omega
    go_wp2_with fail
    go_end0
    exact ⟨rfl, HR.out, HS.out.drew, HBX.out, HBL.out⟩
/-- a row, whitened -/
def whiteL (n T S : Nat) (xs : List Nat) : List Nat := (List.range xs.length).map fun i => xs.getD i 0 ^^^ (Gf2.stpN n T i S % 2)
/-- a row of levels, turned -/
def turnL (n T S L : Nat) (xs : List Nat) : List Nat := (List.range xs.length).map fun i => if Gf2.stpN n T i S % 2 = 1 then L - 1 - xs.getD i 0 else xs.getD i 0
theorem whiteL_length (n T S : Nat) (xs : List Nat) : (whiteL n T S xs).length = xs.length := by simp [whiteL]
theorem turnL_length (n T S L : Nat) (xs : List Nat) : (turnL n T S L xs).length = xs.length := by simp [turnL]
theorem whiteL_at (n T S : Nat) (xs : List Nat) {i : Nat} (h : i < xs.length) : (whiteL n T S xs).getD i 0 = xs.getD i 0 ^^^ (Gf2.stpN n T i S % 2) := by simp [whiteL, List.getD, h]
theorem turnL_at (n T S L : Nat) (xs : List Nat) {i : Nat} (h : i < xs.length) : (turnL n T S L xs).getD i 0 = if Gf2.stpN n T i S % 2 = 1 then L - 1 - xs.getD i 0 else xs.getD i 0 := by simp [turnL, List.getD, h]
theorem ext_getD {xs ys : List Nat} (hl : xs.length = ys.length) (h : ∀ i, i < xs.length → xs.getD i 0 = ys.getD i 0) : xs = ys := by
  refine List.ext_getElem hl fun i h1 h2 => ?_
  have := h i h1
  simpa [List.getD, h1, h2] using this
theorem xor_le1 {a b : Nat} (ha : a ≤ 1) (hb : b ≤ 1) : a ^^^ b ≤ 1 := by
  have h1 : a = 0 ∨ a = 1 := by omega
  have h2 : b = 0 ∨ b = 1 := by omega
  rcases h1 with rfl | rfl <;> rcases h2 with rfl | rfl <;> decide
theorem whiteL_le (n T S : Nat) (xs : List Nat) (h : ∀ i, i < xs.length → xs.getD i 0 ≤ 1) : ∀ i, i < (whiteL n T S xs).length → (whiteL n T S xs).getD i 0 ≤ 1 := fun i hi => by
  rw [whiteL_length] at hi
  rw [whiteL_at _ _ _ _ hi]
  exact xor_le1 (h i hi) (by omega)
theorem whiteL_back (n T S : Nat) (xs : List Nat) : whiteL n T S (whiteL n T S xs) = xs := by
  refine ext_getD (by simp [whiteL_length]) fun i hi => ?_
  rw [whiteL_length, whiteL_length] at hi
  rw [whiteL_at _ _ _ _ (by rw [whiteL_length]; exact hi), whiteL_at _ _ _ _ hi, Nat.xor_assoc, Nat.xor_self, Nat.xor_zero]
theorem turnL_lt (n T S L : Nat) (xs : List Nat) (h : ∀ i, i < xs.length → xs.getD i 0 < L) : ∀ i, i < (turnL n T S L xs).length → (turnL n T S L xs).getD i 0 < L := fun i hi => by
  rw [turnL_length] at hi
  rw [turnL_at _ _ _ _ _ hi]
  have := h i hi
  split <;> omega
theorem turnL_back (n T S L : Nat) (xs : List Nat) (h : ∀ i, i < xs.length → xs.getD i 0 < L) : turnL n T S L (turnL n T S L xs) = xs := by
  refine ext_getD (by simp [turnL_length]) fun i hi => ?_
  rw [turnL_length, turnL_length] at hi
  have h1 := h i hi
  rw [turnL_at _ _ _ _ _ (by rw [turnL_length]; exact hi), turnL_at _ _ _ _ _ hi]
  split <;> omega
/-- the first place where a row is not as it should be -/
theorem first_bad {P : Nat → Prop} [DecidablePred P] {m : Nat} (h : ¬ ∀ i, i < m → P i) : ∃ j, j < m ∧ ¬ P j ∧ ∀ i, i < j → P i := by
  have h2 : ∃ j, j < m ∧ ¬ P j := by
    refine Classical.byContradiction fun hc => h fun i hi => Classical.byContradiction fun hp => hc ⟨i, hi, hp⟩
  obtain ⟨j, hj, hmin⟩ := Gf2.least_of (P := fun j => j < m ∧ ¬ P j) h2
  exact ⟨j, hj.1, hj.2, fun i hi => Classical.byContradiction fun hp => hmin i hi ⟨by omega, hp⟩⟩
theorem below_three {w u : World} {o1 o2 o3 : Obj} (h : Below (((w.alloc o1).alloc o2).alloc o3).heap.size (((w.alloc o1).alloc o2).alloc o3) u) : Below w.heap.size w u := below_then ((((Below.refl _ _).alloc (Nat.le_refl _) _).alloc (by simp) _).alloc (by simp; omega) _) h
set_option maxHeartbeats 400000 in
theorem lwhiten_bad (D : Int) (T S : Nat) (hT : T ≤ 18446744073709551615) (hS : S ≤ 18446744073709551615) (hne : lchk D T S ≠ 0) (ad : Option Addr) (m cp : Nat) (w : World) :
    Calls Try.prog 59 #[.agg #[.int .i64 D, .int .u64 T, .int .u64 S], .slice ad m cp] w fun e w' => e = .returned (.tuple #[.slice none 0 0, .int .i64 (lchk D T S)]) ∧ Below w.heap.size w w' := by
  have HC := hide (lseries_bad D T S hT hS hne)
  have hb := nzBne hne
  generalize lchk D T S = cf at *
  clear hne
  go_enter Try.func59, Try.ntmps59
  go_wp2_with fail
  refine (HC.out _).mono ?_
  rintro e w1 ⟨rfl, hb1⟩
  go_wp2_with fail
  go_ret2
  exact ⟨rfl, below_two hb1⟩
set_option maxHeartbeats 400000 in
theorem lturn_bad (D : Int) (T S : Nat) (hT : T ≤ 18446744073709551615) (hS : S ≤ 18446744073709551615) (hne : lchk D T S ≠ 0) (L : Int) (ad : Option Addr) (m cp : Nat) (w : World) :
    Calls Try.prog 52 #[.agg #[.int .i64 D, .int .u64 T, .int .u64 S], .int .i64 L, .slice ad m cp] w fun e w' => e = .returned (.tuple #[.slice none 0 0, .int .i64 (lchk D T S)]) ∧ Below w.heap.size w w' := by
  have HC := hide (lseries_bad D T S hT hS hne)
  have hb := nzBne hne
  generalize lchk D T S = cf at *
  clear hne
  go_enter Try.func52, Try.ntmps52
  go_wp2_with fail
  refine (HC.out _).mono ?_
  rintro e w1 ⟨rfl, hb1⟩
  go_wp2_with fail
  go_ret2
  exact ⟨rfl, below_three hb1⟩
set_option maxHeartbeats 400000 in
theorem lturn_arg (n T S : Nat) (hg : GoodL n T S) (L : Int) (hL : L < 2 ∨ 16 < L) (ad : Option Addr) (m cp : Nat) (w : World) :
    Calls Try.prog 52 #[.agg #[.int .i64 n, .int .u64 T, .int .u64 S], .int .i64 L, .slice ad m cp] w fun e w' => e = .returned (.tuple #[.slice none 0 0, .int .i64 1]) ∧ Below w.heap.size w w' := by
  have HC := hide (lseries_good n T S hg)
  clear hg
  go_enter Try.func52, Try.ntmps52
  go_wp2_with fail
  refine (HC.out _).mono ?_
  rintro e w1 ⟨g, rfl, -, -, hb1⟩
  have c1 := bcell hb1 (b := w.heap.size + 1) (o := 0) (v := .int .i64 L) (by simp) (by simp [go_sem])
  rcases hL with hL | hL
  · have hd : decide (L < 2) = true := decide_eq_true hL
    go_wp2_with fail
    go_ret2
    exact ⟨rfl, below_three hb1⟩
  · have hd : decide (L < 2) = false := decide_eq_false (by omega)
    have hd2 : decide (16 < L) = true := decide_eq_true hL
    go_wp2_with fail
    go_ret2
    exact ⟨rfl, below_three hb1⟩
set_option maxRecDepth 100000 in
set_option maxHeartbeats 1000000 in
theorem lwhiten_err (n T S : Nat) (hg : GoodL n T S) (ad : Option Addr) (cp : Nat) (xs : List Nat) (hl : xs.length ≤ 140737488351232) (hx : ¬ ∀ i, i < xs.length → xs.getD i 0 ≤ 1) (w : World) (hr : RowA w ad xs) :
    Calls Try.prog 59 #[.agg #[.int .i64 n, .int .u64 T, .int .u64 S], .slice ad xs.length cp] w fun e w' => e = .returned (.tuple #[.slice none 0 0, .int .i64 10]) ∧ Below w.heap.size w w' := by
  have HC := hide (lseries_good n T S hg)
  obtain ⟨j, hj, hjb, hjo⟩ := first_bad hx
  have HO := hide hjo
  have HR := hide hr
  clear hg hx hjo hr
  go_enter Try.func59, Try.ntmps59
  go_wp2_with fail
  refine (HC.out _).mono ?_
  rintro e w1 ⟨g, rfl, -, -, hb1⟩
  have c1 := bcell hb1 (b := w.heap.size + 1) (o := 0) (v := .slice ad xs.length cp) (by simp) (by simp [go_sem])
  have HB1 := hide (below_two hb1)
  have HR1 := hide (HR.out.below HB1.out)
  clear hb1
  go_wp2_with fail
  go_loop [21] (fun i => ∃ k : Nat, k ≤ j ∧ i = .int .i64 k) (fun i => xs.length - (intOf i).toNat)
  case atStart => exact ⟨0, by omega, rfl⟩
  case round =>
    obtain ⟨k, hk, rfl⟩ := hrel
    obtain ⟨b, off, rfl, _, hc⟩ := HR1.out.at_ (i := k) (by omega)
    have hlt : (k : Int) < xs.length := by omega
    by_cases he : k = j
    · subst he
      generalize xs.getD k 0 = y at *
      go_wp2_with fail
      go_ret2
      exact ⟨rfl, HB1.out⟩
    · have h1 := HO.out k (by omega)
      generalize xs.getD k 0 = y at *
      go_wp2_with fail
      go_round
      case rel => exact ⟨k + 1, by omega, by simp⟩
      case measure => simp [intOf]; omega
set_option maxRecDepth 100000 in
set_option maxHeartbeats 1000000 in
theorem lturn_err (n T S L : Nat) (hg : GoodL n T S) (hL : 2 ≤ L ∧ L ≤ 16) (ad : Option Addr) (cp : Nat) (xs : List Nat) (hl : xs.length ≤ 140737488351232) (h8 : ∀ i, xs.getD i 0 ≤ 255) (hx : ¬ ∀ i, i < xs.length → xs.getD i 0 < L) (w : World) (hr : RowA w ad xs) :
    Calls Try.prog 52 #[.agg #[.int .i64 n, .int .u64 T, .int .u64 S], .int .i64 L, .slice ad xs.length cp] w fun e w' => e = .returned (.tuple #[.slice none 0 0, .int .i64 91]) ∧ Below w.heap.size w w' := by
  have HC := hide (lseries_good n T S hg)
  obtain ⟨j, hj, hjb, hjo⟩ := first_bad hx
  have HO := hide hjo
  have H8 := hide h8
  have HR := hide hr
  obtain ⟨l2, l16⟩ := hL
  have dl : decide ((L : Int) < 2) = false := by simp; omega
  have dh : decide ((16 : Int) < L) = false := by simp; omega
  clear h8 hg hx hjo hr
  go_enter Try.func52, Try.ntmps52
  go_wp2_with fail
  refine (HC.out _).mono ?_
  rintro e w1 ⟨g, rfl, -, -, hb1⟩
  have c0 := bcell hb1 (b := w.heap.size + 1) (o := 0) (v := .int .i64 L) (by simp) (by simp [go_sem])
  have c1 := bcell hb1 (b := w.heap.size + 2) (o := 0) (v := .slice ad xs.length cp) (by simp) (by simp [go_sem])
  have HB1 := hide (below_three hb1)
  have HR1 := hide (HR.out.below HB1.out)
  clear hb1
  go_wp2_with fail
  go_loop [29] (fun i => ∃ k : Nat, k ≤ j ∧ i = .int .i64 k) (fun i => xs.length - (intOf i).toNat)
  case atStart => exact ⟨0, by omega, rfl⟩
  case round =>
    obtain ⟨k, hk, rfl⟩ := hrel
    obtain ⟨b, off, rfl, _, hc⟩ := HR1.out.at_ (i := k) (by omega)
    have hlt : (k : Int) < xs.length := by omega
    have h8k := H8.out k
    by_cases he : k = j
    · subst he
      generalize xs.getD k 0 = y at *
      go_wp2_with fail
      go_ret2
      exact ⟨rfl, HB1.out⟩
    · have h1 := HO.out k (by omega)
      generalize xs.getD k 0 = y at *
      go_wp2_with fail
      go_round
      case rel => exact ⟨k + 1, by omega, by simp⟩
      case measure => simp [intOf]; omega
theorem RowA.at_lt {w : World} {ad : Option Addr} {xs : List Nat} (h : RowA w ad xs) (h0 : 0 < xs.length) : ∀ b off, ad = some ⟨b, off, none⟩ → b < w.heap.size := fun b off e => by
  obtain ⟨b', off', e', hlt, _⟩ := h.at_ h0
  rw [e] at e'
  simp only [Option.some.injEq, Addr.mk.injEq, and_true] at e'
  omega
set_option maxRecDepth 100000 in
set_option maxHeartbeats 2000000 in
theorem lwhiten_ok (n T S : Nat) (hg : GoodL n T S) (ad : Option Addr) (cp : Nat) (xs : List Nat) (hl : xs.length ≤ 140737488351232) (hx : ∀ i, i < xs.length → xs.getD i 0 ≤ 1) (w : World) (hr : RowA w ad xs) :
    Calls Try.prog 59 #[.agg #[.int .i64 n, .int .u64 T, .int .u64 S], .slice ad xs.length cp] w fun e w' => ∃ v, e = .returned (.tuple #[v, .int .i64 0]) ∧ OwnB w' w.heap.size v (whiteL n T S xs) ∧ Below w.heap.size w w' := by
  have HC := hide (lseries_good n T S hg)
  have HE := hide fun (g : Nat) => each_whiten n T S g xs.length hg hl
  have HR := hide hr
  have HX := hide hx
  have hmf : ∀ (fn : Fn) (first cap : Array Value) (w : World), (Instr.makeFunc fn first cap).run Try.prog w = .ok (.func fn first cap) w := fun _ _ _ _ => rfl
  clear hg hx hr
  go_enter Try.func59, Try.ntmps59
  go_wp2_with fail
  refine (HC.out _).mono ?_
  rintro e w1 ⟨g, rfl, hr1, hg1, hb1⟩
  have c1 := bcell hb1 (b := w.heap.size + 1) (o := 0) (v := .slice ad xs.length cp) (by simp) (by simp [go_sem])
  have HBX1 := hide (show BoxAt w1 (w.heap.size + 1) (.slice ad xs.length cp) from ⟨_, (hb1.block (w.heap.size + 1) (by simp)).trans (by have := heap_alloc_new (w.alloc (.cells #[.int .i64 n, .int .u64 T, .int .u64 S] 28)) (.cells #[.slice ad xs.length cp] 33); simpa using this)⟩)
  have HR1 := hide hr1
  have hgl := hr1.lt
  have hz1 := hb1.size
  simp at hz1 hg1
  have HB1 := hide (below_two hb1)
  have HRW1 := hide (HR.out.below HB1.out)
  clear hb1 hr1
  go_wp2_with fail
  go_loop [21] (fun i => ∃ k : Nat, k ≤ xs.length ∧ i = .int .i64 k) (fun i => xs.length - (intOf i).toNat)
  case atStart => exact ⟨0, by omega, rfl⟩
  case round =>
    obtain ⟨k, hk, rfl⟩ := hrel
    by_cases hlt : k < xs.length
    · obtain ⟨b, off, rfl, _, hc⟩ := HRW1.out.at_ hlt
      have h1 := HX.out k hlt
      generalize xs.getD k 0 = y at *
      go_wp2_with fail
      go_round
      case rel => exact ⟨k + 1, by omega, by simp⟩
      case measure => simp [intOf]; omega
    · obtain rfl : k = xs.length := by omega
      go_wp2_with (first
        | (at_make; refine wpList_makeB rfl _ _ rfl w.heap.size _ _ xs.length rfl rfl ?c1 ?c2 ?c3 ?c4 ?_)
        | go_in)
      case c1 => rfl
      case c2 => rfl
      case c3 => omega
      case c4 => omega
      intro w2 hown2 hgrow2 hz2
      have HS0 := hide (show FillSt w (w2.alloc (.cells #[.slice (some ⟨w1.heap.size, 0, none⟩) xs.length xs.length] 33)) w2.heap.size w1.heap.size xs.length (fun i => xs.getD i 0 ^^^ (Gf2.stpN n T i S % 2)) 0 from
        ⟨by rw [fillK_zero]; exact hown2.alloc _, ⟨_, heap_alloc_new w2 _⟩, (HB1.out.grown hgrow2 HB1.out.size (fun k e => by cases e)).alloc (by have := HB1.out.size; omega) _⟩)
      have HR2 := hide ((HR1.out.grown hgrow2 (by simp)).alloc (.cells #[.slice (some ⟨w1.heap.size, 0, none⟩) xs.length xs.length] 33))
      have HBX2 := hide ((HBX1.out.grown hgrow2 (by simp)).alloc (.cells #[.slice (some ⟨w1.heap.size, 0, none⟩) xs.length xs.length] 33))
      have hq2 := HBX2.out.cell
      clear hown2 hgrow2
      go_wp2_with fail
      refine (HE.out g (.pointer (some ⟨w.heap.size + 1, 0, none⟩)) (.pointer (some ⟨w2.heap.size, 0, none⟩)) (fun k u => FillSt w u w2.heap.size w1.heap.size xs.length (fun i => xs.getD i 0 ^^^ (Gf2.stpN n T i S % 2)) k ∧ BoxAt u (w.heap.size + 1) (.slice ad xs.length cp)) ?hI _ HR2.out ⟨HS0.out, HBX2.out⟩).mono ?_
      case hI =>
        intro k u u1 hk hSB hgr hr
        have hS1 := hSB.1.grown hgr (by omega) (by omega) (by omega)
        exact whiten_one hS1 (hSB.2.grown hgr (by simp; omega)) (HR.out.below hS1.below) rfl hr hk ⟨by omega, by omega, by omega⟩ (by omega) (by omega) rfl (HX.out k hk) rfl
      rintro e w3 ⟨rfl, hr3, hs3, _⟩
      have hc3 := hs3.cell
      have HS3 := hide hs3
      clear hr3 hs3
      go_wp2_with fail
      go_ret2
      exact ⟨_, rfl, by have := HS3.out.own; rw [fillK_full] at this; exact this, HS3.out.below⟩
set_option maxRecDepth 100000 in
set_option maxHeartbeats 2000000 in
theorem lturn_ok (n T S L : Nat) (hg : GoodL n T S) (hL : 2 ≤ L ∧ L ≤ 16) (ad : Option Addr) (cp : Nat) (xs : List Nat) (hl : xs.length ≤ 140737488351232) (hx : ∀ i, i < xs.length → xs.getD i 0 < L) (w : World) (hr : RowA w ad xs) :
    Calls Try.prog 52 #[.agg #[.int .i64 n, .int .u64 T, .int .u64 S], .int .i64 L, .slice ad xs.length cp] w fun e w' => ∃ v, e = .returned (.tuple #[v, .int .i64 0]) ∧ OwnB w' w.heap.size v (turnL n T S L xs) ∧ Below w.heap.size w w' := by
  have HC := hide (lseries_good n T S hg)
  have HE := hide fun (g : Nat) => each_turn n T S g xs.length hg hl
  have HR := hide hr
  have HX := hide hx
  have HL := hide hL
  have hmf : ∀ (fn : Fn) (first cap : Array Value) (w : World), (Instr.makeFunc fn first cap).run Try.prog w = .ok (.func fn first cap) w := fun _ _ _ _ => rfl
  obtain ⟨l2, l16⟩ := hL
  have dl : decide ((L : Int) < 2) = false := by simp; omega
  have dh : decide ((16 : Int) < L) = false := by simp; omega
  clear hg hx hr
  go_enter Try.func52, Try.ntmps52
  go_wp2_with fail
  refine (HC.out _).mono ?_
  rintro e w1 ⟨g, rfl, hr1, hg1, hb1⟩
  have HBL1 := hide (show BoxAt w1 (w.heap.size + 1) (.int .i64 L) from ⟨_, (hb1.block (w.heap.size + 1) (by simp)).trans ((Below.heap_alloc _ _ _ (by simp)).trans (by have := heap_alloc_new (w.alloc (.cells #[.int .i64 n, .int .u64 T, .int .u64 S] 28)) (.cells #[.int .i64 L] 3); simpa using this))⟩)
  have HBX1 := hide (show BoxAt w1 (w.heap.size + 2) (.slice ad xs.length cp) from ⟨_, (hb1.block (w.heap.size + 2) (by simp)).trans (by have := heap_alloc_new ((w.alloc (.cells #[.int .i64 n, .int .u64 T, .int .u64 S] 28)).alloc (.cells #[.int .i64 L] 3)) (.cells #[.slice ad xs.length cp] 33); simpa using this)⟩)
  have c0 := HBL1.out.cell
  have c1 := HBX1.out.cell
  have HR1 := hide hr1
  have hgl := hr1.lt
  have hz1 := hb1.size
  simp at hz1 hg1
  have HB1 := hide (below_three hb1)
  have HRW1 := hide (HR.out.below HB1.out)
  clear hb1 hr1
  go_wp2_with fail
  go_loop [29] (fun i => ∃ k : Nat, k ≤ xs.length ∧ i = .int .i64 k) (fun i => xs.length - (intOf i).toNat)
  case atStart => exact ⟨0, by omega, rfl⟩
  case round =>
    obtain ⟨k, hk, rfl⟩ := hrel
    by_cases hlt : k < xs.length
    · obtain ⟨b, off, rfl, _, hc⟩ := HRW1.out.at_ hlt
      have h1 := HX.out k hlt
      generalize xs.getD k 0 = y at *
      go_wp2_with fail
      go_round
      case rel => exact ⟨k + 1, by omega, by simp⟩
      case measure => simp [intOf]; omega
    · obtain rfl : k = xs.length := by omega
      go_wp2_with (first
        | (at_make; refine wpList_makeB rfl _ _ rfl w.heap.size _ _ xs.length rfl rfl ?c1 ?c2 ?c3 ?c4 ?_)
        | go_in)
      case c1 => rfl
      case c2 => rfl
      case c3 => omega
      case c4 => omega
      intro w2 hown2 hgrow2 hz2
      have HS0 := hide (show FillSt w (w2.alloc (.cells #[.slice (some ⟨w1.heap.size, 0, none⟩) xs.length xs.length] 33)) w2.heap.size w1.heap.size xs.length (fun i => if Gf2.stpN n T i S % 2 = 1 then L - 1 - xs.getD i 0 else xs.getD i 0) 0 from
        ⟨by rw [fillK_zero]; exact hown2.alloc _, ⟨_, heap_alloc_new w2 _⟩, (HB1.out.grown hgrow2 HB1.out.size (fun k e => by cases e)).alloc (by have := HB1.out.size; omega) _⟩)
      have HR2 := hide ((HR1.out.grown hgrow2 (by simp)).alloc (.cells #[.slice (some ⟨w1.heap.size, 0, none⟩) xs.length xs.length] 33))
      have HBX2 := hide ((HBX1.out.grown hgrow2 (by simp)).alloc (.cells #[.slice (some ⟨w1.heap.size, 0, none⟩) xs.length xs.length] 33))
      have HBL2 := hide ((HBL1.out.grown hgrow2 (by simp)).alloc (.cells #[.slice (some ⟨w1.heap.size, 0, none⟩) xs.length xs.length] 33))
      have hq2 := HBX2.out.cell
      clear hown2 hgrow2
      go_wp2_with fail
      refine (HE.out g (.pointer (some ⟨w.heap.size + 2, 0, none⟩)) (.pointer (some ⟨w2.heap.size, 0, none⟩)) (.pointer (some ⟨w.heap.size + 1, 0, none⟩)) (fun k u => FillSt w u w2.heap.size w1.heap.size xs.length (fun i => if Gf2.stpN n T i S % 2 = 1 then L - 1 - xs.getD i 0 else xs.getD i 0) k ∧ BoxAt u (w.heap.size + 2) (.slice ad xs.length cp) ∧ BoxAt u (w.heap.size + 1) (.int .i64 L)) ?hI _ HR2.out ⟨HS0.out, HBX2.out, HBL2.out⟩).mono ?_
      case hI =>
        intro k u u1 hk hSB hgr hr
        have hS1 := hSB.1.grown hgr (by omega) (by omega) (by omega)
        exact turn_one hS1 (hSB.2.1.grown hgr (by simp; omega)) (hSB.2.2.grown hgr (by simp; omega)) (HR.out.below hS1.below) (fun b off e => by have := HR.out.at_lt (by omega) b off e; omega) rfl hr hk ⟨by omega, by omega, by omega, by omega⟩ (by omega) (by omega) HL.out rfl (HX.out k hk) rfl
      rintro e w3 ⟨rfl, hr3, hs3, _⟩
      have hc3 := hs3.cell
      have HS3 := hide hs3
      clear hr3 hs3
      go_wp2_with fail
      go_ret2
      exact ⟨_, rfl, by have := HS3.out.own; rw [fillK_full] at this; exact this, HS3.out.below⟩
end Go.Proofs.Ytlbfndibgojbiaa

/- outpostref04.Step, walked. -/
namespace Go.Proofs.Ytlbfndibgojbiaa
open Go.RowKit

theorem par_pow20 : ∀ i : Fin 20, Gf2.par (2 ^ i.val) = 1 := by decide +kernel
/-- a one less: the sum of the ones changes -/
theorem par_less {u : Nat} (h : u ≤ 1048575) (h0 : u ≠ 0) : 1 ^^^ Gf2.par (u &&& (u - 1)) = Gf2.par u ∧ (u &&& (u - 1)) < u := by
  obtain ⟨i, r, hir⟩ := Gf2.low_one h0
  obtain ⟨e1, e2⟩ := Gf2.low_off hir
  have hp : 0 < 2 ^ i := Nat.two_pow_pos i
  have hi : i < 20 := by
    rcases Nat.lt_or_ge i 20 with h1 | h1
    · exact h1
    · have h2 : 2 ^ 20 ≤ 2 ^ i := Nat.pow_le_pow_right (by omega) h1
      have h3 : 2 ^ i ≤ u := by rw [hir]; exact Nat.le_mul_of_pos_left _ (by omega)
      omega
  constructor
  · have e3 : Gf2.par u = Gf2.par (2 ^ i) ^^^ Gf2.par (r * 2 ^ (i + 1)) := by rw [← Gf2.par_xor, ← e2]
    rw [e1, e3, par_pow20 ⟨i, hi⟩]
  · rw [e1, hir, Nat.pow_succ, Nat.add_mul, Nat.one_mul, Nat.mul_comm (2 ^ i) 2, ← Nat.mul_assoc, Nat.mul_comm r 2]
    omega
theorem and_pred2 {u : Nat} (h : u ≤ 1048576) (h0 : u ≠ 0) : bits .and .u64 (u : Int) ((u : Int) - 1) = ((u &&& (u - 1) : Nat) : Int) := by
  have := and64 (a := u) (b := u - 1) (by omega) (by omega)
  rw [← this]
  congr 1
  omega
theorem xor1_64 {a : Nat} (h : a ≤ 1) : bits .xor .u64 (a : Int) 1 = ((a ^^^ 1 : Nat) : Int) := by
  have : a = 0 ∨ a = 1 := by omega
  rcases this with rfl | rfl <;> decide
set_option maxRecDepth 100000 in
set_option maxHeartbeats 1000000 in
theorem rstep_any (n T S : Nat) (hg : GoodL n T S) (w : World) :
    Calls Try.prog 99 #[.agg #[.int .i64 n, .int .u64 T, .int .u64 S]] w fun e w' => e = .returned (.agg #[.int .i64 n, .int .u64 T, .int .u64 (Gf2.stp n T S : Nat)]) ∧ Below w.heap.size w w' := by
  obtain ⟨d, rfl⟩ : ∃ d, n = d + 1 := ⟨n - 1, by have := hg.lo; omega⟩
  have p20 := pow20 hg.hi
  have hS : S ≤ 1048575 := by have := hg.seed; omega
  have hT : T ≤ 1048575 := by have := hg.tap; omega
  have h2 := hg.lo
  have h20 := hg.hi
  have e2 : bits .and .u64 (T : Int) (S : Int) = ((T &&& S : Nat) : Int) := and64 (a := T) (b := S) (by omega) (by omega)
  have hst : T &&& S ≤ 1048575 := Nat.le_trans Nat.and_le_left hT
  have e5 := hide (stp_or (T := T) (d := d) (S := S) (by omega) hg.seed)
  rw [Nat.and_comm S T] at e5
  have hp1 := Gf2.par_le (T &&& S)
  clear p20 hg
  generalize hst2 : Gf2.stp (d + 1) T S = st at *
  clear hst2
  generalize hx0 : T &&& S = x0 at *
  generalize hq0 : Gf2.par x0 = q at *
  have HQ := hide hq0
  clear hq0 hx0
  have ew : IntKind.i64.wrap (d : Int) = d := IntWalk.i64_in (d : Int) (by omega)
  have ew2 : IntKind.u64.wrap (d : Int) = d := IntWalk.u64_in (d : Int) (by omega)
  go_enter Try.func99, Try.ntmps99
  go_wp2_with fail
  go_loop [3, 4] (fun s x => ∃ u y : Nat, u ≤ x0 ∧ y ≤ 1 ∧ s = .int .u64 y ∧ x = .int .u64 u ∧ Hid (y ^^^ Gf2.par u = q)) (fun _ x => (intOf x).toNat)
  case atStart => exact ⟨x0, 0, Nat.le_refl _, by omega, rfl, rfl, hide ((Nat.zero_xor _).trans HQ.out)⟩
  case round =>
    obtain ⟨u, y, hu, hy, rfl, rfl, hxy⟩ := hrel
    by_cases h0 : u = 0
    · subst h0
      have he := hxy.out
      rw [Gf2.par_zero, Nat.xor_zero] at he
      subst he
      go_wp2_with fail
      rw [e5.out]
      refine bodyPost_ret (v := .agg #[.int .i64 ((d : Int) + 1), .int .u64 T, .int .u64 st]) (by simp [results, Try.results99, go_sem]) rfl ⟨rfl, ?_⟩
      exact ((Below.refl _ _).alloc (Nat.le_refl _) _).alloc (by simp) _
    · obtain ⟨h3, h4⟩ := par_less (u := u) (by omega) h0
      have e6 := and_pred2 (u := u) (by omega) h0
      have e7 := xor1_64 hy
      have hb0 := zNe h0
      have hbn := nzBne (x := (u : Int)) (by omega)
      have hxy2 : (y ^^^ 1) ^^^ Gf2.par (u &&& (u - 1)) = q := by rw [Nat.xor_assoc, h3]; exact hxy.out
      have hy2 : y ^^^ 1 ≤ 1 := by
        have : y = 0 ∨ y = 1 := by omega
        rcases this with rfl | rfl <;> decide
      have HXY := hide hxy2
      clear hxy hxy2 h3 ew ew2
      generalize u &&& (u - 1) = u2 at *
      generalize y ^^^ 1 = y2 at *
      go_wp2_with fail
      go_round
      case rel => exact ⟨u2, y2, by omega, hy2, rfl, rfl, HXY⟩
      case measure => simp [intOf]; omega
end Go.Proofs.Ytlbfndibgojbiaa

/- Rows that lie apart in a list; rows that are grown byte by byte. -/
namespace Go.Proofs.Ytlbfndibgojbiaa
open Go.RowKit

/-- of a lower base -/
theorem OwnB.base {w : World} {B B' : Nat} {v : Value} {xs : List Nat} (h : OwnB w B v xs) (hle : B' ≤ B) : OwnB w B' v xs := by
  obtain ⟨h1, h2⟩ := h
  refine ⟨h1, ?_⟩
  rcases h2 with h2 | ⟨g, cap, cur, e, hb, r⟩
  · exact .inl h2
  · exact .inr ⟨g, cap, cur, e, Nat.le_trans hle hb, r⟩
/-- a part of what is owned, at the head of the same block, is owned -/
theorem OwnB.prefix {w : World} {B g n m cap : Nat} {xs ys : List Nat} (h : OwnB w B (.slice (some ⟨g, 0, none⟩) n cap) (xs ++ ys)) (hm : m = xs.length) : OwnB w B (.slice (some ⟨g, 0, none⟩) m cap) xs := by
  subst hm
  obtain ⟨h1, h2⟩ := h
  refine ⟨by rw [bytesV_length, Nat.mul_one], ?_⟩
  rcases h2 with ⟨e, _⟩ | ⟨g', cap', cur, e, hb, hg, hnc, hcm, hcs, htk⟩
  · cases e
  · simp only [Value.slice.injEq, Option.some.injEq, Addr.mk.injEq, and_true] at e
    obtain ⟨rfl, hn, rfl⟩ := e
    refine .inr ⟨g, cap, cur, rfl, hb, hg, by rw [List.length_append] at hnc; omega, hcm, hcs, ?_⟩
    have h3 := congrArg (List.take xs.length) htk
    rw [List.take_take, bytesV_append, List.length_append] at h3
    rw [show min xs.length ((xs.length + ys.length) * 1) = xs.length * 1 by omega] at h3
    rw [h3]
    have := List.take_left (l₁ := bytesV xs) (l₂ := bytesV ys)
    rwa [bytesV_length] at this
/-- a byte appended: in its place, or to a new row -/
theorem run_app1 {w : World} {B : Nat} {v : Value} {xs : List Nat} (ty : TypeId) (hown : OwnB w B v xs) (ad : Option Addr) (m c : Nat) (ys : List Nat) (hr : RowA w ad ys) (hm : m = ys.length) (hy : 0 < ys.length)
    (hb : xs.length + ys.length ≤ 140737488355328) (hB : B ≤ w.heap.size) :
    ∃ v' w', (Builtin.append_ #[33, 33] ty #[v, .slice ad m c]).run Try.prog w = .ok v' w' ∧ OwnB w' B v' (xs ++ ys) ∧ w.grownBy w' v.ownBlock ∧
      ((∃ g cap, v = .slice (some ⟨g, 0, none⟩) xs.length cap ∧ v' = .slice (some ⟨g, 0, none⟩) (xs.length + ys.length) cap) ∨ (v'.ownBlock = some w.heap.size ∧ Below w.heap.size w w')) := by
  obtain ⟨v', w', h1, h2, h3, h4⟩ := run_appB ty hown ad m c ys hr hm hb hB
  refine ⟨v', w', h1, h2, h3, ?_⟩
  obtain ⟨i0, hi, hi0, hi1, hi2⟩ := info_u8
  subst hm
  obtain ⟨b, off, rfl, hb0, hc⟩ := hr hy
  have hnews : ∀ (j : Nat) (u : Value), (bytesV ys)[j]? = some u → w.cell? ((⟨b, off, none⟩ : Addr).add j) = some u := fun j u hj => by
    have hjl : j < ys.length := by
      rcases Nat.lt_or_ge j ys.length with h | h
      · exact h
      · rw [List.getElem?_eq_none (by rw [bytesV_length]; exact h)] at hj; cases hj
    have h1 := hc j hjl
    rw [bytesV_at ys j hjl] at hj
    have e := addr_plain b off j
    generalize (⟨b, off, none⟩ : Addr).add j = q at *
    subst e
    generalize Value.int IntKind.u8 (ys.getD j 0 : Nat) = z at *
    rw [h1, hj]
  have hnl : (bytesV ys).length = ys.length * i0.size := by rw [hi1, bytesV_length, Nat.mul_one]
  rcases hown.2 with ⟨rfl, h0⟩ | ⟨g, cap, cur, rfl, hbg, hg, hnc, hcm, hcs, htk⟩
  · right
    have hbel : Below w.heap.size w w' := (Below.refl _ _).grown h3 (Nat.le_refl _) (fun k e => by cases e)
    refine ⟨?_, hbel⟩
    rcases h4 with h4 | h4
    · exfalso
      obtain ⟨g, c', e, _⟩ := OwnB.full h2 (by rw [List.length_append]; omega)
      rw [e] at h4; cases h4
    · exact h4
  · by_cases hroom : xs.length + ys.length ≤ cap
    · left
      have hr := run_append_room (P := Try.prog) w 33 ty 5 i0 Try.underlying33 hi g xs.length cap cur hg ⟨b, off, none⟩ ys.length c (bytesV ys) hnl hnews (fun u hu => bytesV_one hu) hroom (by rw [hi1, bytesV_length, hcs]; omega)
      rw [hr] at h1
      simp only [Result.ok.injEq] at h1
      exact ⟨g, cap, rfl, h1.1.symm⟩
    · right
      have hr := run_append_grow (P := Try.prog) w 33 ty 5 i0 (.int .u8 0) Try.underlying33 hi hi0 ⟨g, 0, none⟩ xs.length cap (bytesV xs) (by rw [hi1, bytesV_length, Nat.mul_one]) (World.ownsRow.cells hown rfl)
        ⟨b, off, none⟩ ys.length c (bytesV ys) hnl hnews (by omega) (by omega) (by rw [hi2]; exact growslice_fits (by omega) (by omega))
      rw [hr] at h1
      simp only [Result.ok.injEq] at h1
      obtain ⟨rfl, rfl⟩ := h1
      exact ⟨rfl, ((Below.refl _ _).drew).alloc (Nat.le_refl _) _⟩
theorem wpList_app1 {w : World} {ops : Array Oper} {rest : List Oper} {o : Oper} {a : Act} {Q : Exit → Act → World → Prop} (hgd : o.guard = none) (s x : Operand)
    (ho : o.op = .call { callee := .builtin .append, args := #[s, x], argTypes := #[33, 33] })
    (B : Nat) (v : Value) (xs : List Nat) (hs : a.eval s = v) (hown : OwnB w B v xs) (ad : Option Addr) (m c : Nat) (ys : List Nat) (hx : a.eval x = .slice ad m c) (hr : RowA w ad ys) (hm : m = ys.length) (hy : 0 < ys.length)
    (hb : xs.length + ys.length ≤ 140737488355328) (hB : B ≤ w.heap.size)
    (h : ∀ v' w', OwnB w' B v' (xs ++ ys) → w.grownBy w' v.ownBlock → ((∃ g cap, v = .slice (some ⟨g, 0, none⟩) xs.length cap ∧ v' = .slice (some ⟨g, 0, none⟩) (xs.length + ys.length) cap) ∨ (v'.ownBlock = some w.heap.size ∧ Below w.heap.size w w')) → wpList Try.prog ops Q rest (a.put o.dst v') w') :
    wpList Try.prog ops Q (o :: rest) a w := by
  obtain ⟨v', w', hrun, h2, h3, h4⟩ := run_app1 o.type hown ad m c ys hr hm hy hb hB
  refine wpList_plain hgd fun _ hK => ?_
  unfold Oper.wp execOp
  simp only [ho, resolve, invoke, builtin, Sem.run_bind, Sem.run_pure, Result.andThen_ok, List.map_toArray, List.map_cons, List.map_nil, hs, hx, hrun]
  exact hK _ _ (h v' w' h2 h3 h4)
/-- rows in a list, each in a block of its own -/
structure ApS (w : World) (B h n : Nat) (vs : Nat → Value) (cs : Nat → List Nat) : Prop where
  cell : ∀ i, i < n → w.cell? ⟨h, i, none⟩ = some (vs i)
  own : ∀ i, i < n → OwnB w B (vs i) (cs i)
  ap : ∀ i j g, i < n → j < n → i ≠ j → (vs i).ownBlock = some g → (vs j).ownBlock ≠ some g
  nh : ∀ i, i < n → (vs i).ownBlock ≠ some h
  hB : B ≤ h
  hl : h < w.heap.size
section
variable {w u : World} {B h n : Nat} {vs : Nat → Value} {cs cs' : Nat → List Nat}
theorem ApS.grown {g : Nat} (hs : ApS u B h n vs cs) (hg : u.grownBy w (some g)) (hh : h ≠ g) (hv : ∀ i, i < n → (vs i).ownBlock ≠ some g) : ApS w B h n vs cs :=
  ⟨fun i hi => hg.cell (hs.cell i hi) (by simpa using hh), fun i hi => (hs.own i hi).grown hg (fun k e h2 => hv i hi (by rw [e]; exact h2)), hs.ap, hs.nh, hs.hB, Nat.lt_of_lt_of_le hs.hl hg.size⟩
theorem ApS.below (hs : ApS u B h n vs cs) (hb : Below u.heap.size u w) : ApS w B h n vs cs :=
  ⟨fun i hi => (hb.cell (p := ⟨h, i, none⟩) hs.hl).trans (hs.cell i hi), fun i hi => (hs.own i hi).below hb, hs.ap, hs.nh, hs.hB, Nat.lt_of_lt_of_le hs.hl hb.size⟩
theorem ApS.drewN (hs : ApS u B h n vs cs) (k : Nat) : ApS (u.drewN k) B h n vs cs := ⟨hs.cell, fun i hi => (hs.own i hi).keep fun _ _ => rfl, hs.ap, hs.nh, hs.hB, hs.hl⟩
theorem ApS.full (hs : ApS u B h n vs cs) {i : Nat} (hi : i < n) (h0 : 0 < (cs i).length) : ∃ g cap, vs i = .slice (some ⟨g, 0, none⟩) (cs i).length cap ∧ B ≤ g ∧ g < u.heap.size ∧ (cs i).length ≤ cap := by
  obtain ⟨g, cap, e, h1, h2, h3, _⟩ := (hs.own i hi).full h0
  exact ⟨g, cap, e, h1, h2, h3⟩
/-- a row is written at a place -/
theorem ApS.set (hs : ApS u B h n vs cs) {i g cap m : Nat} (hi : i < n) (hv : vs i = .slice (some ⟨g, 0, none⟩) m cap) (hm : m = (cs i).length) (j y : Nat) : ApS (u.setCell ⟨g, j, none⟩ (.int .u8 (y : Nat))) B h n vs (fun l => if l = i then (cs i).set j y else cs l) := by
  have hgi : (vs i).ownBlock = some g := by rw [hv]; rfl
  refine ⟨fun l hl => ?_, fun l hl => ?_, hs.ap, hs.nh, hs.hB, by simpa using hs.hl⟩
  · rw [World.cell?_setCell_other _ _ _ _ (fun e => hs.nh i hi (by rw [hgi]; cases e; rfl))]
    exact hs.cell l hl
  · by_cases e : l = i
    · subst e
      have ho := hs.own l hl
      rw [hv] at ho
      simp only [if_true]
      rw [hv]
      exact (ho.set hm j y).1
    · simp only [if_neg e]
      exact (hs.own l hl).far (fun k e2 e3 => hs.ap i l g hi hl (Ne.symm e) hgi (by rw [e2, e3])) _
theorem ApS.cong (hs : ApS u B h n vs cs) (hc : ∀ i, i < n → cs i = cs' i) : ApS u B h n vs cs' :=
  ⟨hs.cell, fun i hi => by rw [← hc i hi]; exact hs.own i hi, hs.ap, hs.nh, hs.hB, hs.hl⟩
end
/-- nothing but the rows' blocks has been written -/
structure Mny (w u : World) (n : Nat) (vs : Nat → Value) : Prop where
  os : u.os = w.os
  tape : u.tape = w.tape
  output : u.output = w.output
  size : w.heap.size ≤ u.heap.size
  block : ∀ k, k < w.heap.size → (∀ i, i < n → (vs i).ownBlock ≠ some k) → u.heap[k]? = w.heap[k]?
section
variable {w u v : World} {n : Nat} {vs : Nat → Value}
theorem Mny.refl (w : World) (n : Nat) (vs : Nat → Value) : Mny w w n vs := ⟨rfl, rfl, rfl, Nat.le_refl _, fun _ _ _ => rfl⟩
theorem Mny.drewN (h : Mny w u n vs) (k : Nat) : Mny w (u.drewN k) n vs := ⟨h.os, h.tape, h.output, h.size, h.block⟩
theorem Mny.set (h : Mny w u n vs) {i g : Nat} (hi : i < n) (hg : (vs i).ownBlock = some g) (j : Nat) (z : Value) : Mny w (u.setCell ⟨g, j, none⟩ z) n vs :=
  ⟨h.os, h.tape, h.output, by simpa using h.size, fun k hk hn => (Below.heap_setCell u _ _ k (fun e => hn i hi (by rw [hg, e]))).trans (h.block k hk hn)⟩
theorem Mny.grown (h : Mny w u n vs) {row : Option Nat} (hg : u.grownBy v row) (hr : ∀ k, row = some k → (∃ i, i < n ∧ (vs i).ownBlock = some k) ∨ w.heap.size ≤ k) : Mny w v n vs :=
  ⟨hg.os.trans h.os, hg.tape.trans h.tape, hg.output.trans h.output, Nat.le_trans h.size hg.size, fun k hk hn => (hg.block k (Nat.lt_of_lt_of_le hk h.size) (fun e => by
    rcases hr k e.symm with ⟨i, hi, h2⟩ | h2
    · exact hn i hi h2
    · omega)).trans (h.block k hk hn)⟩
theorem Mny.alloc (h : Mny w u n vs) (o : Obj) : Mny w (u.alloc o) n vs :=
  ⟨h.os, h.tape, h.output, Nat.le_trans h.size (by simp), fun k hk hn => (Below.heap_alloc u o k (Nat.lt_of_lt_of_le hk h.size)).trans (h.block k hk hn)⟩
theorem Mny.then_ {B : Nat} (h : Below B w u) (h2 : Mny u v n vs) (hv : ∀ i k, i < n → (vs i).ownBlock = some k → B ≤ k) (hB : B ≤ u.heap.size) : Below B w v :=
  ⟨h2.os.trans h.os, h2.tape.trans h.tape, h2.output.trans h.output, Nat.le_trans h.size h2.size, fun k hk => (h2.block k (Nat.lt_of_lt_of_le hk hB) (fun i hi e => by have := hv i k hi e; omega)).trans (h.block k hk)⟩
end
/-- a row that is grown byte by byte, beside the rows that stay -/
structure MoreSt (w u : World) (B h n : Nat) (vs : Nat → Value) (ms : Nat → List Nat) (k t : Nat) (mv : Value) : Prop where
  aps : ApS u B h n vs ms
  mny : Mny w u n vs
  own : OwnB u B mv (ms k ++ List.replicate t 254)
  link : (∃ g c, vs k = .slice (some ⟨g, 0, none⟩) (ms k).length c ∧ mv = .slice (some ⟨g, 0, none⟩) ((ms k).length + t) c) ∨ (∀ g, mv.ownBlock = some g → ∀ i, i < n → (vs i).ownBlock ≠ some g)
  nh : mv.ownBlock ≠ some h
  other : ∀ i g, i < n → i ≠ k → mv.ownBlock = some g → (vs i).ownBlock ≠ some g
  above : ∀ g, mv.ownBlock = some g → (∃ i, i < n ∧ (vs i).ownBlock = some g) ∨ w.heap.size ≤ g
theorem MoreSt.start {w u : World} {B h n : Nat} {vs : Nat → Value} {ms : Nat → List Nat} (ha : ApS u B h n vs ms) (hm : Mny w u n vs) {k : Nat} (hk : k < n) : MoreSt w u B h n vs ms k 0 (vs k) := by
  refine ⟨ha, hm, by simpa using ha.own k hk, ?_, ha.nh k hk, fun i g hi hne hg => ha.ap k i g hk hi (Ne.symm hne) hg, fun g hg => .inl ⟨k, hk, hg⟩⟩
  rcases (ha.own k hk).form with ⟨h1, _⟩ | ⟨g, cap, h1, _⟩
  · exact .inr fun g hg => by rw [h1] at hg; cases hg
  · exact .inl ⟨g, cap, h1, by simpa using h1⟩
theorem MoreSt.next {w u w' : World} {B h n : Nat} {vs : Nat → Value} {ms : Nat → List Nat} {k t : Nat} {mv v' : Value} (hs : MoreSt w u B h n vs ms k t mv) (hk : k < n) (o : Obj)
    (ho : OwnB w' B v' ((ms k ++ List.replicate t 254) ++ [254])) (hg : (u.alloc o).grownBy w' mv.ownBlock)
    (hd : (∃ g cap, mv = .slice (some ⟨g, 0, none⟩) (ms k ++ List.replicate t 254).length cap ∧ v' = .slice (some ⟨g, 0, none⟩) ((ms k ++ List.replicate t 254).length + [254].length) cap) ∨ (v'.ownBlock = some (u.alloc o).heap.size ∧ Below (u.alloc o).heap.size (u.alloc o) w')) :
    MoreSt w w' B h n vs ms k (t + 1) v' := by
  have hrep : (ms k ++ List.replicate t 254) ++ [254] = ms k ++ List.replicate (t + 1) 254 := by rw [List.append_assoc, List.replicate_succ']
  have ha0 : ApS (u.alloc o) B h n vs ms := hs.aps.below ((Below.refl _ _).alloc (Nat.le_refl _) o)
  have hm0 := hs.mny.alloc o
  rw [hrep] at ho
  rcases hd with ⟨g, cap, e1, e2⟩ | ⟨e1, hb⟩
  · have hmg : mv.ownBlock = some g := by rw [e1]; rfl
    have hvg : v'.ownBlock = some g := by rw [e2]; rfl
    have hhg : h ≠ g := fun e => hs.nh (by rw [hmg, e])
    rw [hmg] at hg
    have hlen : (ms k ++ List.replicate t 254).length = (ms k).length + t := by simp
    refine ⟨⟨fun i hi => hg.cell (ha0.cell i hi) (by simpa using hhg), fun i hi => ?_, ha0.ap, ha0.nh, ha0.hB, Nat.lt_of_lt_of_le ha0.hl hg.size⟩, hm0.grown hg (fun q e => by rw [← hmg] at e; exact hs.above q e), ho, ?_, by rw [hvg, ← hmg]; exact hs.nh, fun i q hi hne e => hs.other i q hi hne (by rw [hmg, ← hvg]; exact e), fun q e => hs.above q (by rw [hmg, ← hvg]; exact e)⟩
    · by_cases hgi : (vs i).ownBlock = some g
      · have hik : i = k := Classical.byContradiction fun hne => hs.other i g hi hne hmg hgi
        subst hik
        rcases hs.link with ⟨g', c, l1, l2⟩ | l
        · rw [e1] at l2
          simp only [Value.slice.injEq, Option.some.injEq, Addr.mk.injEq, and_true] at l2
          obtain ⟨rfl, _, rfl⟩ := l2
          rw [l1]
          rw [e2] at ho
          exact ho.prefix rfl
        · exact absurd hgi (l g hmg i hi)
      · exact (ha0.own i hi).grown hg (fun q e e3 => hgi (by rw [e, e3]))
    · rcases hs.link with ⟨g', c, l1, l2⟩ | l
      · rw [e1] at l2
        simp only [Value.slice.injEq, Option.some.injEq, Addr.mk.injEq, and_true] at l2
        obtain ⟨rfl, _, rfl⟩ := l2
        exact .inl ⟨g, cap, l1, by rw [e2, hlen]; rfl⟩
      · exact .inr fun q e => l q (by rw [hmg, ← hvg]; exact e)
  · have hu : u.heap.size ≤ (u.alloc o).heap.size := by simp
    have hblk : ∀ i g, i < n → (vs i).ownBlock = some g → g < (u.alloc o).heap.size := fun i g hi e => ((ha0.own i hi).lt e).2
    refine ⟨ha0.below hb, hm0.grown (row := none) ⟨hb.os, hb.tape, hb.output, hb.size, fun q hq _ => hb.block q hq⟩ (fun q e => by cases e), ho, ?_, ?_, ?_, ?_⟩
    · exact .inr fun q e i hi e2 => by
        rw [e1] at e
        have := hblk i q hi e2
        have := Option.some.inj e
        omega
    · rw [e1]; intro e; have := Option.some.inj e; have := ha0.hl; omega
    · intro i q hi _ e e2
      rw [e1] at e
      have := hblk i q hi e2
      have := Option.some.inj e
      omega
    · intro q e
      rw [e1] at e
      have := Option.some.inj e
      have := hs.mny.size
      exact .inr (by omega)
/-- a row that is owned, in its place -/
structure Oat (w : World) (lo hi : Nat) (v : Value) (xs : List Nat) : Prop where
  own : OwnB w lo v xs
  hi : ∀ g, v.ownBlock = some g → g < hi
section
variable {w w' : World} {lo hi : Nat} {v : Value} {xs : List Nat}
theorem Oat.below (h : Oat w lo hi v xs) (hb : Below w.heap.size w w') : Oat w' lo hi v xs := ⟨h.own.below hb, h.hi⟩
theorem Oat.new {w' : World} {B : Nat} (h : OwnB w' B v xs) : Oat w' B w'.heap.size v xs := ⟨h, fun _ hq => (h.lt hq).2⟩
end
end Go.Proofs.Ytlbfndibgojbiaa

/- (*Runner).Skip, State; outpostlaw04.small, live. -/
namespace Go.Proofs.Ytlbfndibgojbiaa
open Go.RowKit

theorem RegL.set3 {w : World} {g : Nat} {D : Int} {T S : Nat} (h : RegL w g D T S) (t : Nat) : RegL (((w.setCell ⟨g, 0, none⟩ (.int .i64 D)).setCell ⟨g, 1, none⟩ (.int .u64 T)).setCell ⟨g, 2, none⟩ (.int .u64 (t : Nat))) g D T t := by
  obtain ⟨ty, h⟩ := h
  exact ⟨ty, heap_setCell_same _ g 2 _ ty _ (heap_setCell_same _ g 1 _ ty _ (heap_setCell_same w g 0 _ ty _ h))⟩
theorem small_good : GoodL 3 3 1 := ⟨by decide, by decide, by decide, by decide, by decide, by decide⟩
theorem small_bits : firstL 3 3 1 7 = [1, 0, 0, 1, 0, 1, 1] := by decide +kernel
theorem small_per : Gf2.Per 3 3 1 7 := ⟨by decide, by decide +kernel, fun m h1 h2 => by
  have : m = 1 ∨ m = 2 ∨ m = 3 ∨ m = 4 ∨ m = 5 ∨ m = 6 := by omega
  rcases this with rfl | rfl | rfl | rfl | rfl | rfl <;> decide +kernel⟩
theorem small_next : Gf2.stpN 3 3 3 1 % 2 = 1 := by decide +kernel
end Go.Proofs.Ytlbfndibgojbiaa

/- The law LfsrBack, walked: it returns true. -/
namespace Go.Proofs.Ytlbfndibgojbiaa
open Go.RowKit

theorem lturn_any (n T S : Nat) (hg : GoodL n T S) (L : Int) (ad : Option Addr) (cp : Nat) (xs : List Nat) (hl : xs.length ≤ 140737488351232) (h8 : ∀ i, xs.getD i 0 ≤ 255) (w : World) (hr : RowA w ad xs) :
    Calls Try.prog 52 #[.agg #[.int .i64 n, .int .u64 T, .int .u64 S], .int .i64 L, .slice ad xs.length cp] w fun e w' => ∃ v c, e = .returned (.tuple #[v, .int .i64 c]) ∧
      ((c = 0 ∧ ∃ l : Nat, L = l ∧ (2 ≤ l ∧ l ≤ 16) ∧ (∀ i, i < xs.length → xs.getD i 0 < l) ∧ ∃ ad' c', v = .slice ad' xs.length c' ∧ RowA w' ad' (turnL n T S l xs)) ∨ c ≠ 0) ∧ Below w.heap.size w w' := by
  by_cases hL : L < 2 ∨ 16 < L
  · refine (lturn_arg n T S hg L hL ad xs.length cp w).mono ?_
    rintro e w' ⟨rfl, hb⟩
    exact ⟨_, 1, rfl, .inr (by decide), hb⟩
  · obtain ⟨l, rfl⟩ : ∃ l : Nat, L = l := ⟨L.toNat, by omega⟩
    have hl2 : 2 ≤ l ∧ l ≤ 16 := by omega
    by_cases hx : ∀ i, i < xs.length → xs.getD i 0 < l
    · refine (lturn_ok n T S l hg hl2 ad cp xs hl hx w hr).mono ?_
      rintro e w' ⟨v, rfl, ho, hb⟩
      obtain ⟨ad', c', e', hr'⟩ := ho.row
      rw [turnL_length] at e'
      exact ⟨_, 0, rfl, .inl ⟨rfl, l, rfl, hl2, hx, ad', c', e', hr'⟩, hb⟩
    · refine (lturn_err n T S l hg hl2 ad cp xs hl h8 hx w hr).mono ?_
      rintro e w' ⟨rfl, hb⟩
      exact ⟨_, 91, rfl, .inr (by decide), hb⟩
theorem lwhiten_any (n T S : Nat) (hg : GoodL n T S) (ad : Option Addr) (cp : Nat) (xs : List Nat) (hl : xs.length ≤ 140737488351232) (w : World) (hr : RowA w ad xs) :
    Calls Try.prog 59 #[.agg #[.int .i64 n, .int .u64 T, .int .u64 S], .slice ad xs.length cp] w fun e w' => ∃ v c, e = .returned (.tuple #[v, .int .i64 c]) ∧
      ((c = 0 ∧ (∀ i, i < xs.length → xs.getD i 0 ≤ 1) ∧ OwnB w' w.heap.size v (whiteL n T S xs)) ∨ (c ≠ 0 ∧ ¬ ∀ i, i < xs.length → xs.getD i 0 ≤ 1)) ∧ Below w.heap.size w w' := by
  by_cases hx : ∀ i, i < xs.length → xs.getD i 0 ≤ 1
  · refine (lwhiten_ok n T S hg ad cp xs hl hx w hr).mono ?_
    rintro e w' ⟨v, rfl, ho, hb⟩
    exact ⟨_, 0, rfl, .inl ⟨rfl, hx, ho⟩, hb⟩
  · refine (lwhiten_err n T S hg ad cp xs hl hx w hr).mono ?_
    rintro e w' ⟨rfl, hb⟩
    exact ⟨_, 10, rfl, .inr ⟨by decide, hx⟩, hb⟩
set_option maxHeartbeats 400000 in
theorem right_no (ad : Option Addr) (cp : Nat) (xs : List Nat) (hl : xs.length ≤ 140737488351232) (hx : ¬ ∀ i, i < xs.length → xs.getD i 0 ≤ 1) (w : World) (hr : RowA w ad xs) :
    Calls Try.prog 88 #[.slice ad xs.length cp] w fun e w' => e = .returned (.bool false) ∧ w = w' := by
  obtain ⟨j, hj, hjb, hjo⟩ := first_bad hx
  have HO := hide hjo
  have HR := hide hr
  clear hx hjo hr
  go_enter Try.func88, Try.ntmps88
  go_wp2_with fail
  go_loop [3] (fun i => ∃ k : Nat, k ≤ j ∧ i = .int .i64 k) (fun i => xs.length - (intOf i).toNat)
  case atStart => exact ⟨0, by omega, rfl⟩
  case round =>
    obtain ⟨k, hk, rfl⟩ := hrel
    obtain ⟨b, off, rfl, _, hc⟩ := HR.out.at_ (i := k) (by omega)
    have hlt : (k : Int) < xs.length := by omega
    by_cases he : k = j
    · subst he
      generalize xs.getD k 0 = y at *
      go_wp2_with fail
      go_ret
      exact ⟨rfl, rfl⟩
    · have h1 := HO.out k (by omega)
      generalize xs.getD k 0 = y at *
      go_wp2_with fail
      go_round
      case rel => exact ⟨k + 1, by omega, by simp⟩
      case measure => simp [intOf]; omega
end Go.Proofs.Ytlbfndibgojbiaa

/- outpostref04.First, Whiten, Turn, walked. -/
namespace Go.Proofs.Ytlbfndibgojbiaa
open Go.RowKit

/-- a row of which the first k have been turned -/
def updK (g : Nat → Nat) (F : List Nat) (k : Nat) : List Nat := (List.range k).map g ++ F.drop k
theorem updK_zero (g : Nat → Nat) (F : List Nat) : updK g F 0 = F := by simp [updK]
theorem updK_length {g : Nat → Nat} {F : List Nat} {k : Nat} (h : k ≤ F.length) : (updK g F k).length = F.length := by simp [updK]; omega
theorem updK_set {g : Nat → Nat} {F : List Nat} {k : Nat} (h : k < F.length) : (updK g F k).set k (g k) = updK g F (k + 1) := by
  unfold updK
  have hl : ((List.range k).map g).length = k := by simp
  rw [List.set_append_right _ _ (by rw [hl]; exact Nat.le_refl _), hl, Nat.sub_self, List.drop_eq_getElem_cons h, List.set_cons_zero, List.range_succ, List.map_append, List.append_assoc]
  rfl
theorem updK_at {g : Nat → Nat} {F : List Nat} {k : Nat} : (updK g F k).getD k 0 = F.getD k 0 := by
  unfold updK
  have hl : ((List.range k).map g).length = k := by simp
  simp only [List.getD]
  rw [List.getElem?_append_right (by rw [hl]; exact Nat.le_refl _), hl, Nat.sub_self, List.getElem?_drop, Nat.add_zero]
theorem updK_full {g : Nat → Nat} {F : List Nat} : updK g F F.length = (List.range F.length).map g := by simp [updK]
set_option maxRecDepth 100000 in
set_option maxHeartbeats 1000000 in
theorem rfirst_ok (n T S : Nat) (hg : GoodL n T S) (m : Nat) (hm : m ≤ 140737488351232) (w : World) :
    Calls Try.prog 89 #[.agg #[.int .i64 n, .int .u64 T, .int .u64 S], .int .i64 m] w fun e w' => ∃ v, e = .returned v ∧ OwnB w' w.heap.size v (firstL n T S m) ∧ Below w.heap.size w w' := by
  have HST := hide fun (k : Nat) (W : World) => rstep_any n T (Gf2.stpN n T k S) (hg.stpN k) W
  have HSM := hide fun (k : Nat) => (hg.stpN k).small
  clear hg
  go_enter Try.func89, Try.ntmps89
  go_wp2_with (first
    | (at_make; refine wpList_makeB rfl _ _ rfl w.heap.size _ _ m rfl rfl ?c1 ?c2 ?c3 ?c4 ?_)
    | go_in)
  case c1 => rfl
  case c2 => rfl
  case c3 => omega
  case c4 => simp
  intro w2 hown2 hgrow2 hz2
  have HO0 := hide (show OwnB w2 w.heap.size (.slice (some ⟨w.heap.size + 1, 0, none⟩) m m) (fillK (fun i => Gf2.stpN n T i S % 2) m 0) by rw [fillK_zero]; simpa using hown2)
  have HR0 := hide (show RegL w2 w.heap.size n T (Gf2.stpN n T 0 S) from (show RegL (w.alloc (.cells #[.int .i64 n, .int .u64 T, .int .u64 S] 28)) w.heap.size n T S from ⟨_, heap_alloc_new w _⟩).grown hgrow2 (by simp))
  have HB0 := hide (((Below.refl w.heap.size w).alloc (Nat.le_refl _) (.cells #[.int .i64 n, .int .u64 T, .int .u64 S] 28)).grown hgrow2 (by simp) (fun k e => by cases e))
  clear hown2 hgrow2
  go_wp2_with fail
  go_loopw [6] (fun i u => ∃ k : Nat, k ≤ m ∧ i = .int .i64 k ∧ Hid (OwnB u w.heap.size (.slice (some ⟨w.heap.size + 1, 0, none⟩) m m) (fillK (fun i => Gf2.stpN n T i S % 2) m k)) ∧ Hid (RegL u w.heap.size n T (Gf2.stpN n T k S)) ∧ Hid (Below w.heap.size w u)) (fun i _ => m - (intOf i).toNat)
  case atStart => exact ⟨0, by omega, rfl, HO0, HR0, HB0⟩
  case round =>
    rename World => wr
    obtain ⟨k, hk, rfl, hO, hR, hB⟩ := hrel
    by_cases hlt : k < m
    · have hsm := HSM.out k
      obtain ⟨hlr, q0, q1, q2, fz⟩ := hR.out.parts
      have hl := (fillK_length (f := fun i => Gf2.stpN n T i S % 2) (Nat.le_of_lt hlt)).symm
      have hc := hO.out.cell hl hlt
      have hf := hO.out.frz hl k
      have hst := (hO.out.set hl k (Gf2.stpN n T k S % 2)).1
      rw [fillK_set (f := fun i => Gf2.stpN n T i S % 2) hlt] at hst
      have HO2 := hide hst
      have HR2 := hide (hR.out.far (p := ⟨w.heap.size + 1, k, none⟩) (by simp) (.int .u8 ((Gf2.stpN n T k S % 2 : Nat) : Int)))
      have HB2 := hide (hB.out.setCell (p := ⟨w.heap.size + 1, k, none⟩) (by simp) (.int .u8 ((Gf2.stpN n T k S % 2 : Nat) : Int)))
      have HSk := hide (HST.out k)
      rw [← Gf2.stpN_succ] at HSk
      generalize (fillK (fun i => Gf2.stpN n T i S % 2) m k).getD k 0 = yy at *
      have hmod : ((Gf2.stpN n T k S : Nat) : Int).tmod 2 = ((Gf2.stpN n T k S % 2 : Nat) : Int) := by rw [Int.tmod_eq_emod_of_nonneg (by omega)]; omega
      have hq1 : Gf2.stpN n T k S % 2 ≤ 1 := by omega
      generalize hq : Gf2.stpN n T k S % 2 = q at *
      have hw8 : IntKind.u8.wrap (q : Int) = q := IntWalk.u8_in _ (by omega)
      clear hst hl hq
      go_wp2_with fail
      refine (HSk.out _).mono ?_
      rintro e w4 ⟨rfl, hb4⟩
      have hr4 := HR2.out.below hb4 HR2.out.lt
      obtain ⟨hl4, p0, p1, p2, p3⟩ := hr4.parts
      have f0 : w4.frozen? ⟨w.heap.size, 0, none⟩ = false := by obtain ⟨ty, h⟩ := hr4; exact frozen_of_row w4 w.heap.size 0 _ ty h
      have f1 : w4.frozen? ⟨w.heap.size, 1, none⟩ = false := by obtain ⟨ty, h⟩ := hr4; exact frozen_of_row w4 w.heap.size 1 _ ty h
      have HR4 := hide (hr4.set3 (Gf2.stpN n T (k + 1) S))
      have hne : ∀ g, (Value.slice (some ⟨w.heap.size + 1, 0, none⟩) m m).ownBlock = some g → g ≠ w.heap.size := fun g e => by have := Option.some.inj e; simp at this; omega
      have HO4 := hide ((((HO2.out.below hb4).far (p := ⟨w.heap.size, 0, none⟩) hne (.int .i64 n)).far (p := ⟨w.heap.size, 1, none⟩) hne (.int .u64 T)).far (p := ⟨w.heap.size, 2, none⟩) hne (.int .u64 (Gf2.stpN n T (k + 1) S : Nat)))
      have HB4 := hide ((((below_then HB2.out hb4).setCell (p := ⟨w.heap.size, 0, none⟩) (Nat.le_refl _) (.int .i64 n)).setCell (p := ⟨w.heap.size, 1, none⟩) (Nat.le_refl _) (.int .u64 T)).setCell (p := ⟨w.heap.size, 2, none⟩) (Nat.le_refl _) (.int .u64 (Gf2.stpN n T (k + 1) S : Nat)))
      clear hb4 hr4 hne
      generalize hq2 : Gf2.stpN n T (k + 1) S = q' at *
      have HQ2 := hide hq2
      clear hq2
      go_wp2_with fail
      go_roundw
      case rel => exact ⟨k + 1, by omega, by simp, HO4, by rw [HQ2.out]; exact HR4, HB4⟩
      case measure => simp [intOf]; omega
    · obtain rfl : m = k := by omega
      rw [fillK_full] at hO
      go_wp2_with fail
      go_ret
      exact ⟨_, rfl, hO.out, hB.out⟩
set_option maxHeartbeats 400000 in
theorem right_yes (ad : Option Addr) (cp : Nat) (xs : List Nat) (hl : xs.length ≤ 140737488351232) (hx : ∀ i, i < xs.length → xs.getD i 0 ≤ 1) (w : World) (hr : RowA w ad xs) :
    Calls Try.prog 88 #[.slice ad xs.length cp] w fun e w' => e = .returned (.bool true) ∧ w = w' := by
  have HO := hide hx
  have HR := hide hr
  clear hx hr
  go_enter Try.func88, Try.ntmps88
  go_wp2_with fail
  go_loop [3] (fun i => ∃ k : Nat, k ≤ xs.length ∧ i = .int .i64 k) (fun i => xs.length - (intOf i).toNat)
  case atStart => exact ⟨0, by omega, rfl⟩
  case round =>
    obtain ⟨k, hk, rfl⟩ := hrel
    by_cases hlt : k < xs.length
    · obtain ⟨b, off, rfl, _, hc⟩ := HR.out.at_ hlt
      have h1 := HO.out k hlt
      generalize xs.getD k 0 = y at *
      go_wp2_with fail
      go_round
      case rel => exact ⟨k + 1, by omega, by simp⟩
      case measure => simp [intOf]; omega
    · obtain rfl : k = xs.length := by omega
      go_wp2_with fail
      go_ret
      exact ⟨rfl, rfl⟩
set_option maxHeartbeats 400000 in
theorem rwhiten_bad (D : Int) (T S : Nat) (hT : T ≤ 18446744073709551615) (hS : S ≤ 18446744073709551615) (hne : lchk D T S ≠ 0) (ad : Option Addr) (m cp : Nat) (w : World) :
    Calls Try.prog 70 #[.agg #[.int .i64 D, .int .u64 T, .int .u64 S], .slice ad m cp] w fun e w' => e = .returned (.tuple #[.slice none 0 0, .int .i64 (lchk D T S)]) ∧ Below w.heap.size w w' := by
  have HC := hide (r4check_any D T S hT hS)
  have hb := nzBne hne
  generalize lchk D T S = cf at *
  clear hne
  go_enter Try.func70, Try.ntmps70
  go_wp2_with fail
  refine (HC.out _).mono ?_
  rintro e w1 ⟨rfl, hb1⟩
  go_wp2_with fail
  go_ret2
  exact ⟨rfl, below_one hb1⟩
set_option maxHeartbeats 400000 in
theorem rturn_bad (D : Int) (T S : Nat) (hT : T ≤ 18446744073709551615) (hS : S ≤ 18446744073709551615) (hne : lchk D T S ≠ 0) (L : Int) (ad : Option Addr) (m cp : Nat) (w : World) :
    Calls Try.prog 75 #[.agg #[.int .i64 D, .int .u64 T, .int .u64 S], .int .i64 L, .slice ad m cp] w fun e w' => e = .returned (.tuple #[.slice none 0 0, .int .i64 (lchk D T S)]) ∧ Below w.heap.size w w' := by
  have HC := hide (r4check_any D T S hT hS)
  have hb := nzBne hne
  generalize lchk D T S = cf at *
  clear hne
  go_enter Try.func75, Try.ntmps75
  go_wp2_with fail
  refine (HC.out _).mono ?_
  rintro e w1 ⟨rfl, hb1⟩
  go_wp2_with fail
  go_ret2
  exact ⟨rfl, below_one hb1⟩
set_option maxHeartbeats 400000 in
theorem rturn_arg (n T S : Nat) (hg : GoodL n T S) (L : Int) (hL : L < 2 ∨ 16 < L) (ad : Option Addr) (m cp : Nat) (w : World) :
    Calls Try.prog 75 #[.agg #[.int .i64 n, .int .u64 T, .int .u64 S], .int .i64 L, .slice ad m cp] w fun e w' => e = .returned (.tuple #[.slice none 0 0, .int .i64 1]) ∧ Below w.heap.size w w' := by
  have HC := hide (r4check_any n T S (by have := hg.small; omega) (by have := hg.small; omega))
  rw [lchk_good hg] at HC
  clear hg
  go_enter Try.func75, Try.ntmps75
  go_wp2_with fail
  refine (HC.out _).mono ?_
  rintro e w1 ⟨rfl, hb1⟩
  rcases hL with hL | hL
  · have hd : decide (L < 2) = true := decide_eq_true hL
    go_wp2_with fail
    go_ret2
    exact ⟨rfl, below_one hb1⟩
  · have hd : decide (L < 2) = false := decide_eq_false (by omega)
    have hd2 : decide (16 < L) = true := decide_eq_true hL
    go_wp2_with fail
    go_ret2
    exact ⟨rfl, below_one hb1⟩
set_option maxHeartbeats 400000 in
theorem rwhiten_err (n T S : Nat) (hg : GoodL n T S) (ad : Option Addr) (cp : Nat) (xs : List Nat) (hl : xs.length ≤ 140737488351232) (hx : ¬ ∀ i, i < xs.length → xs.getD i 0 ≤ 1) (w : World) (hr : RowA w ad xs) :
    Calls Try.prog 70 #[.agg #[.int .i64 n, .int .u64 T, .int .u64 S], .slice ad xs.length cp] w fun e w' => e = .returned (.tuple #[.slice none 0 0, .int .i64 10]) ∧ Below w.heap.size w w' := by
  have HC := hide (r4check_any n T S (by have := hg.small; omega) (by have := hg.small; omega))
  rw [lchk_good hg] at HC
  have HN := hide (fun u (h : RowA u ad xs) => right_no ad cp xs hl hx u h)
  have HR := hide hr
  clear hg hx hr
  go_enter Try.func70, Try.ntmps70
  go_wp2_with fail
  refine (HC.out _).mono ?_
  rintro e w1 ⟨rfl, hb1⟩
  go_wp2_with fail
  refine (HN.out _ (HR.out.below (below_one hb1))).mono ?_
  rintro e w' ⟨rfl, rfl⟩
  go_wp2_with fail
  go_ret2
  exact ⟨rfl, below_one hb1⟩
set_option maxRecDepth 100000 in
set_option maxHeartbeats 1000000 in
theorem rturn_err (n T S L : Nat) (hg : GoodL n T S) (hL : 2 ≤ L ∧ L ≤ 16) (ad : Option Addr) (cp : Nat) (xs : List Nat) (hl : xs.length ≤ 140737488351232) (h8 : ∀ i, xs.getD i 0 ≤ 255) (hx : ¬ ∀ i, i < xs.length → xs.getD i 0 < L) (w : World) (hr : RowA w ad xs) :
    Calls Try.prog 75 #[.agg #[.int .i64 n, .int .u64 T, .int .u64 S], .int .i64 L, .slice ad xs.length cp] w fun e w' => e = .returned (.tuple #[.slice none 0 0, .int .i64 91]) ∧ Below w.heap.size w w' := by
  have HC := hide (r4check_any n T S (by have := hg.small; omega) (by have := hg.small; omega))
  rw [lchk_good hg] at HC
  obtain ⟨j, hj, hjb, hjo⟩ := first_bad hx
  have HO := hide hjo
  have H8 := hide h8
  have HR := hide hr
  obtain ⟨l2, l16⟩ := hL
  have dl : decide ((L : Int) < 2) = false := by simp; omega
  have dh : decide ((16 : Int) < L) = false := by simp; omega
  clear h8 hg hx hjo hr
  go_enter Try.func75, Try.ntmps75
  go_wp2_with fail
  refine (HC.out _).mono ?_
  rintro e w1 ⟨rfl, hb1⟩
  have HB1 := hide (below_one hb1)
  have HR1 := hide (HR.out.below HB1.out)
  clear hb1
  go_wp2_with fail
  go_loop [9] (fun i => ∃ k : Nat, k ≤ j ∧ i = .int .i64 k) (fun i => xs.length - (intOf i).toNat)
  case atStart => exact ⟨0, by omega, rfl⟩
  case round =>
    obtain ⟨k, hk, rfl⟩ := hrel
    obtain ⟨b, off, rfl, _, hc⟩ := HR1.out.at_ (i := k) (by omega)
    have hlt : (k : Int) < xs.length := by omega
    have h8k := H8.out k
    by_cases he : k = j
    · subst he
      generalize xs.getD k 0 = y at *
      go_wp2_with fail
      go_ret2
      exact ⟨rfl, HB1.out⟩
    · have h1 := HO.out k (by omega)
      generalize xs.getD k 0 = y at *
      go_wp2_with fail
      go_round
      case rel => exact ⟨k + 1, by omega, by simp⟩
      case measure => simp [intOf]; omega
theorem updK_white (n T S : Nat) (xs : List Nat) : updK (fun i => (firstL n T S xs.length).getD i 0 ^^^ xs.getD i 0) (firstL n T S xs.length) xs.length = whiteL n T S xs := by
  have h := updK_full (g := fun i => (firstL n T S xs.length).getD i 0 ^^^ xs.getD i 0) (F := firstL n T S xs.length)
  rw [firstL_length] at h
  rw [h]
  unfold whiteL
  refine List.map_congr_left fun i hi => ?_
  rw [firstL_at _ _ _ (List.mem_range.1 hi), Nat.xor_comm]
theorem updK_turn (n T S L : Nat) (xs : List Nat) : updK (fun i => if (firstL n T S xs.length).getD i 0 = 1 then L - 1 - xs.getD i 0 else xs.getD i 0) (firstL n T S xs.length) xs.length = turnL n T S L xs := by
  have h := updK_full (g := fun i => if (firstL n T S xs.length).getD i 0 = 1 then L - 1 - xs.getD i 0 else xs.getD i 0) (F := firstL n T S xs.length)
  rw [firstL_length] at h
  rw [h]
  unfold turnL
  refine List.map_congr_left fun i hi => ?_
  rw [firstL_at _ _ _ (List.mem_range.1 hi)]
set_option maxRecDepth 100000 in
set_option maxHeartbeats 2000000 in
theorem rwhiten_ok (n T S : Nat) (hg : GoodL n T S) (ad : Option Addr) (cp : Nat) (xs : List Nat) (hl : xs.length ≤ 140737488351232) (hx : ∀ i, i < xs.length → xs.getD i 0 ≤ 1) (w : World) (hr : RowA w ad xs) :
    Calls Try.prog 70 #[.agg #[.int .i64 n, .int .u64 T, .int .u64 S], .slice ad xs.length cp] w fun e w' => ∃ v, e = .returned (.tuple #[v, .int .i64 0]) ∧ OwnB w' w.heap.size v (whiteL n T S xs) ∧ Below w.heap.size w w' := by
  have HC := hide (r4check_any n T S (by have := hg.small; omega) (by have := hg.small; omega))
  rw [lchk_good hg] at HC
  have HY := hide (fun u (h : RowA u ad xs) => right_yes ad cp xs hl hx u h)
  have HF := hide (rfirst_ok n T S hg xs.length hl)
  have HW := hide (updK_white n T S xs)
  have hFl : (firstL n T S xs.length).length = xs.length := firstL_length _ _ _ _
  have hF1 : ∀ i, i < xs.length → (firstL n T S xs.length).getD i 0 ≤ 1 := fun i hi => by rw [firstL_at _ _ _ hi]; omega
  have HR := hide hr
  have HX := hide hx
  generalize whiteL n T S xs = ws at *
  generalize firstL n T S xs.length = F at *
  have HFL := hide hFl
  have HF1 := hide hF1
  clear hg hx hr hFl hF1
  go_enter Try.func70, Try.ntmps70
  go_wp2_with fail
  refine (HC.out _).mono ?_
  rintro e w1 ⟨rfl, hb1⟩
  have hr1 : RegL w1 w.heap.size n T S := ⟨_, (hb1.block w.heap.size (by simp)).trans (heap_alloc_new w _)⟩
  obtain ⟨hl1, q0, q1, q2, -⟩ := hr1.parts
  have HB1 := hide (below_one hb1)
  clear hb1 hr1
  go_wp2_with fail
  refine (HY.out _ (HR.out.below HB1.out)).mono ?_
  rintro e w' ⟨rfl, rfl⟩
  go_wp2_with fail
  refine (HF.out _).mono ?_
  rintro e w2 ⟨v, rfl, ho2, hb2⟩
  have HO0 := hide (show OwnB w2 w.heap.size v (updK (fun i => F.getD i 0 ^^^ xs.getD i 0) F 0) by rw [updK_zero]; exact OwnB.base ho2 (by have := HB1.out.size; omega))
  have HB2 := hide (below_then HB1.out hb2)
  clear ho2 hb2 q0 q1 q2
  go_wp2_with fail
  go_loopw [8] (fun i u => ∃ k : Nat, k ≤ xs.length ∧ i = .int .i64 k ∧ Hid (OwnB u w.heap.size v (updK (fun i => F.getD i 0 ^^^ xs.getD i 0) F k)) ∧ Hid (Below w.heap.size w u)) (fun i _ => xs.length - (intOf i).toNat)
  case atStart => exact ⟨0, by omega, rfl, HO0, HB2⟩
  case round =>
    rename World => wr
    obtain ⟨k, hk, rfl, hO, hB⟩ := hrel
    by_cases hlt : k < xs.length
    · have hul : (updK (fun i => F.getD i 0 ^^^ xs.getD i 0) F k).length = xs.length := by rw [updK_length (by rw [HFL.out]; exact hk)]; exact HFL.out
      obtain ⟨g, cg, rfl, hBg, hgl, _⟩ := hO.out.full (by rw [hul]; omega)
      rw [hul] at hO
      have hc := hO.out.cell hul.symm hlt
      have hf := hO.out.frz hul.symm k
      rw [updK_at] at hc
      have hst := (hO.out.set hul.symm k (F.getD k 0 ^^^ xs.getD k 0)).1
      rw [updK_set (g := fun i => F.getD i 0 ^^^ xs.getD i 0) (by rw [HFL.out]; exact hlt)] at hst
      obtain ⟨b, off, rfl, _, hcx⟩ := (HR.out.below hB.out).at_ hlt
      have h1 := HX.out k hlt
      have h2 := HF1.out k hlt
      have h3 := xorU8 (a := F.getD k 0) (b := xs.getD k 0) (by omega) (by omega)
      have HB4 := hide (hB.out.setCell (p := ⟨g, k, none⟩) hBg (.int .u8 ((F.getD k 0 ^^^ xs.getD k 0 : Nat) : Int)))
      have hin : (0 : Int) ≤ k := by omega
      have hin2 : (k : Int) < xs.length := by omega
      rw [hul]
      have HS := hide hst
      clear hst hul
      generalize F.getD k 0 ^^^ xs.getD k 0 = z at *
      generalize xs.getD k 0 = y at *
      generalize F.getD k 0 = f at *
      go_wp2_with fail
      go_still_tail 12, (by kernel_rfl)
      change wpList _ _ _ _ _ wr.drew
      go_wp2_with fail
      go_roundw
      case rel => exact ⟨k + 1, by omega, by simp, hide (HS.out.keep fun _ _ => rfl), hide HB4.out.drew⟩
      case measure => simp [intOf]; omega
    · obtain rfl : k = xs.length := by omega
      rw [HW.out] at hO
      go_wp2_with fail
      go_ret2
      exact ⟨_, rfl, hO.out, hB.out⟩
set_option maxRecDepth 100000 in
set_option maxHeartbeats 2000000 in
theorem rturn_ok (n T S L : Nat) (hg : GoodL n T S) (hL : 2 ≤ L ∧ L ≤ 16) (ad : Option Addr) (cp : Nat) (xs : List Nat) (hl : xs.length ≤ 140737488351232) (hx : ∀ i, i < xs.length → xs.getD i 0 < L) (w : World) (hr : RowA w ad xs) :
    Calls Try.prog 75 #[.agg #[.int .i64 n, .int .u64 T, .int .u64 S], .int .i64 L, .slice ad xs.length cp] w fun e w' => ∃ v, e = .returned (.tuple #[v, .int .i64 0]) ∧ OwnB w' w.heap.size v (turnL n T S L xs) ∧ Below w.heap.size w w' := by
  have HC := hide (r4check_any n T S (by have := hg.small; omega) (by have := hg.small; omega))
  rw [lchk_good hg] at HC
  have HF := hide (rfirst_ok n T S hg xs.length hl)
  have HW := hide (updK_turn n T S L xs)
  have hFl : (firstL n T S xs.length).length = xs.length := firstL_length _ _ _ _
  have hF1 : ∀ i, i < xs.length → (firstL n T S xs.length).getD i 0 ≤ 1 := fun i hi => by rw [firstL_at _ _ _ hi]; omega
  have HR := hide hr
  have HX := hide hx
  obtain ⟨l2, l16⟩ := hL
  have dl : decide ((L : Int) < 2) = false := by simp; omega
  have dh : decide ((16 : Int) < L) = false := by simp; omega
  generalize turnL n T S L xs = ws at *
  generalize firstL n T S xs.length = F at *
  have HFL := hide hFl
  have HF1 := hide hF1
  clear hg hx hr hFl hF1
  go_enter Try.func75, Try.ntmps75
  go_wp2_with fail
  refine (HC.out _).mono ?_
  rintro e w1 ⟨rfl, hb1⟩
  have hr1 : RegL w1 w.heap.size n T S := ⟨_, (hb1.block w.heap.size (by simp)).trans (heap_alloc_new w _)⟩
  obtain ⟨hl1, q0, q1, q2, -⟩ := hr1.parts
  have HB1 := hide (below_one hb1)
  have HR1 := hide (HR.out.below HB1.out)
  clear hb1 hr1
  go_wp2_with fail
  go_loop [9] (fun i => ∃ k : Nat, k ≤ xs.length ∧ i = .int .i64 k) (fun i => xs.length - (intOf i).toNat)
  case atStart => exact ⟨0, by omega, rfl⟩
  case round =>
    obtain ⟨k, hk, rfl⟩ := hrel
    by_cases hlt : k < xs.length
    · obtain ⟨b, off, rfl, _, hc⟩ := HR1.out.at_ hlt
      have h1 := HX.out k hlt
      generalize xs.getD k 0 = y at *
      go_wp2_with fail
      go_round
      case rel => exact ⟨k + 1, by omega, by simp⟩
      case measure => simp [intOf]; omega
    · obtain rfl : k = xs.length := by omega
      go_wp2_with fail
      refine (HF.out _).mono ?_
      rintro e w2 ⟨v, rfl, ho2, hb2⟩
      have HO0 := hide (show OwnB w2 w.heap.size v (updK (fun i => if F.getD i 0 = 1 then L - 1 - xs.getD i 0 else xs.getD i 0) F 0) by rw [updK_zero]; exact OwnB.base ho2 (by have := HB1.out.size; omega))
      have HB2 := hide (below_then HB1.out hb2)
      clear ho2 hb2 q0 q1 q2
      go_wp2_with fail
      go_loopw [11] (fun i u => ∃ k : Nat, k ≤ xs.length ∧ i = .int .i64 k ∧ Hid (OwnB u w.heap.size v (updK (fun i => if F.getD i 0 = 1 then L - 1 - xs.getD i 0 else xs.getD i 0) F k)) ∧ Hid (Below w.heap.size w u)) (fun i _ => xs.length - (intOf i).toNat)
      case atStart => exact ⟨0, by omega, rfl, HO0, HB2⟩
      case round =>
        rename World => wr
        obtain ⟨k, hk, rfl, hO, hB⟩ := hrel
        by_cases hlt : k < xs.length
        · have hul : (updK (fun i => if F.getD i 0 = 1 then L - 1 - xs.getD i 0 else xs.getD i 0) F k).length = xs.length := by rw [updK_length (by rw [HFL.out]; exact hk)]; exact HFL.out
          obtain ⟨g, cg, rfl, hBg, hgl, _⟩ := hO.out.full (by rw [hul]; omega)
          rw [hul] at hO
          have hc := hO.out.cell hul.symm hlt
          have hf := hO.out.frz hul.symm k
          rw [updK_at] at hc
          have hst := (hO.out.set hul.symm k (if F.getD k 0 = 1 then L - 1 - xs.getD k 0 else xs.getD k 0)).1
          rw [updK_set (g := fun i => if F.getD i 0 = 1 then L - 1 - xs.getD i 0 else xs.getD i 0) (by rw [HFL.out]; exact hlt)] at hst
          obtain ⟨b, off, rfl, _, hcx⟩ := (HR.out.below hB.out).at_ hlt
          have h1 := HX.out k hlt
          have h2 := HF1.out k hlt
          have HB4 := hide fun (z : Value) => hB.out.setCell (p := ⟨g, k, none⟩) hBg z
          have hin : (0 : Int) ≤ k := by omega
          have hin2 : (k : Int) < xs.length := by omega
          rw [hul]
          generalize xs.getD k 0 = y at *
          generalize F.getD k 0 = f at *
          by_cases hf1 : f = 1
          · subst hf1
            rw [if_pos rfl] at hst
            have HS := hide hst
            have e3 : ((L : Int) - 1 - y) = ((L - 1 - y : Nat) : Int) := by omega
            have e4 : IntKind.u8.wrap ((L : Int) - 1 - y) = ((L - 1 - y : Nat) : Int) := by rw [IntKind.wrap_u8]; omega
            have e5 : IntKind.i64.wrap ((L : Int) - 1) = (L : Int) - 1 := IntWalk.i64_in _ (by omega)
            have e6 : IntKind.i64.wrap ((L : Int) - 1 - y) = (L : Int) - 1 - y := IntWalk.i64_in _ (by omega)
            clear hst hul e3
            go_wp2_with fail
            go_roundw
            case rel => exact ⟨k + 1, by omega, by simp, hide (HS.out.keep fun _ _ => rfl), hide (HB4.out _)⟩
            case measure => simp [intOf]; omega
          · rw [if_neg hf1] at hst
            have HS := hide hst
            obtain rfl : f = 0 := by omega
            clear hst hul
            go_wp2_with fail
            go_roundw
            case rel => exact ⟨k + 1, by omega, by simp, hide (HS.out.keep fun _ _ => rfl), hide (HB4.out _)⟩
            case measure => simp [intOf]; omega
        · obtain rfl : k = xs.length := by omega
          rw [HW.out] at hO
          go_wp2_with fail
          go_ret2
          exact ⟨_, rfl, hO.out, hB.out⟩
end Go.Proofs.Ytlbfndibgojbiaa
