/- A modem in a box; modem.body, Body, Span and the document's Body, Span, walked. -/
import Derived.Test.YtlbfndibgojbiaaRows
import Derived.Test.YtlbfndibgojbiaaMCheck
import Derived.Test.YtlbfndibgojbiaaMC
import Derived.Deep.RegionHeld3
namespace Go.Proofs.Ytlbfndibgojbiaa
open Go.RowKit

/-- the modem's box: what lies in it -/
def ModB (w : World) (g : Nat) (K R : Int) (a b c : Nat) (D : Int) (T S m : Nat) (l q z : Int) : Prop := w.heap[g]? = some (.cells #[.int .i64 K, .int .i64 R, .int .u32 a, .int .u32 b, .int .u32 c, .int .i64 D, .int .u64 T, .int .u64 S, .int .u64 m, .int .i64 l, .int .i64 q, .int .i64 z] 32 (0, 0))
section
variable {w w' : World} {g : Nat} {K R : Int} {a b c : Nat} {D : Int} {T S m : Nat} {l q z : Int}
theorem ModB.cells (h : ModB w g K R a b c D T S m l q z) : w.cell? ⟨g, 0, none⟩ = some (.int .i64 K) ∧ w.cell? ⟨g, 1, none⟩ = some (.int .i64 R) ∧ w.cell? ⟨g, 2, none⟩ = some (.int .u32 a) ∧ w.cell? ⟨g, 3, none⟩ = some (.int .u32 b) ∧ w.cell? ⟨g, 4, none⟩ = some (.int .u32 c) ∧ w.cell? ⟨g, 5, none⟩ = some (.int .i64 D) ∧ w.cell? ⟨g, 6, none⟩ = some (.int .u64 T) ∧ w.cell? ⟨g, 7, none⟩ = some (.int .u64 S) ∧ w.cell? ⟨g, 8, none⟩ = some (.int .u64 m) ∧ w.cell? ⟨g, 9, none⟩ = some (.int .i64 l) ∧ w.cell? ⟨g, 10, none⟩ = some (.int .i64 q) ∧ w.cell? ⟨g, 11, none⟩ = some (.int .i64 z) := by
  unfold ModB at h
  refine ⟨?_, ?_, ?_, ?_, ?_, ?_, ?_, ?_, ?_, ?_, ?_, ?_⟩ <;> simp [World.cell?, h]
theorem ModB.lt (h : ModB w g K R a b c D T S m l q z) : g < w.heap.size := by
  unfold ModB at h
  exact (Array.getElem?_eq_some_iff.1 h).1
theorem ModB.keep {B : Nat} (h : ModB w g K R a b c D T S m l q z) (hb : Below B w w') (hg : g < B) : ModB w' g K R a b c D T S m l q z := (hb.block g hg).trans h
theorem ModB.new (w : World) : ModB (w.alloc (.cells #[.int .i64 K, .int .i64 R, .int .u32 a, .int .u32 b, .int .u32 c, .int .i64 D, .int .u64 T, .int .u64 S, .int .u64 m, .int .i64 l, .int .i64 q, .int .i64 z] 32)) w.heap.size K R a b c D T S m l q z := heap_alloc_new w _
theorem ModB.far (h : ModB w g K R a b c D T S m l q z) {p : Addr} (hp : g ≠ p.block) (u : Value) : ModB (w.setCell p u) g K R a b c D T S m l q z := (Below.heap_setCell _ _ _ _ hp).trans h
theorem ModB.alloc (h : ModB w g K R a b c D T S m l q z) (o : Obj) : ModB (w.alloc o) g K R a b c D T S m l q z := (Below.heap_alloc _ _ _ h.lt).trans h
theorem ModB.grown {row : Option Nat} (h : ModB w g K R a b c D T S m l q z) (hb : w.grownBy w' row) (hne : some g ≠ row) : ModB w' g K R a b c D T S m l q z := (hb.block g h.lt hne).trans h
theorem ModB.drewN (h : ModB w g K R a b c D T S m l q z) (n : Nat) : ModB (w.drewN n) g K R a b c D T S m l q z := h
end
/-- symbols between two markers -/
def bodyI (K R z : Int) : Int := (z + K - 1) * R
theorem bodyI_two (K z : Int) : bodyI K 2 z = (z + K - 1) * 2 := rfl
theorem bodyI_three (K z : Int) : bodyI K 3 z = (z + K - 1) * 3 := rfl
/-- what a modem that may be is like -/
theorem modE_good (K R : Int) (a b c : Nat) (D : Int) (T S m : Nat) (l q z : Int) (h : modE K R a b c D T S m l q z = 0) : checkF K R a b c = 0 ∧ lchk D T S = 0 ∧ markF m l = 0 ∧ (3 ≤ K ∧ K ≤ 32) ∧ (R = 2 ∨ R = 3) ∧ (1 ≤ l ∧ l ≤ 64) ∧ (1 ≤ q ∧ q ≤ 64) ∧ (1 ≤ z ∧ z ≤ 1024) := by
  obtain ⟨h1, h2, h3, h4⟩ := modE_zero h
  obtain ⟨n, rfl, hn1, hn2, hR⟩ := good_code h1
  obtain ⟨k, rfl, hk1, hk2, _⟩ := markF_zero h3
  exact ⟨h1, h2, h3, ⟨by omega, by omega⟩, hR, ⟨by omega, by omega⟩, ⟨by omega, by omega⟩, ⟨by omega, by omega⟩⟩
set_option maxHeartbeats 1000000 in
theorem body_any (K R : Int) (a b c : Nat) (D : Int) (T S m : Nat) (l q z : Int) (hK : 3 ≤ K ∧ K ≤ 32) (hR : R = 2 ∨ R = 3) (hz : 1 ≤ z ∧ z ≤ 1024) (w : World) :
    Calls Try.prog 38 #[.agg #[.int .i64 K, .int .i64 R, .int .u32 a, .int .u32 b, .int .u32 c, .int .i64 D, .int .u64 T, .int .u64 S, .int .u64 m, .int .i64 l, .int .i64 q, .int .i64 z]] w fun e w' => e = .returned (.int .i64 (bodyI K R z)) ∧ Below w.heap.size w w' := by
  obtain ⟨k1, k2⟩ := hK
  obtain ⟨z1, z2⟩ := hz
  rcases hR with rfl | rfl
  · rw [bodyI_two]
    go_enter Try.func38, Try.ntmps38
    go_wp2_with fail
    go_ret
    exact ⟨rfl, (Below.refl _ _).alloc (Nat.le_refl _) _⟩
  · rw [bodyI_three]
    go_enter Try.func38, Try.ntmps38
    go_wp2_with fail
    go_ret
    exact ⟨rfl, (Below.refl _ _).alloc (Nat.le_refl _) _⟩
/-- the length of a body, as it is told -/
noncomputable def bodyN (K R : Int) (a b c : Nat) (D : Int) (T S m : Nat) (l q z : Int) : Int := if modE K R a b c D T S m l q z = 0 then bodyI K R z else 0
noncomputable def spanN (K R : Int) (a b c : Nat) (D : Int) (T S m : Nat) (l q z : Int) : Int := if modE K R a b c D T S m l q z = 0 then bodyI K R z + l else 0
theorem bodyI_le {K R z : Int} (hK : 3 ≤ K ∧ K ≤ 32) (hR : R = 2 ∨ R = 3) (hz : 1 ≤ z ∧ z ≤ 1024) : 0 ≤ bodyI K R z ∧ bodyI K R z ≤ 3165 := by
  rcases hR with rfl | rfl
  · rw [bodyI_two]; omega
  · rw [bodyI_three]; omega
set_option maxHeartbeats 1000000 in
theorem mbody_any (K R : Int) (a b c : Nat) (D : Int) (T S m : Nat) (l q z : Int) (hA : a ≤ 4294967295) (hB : b ≤ 4294967295) (hC : c ≤ 4294967295) (hT : T ≤ 18446744073709551615) (hS : S ≤ 18446744073709551615) (w : World) :
    Calls Try.prog 14 #[.agg #[.int .i64 K, .int .i64 R, .int .u32 a, .int .u32 b, .int .u32 c, .int .i64 D, .int .u64 T, .int .u64 S, .int .u64 m, .int .i64 l, .int .i64 q, .int .i64 z]] w fun e w' => e = .returned (.tuple #[.int .i64 (bodyN K R a b c D T S m l q z), .int .i64 (modE K R a b c D T S m l q z)]) ∧ Below w.heap.size w w' := by
  have HC := hide (modcheck_any K R a b c D T S m l q z hA hB hC hT hS)
  unfold bodyN
  by_cases h : modE K R a b c D T S m l q z = 0
  · obtain ⟨_, _, _, hK, hR, _, _, hz⟩ := modE_good K R a b c D T S m l q z h
    have HN := hide (body_any K R a b c D T S m l q z hK hR hz)
    rw [if_pos h, h]
    rw [h] at HC
    generalize bodyI K R z = bd at *
    clear h hK hR hz
    go_enter Try.func14, Try.ntmps14
    go_wp2_with fail
    refine (HC.out _).mono ?_
    rintro e w1 ⟨rfl, hb1⟩
    have k1 := bk hb1 w.heap.size (by simp)
    have hz1 : w.heap.size < w1.heap.size := by have := hb1.size; simp at this; omega
    have HB1 := hide (below_one hb1)
    clear hb1
    go_wp2_with fail
    refine (HN.out _).mono ?_
    rintro e w2 ⟨rfl, hb2⟩
    go_wp2_with fail
    go_ret2
    exact ⟨rfl, below_then HB1.out hb2⟩
  · rw [if_neg h]
    have nz := nzBne h
    generalize modE K R a b c D T S m l q z = ef at *
    clear h
    go_enter Try.func14, Try.ntmps14
    go_wp2_with fail
    refine (HC.out _).mono ?_
    rintro e w1 ⟨rfl, hb1⟩
    go_wp2_with fail
    go_ret2
    exact ⟨rfl, below_one hb1⟩
set_option maxHeartbeats 1000000 in
theorem rbody_any (K R : Int) (a b c : Nat) (D : Int) (T S m : Nat) (l q z : Int) (hA : a ≤ 4294967295) (hB : b ≤ 4294967295) (hC : c ≤ 4294967295) (hT : T ≤ 18446744073709551615) (hS : S ≤ 18446744073709551615) (w : World) :
    Calls Try.prog 16 #[.agg #[.int .i64 K, .int .i64 R, .int .u32 a, .int .u32 b, .int .u32 c, .int .i64 D, .int .u64 T, .int .u64 S, .int .u64 m, .int .i64 l, .int .i64 q, .int .i64 z]] w fun e w' => e = .returned (.tuple #[.int .i64 (bodyN K R a b c D T S m l q z), .int .i64 (modE K R a b c D T S m l q z)]) ∧ Below w.heap.size w w' := by
  have HC := hide (r25check_any K R a b c D T S m l q z hA hB hC hT hS)
  unfold bodyN
  by_cases h : modE K R a b c D T S m l q z = 0
  · obtain ⟨_, _, _, hK, hR, _, _, hz⟩ := modE_good K R a b c D T S m l q z h
    rw [if_pos h, h]
    rw [h] at HC
    clear h
    obtain ⟨k1, k2⟩ := hK
    obtain ⟨z1, z2⟩ := hz
    rcases hR with rfl | rfl
    all_goals
      first | rw [bodyI_two] | rw [bodyI_three]
      go_enter Try.func16, Try.ntmps16
      go_wp2_with fail
      refine (HC.out _).mono ?_
      rintro e w1 ⟨rfl, hb1⟩
      have k1 := bk hb1 w.heap.size (by simp)
      have HB1 := hide (below_one hb1)
      clear hb1
      go_wp2_with fail
      go_ret2
      exact ⟨rfl, HB1.out⟩
  · rw [if_neg h]
    have nz := nzBne h
    generalize modE K R a b c D T S m l q z = ef at *
    clear h
    go_enter Try.func16, Try.ntmps16
    go_wp2_with fail
    refine (HC.out _).mono ?_
    rintro e w1 ⟨rfl, hb1⟩
    go_wp2_with fail
    go_ret2
    exact ⟨rfl, below_one hb1⟩
set_option maxRecDepth 100000 in
set_option maxHeartbeats 2000000 in
theorem mspan_any (K R : Int) (a b c : Nat) (D : Int) (T S m : Nat) (l q z : Int) (hA : a ≤ 4294967295) (hB : b ≤ 4294967295) (hC : c ≤ 4294967295) (hT : T ≤ 18446744073709551615) (hS : S ≤ 18446744073709551615) (w : World) :
    Calls Try.prog 15 #[.agg #[.int .i64 K, .int .i64 R, .int .u32 a, .int .u32 b, .int .u32 c, .int .i64 D, .int .u64 T, .int .u64 S, .int .u64 m, .int .i64 l, .int .i64 q, .int .i64 z]] w fun e w' => e = .returned (.tuple #[.int .i64 (spanN K R a b c D T S m l q z), .int .i64 (modE K R a b c D T S m l q z)]) ∧ Below w.heap.size w w' := by
  have HC := hide (modcheck_any K R a b c D T S m l q z hA hB hC hT hS)
  unfold spanN
  by_cases h : modE K R a b c D T S m l q z = 0
  · obtain ⟨_, _, _, hK, hR, hl, _, hz⟩ := modE_good K R a b c D T S m l q z h
    have HN := hide (body_any K R a b c D T S m l q z hK hR hz)
    obtain ⟨b1, b2⟩ := bodyI_le hK hR hz
    rw [if_pos h, h]
    rw [h] at HC
    generalize bodyI K R z = bd at *
    clear h hK hR hz
    obtain ⟨l1, l2⟩ := hl
    have hwr : IntKind.i64.wrap (bd + l) = bd + l := IntWalk.i64_in _ ⟨by omega, by omega⟩
    go_enter Try.func15, Try.ntmps15
    go_wp2_with fail
    have hM0 := ModB.new (K := K) (R := R) (a := a) (b := b) (c := c) (D := D) (T := T) (S := S) (m := m) (l := l) (q := q) (z := z) w
    have hb0 : Below w.heap.size w (w.alloc (.cells #[.int .i64 K, .int .i64 R, .int .u32 a, .int .u32 b, .int .u32 c, .int .i64 D, .int .u64 T, .int .u64 S, .int .u64 m, .int .i64 l, .int .i64 q, .int .i64 z] 32)) := (Below.refl _ _).alloc (Nat.le_refl _) _
    generalize w.alloc (.cells #[.int .i64 K, .int .i64 R, .int .u32 a, .int .u32 b, .int .u32 c, .int .i64 D, .int .u64 T, .int .u64 S, .int .u64 m, .int .i64 l, .int .i64 q, .int .i64 z] 32) = W0 at *
    have HU := hide fun (u : World) (hb : Below W0.heap.size W0 u) => (hM0.keep hb hM0.lt).cells
    have HB0 := hide hb0
    clear hM0 hb0
    refine (HC.out _).mono ?_
    rintro e w1 ⟨rfl, hb1⟩
    have HB1 := hide hb1
    obtain ⟨s0, s1, s2, s3, s4, s5, s6, s7, s8, s9, s10, s11⟩ := HU.out _ hb1
    clear hb1
    go_wp2_with fail
    go_region_held3 (fun u => u.cell? ⟨w.heap.size, 0, none⟩ = some (.int .i64 K) ∧ u.cell? ⟨w.heap.size, 1, none⟩ = some (.int .i64 R) ∧ u.cell? ⟨w.heap.size, 2, none⟩ = some (.int .u32 a) ∧ u.cell? ⟨w.heap.size, 3, none⟩ = some (.int .u32 b) ∧ u.cell? ⟨w.heap.size, 4, none⟩ = some (.int .u32 c) ∧ u.cell? ⟨w.heap.size, 5, none⟩ = some (.int .i64 D) ∧ u.cell? ⟨w.heap.size, 6, none⟩ = some (.int .u64 T) ∧ u.cell? ⟨w.heap.size, 7, none⟩ = some (.int .u64 S) ∧ u.cell? ⟨w.heap.size, 8, none⟩ = some (.int .u64 m) ∧ u.cell? ⟨w.heap.size, 9, none⟩ = some (.int .i64 l) ∧ u.cell? ⟨w.heap.size, 10, none⟩ = some (.int .i64 q) ∧ u.cell? ⟨w.heap.size, 11, none⟩ = some (.int .i64 z))
      (first | exact HU.out _ HB1.out.drew | exact HU.out _ (below_then HB1.out.drew hb2) | exact HU.out _ (below_then HB1.out hb2))
      ((go_at_call 38; refine (HN.out _).mono ?_; rintro e w2 ⟨rfl, hb2⟩))
    go_wp2_with fail
    go_ret2
    exact ⟨rfl, below_then HB0.out (below_then HB1.out.drew hb2)⟩
  · rw [if_neg h]
    have nz := nzBne h
    generalize modE K R a b c D T S m l q z = ef at *
    clear h
    go_enter Try.func15, Try.ntmps15
    go_wp2_with fail
    refine (HC.out _).mono ?_
    rintro e w1 ⟨rfl, hb1⟩
    go_wp2_with fail
    go_ret2
    exact ⟨rfl, below_one hb1⟩
set_option maxHeartbeats 1000000 in
theorem rspan_any (K R : Int) (a b c : Nat) (D : Int) (T S m : Nat) (l q z : Int) (hA : a ≤ 4294967295) (hB : b ≤ 4294967295) (hC : c ≤ 4294967295) (hT : T ≤ 18446744073709551615) (hS : S ≤ 18446744073709551615) (w : World) :
    Calls Try.prog 17 #[.agg #[.int .i64 K, .int .i64 R, .int .u32 a, .int .u32 b, .int .u32 c, .int .i64 D, .int .u64 T, .int .u64 S, .int .u64 m, .int .i64 l, .int .i64 q, .int .i64 z]] w fun e w' => e = .returned (.tuple #[.int .i64 (spanN K R a b c D T S m l q z), .int .i64 (modE K R a b c D T S m l q z)]) ∧ Below w.heap.size w w' := by
  have HC := hide (rbody_any K R a b c D T S m l q z hA hB hC hT hS)
  unfold spanN
  unfold bodyN at HC
  by_cases h : modE K R a b c D T S m l q z = 0
  · obtain ⟨_, _, _, hK, hR, hl, _, hz⟩ := modE_good K R a b c D T S m l q z h
    obtain ⟨b1, b2⟩ := bodyI_le hK hR hz
    rw [if_pos h, h]
    rw [if_pos h, h] at HC
    generalize bodyI K R z = bd at *
    clear h hK hR hz
    obtain ⟨l1, l2⟩ := hl
    go_enter Try.func17, Try.ntmps17
    go_wp2_with fail
    refine (HC.out _).mono ?_
    rintro e w1 ⟨rfl, hb1⟩
    have k1 := bk hb1 w.heap.size (by simp)
    have HB1 := hide (below_one hb1)
    clear hb1
    go_wp2_with fail
    go_ret2
    exact ⟨rfl, HB1.out⟩
  · rw [if_neg h]
    rw [if_neg h] at HC
    have nz := nzBne h
    generalize modE K R a b c D T S m l q z = ef at *
    clear h
    go_enter Try.func17, Try.ntmps17
    go_wp2_with fail
    refine (HC.out _).mono ?_
    rintro e w1 ⟨rfl, hb1⟩
    go_wp2_with fail
    go_ret2
    exact ⟨rfl, below_one hb1⟩
end Go.Proofs.Ytlbfndibgojbiaa
