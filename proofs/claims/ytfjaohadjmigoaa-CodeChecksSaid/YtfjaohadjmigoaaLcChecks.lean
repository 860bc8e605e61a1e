/- The law CodeChecks, walked: it returns true, whatever the code and the name. -/
import Derived.Test.YtfjaohadjmigoaaKnows
import Derived.Deep.RegionHeld3
namespace Go.Proofs.Ytfjaohadjmigoaa
open Go.RowKit

/-- three codes in three boxes -/
def Three (b0 b1 b2 : Nat) (K R : Int) (a b c : Nat) (p q r s t : Int) (w0 w : World) : Prop :=
  w.cell? ⟨b0, 0, none⟩ = some (.int .i64 K) ∧ w.cell? ⟨b0, 1, none⟩ = some (.int .i64 R) ∧ w.cell? ⟨b0, 2, none⟩ = some (.int .u32 a) ∧ w.cell? ⟨b0, 3, none⟩ = some (.int .u32 b) ∧ w.cell? ⟨b0, 4, none⟩ = some (.int .u32 c) ∧
  w.cell? ⟨b1, 0, none⟩ = some (.int .i64 p) ∧ w.cell? ⟨b1, 1, none⟩ = some (.int .i64 q) ∧ w.cell? ⟨b1, 2, none⟩ = some (.int .u32 r) ∧ w.cell? ⟨b1, 3, none⟩ = some (.int .u32 s) ∧ w.cell? ⟨b1, 4, none⟩ = some (.int .u32 t) ∧
  w.cell? ⟨b2, 0, none⟩ = some (.int .i64 p) ∧ w.cell? ⟨b2, 1, none⟩ = some (.int .i64 q) ∧ w.cell? ⟨b2, 2, none⟩ = some (.int .u32 r) ∧ w.cell? ⟨b2, 3, none⟩ = some (.int .u32 s) ∧ w.cell? ⟨b2, 4, none⟩ = some (.int .u32 t) ∧
  Below w0.heap.size w0 w
theorem Three.keep {b0 b1 b2 : Nat} {K R : Int} {a b c : Nat} {p q r s t : Int} {w0 w w' : World} (h0 : b0 < w0.heap.size) (h1 : b1 < w0.heap.size) (h2 : b2 < w0.heap.size)
    (h : Three b0 b1 b2 K R a b c p q r s t w0 w) (hb : Below w.heap.size w w') : Three b0 b1 b2 K R a b c p q r s t w0 w' := by
  obtain ⟨a0, a1, a2, a3, a4, c0, c1, c2, c3, c4, d0, d1, d2, d3, d4, hw⟩ := h
  have hz := hw.size
  have g0 := Nat.lt_of_lt_of_le h0 hz
  have g1 := Nat.lt_of_lt_of_le h1 hz
  have g2 := Nat.lt_of_lt_of_le h2 hz
  exact ⟨bcell hb g0 a0, bcell hb g0 a1, bcell hb g0 a2, bcell hb g0 a3, bcell hb g0 a4, bcell hb g1 c0, bcell hb g1 c1, bcell hb g1 c2, bcell hb g1 c3, bcell hb g1 c4, bcell hb g2 d0, bcell hb g2 d1, bcell hb g2 d2, bcell hb g2 d3, bcell hb g2 d4, hw.trans (hb.mono hz)⟩

set_option maxHeartbeats 2000000 in
theorem law_checks (K R : Int) (a b c : Nat) (x : ByteArray) (ha : a ≤ 4294967295) (hb : b ≤ 4294967295) (hc : c ≤ 4294967295) (w : World) :
    Calls Try.prog 3 #[.agg #[.int .i64 K, .int .i64 R, .int .u32 a, .int .u32 b, .int .u32 c], .string x] w fun e w' => e = .returned (.bool true) ∧ Below w.heap.size w w' := by
  obtain ⟨k, er, hN1, hN2⟩ := named_ex x
  have HN1 := hide hN1
  have HN2 := hide hN2
  clear hN1 hN2
  unfold cdV at HN1 HN2
  generalize ((cdAt k).1 : Int) = p at *
  generalize ((cdAt k).2.1 : Int) = q at *
  generalize ((cdAt k).2.2.1 : Int) = r at *
  generalize ((cdAt k).2.2.2.1 : Int) = s at *
  generalize ((cdAt k).2.2.2.2 : Int) = t at *
  have eqg := eq_same
  have HC1 := hide (check_any K R a b c ha hb hc)
  have HC2 := hide (rcheck_any K R a b c ha hb hc)
  have HC3 := hide (common_any K R a b c ha hb hc)
  have HC4 := hide (rcommon_any K R a b c ha hb hc)
  generalize checkF K R a b c = cf at *
  generalize gcdK a b c (countF R) = gf at *
  go_enter Try.func3, Try.ntmps3
  go_wp2_with fail
  refine (HN1.out _).mono ?_
  rintro e w1 ⟨rfl, hb1⟩
  go_wp2_with fail
  refine (HN2.out _).mono ?_
  rintro e w2 ⟨rfl, hb2⟩
  go_wp2_with fail
  have hz1 : w.heap.size < w1.heap.size := by have := hb1.size; simp at this; omega
  have hz2 : w1.heap.size < w2.heap.size := by have := hb2.size; simp at this; omega
  have hS : Three w.heap.size w1.heap.size w2.heap.size K R a b c p q r s t (w2.alloc (.cells #[.int .i64 p, .int .i64 q, .int .u32 r, .int .u32 s, .int .u32 t] 25)) (w2.alloc (.cells #[.int .i64 p, .int .i64 q, .int .u32 r, .int .u32 s, .int .u32 t] 25)) := by
    have l0 {o : Nat} {v : Value} (h : (w.alloc (.cells #[.int .i64 K, .int .i64 R, .int .u32 a, .int .u32 b, .int .u32 c] 25)).cell? ⟨w.heap.size, o, none⟩ = some v) : (w2.alloc (.cells #[.int .i64 p, .int .i64 q, .int .u32 r, .int .u32 s, .int .u32 t] 25)).cell? ⟨w.heap.size, o, none⟩ = some v := by
      have h1 := bcell hb1 (by simp) h
      have h2 := bcell hb2 (by simp; omega) ((World.cell?_alloc_lt w1 (.cells #[.int .i64 p, .int .i64 q, .int .u32 r, .int .u32 s, .int .u32 t] 25) ⟨w.heap.size, o, none⟩ hz1).trans h1)
      exact (World.cell?_alloc_lt w2 _ ⟨w.heap.size, o, none⟩ (by simp; omega)).trans h2
    have l1 {o : Nat} {v : Value} (h : (w1.alloc (.cells #[.int .i64 p, .int .i64 q, .int .u32 r, .int .u32 s, .int .u32 t] 25)).cell? ⟨w1.heap.size, o, none⟩ = some v) : (w2.alloc (.cells #[.int .i64 p, .int .i64 q, .int .u32 r, .int .u32 s, .int .u32 t] 25)).cell? ⟨w1.heap.size, o, none⟩ = some v := by
      have h2 := bcell hb2 (by simp) h
      exact (World.cell?_alloc_lt w2 _ ⟨w1.heap.size, o, none⟩ (by simp; omega)).trans h2
    exact ⟨l0 (by simp [go_sem]), l0 (by simp [go_sem]), l0 (by simp [go_sem]), l0 (by simp [go_sem]), l0 (by simp [go_sem]), l1 (by simp [go_sem]), l1 (by simp [go_sem]), l1 (by simp [go_sem]), l1 (by simp [go_sem]), l1 (by simp [go_sem]),
      by simp [go_sem], by simp [go_sem], by simp [go_sem], by simp [go_sem], by simp [go_sem], Below.refl _ _⟩
  have g0 : w.heap.size < (w2.alloc (.cells #[.int .i64 p, .int .i64 q, .int .u32 r, .int .u32 s, .int .u32 t] 25)).heap.size := by simp; omega
  have g1 : w1.heap.size < (w2.alloc (.cells #[.int .i64 p, .int .i64 q, .int .u32 r, .int .u32 s, .int .u32 t] 25)).heap.size := by simp; omega
  have g2 : w2.heap.size < (w2.alloc (.cells #[.int .i64 p, .int .i64 q, .int .u32 r, .int .u32 s, .int .u32 t] 25)).heap.size := by simp
  have hfin : Below w.heap.size w (w2.alloc (.cells #[.int .i64 p, .int .i64 q, .int .u32 r, .int .u32 s, .int .u32 t] 25)) :=
    ((below_one hb1).trans ((below_one hb2).mono (by omega))).alloc (by omega) _
  have hle := hfin.size
  have HF := hide hfin
  have HS := hide hS
  clear hfin hS hb1 hb2 HN1 HN2
  generalize hW : w2.alloc (.cells #[.int .i64 p, .int .i64 q, .int .u32 r, .int .u32 s, .int .u32 t] 25) = W at *
  clear hW
  generalize w1.heap.size = b1 at *
  generalize w2.heap.size = b2 at *
  have HK := hide fun (u u' : World) (h : Three w.heap.size b1 b2 K R a b c p q r s t W u) (hb : Below u.heap.size u u') => h.keep g0 g1 g2 hb
  have HK2 := hide fun (u : World) (h : Three w.heap.size b1 b2 K R a b c p q r s t W u) => h.2.2.2.2.2.2.2.2.2.2.2.2.2.2.2
  have HSd := hide (HK.out _ _ HS.out (Below.refl W.heap.size W).drew)
  go_region_held3 (fun u => u.cell? ⟨w.heap.size, 0, none⟩ = some (.int .i64 K) ∧ u.cell? ⟨w.heap.size, 1, none⟩ = some (.int .i64 R) ∧ u.cell? ⟨w.heap.size, 2, none⟩ = some (.int .u32 a) ∧ u.cell? ⟨w.heap.size, 3, none⟩ = some (.int .u32 b) ∧ u.cell? ⟨w.heap.size, 4, none⟩ = some (.int .u32 c) ∧
      u.cell? ⟨b1, 0, none⟩ = some (.int .i64 p) ∧ u.cell? ⟨b1, 1, none⟩ = some (.int .i64 q) ∧ u.cell? ⟨b1, 2, none⟩ = some (.int .u32 r) ∧ u.cell? ⟨b1, 3, none⟩ = some (.int .u32 s) ∧ u.cell? ⟨b1, 4, none⟩ = some (.int .u32 t) ∧
      u.cell? ⟨b2, 0, none⟩ = some (.int .i64 p) ∧ u.cell? ⟨b2, 1, none⟩ = some (.int .i64 q) ∧ u.cell? ⟨b2, 2, none⟩ = some (.int .u32 r) ∧ u.cell? ⟨b2, 3, none⟩ = some (.int .u32 s) ∧ u.cell? ⟨b2, 4, none⟩ = some (.int .u32 t) ∧ Below W.heap.size W u)
    (first | exact HS.out | exact HSd.out | exact HK.out _ _ (by assumption) (by assumption) | exact HK.out _ _ (by assumption) (Below.refl _ _))
    (first
      | (go_at_call 12; refine (HC1.out _).mono ?_; rintro e w' ⟨rfl, hb'⟩)
      | (go_at_call 13; refine (HC2.out _).mono ?_; rintro e w' ⟨rfl, hb'⟩)
      | (go_at_call 14; refine (HC3.out _).mono ?_; rintro e w' ⟨rfl, hb'⟩)
      | (go_at_call 15; refine (HC4.out _).mono ?_; rintro e w' ⟨rfl, hb'⟩)
      | (go_at_call 11; refine (num_any _ _).mono ?_; rintro e w' ⟨rfl, rfl⟩)
      | (go_at_call 16; refine (knows_any _).mono ?_; rintro e w' ⟨rfl, hb'⟩))
  go_wp2_with fail
  go_ret
  exact ⟨rfl, HF.out.trans ((HK2.out _ (by assumption)).mono hle)⟩
end Go.Proofs.Ytfjaohadjmigoaa
