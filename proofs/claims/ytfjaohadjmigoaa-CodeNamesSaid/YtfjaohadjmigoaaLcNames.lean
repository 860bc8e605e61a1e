/- The law CodeNames, walked: it returns true. -/
import Derived.Test.YtfjaohadjmigoaaKnows
import Derived.Deep.RegionHeld3
namespace Go.Proofs.Ytfjaohadjmigoaa
open Go.RowKit

set_option maxHeartbeats 1000000 in
theorem Names_any (w : World) :
    Calls Try.prog 17 #[] w fun e w' => e = .returned (.slice (some ⟨w.heap.size, 0, none⟩) 9 9) ∧ (w.alloc (.cells nmArr 9)).alloc (.cells cdArr 25) = w' := by
  go_enter Try.func17, Try.ntmps17
  go_wp2_with fail
  refine (names_any _).mono ?_
  rintro e w' ⟨rfl, rfl⟩
  go_wp2_with fail
  go_ret
  exact ⟨rfl, rfl⟩
set_option maxHeartbeats 1000000 in
theorem rNames_any (w : World) :
    Calls Try.prog 18 #[] w fun e w' => e = .returned (.slice (some ⟨w.heap.size, 0, none⟩) 9 9) ∧ (w.alloc (.cells nmArr 9)).alloc (.cells cdArr 25) = w' := by
  go_enter Try.func18, Try.ntmps18
  go_wp2_with fail
  refine (rall_any _).mono ?_
  rintro e w' ⟨rfl, rfl⟩
  go_wp2_with fail
  go_ret
  exact ⟨rfl, rfl⟩

theorem nm_hit (k : Nat) (hk : k < 9) : ∃ j, hitAt (nmL.getD k ByteArray.empty) j := by
  rcases hit_or_miss (nmL.getD k ByteArray.empty) with h | h
  · exact h
  · exact absurd rfl (h k hk)
/-- of a name that is one both say the same, and the code may be -/
theorem named_good (k : Nat) (hk : k < 9) : ∃ (p q : Int) (r s t : Nat), checkF p q r s t = 0 ∧ r ≤ 4294967295 ∧ s ≤ 4294967295 ∧ t ≤ 4294967295 ∧
    (∀ w, Calls Try.prog 9 #[.string (nmL.getD k ByteArray.empty)] w fun e w' => e = .returned (.tuple #[.agg #[.int .i64 p, .int .i64 q, .int .u32 r, .int .u32 s, .int .u32 t], .int .i64 0]) ∧ Below w.heap.size w w') ∧
    (∀ w, Calls Try.prog 10 #[.string (nmL.getD k ByteArray.empty)] w fun e w' => e = .returned (.tuple #[.agg #[.int .i64 p, .int .i64 q, .int .u32 r, .int .u32 s, .int .u32 t], .int .i64 0]) ∧ Below w.heap.size w w') := by
  obtain ⟨j, hj⟩ := nm_hit k hk
  have h := cds_ok j hj.1
  have hle : (cdAt j).2.2.1 ≤ 4294967295 ∧ (cdAt j).2.2.2.1 ≤ 4294967295 ∧ (cdAt j).2.2.2.2 ≤ 4294967295 := by
    unfold okB at h
    obtain ⟨_, _, _, ha, hb, hc, _⟩ := of_decide_eq_true h
    exact ⟨ha, hb, hc⟩
  refine ⟨_, _, _, _, _, okB_ok h, hle.1, hle.2.1, hle.2.2, fun w => named_hit _ j hj w, fun w => (rnamed_any _ w).mono fun e w' h' => ?_⟩
  rcases h' with ⟨i, hi, h1, h2⟩ | ⟨hm, _, _⟩
  · rw [hit_same hj hi] at h1; exact ⟨h1, h2⟩
  · exact absurd hj.2.1 (hm j hj.1)

def NamesS (n1 n2 b1 b2 k : Nat) (y : ByteArray) (p q : Int) (r s t : Nat) (w0 w : World) : Prop :=
  w.cell? ⟨n1, k, none⟩ = some (.string y) ∧ w.cell? ⟨n2, k, none⟩ = some (.string y) ∧ w.cell? ⟨b1, 0, none⟩ = some (.int .i64 p) ∧ w.cell? ⟨b1, 1, none⟩ = some (.int .i64 q) ∧ w.cell? ⟨b1, 2, none⟩ = some (.int .u32 (r : Int)) ∧ w.cell? ⟨b1, 3, none⟩ = some (.int .u32 (s : Int)) ∧ w.cell? ⟨b1, 4, none⟩ = some (.int .u32 (t : Int)) ∧ w.cell? ⟨b2, 0, none⟩ = some (.int .i64 p) ∧ w.cell? ⟨b2, 1, none⟩ = some (.int .i64 q) ∧ w.cell? ⟨b2, 2, none⟩ = some (.int .u32 (r : Int)) ∧ w.cell? ⟨b2, 3, none⟩ = some (.int .u32 (s : Int)) ∧ w.cell? ⟨b2, 4, none⟩ = some (.int .u32 (t : Int)) ∧ Below w0.heap.size w0 w
theorem NamesS.keep {n1 n2 b1 b2 k : Nat} {y : ByteArray} {p q : Int} {r s t : Nat} {w0 w w' : World} (h_n1 : n1 < w0.heap.size) (h_n2 : n2 < w0.heap.size) (h_b1 : b1 < w0.heap.size) (h_b2 : b2 < w0.heap.size) (h : NamesS n1 n2 b1 b2 k y p q r s t w0 w) (hb : Below w.heap.size w w') : NamesS n1 n2 b1 b2 k y p q r s t w0 w' := by
  obtain ⟨x0, x1, x2, x3, x4, x5, x6, x7, x8, x9, x10, x11, hw⟩ := h
  have hz := hw.size
  have g_n1 := Nat.lt_of_lt_of_le h_n1 hz
  have g_n2 := Nat.lt_of_lt_of_le h_n2 hz
  have g_b1 := Nat.lt_of_lt_of_le h_b1 hz
  have g_b2 := Nat.lt_of_lt_of_le h_b2 hz
  exact ⟨bcell hb g_n1 x0, bcell hb g_n2 x1, bcell hb g_b1 x2, bcell hb g_b1 x3, bcell hb g_b1 x4, bcell hb g_b1 x5, bcell hb g_b1 x6, bcell hb g_b2 x7, bcell hb g_b2 x8, bcell hb g_b2 x9, bcell hb g_b2 x10, bcell hb g_b2 x11, hw.trans (hb.mono hz)⟩
theorem NamesS.below {n1 n2 b1 b2 k : Nat} {y : ByteArray} {p q : Int} {r s t : Nat} {w0 w : World} (h : NamesS n1 n2 b1 b2 k y p q r s t w0 w) : Below w0.heap.size w0 w := by
  obtain ⟨_, _, _, _, _, _, _, _, _, _, _, _, hw⟩ := h
  exact hw


set_option maxHeartbeats 4000000 in
theorem law_names (w : World) :
    Calls Try.prog 4 #[] w fun e w' => e = .returned (.bool true) ∧ Below w.heap.size w w' := by
  go_enter Try.func4, Try.ntmps4
  go_wp2_with (first | (go_at_call 11; refine (num_any _ _).mono ?_; rintro e w' ⟨rfl, rfl⟩) | (go_at_call 17; refine (Names_any _).mono ?_; rintro e w' ⟨rfl, rfl⟩) | (go_at_call 18; refine (rNames_any _).mono ?_; rintro e w' ⟨rfl, rfl⟩))
  have hn1 : ∀ k, k < 9 → ((((w.alloc (.cells nmArr 9)).alloc (.cells cdArr 25)).alloc (.cells nmArr 9)).alloc (.cells cdArr 25)).cell? ⟨w.heap.size, k, none⟩ = some (.string (nmL.getD k ByteArray.empty)) := fun k hk => by
    have := nmArr_at k hk
    simp [go_sem, this]
  have hn2 : ∀ k, k < 9 → ((((w.alloc (.cells nmArr 9)).alloc (.cells cdArr 25)).alloc (.cells nmArr 9)).alloc (.cells cdArr 25)).cell? ⟨w.heap.size + 1 + 1, k, none⟩ = some (.string (nmL.getD k ByteArray.empty)) := fun k hk => by
    have := nmArr_at k hk
    simp [go_sem, this]
  have hB0 : Below w.heap.size w ((((w.alloc (.cells nmArr 9)).alloc (.cells cdArr 25)).alloc (.cells nmArr 9)).alloc (.cells cdArr 25)) :=
    ((((Below.refl _ _).alloc (Nat.le_refl _) _).alloc (by simp) _).alloc (by simp; omega) _).alloc (by simp; omega) _
  have hz0 : w.heap.size + 1 + 1 < ((((w.alloc (.cells nmArr 9)).alloc (.cells cdArr 25)).alloc (.cells nmArr 9)).alloc (.cells cdArr 25)).heap.size := by simp
  generalize (((w.alloc (.cells nmArr 9)).alloc (.cells cdArr 25)).alloc (.cells nmArr 9)).alloc (.cells cdArr 25) = W0 at *
  have HN1 := hide hn1
  have HN2 := hide hn2
  have HB0 := hide hB0
  clear hn1 hn2 hB0
  have hlt0 : w.heap.size < W0.heap.size := by omega
  generalize hnn : w.heap.size + 1 + 1 = n2 at *
  clear hnn
  have hle0 : w.heap.size ≤ W0.heap.size := HB0.out.size
  go_loopw [4] (fun i wr => ∃ k : Nat, k ≤ 9 ∧ i = .int .i64 k ∧ Below W0.heap.size W0 wr) (fun i _ => 9 - (intOf i).toNat)
  case atStart => exact ⟨0, by omega, rfl, Below.refl _ _⟩
  case round =>
    obtain ⟨k, hk, rfl, hbw⟩ := hrel
    have HBW := hide hbw
    clear hbw
    by_cases hk9 : k < 9
    · obtain ⟨y, hy⟩ : ∃ y, nmL.getD k ByteArray.empty = y := ⟨_, rfl⟩
      obtain ⟨p, q, r, s, t, hck, hr, hs, ht, hN1, hN2⟩ := named_good k hk9
      have c1 := bcell HBW.out (b := w.heap.size) (by omega) (HN1.out k hk9)
      have c2 := bcell HBW.out (b := n2) (by omega) (HN2.out k hk9)
      rw [hy] at c1 c2 hN1 hN2
      have HM1 := hide hN1
      have HM2 := hide hN2
      have HC := hide (check_any p q r s t hr hs ht)
      rw [hck] at HC
      have hzr := HBW.out.size
      have C1 := hide c1
      have C2 := hide c2
      have heqs := strEq (rfl : y = y)
      have eqg := eq_same r s t
      clear hN1 hN2 hy hck hr hs ht
      go_wp2_with fail
      refine (HM1.out _).mono ?_
      rintro e w1 ⟨rfl, hb1⟩
      have hz1 := hb1.size
      have d1 := bcell hb1 (b := w.heap.size) (by omega) C1.out
      have d2 := bcell hb1 (b := n2) (by omega) C2.out
      clear c1 c2
      have D1 := hide d1
      have D2 := hide d2
      have e2 : (w1.alloc (.cells #[.int .i64 p, .int .i64 q, .int .u32 (r : Int), .int .u32 (s : Int), .int .u32 (t : Int)] 25)).cell? ⟨n2, k, none⟩ = some (.string y) := (World.cell?_alloc_lt w1 _ ⟨n2, k, none⟩ (by show n2 < w1.heap.size; omega)).trans d2
      go_wp2_with fail
      refine (HM2.out _).mono ?_
      rintro e w2 ⟨rfl, hb2⟩
      clear d1 d2 e2
      go_wp2_with fail
      have hz2 : w1.heap.size < w2.heap.size := by have := hb2.size; simp at this; omega
      have hS : NamesS w.heap.size n2 w1.heap.size w2.heap.size k y p q r s t (w2.alloc (.cells #[.int .i64 p, .int .i64 q, .int .u32 (r : Int), .int .u32 (s : Int), .int .u32 (t : Int)] 25)) (w2.alloc (.cells #[.int .i64 p, .int .i64 q, .int .u32 (r : Int), .int .u32 (s : Int), .int .u32 (t : Int)] 25)) := by
        have l0 {b o : Nat} {v : Value} (hb : b < w1.heap.size) (h : w1.cell? ⟨b, o, none⟩ = some v) : (w2.alloc (.cells #[.int .i64 p, .int .i64 q, .int .u32 (r : Int), .int .u32 (s : Int), .int .u32 (t : Int)] 25)).cell? ⟨b, o, none⟩ = some v :=
          (World.cell?_alloc_lt w2 _ ⟨b, o, none⟩ (by show b < w2.heap.size; omega)).trans (bcell hb2 (by simp; omega) ((World.cell?_alloc_lt w1 (.cells #[.int .i64 p, .int .i64 q, .int .u32 (r : Int), .int .u32 (s : Int), .int .u32 (t : Int)] 25) ⟨b, o, none⟩ hb).trans h))
        have l1 {o : Nat} {v : Value} (h : (w1.alloc (.cells #[.int .i64 p, .int .i64 q, .int .u32 (r : Int), .int .u32 (s : Int), .int .u32 (t : Int)] 25)).cell? ⟨w1.heap.size, o, none⟩ = some v) : (w2.alloc (.cells #[.int .i64 p, .int .i64 q, .int .u32 (r : Int), .int .u32 (s : Int), .int .u32 (t : Int)] 25)).cell? ⟨w1.heap.size, o, none⟩ = some v :=
          (World.cell?_alloc_lt w2 _ ⟨w1.heap.size, o, none⟩ hz2).trans (bcell hb2 (by simp) h)
        exact ⟨l0 (by omega) D1.out, l0 (by omega) D2.out, l1 (by simp [go_sem]), l1 (by simp [go_sem]), l1 (by simp [go_sem]), l1 (by simp [go_sem]), l1 (by simp [go_sem]),
          by simp [go_sem], by simp [go_sem], by simp [go_sem], by simp [go_sem], by simp [go_sem], Below.refl _ _⟩
      have hW : Below W0.heap.size W0 (w2.alloc (.cells #[.int .i64 p, .int .i64 q, .int .u32 (r : Int), .int .u32 (s : Int), .int .u32 (t : Int)] 25)) := HBW.out.trans (((hb1.mono hzr).trans ((below_one hb2).mono (by omega))).alloc (by omega) _)
      have g0 : w.heap.size < (w2.alloc (.cells #[.int .i64 p, .int .i64 q, .int .u32 (r : Int), .int .u32 (s : Int), .int .u32 (t : Int)] 25)).heap.size := by simp; omega
      have g1 : n2 < (w2.alloc (.cells #[.int .i64 p, .int .i64 q, .int .u32 (r : Int), .int .u32 (s : Int), .int .u32 (t : Int)] 25)).heap.size := by simp; omega
      have g2 : w1.heap.size < (w2.alloc (.cells #[.int .i64 p, .int .i64 q, .int .u32 (r : Int), .int .u32 (s : Int), .int .u32 (t : Int)] 25)).heap.size := by simp; omega
      have g3 : w2.heap.size < (w2.alloc (.cells #[.int .i64 p, .int .i64 q, .int .u32 (r : Int), .int .u32 (s : Int), .int .u32 (t : Int)] 25)).heap.size := by simp
      have hle2 := hW.size
      have HW := hide hW
      have HS := hide hS
      clear hW hS hb1 hb2 HM1 HM2 D1 D2
      generalize hW2 : w2.alloc (.cells #[.int .i64 p, .int .i64 q, .int .u32 (r : Int), .int .u32 (s : Int), .int .u32 (t : Int)] 25) = W2 at *
      clear hW2
      generalize w1.heap.size = b1 at *
      generalize w2.heap.size = b2 at *
      have HK := hide fun (u u' : World) (h : NamesS w.heap.size n2 b1 b2 k y p q r s t W2 u) (hb : Below u.heap.size u u') => h.keep g0 g1 g2 g3 hb
      have HK2 := hide fun (u : World) (h : NamesS w.heap.size n2 b1 b2 k y p q r s t W2 u) => h.below
      have HSd := hide (HK.out _ _ HS.out (Below.refl W2.heap.size W2).drew)
      go_region_held3 (fun u => u.cell? ⟨w.heap.size, k, none⟩ = some (.string y) ∧ u.cell? ⟨n2, k, none⟩ = some (.string y) ∧ u.cell? ⟨b1, 0, none⟩ = some (.int .i64 p) ∧ u.cell? ⟨b1, 1, none⟩ = some (.int .i64 q) ∧ u.cell? ⟨b1, 2, none⟩ = some (.int .u32 (r : Int)) ∧ u.cell? ⟨b1, 3, none⟩ = some (.int .u32 (s : Int)) ∧ u.cell? ⟨b1, 4, none⟩ = some (.int .u32 (t : Int)) ∧ u.cell? ⟨b2, 0, none⟩ = some (.int .i64 p) ∧ u.cell? ⟨b2, 1, none⟩ = some (.int .i64 q) ∧ u.cell? ⟨b2, 2, none⟩ = some (.int .u32 (r : Int)) ∧ u.cell? ⟨b2, 3, none⟩ = some (.int .u32 (s : Int)) ∧ u.cell? ⟨b2, 4, none⟩ = some (.int .u32 (t : Int)) ∧ Below W2.heap.size W2 u)
        (first | exact HS.out | exact HSd.out | exact HK.out _ _ (by assumption) (by assumption) | exact HK.out _ _ (by assumption) (Below.refl _ _))
        (first
          | (go_at_call 12; refine (HC.out _).mono ?_; rintro e w' ⟨rfl, hb'⟩)
          | (go_at_call 11; refine (num_any _ _).mono ?_; rintro e w' ⟨rfl, rfl⟩))
      go_wp2_with fail
      go_roundw
      case rel => exact ⟨k + 1, by omega, by go_num, HW.out.trans ((HK2.out _ (by assumption)).mono hle2)⟩
      case measure => simp [intOf]; omega
    · go_wp2_with (first | (go_at_call 16; refine (knows_any _).mono ?_; rintro e w' ⟨rfl, hb'⟩))
      go_ret
      exact ⟨rfl, HB0.out.trans ((HBW.out.trans (hb'.mono HBW.out.size)).mono hle0)⟩
end Go.Proofs.Ytfjaohadjmigoaa
