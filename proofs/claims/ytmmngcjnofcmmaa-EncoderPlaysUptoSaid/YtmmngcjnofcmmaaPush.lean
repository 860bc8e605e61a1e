/- (*register).push, walked. -/
import Derived.Test.YtmmngcjnofcmmaaRows
import Derived.Test.YtmmngcjnofcmmaaOnes
import Derived.Test.YtmmngcjnofcmmaaSym
import Derived.Test.YtmmngcjnofcmmaaBytes
namespace Go.Proofs.Ytmmngcjnofcmmaa
open Go.RowKit

/-- block g holds a code and its register -/
def RegB (w : World) (g : Nat) (K R : Int) (a b c s : Nat) : Prop := ∃ T, w.heap[g]? = some (.cells #[.int .i64 K, .int .i64 R, .int .u32 a, .int .u32 b, .int .u32 c, .int .u32 s] T (0, 0))
section
variable {w w' : World} {g : Nat} {K R : Int} {a b c s : Nat}
theorem RegB.parts (h : RegB w g K R a b c s) : g < w.heap.size ∧ w.cell? ⟨g, 0, none⟩ = some (.int .i64 K) ∧ w.cell? ⟨g, 1, none⟩ = some (.int .i64 R) ∧ w.cell? ⟨g, 2, none⟩ = some (.int .u32 a) ∧ w.cell? ⟨g, 3, none⟩ = some (.int .u32 b) ∧ w.cell? ⟨g, 4, none⟩ = some (.int .u32 c) ∧ w.cell? ⟨g, 5, none⟩ = some (.int .u32 s) ∧ w.frozen? ⟨g, 5, none⟩ = false := by
  obtain ⟨T, h⟩ := h
  exact ⟨(Array.getElem?_eq_some_iff.1 h).1, cell_of_row w g 0 _ T (0, 0) h, cell_of_row w g 1 _ T (0, 0) h, cell_of_row w g 2 _ T (0, 0) h, cell_of_row w g 3 _ T (0, 0) h, cell_of_row w g 4 _ T (0, 0) h, cell_of_row w g 5 _ T (0, 0) h, frozen_of_row w g 5 _ T h⟩
theorem RegB.keep (h : RegB w g K R a b c s) (hk : w'.heap[g]? = w.heap[g]?) : RegB w' g K R a b c s := by
  obtain ⟨T, h⟩ := h
  exact ⟨T, hk.trans h⟩
theorem RegB.below {B : Nat} (h : RegB w g K R a b c s) (hb : Below B w w') (hg : g < B) : RegB w' g K R a b c s := h.keep (hb.block g hg)
theorem RegB.lt (h : RegB w g K R a b c s) : g < w.heap.size := h.parts.1
theorem RegB.alloc (h : RegB w g K R a b c s) (o : Obj) : RegB (w.alloc o) g K R a b c s := h.keep (Below.heap_alloc _ _ _ h.lt)
theorem RegB.far (h : RegB w g K R a b c s) {p : Addr} (hp : g ≠ p.block) (u : Value) : RegB (w.setCell p u) g K R a b c s := h.keep (Below.heap_setCell _ _ _ _ hp)
theorem RegB.grown {row : Option Nat} (h : RegB w g K R a b c s) (hb : w.grownBy w' row) (hne : some g ≠ row) : RegB w' g K R a b c s := h.keep (hb.block g h.lt hne)
theorem RegB.set (h : RegB w g K R a b c s) (t : Nat) : RegB (w.setCell ⟨g, 5, none⟩ (.int .u32 (t : Nat))) g K R a b c t := by
  obtain ⟨T, h⟩ := h
  exact ⟨T, heap_setCell_same w g 5 _ T _ h⟩
end
set_option linter.unusedVariables false in
set_option maxHeartbeats 1000000 in
theorem push_two (n a b c s x g : Nat) (hn : 2 ≤ n ∧ n ≤ 31) (hA : a ≤ 4294967295) (hB : b ≤ 4294967295) (hC : c ≤ 4294967295) (hs : s ≤ 2147483647) (hx : x ≤ 1) (w : World) (hr : RegB w g (n + 1) 2 a b c s) :
    Calls Try.prog 42 #[.pointer (some ⟨g, 0, none⟩), .int .u8 x] w fun e w' => e = .returned (.agg #[.int .u8 (outF (2 * s + x) a), .int .u8 (outF (2 * s + x) b), .int .u8 0]) ∧ RegB w' g (n + 1) 2 a b c ((2 * s + x) % 2 ^ n) ∧ w.grownBy w' (some g) := by
  obtain ⟨hg, q0, q1, q2, q3, q4, q5, fz⟩ := hr.parts
  have HR := hide hr
  clear hr
  have eor := or_bit hs hx
  have hm : 2 * s + x ≤ 4294967295 := by omega
  generalize 2 * s + x = m at *
  have ea := and32 hm hA
  have la : m &&& a ≤ 4294967295 := Nat.le_trans Nat.and_le_left hm
  have HOa := hide (ones_any (m &&& a) la)
  have HBa := hide (show bits .and .i64 (Gf2.popF 32 (m &&& a) : Nat) 1 % 256 = (outF m a : Nat) from one_bit _)
  have eb := and32 hm hB
  have lb : m &&& b ≤ 4294967295 := Nat.le_trans Nat.and_le_left hm
  have HOb := hide (ones_any (m &&& b) lb)
  have HBb := hide (show bits .and .i64 (Gf2.popF 32 (m &&& b) : Nat) 1 % 256 = (outF m b : Nat) from one_bit _)
  have HM := hide (mask_m m n hm hn)
  have wn : IntKind.i64.wrap (n : Int) = n := IntWalk.i64_in _ (by omega)
  have hg2 : g < w.heap.size + 1 := by omega
  have hg3 : ¬ w.heap.size = g := by omega
  have hg4 : ¬ w.heap.size + 1 = g := by omega
  go_enter Try.func42, Try.ntmps42
  go_wp2_with fail
  go_loopw [21] (fun i u => ∃ j : Nat,
    (i = .int .i64 0 ∧ u = (((w.alloc (.cells #[.int .u8 0, .int .u8 0, .int .u8 0] 76)).alloc (.cells #[.int .u8 0, .int .u8 0, .int .u8 0] 76)).drewN j)) ∨
    (i = .int .i64 1 ∧ u = (((w.alloc (.cells #[.int .u8 0, .int .u8 0, .int .u8 0] 76)).alloc (.cells #[.int .u8 (outF m a), .int .u8 0, .int .u8 0] 76)).drewN j)) ∨
    (i = .int .i64 2 ∧ u = (((w.alloc (.cells #[.int .u8 0, .int .u8 0, .int .u8 0] 76)).alloc (.cells #[.int .u8 (outF m a), .int .u8 (outF m b), .int .u8 0] 76)).drewN j))) (fun i _ => 2 - (intOf i).toNat)
  case atStart => exact ⟨0, .inl ⟨rfl, rfl⟩⟩
  case round =>
    obtain ⟨j, hrel⟩ := hrel
    rcases hrel with ⟨rfl, rfl⟩ | ⟨rfl, rfl⟩ | ⟨rfl, rfl⟩
    · go_wp2_with fail
      refine (HOa.out _).mono ?_
      rintro e w' ⟨rfl, k, rfl⟩
      go_wp2_with fail
      go_roundw
      case rel =>
        refine ⟨j + k, .inr (.inl ⟨rfl, ?_⟩)⟩
        rw [HBa.out, set_drewN]
        simp [go_sem]
      case measure => simp [intOf]
    · go_wp2_with fail
      refine (HOb.out _).mono ?_
      rintro e w' ⟨rfl, k, rfl⟩
      go_wp2_with fail
      go_roundw
      case rel =>
        refine ⟨j + k, .inr (.inr (⟨rfl, ?_⟩))⟩
        rw [HBb.out, set_drewN]
        simp [go_sem]
      case measure => simp [intOf]
    · go_wp2_with fail
      rw [HM.out]
      go_wp2_with fail
      refine bodyPost_ret (v := .agg #[.int .u8 (outF m a), .int .u8 (outF m b), .int .u8 0]) (by simp [results, Try.results42, go_sem]) rfl ⟨rfl, ?_, ?_⟩
      · have h1 : RegB (((w.alloc (.cells #[.int .u8 0, .int .u8 0, .int .u8 0] 76)).alloc (.cells #[.int .u8 (outF m a), .int .u8 (outF m b), .int .u8 0] 76)).drewN j) g (n + 1) 2 a b c s := ((HR.out.alloc _).alloc _).keep rfl
        exact ((((h1.set _).far (by simp; omega) _).far (by simp; omega) _).far (by simp; omega) _)
      · exact grownBy_set (grownBy_set (grownBy_set (grownBy_set (grownBy_dr (grownBy_al (grownBy_al (World.grownBy.refl w _) _) _) _) _ _ (.inl rfl)) _ _ (.inr (by simp))) _ _ (.inr (by simp))) _ _ (.inr (by simp))
set_option linter.unusedVariables false in
set_option maxHeartbeats 1000000 in
theorem push_three (n a b c s x g : Nat) (hn : 2 ≤ n ∧ n ≤ 31) (hA : a ≤ 4294967295) (hB : b ≤ 4294967295) (hC : c ≤ 4294967295) (hs : s ≤ 2147483647) (hx : x ≤ 1) (w : World) (hr : RegB w g (n + 1) 3 a b c s) :
    Calls Try.prog 42 #[.pointer (some ⟨g, 0, none⟩), .int .u8 x] w fun e w' => e = .returned (.agg #[.int .u8 (outF (2 * s + x) a), .int .u8 (outF (2 * s + x) b), .int .u8 (outF (2 * s + x) c)]) ∧ RegB w' g (n + 1) 3 a b c ((2 * s + x) % 2 ^ n) ∧ w.grownBy w' (some g) := by
  obtain ⟨hg, q0, q1, q2, q3, q4, q5, fz⟩ := hr.parts
  have HR := hide hr
  clear hr
  have eor := or_bit hs hx
  have hm : 2 * s + x ≤ 4294967295 := by omega
  generalize 2 * s + x = m at *
  have ea := and32 hm hA
  have la : m &&& a ≤ 4294967295 := Nat.le_trans Nat.and_le_left hm
  have HOa := hide (ones_any (m &&& a) la)
  have HBa := hide (show bits .and .i64 (Gf2.popF 32 (m &&& a) : Nat) 1 % 256 = (outF m a : Nat) from one_bit _)
  have eb := and32 hm hB
  have lb : m &&& b ≤ 4294967295 := Nat.le_trans Nat.and_le_left hm
  have HOb := hide (ones_any (m &&& b) lb)
  have HBb := hide (show bits .and .i64 (Gf2.popF 32 (m &&& b) : Nat) 1 % 256 = (outF m b : Nat) from one_bit _)
  have ec := and32 hm hC
  have lc : m &&& c ≤ 4294967295 := Nat.le_trans Nat.and_le_left hm
  have HOc := hide (ones_any (m &&& c) lc)
  have HBc := hide (show bits .and .i64 (Gf2.popF 32 (m &&& c) : Nat) 1 % 256 = (outF m c : Nat) from one_bit _)
  have HM := hide (mask_m m n hm hn)
  have wn : IntKind.i64.wrap (n : Int) = n := IntWalk.i64_in _ (by omega)
  have hg2 : g < w.heap.size + 1 := by omega
  have hg3 : ¬ w.heap.size = g := by omega
  have hg4 : ¬ w.heap.size + 1 = g := by omega
  go_enter Try.func42, Try.ntmps42
  go_wp2_with fail
  go_loopw [21] (fun i u => ∃ j : Nat,
    (i = .int .i64 0 ∧ u = (((w.alloc (.cells #[.int .u8 0, .int .u8 0, .int .u8 0] 76)).alloc (.cells #[.int .u8 0, .int .u8 0, .int .u8 0] 76)).drewN j)) ∨
    (i = .int .i64 1 ∧ u = (((w.alloc (.cells #[.int .u8 0, .int .u8 0, .int .u8 0] 76)).alloc (.cells #[.int .u8 (outF m a), .int .u8 0, .int .u8 0] 76)).drewN j)) ∨
    (i = .int .i64 2 ∧ u = (((w.alloc (.cells #[.int .u8 0, .int .u8 0, .int .u8 0] 76)).alloc (.cells #[.int .u8 (outF m a), .int .u8 (outF m b), .int .u8 0] 76)).drewN j)) ∨
    (i = .int .i64 3 ∧ u = (((w.alloc (.cells #[.int .u8 0, .int .u8 0, .int .u8 0] 76)).alloc (.cells #[.int .u8 (outF m a), .int .u8 (outF m b), .int .u8 (outF m c)] 76)).drewN j))) (fun i _ => 3 - (intOf i).toNat)
  case atStart => exact ⟨0, .inl ⟨rfl, rfl⟩⟩
  case round =>
    obtain ⟨j, hrel⟩ := hrel
    rcases hrel with ⟨rfl, rfl⟩ | ⟨rfl, rfl⟩ | ⟨rfl, rfl⟩ | ⟨rfl, rfl⟩
    · go_wp2_with fail
      refine (HOa.out _).mono ?_
      rintro e w' ⟨rfl, k, rfl⟩
      go_wp2_with fail
      go_roundw
      case rel =>
        refine ⟨j + k, .inr (.inl ⟨rfl, ?_⟩)⟩
        rw [HBa.out, set_drewN]
        simp [go_sem]
      case measure => simp [intOf]
    · go_wp2_with fail
      refine (HOb.out _).mono ?_
      rintro e w' ⟨rfl, k, rfl⟩
      go_wp2_with fail
      go_roundw
      case rel =>
        refine ⟨j + k, .inr (.inr (.inl ⟨rfl, ?_⟩))⟩
        rw [HBb.out, set_drewN]
        simp [go_sem]
      case measure => simp [intOf]
    · go_wp2_with fail
      refine (HOc.out _).mono ?_
      rintro e w' ⟨rfl, k, rfl⟩
      go_wp2_with fail
      go_roundw
      case rel =>
        refine ⟨j + k, .inr (.inr (.inr (⟨rfl, ?_⟩)))⟩
        rw [HBc.out, set_drewN]
        simp [go_sem]
      case measure => simp [intOf]
    · go_wp2_with fail
      rw [HM.out]
      go_wp2_with fail
      refine bodyPost_ret (v := .agg #[.int .u8 (outF m a), .int .u8 (outF m b), .int .u8 (outF m c)]) (by simp [results, Try.results42, go_sem]) rfl ⟨rfl, ?_, ?_⟩
      · have h1 : RegB (((w.alloc (.cells #[.int .u8 0, .int .u8 0, .int .u8 0] 76)).alloc (.cells #[.int .u8 (outF m a), .int .u8 (outF m b), .int .u8 (outF m c)] 76)).drewN j) g (n + 1) 3 a b c s := ((HR.out.alloc _).alloc _).keep rfl
        exact ((((h1.set _).far (by simp; omega) _).far (by simp; omega) _).far (by simp; omega) _)
      · exact grownBy_set (grownBy_set (grownBy_set (grownBy_set (grownBy_dr (grownBy_al (grownBy_al (World.grownBy.refl w _) _) _) _) _ _ (.inl rfl)) _ _ (.inr (by simp))) _ _ (.inr (by simp))) _ _ (.inr (by simp))
end Go.Proofs.Ytmmngcjnofcmmaa
