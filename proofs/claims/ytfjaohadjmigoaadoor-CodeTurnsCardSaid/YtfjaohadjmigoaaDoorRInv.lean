/- outpostref05.Inverse, walked. -/
import Derived.Test.YtfjaohadjmigoaaDoorRows
import Derived.Test.YtfjaohadjmigoaaDoorCodeInv
import Derived.Test.YtfjaohadjmigoaaDoorRBez
namespace Go.Proofs.YtfjaohadjmigoaaDoor
open Go.RowKit

theorem product_any (a b : Nat) (ha : a ≤ 18446744073709551615) (hb : b ≤ 18446744073709551615) (w : World) :
    Calls Tryd.prog 28 #[.int .u64 a, .int .u64 b] w fun e w' => e = .returned (.int .u64 (mulL a b)) ∧ w = w' := by
  have HM := hide (rmul_any a b ha hb)
  go_enter Tryd.func28, Tryd.ntmps28
  go_wp2_with fail
  refine (HM.out _).mono ?_
  rintro e w' ⟨rfl, rfl⟩
  go_wp2_with fail
  go_ret
  exact ⟨rfl, rfl⟩
set_option maxHeartbeats 1000000 in
theorem rinv_bad (K R : Int) (a b c : Nat) (hA : a ≤ 4294967295) (hB : b ≤ 4294967295) (hC : c ≤ 4294967295) (hne : checkF K R a b c ≠ 0) (w : World) :
    Calls Tryd.prog 13 #[.agg #[.int .i64 K, .int .i64 R, .int .u32 a, .int .u32 b, .int .u32 c]] w fun e w' => e = .returned (.tuple #[.agg #[.int .u64 0, .int .u64 0, .int .u64 0], .int .i64 (checkF K R a b c)]) ∧ Below w.heap.size w w' := by
  have HC := hide (rcheck_any K R a b c hA hB hC)
  have hb := zBneI hne
  generalize checkF K R a b c = cf at *
  clear hne
  go_enter Tryd.func13, Tryd.ntmps13
  go_wp2_with fail
  refine (HC.out _).mono ?_
  rintro e w1 ⟨rfl, hb1⟩
  have hz1 : w.heap.size + 1 < w1.heap.size := by have := hb1.size; simp at this; omega
  have c0 := bcell hb1 (b := w.heap.size + 1) (o := 0) (v := .int .u64 0) (by simp) (by simp [go_sem])
  have c1 := bcell hb1 (b := w.heap.size + 1) (o := 1) (v := .int .u64 0) (by simp) (by simp [go_sem])
  have c2 := bcell hb1 (b := w.heap.size + 1) (o := 2) (v := .int .u64 0) (by simp) (by simp [go_sem])
  have f0 := bfrozen hb1 (b := w.heap.size + 1) (o := 0) (by simp) (by simp [go_sem])
  have f1 := bfrozen hb1 (b := w.heap.size + 1) (o := 1) (by simp) (by simp [go_sem])
  have f2 := bfrozen hb1 (b := w.heap.size + 1) (o := 2) (by simp) (by simp [go_sem])
  go_wp2_with fail
  refine bodyPost_ret (v := .tuple #[.agg #[.int .u64 0, .int .u64 0, .int .u64 0], .int .i64 cf]) (by simp [results, Tryd.results13, go_sem, c0, c1, c2]) rfl ⟨rfl, ?_⟩
  exact (((below_two hb1).setCell (by simp) _).setCell (by simp) _).setCell (by simp) _

set_option maxHeartbeats 1000000 in
theorem rinv_good (K R : Int) (a b c : Nat) (hA : a ≤ 4294967295) (hB : b ≤ 4294967295) (hC : c ≤ 4294967295) (hck : checkF K R a b c = 0) (w : World) :
    Calls Tryd.prog 13 #[.agg #[.int .i64 K, .int .i64 R, .int .u32 a, .int .u32 b, .int .u32 c]] w fun e w' => ∃ x y z : Nat, CodeInvR R a b c x y z ∧ x ≤ 18446744073709551615 ∧ y ≤ 18446744073709551615 ∧ z ≤ 18446744073709551615 ∧ e = .returned (.tuple #[.agg #[.int .u64 x, .int .u64 y, .int .u64 z], .int .i64 0]) ∧ Below w.heap.size w w' := by
  have HC := hide (rcheck_any K R a b c hA hB hC)
  rw [hck] at HC
  obtain ⟨hhead, hgens, _, _, _⟩ := checkF_zero hck
  have hb0 : b ≠ 0 := hgens.2.1.1
  have HZ1 := hide (rbezout_any a b (by omega) (by omega) hb0)
  have hg := gcd_le (a := a) (b := b) (by omega) (by omega)
  by_cases hR : R = 2
  · have hRb : (R == 2) = true := by rw [hR]; rfl
    have HR := hide hR
    have HLU := hide fun u v (h : Gf2.BezR a b u v) => h.len_u hb0
    have HLV := hide fun u v (h : Gf2.BezR a b u v) => h.len_v hb0
    have hla := len_le64 (x := a) (by omega)
    have hlb := len_le64 (x := b) (by omega)
    clear hck hhead hgens hb0 hR
    go_enter Tryd.func13, Tryd.ntmps13
    go_wp2_with fail
    refine (HC.out _).mono ?_
    rintro e w1 ⟨rfl, hb1⟩
    have hz1 : w.heap.size + 1 < w1.heap.size := by have := hb1.size; simp at this; omega
    have a1 := bcell hb1 (b := w.heap.size) (o := 1) (v := .int .i64 R) (by simp; omega) (by simp [go_sem])
    have a2 := bcell hb1 (b := w.heap.size) (o := 2) (v := .int .u32 a) (by simp; omega) (by simp [go_sem])
    have a3 := bcell hb1 (b := w.heap.size) (o := 3) (v := .int .u32 b) (by simp; omega) (by simp [go_sem])
    have c0 := bcell hb1 (b := w.heap.size + 1) (o := 0) (v := .int .u64 0) (by simp) (by simp [go_sem])
    have c1 := bcell hb1 (b := w.heap.size + 1) (o := 1) (v := .int .u64 0) (by simp) (by simp [go_sem])
    have c2 := bcell hb1 (b := w.heap.size + 1) (o := 2) (v := .int .u64 0) (by simp) (by simp [go_sem])
    have f0 := bfrozen hb1 (b := w.heap.size + 1) (o := 0) (by simp) (by simp [go_sem])
    have f1 := bfrozen hb1 (b := w.heap.size + 1) (o := 1) (by simp) (by simp [go_sem])
    have f2 := bfrozen hb1 (b := w.heap.size + 1) (o := 2) (by simp) (by simp [go_sem])
    go_wp2_with fail
    refine (HZ1.out _).mono ?_
    rintro e w' ⟨u, v, hbz, rfl, rfl⟩
    have hu := le_of_len (x := u) (by have := HLU.out _ _ hbz; omega)
    have hv := le_of_len (x := v) (by have := HLV.out _ _ hbz; omega)
    have HBZ := hide hbz
    clear hbz
    go_wp2_with fail
    refine bodyPost_ret (v := .tuple #[.agg #[.int .u64 u, .int .u64 v, .int .u64 0], .int .i64 0]) (by simp [results, Tryd.results13, go_sem, c0, c1, c2]) rfl ⟨u, v, 0, .inl ⟨HR.out, HBZ.out, rfl⟩, hu, hv, by omega, rfl, ?_⟩
    exact (((below_two hb1).setCell (by simp) _).setCell (by simp) _).setCell (by simp) _
  · have hRb : (R == 2) = false := by simpa using hR
    have HR := hide hR
    have hR3 : R = 3 := Decidable.byContradiction fun e => hhead (.inr (.inr (.inl ⟨hR, e⟩)))
    have hc0 : c ≠ 0 := (hgens.2.2 (by rw [hR3]; rfl)).1
    have HZ2 := hide (rbezout_any (Gf2.gcd a b) c hg (by omega) hc0)
    have HLU := hide fun u v (h : Gf2.BezR a b u v) => h.len_u hb0
    have HLV := hide fun u v (h : Gf2.BezR a b u v) => h.len_v hb0
    have HLU2 := hide fun u v (h : Gf2.BezR (Gf2.gcd a b) c u v) => h.len_u hc0
    have HLV2 := hide fun u v (h : Gf2.BezR (Gf2.gcd a b) c u v) => h.len_v hc0
    have hla := len_le64 (x := a) (by omega)
    have hlb := len_le64 (x := b) (by omega)
    have hlc := len_le64 (x := c) (by omega)
    have hlg := len_le64 hg
    clear hck hhead hgens hb0 hR hR3 hc0
    go_enter Tryd.func13, Tryd.ntmps13
    go_wp2_with fail
    refine (HC.out _).mono ?_
    rintro e w1 ⟨rfl, hb1⟩
    have hz1 : w.heap.size + 1 < w1.heap.size := by have := hb1.size; simp at this; omega
    have a1 := bcell hb1 (b := w.heap.size) (o := 1) (v := .int .i64 R) (by simp; omega) (by simp [go_sem])
    have a2 := bcell hb1 (b := w.heap.size) (o := 2) (v := .int .u32 a) (by simp; omega) (by simp [go_sem])
    have a3 := bcell hb1 (b := w.heap.size) (o := 3) (v := .int .u32 b) (by simp; omega) (by simp [go_sem])
    have a4 := bcell hb1 (b := w.heap.size) (o := 4) (v := .int .u32 c) (by simp; omega) (by simp [go_sem])
    have c0 := bcell hb1 (b := w.heap.size + 1) (o := 0) (v := .int .u64 0) (by simp) (by simp [go_sem])
    have c1 := bcell hb1 (b := w.heap.size + 1) (o := 1) (v := .int .u64 0) (by simp) (by simp [go_sem])
    have c2 := bcell hb1 (b := w.heap.size + 1) (o := 2) (v := .int .u64 0) (by simp) (by simp [go_sem])
    have f0 := bfrozen hb1 (b := w.heap.size + 1) (o := 0) (by simp) (by simp [go_sem])
    have f1 := bfrozen hb1 (b := w.heap.size + 1) (o := 1) (by simp) (by simp [go_sem])
    have f2 := bfrozen hb1 (b := w.heap.size + 1) (o := 2) (by simp) (by simp [go_sem])
    go_wp2_with fail
    refine (HZ1.out _).mono ?_
    rintro e w' ⟨s, t, hbz, rfl, rfl⟩
    have hs := le_of_len (x := s) (by have := HLU.out _ _ hbz; omega)
    have ht := le_of_len (x := t) (by have := HLV.out _ _ hbz; omega)
    have HBZ := hide hbz
    clear hbz
    go_wp2_with fail
    refine (HZ2.out _).mono ?_
    rintro e w' ⟨u, v, hbz, rfl, rfl⟩
    have hu := le_of_len (x := u) (by have := HLU2.out _ _ hbz; omega)
    have hv := le_of_len (x := v) (by have := HLV2.out _ _ hbz; omega)
    have HBZ2 := hide hbz
    clear hbz
    go_wp2_with fail
    refine (product_any u s hu hs _).mono ?_
    rintro e w' ⟨rfl, rfl⟩
    go_wp2_with fail
    refine (product_any u t hu ht _).mono ?_
    rintro e w' ⟨rfl, rfl⟩
    go_wp2_with fail
    refine bodyPost_ret (v := .tuple #[.agg #[.int .u64 (mulL u s), .int .u64 (mulL u t), .int .u64 v], .int .i64 0]) (by simp [results, Tryd.results13, go_sem, c0, c1, c2]) rfl ⟨mulL u s, mulL u t, v, .inr ⟨HR.out, s, t, u, HBZ.out, HBZ2.out, rfl, rfl⟩, mulL_le _ _, mulL_le _ _, hv, rfl, ?_⟩
    exact (((below_two hb1).setCell (by simp) _).setCell (by simp) _).setCell (by simp) _
end Go.Proofs.YtfjaohadjmigoaaDoor
