/- The closure of trellis.Profile: an entry is put where it is less. -/
import Derived.Test.YtpmnbdkncmjafaaRows
import Derived.Test.YtpmnbdkncmjafaaTMap
import Derived.Test.YtpmnbdkncmjafaaStepsGood
namespace Go.Proofs.Ytpmnbdkncmjafaa
open Go.RowKit

theorem putMin_none {D : Nat → Option Nat} {t d : Nat} (h : D t = none) (x : Nat) : (if x = t then some d else D x) = putMin D t d x := by
  unfold putMin; rw [h]
theorem putMin_less {D : Nat → Option Nat} {t d o : Nat} (h : D t = some o) (hd : d < o) (x : Nat) : (if x = t then some d else D x) = putMin D t d x := by
  unfold putMin; rw [h]
  simp only [show min o d = d by omega]
theorem putMin_more {D : Nat → Option Nat} {t d o : Nat} (h : D t = some o) (hd : o ≤ d) (x : Nat) : D x = putMin D t d x := by
  unfold putMin; rw [h]
  simp only [show min o d = o by omega]
  by_cases e : x = t
  · rw [e, if_pos rfl, h]
  · rw [if_neg e]
set_option maxHeartbeats 1000000 in
theorem profput_any (n a b c s x W : Nat) (R : Int) (hR : R = 2 ∨ R = 3) (hn : 2 ≤ n ∧ n ≤ 31) (hA : a ≤ 4294967295) (hB : b ≤ 4294967295) (hC : c ≤ 4294967295) (hs : s ≤ 2147483647) (hx : x ≤ 1) (hW : W ≤ 1000000) (bc bn m N : Nat) (f : Nat → Option Nat) (hN : N < maxLen) (w : World)
    (hbn : bn < w.heap.size) (c0 : w.cell? ⟨bc, 0, none⟩ = some (.int .i64 (n + 1))) (c1 : w.cell? ⟨bc, 1, none⟩ = some (.int .i64 R)) (c2 : w.cell? ⟨bc, 2, none⟩ = some (.int .u32 a)) (c3 : w.cell? ⟨bc, 3, none⟩ = some (.int .u32 b)) (c4 : w.cell? ⟨bc, 4, none⟩ = some (.int .u32 c))
    (q : w.cell? ⟨bn, 0, none⟩ = some (.map (some m))) (hm : MapF mapN w m N f) :
    Calls Try.prog 42 #[.int .u32 s, .int .u8 x, .int .i64 W, .pointer (some ⟨bc, 0, none⟩), .pointer (some ⟨bn, 0, none⟩)] w fun e w' => e = .returned (.tuple #[]) ∧ MapF mapN w' m (N + 1) (putMin f (nxF n s x) (W + wtF R a b c s x)) ∧ w.grownBy w' (some m) := by
  have HS := hide (step_any n a b c s x R hR hn hA hB hC hs hx)
  have HM := hide hm
  have ht : nxF n s x ≤ 4294967295 := by have := nxF_lt n s x; have : 2 ^ n ≤ 2 ^ 31 := Nat.pow_le_pow_right (by omega) (by omega); omega
  have HWt := hide (weight_any (outF (2 * s + x) a) (outF (2 * s + x) b) (third R (outF (2 * s + x) c)) (outF_le _ _) (outF_le _ _) (third_le1 _ (outF_le _ _)))
  have hwl := wtF_le R a b c s x
  change Hid (∀ w, Calls Try.prog 43 _ w fun e w' => e = .returned (.int .i64 ((wtF R a b c s x : Nat) : Int)) ∧ Below w.heap.size w w') at HWt
  change Hid (∀ w, Calls Try.prog 35 _ w fun e w' => e = .returned (.tuple #[.int .u32 ((nxF n s x : Nat) : Int), _]) ∧ Below w.heap.size w w') at HS
  generalize nxF n s x = t at *
  generalize wtF R a b c s x = wt at *
  generalize outF (2 * s + x) a = y0 at *
  generalize outF (2 * s + x) b = y1 at *
  generalize third R (outF (2 * s + x) c) = y2 at *
  clear hm
  obtain ⟨d, hd⟩ : ∃ d, d = W + wt := ⟨_, rfl⟩
  have ed : (W : Int) + (wt : Int) = (d : Int) := by omega
  have hdl : d ≤ 1000003 := by omega
  rw [← hd]
  clear hd
  have hcase : f t = none ∨ (∃ o, f t = some o ∧ d < o) ∨ ∃ o, f t = some o ∧ o ≤ d := by
    cases f t with
    | none => exact .inl rfl
    | some o => rcases Nat.lt_or_ge d o with h | h; exact .inr (.inl ⟨o, rfl, h⟩); exact .inr (.inr ⟨o, rfl, h⟩)
  go_enter Try.func42, Try.ntmps42
  go_wp2_with fail
  refine (HS.out _).mono ?_
  rintro e w1 ⟨rfl, hb1⟩
  have hz1 := hb1.size
  have q1 := bcell hb1 hbn q
  have r0 : (w1.alloc (.cells #[.int .u8 y0, .int .u8 y1, .int .u8 y2] 26)).cell? ⟨w1.heap.size, 0, none⟩ = some (.int .u8 y0) := by simp [go_sem]
  go_wp2_with fail
  refine (HWt.out _).mono ?_
  rintro e w2 ⟨rfl, hb2⟩
  have q2 := bcell_mid hb2 (by omega) q1
  have hb02 := below_mid hb1 hb2
  have HM2 := hide (HM.out.below hb02)
  clear q q1
  have HB := hide hb02
  clear hb02
  rcases hcase with hf | ⟨o, hf, hlt⟩ | ⟨o, hf, hge⟩
  · go_wp2_with (first | (at_lookup; refine wpList_lookF_none mapN rfl _ _ rfl rfl HM2.out t rfl ht hf (.int .i64 0) rfl ?_) | (at_mapUpdate; refine wpList_putF mapN rfl _ _ _ rfl rfl HM2.out hN t rfl ht d rfl trivial ?_; intro w3 hm3 hg3) | fail)
    go_end0
    exact ⟨rfl, hm3.congr (fun x _ => putMin_none hf x), World.grownBy.andThen (grownBy_of HB.out) hg3 (fun j h => .inr h)⟩
  · go_wp2_with (first | (at_lookup; refine wpList_lookF_some mapN rfl _ _ rfl rfl HM2.out t rfl ht o hf (.int .i64 o) rfl ?_) | (at_mapUpdate; refine wpList_putF mapN rfl _ _ _ rfl rfl HM2.out hN t rfl ht d rfl trivial ?_; intro w3 hm3 hg3) | fail)
    go_end0
    exact ⟨rfl, hm3.congr (fun x _ => putMin_less hf hlt x), World.grownBy.andThen (grownBy_of HB.out) hg3 (fun j h => .inr h)⟩
  · go_wp2_with (first | (at_lookup; refine wpList_lookF_some mapN rfl _ _ rfl rfl HM2.out t rfl ht o hf (.int .i64 o) rfl ?_) | fail)
    go_end0
    exact ⟨rfl, (HM2.out.mono (Nat.le_succ _)).congr (fun x _ => putMin_more hf hge x), grownBy_of HB.out⟩
end Go.Proofs.Ytpmnbdkncmjafaa
