/- code.Reverse, walked. -/
import Derived.Test.YtfjaohadjmigoaaDoorRows
import Derived.Test.YtfjaohadjmigoaaDoorGf2
import Derived.Test.YtfjaohadjmigoaaDoorWord
import Derived.Test.YtfjaohadjmigoaaDoorLong
import Derived.Test.YtfjaohadjmigoaaDoorPoly
import Derived.Test.YtfjaohadjmigoaaDoorMul
import Derived.Test.YtfjaohadjmigoaaDoorDiv
import Derived.Test.YtfjaohadjmigoaaDoorRef2W
import Derived.Test.YtfjaohadjmigoaaDoorRef2
import Derived.Test.YtfjaohadjmigoaaDoorCheckF
import Derived.Test.YtfjaohadjmigoaaDoorEval
import Derived.Test.YtfjaohadjmigoaaDoorCode
import Derived.Test.YtfjaohadjmigoaaDoorRCheck
import Derived.Test.YtfjaohadjmigoaaDoorNames
import Derived.Test.YtfjaohadjmigoaaDoorNamed
import Derived.Test.YtfjaohadjmigoaaDoorEq
import Derived.Test.YtfjaohadjmigoaaDoorKnows
import Derived.Test.YtfjaohadjmigoaaDoorPop
import Derived.Test.YtfjaohadjmigoaaDoorOnes
import Derived.Test.YtfjaohadjmigoaaDoorRight1
import Derived.Test.YtfjaohadjmigoaaDoorBytes
import Derived.Test.YtfjaohadjmigoaaDoorCodeB
import Derived.Test.YtfjaohadjmigoaaDoorRevM
import Derived.Test.YtfjaohadjmigoaaDoorRevC
import Derived.Test.YtfjaohadjmigoaaDoorRevK
import Derived.Test.YtfjaohadjmigoaaDoorRevW
import Derived.BigQuiet
import Derived.Deep.QuietTactic
namespace Go.Proofs.YtfjaohadjmigoaaDoor
open Go.RowKit

theorem quiet_rv {P : Program} {f : FuncId} {args : Array Value} {w : World} {n : Nat} {v : Value}
    (h : Calls P f args (w.drewN n) fun e w' => e = .returned v ∧ w.drewN n = w') : Calls P f args (w.drewN n) fun e w'' => e = .returned v ∧ ∃ m, w'' = w.drewN m :=
  h.mono fun _ _ ⟨he, hm⟩ => ⟨he, n, hm.symm⟩
theorem quiet_rv' {P : Program} {f : FuncId} {args : Array Value} {w : World} {d n : Nat} {v : Value}
    (h : Calls P f args (w.drewN (d + n)) fun e w' => e = .returned v ∧ w.drewN (d + n) = w') : Calls P f args (w.drewN (d + n)) fun e w'' => e = .returned v ∧ ∃ m, w'' = w.drewN (d + m) :=
  h.mono fun _ _ ⟨he, hm⟩ => ⟨he, n, hm.symm⟩
theorem bfz {W w1 : World} {B : Nat} (hb : Below B W w1) {b o : Nat} (h : b < B) (hf : W.frozen? ⟨b, o, none⟩ = false) : w1.frozen? ⟨b, o, none⟩ = false := (hb.frozen (p := ⟨b, o, none⟩) h).trans hf
set_option maxHeartbeats 1000000 in
theorem crev_bad (K R : Int) (a b c : Nat) (hA : a ≤ 4294967295) (hB : b ≤ 4294967295) (hC : c ≤ 4294967295) (hne : checkF K R a b c ≠ 0) (w : World) :
    Calls Tryd.prog 5 #[.agg #[.int .i64 K, .int .i64 R, .int .u32 a, .int .u32 b, .int .u32 c]] w fun e w' => e = .returned (.tuple #[.agg #[.int .i64 0, .int .i64 0, .int .u32 0, .int .u32 0, .int .u32 0], .int .i64 (checkF K R a b c)]) ∧ Below w.heap.size w w' := by
  have HC := hide (check_any K R a b c hA hB hC)
  have hb := nzBne hne
  generalize checkF K R a b c = cf at *
  clear hne
  go_enter Tryd.func5, Tryd.ntmps5
  go_wp2_with fail
  refine (HC.out _).mono ?_
  rintro e w1 ⟨rfl, hb1⟩
  have k1 := bk hb1 (w.heap.size + 1) (by simp)
  have hf := fun o => bfz hb1 (b := w.heap.size + 1) (o := o) (by simp) (by simp [go_sem])
  have HB1 := hide (below_two hb1)
  have hz := HB1.out.size
  clear hb1
  go_wp2_with fail
  refine bodyPost_ret (v := .tuple #[.agg #[.int .i64 0, .int .i64 0, .int .u32 0, .int .u32 0, .int .u32 0], .int .i64 cf]) (by simp [results, Tryd.results5, go_sem, k1]) rfl ⟨rfl, ?_⟩
  exact ((((HB1.out.setCell (p := ⟨w.heap.size + 1, 0, none⟩) (by simp) _).setCell (p := ⟨w.heap.size + 1, 1, none⟩) (by simp) _).setCell (p := ⟨w.heap.size + 1, 2, none⟩) (by simp) _).setCell (p := ⟨w.heap.size + 1, 3, none⟩) (by simp) _).setCell (p := ⟨w.heap.size + 1, 4, none⟩) (by simp) _
theorem CodeB.set {w : World} {g : Nat} {K R : Int} {a b c : Nat} (h : CodeB w g K R a b c) (x : Nat) :
    CodeB (w.setCell ⟨g, 2, none⟩ (.int .u32 x)) g K R x b c ∧ CodeB (w.setCell ⟨g, 3, none⟩ (.int .u32 x)) g K R a x c ∧ CodeB (w.setCell ⟨g, 4, none⟩ (.int .u32 x)) g K R a b x :=
  ⟨heap_setCell_same w g 2 _ _ _ h, heap_setCell_same w g 3 _ _ _ h, heap_setCell_same w g 4 _ _ _ h⟩
theorem len_of_good {n x : Nat} (h : goodG (n + 1) x) : Gf2.len x ≤ n + 1 := Gf2.len_le h.2
theorem revP_le {n x : Nat} (hn : n ≤ 31) : Rev.revP n x ≤ 4294967295 := by
  have h1 := Rev.revP_lt n x
  have h2 : 2 ^ (n + 1) ≤ 2 ^ 32 := Nat.pow_le_pow_right (by omega) (by omega)
  omega
/-- the two boxes while the generators are turned round -/
structure RvSt (w u : World) (K R : Int) (a b c : Nat) : Prop where
  cb : CodeB u w.heap.size K R a b c
  res : CodeB u (w.heap.size + 1) 0 0 0 0 0
  below : Below w.heap.size w u
theorem RvSt.drewN {w u : World} {K R : Int} {a b c : Nat} (h : RvSt w u K R a b c) (n : Nat) : RvSt w (u.drewN n) K R a b c := ⟨h.cb, h.res, below_drewN h.below n⟩
theorem RvSt.set {w u : World} {K R : Int} {a b c : Nat} (h : RvSt w u K R a b c) (x : Nat) :
    RvSt w (u.setCell ⟨w.heap.size, 2, none⟩ (.int .u32 x)) K R x b c ∧ RvSt w (u.setCell ⟨w.heap.size, 3, none⟩ (.int .u32 x)) K R a x c ∧ RvSt w (u.setCell ⟨w.heap.size, 4, none⟩ (.int .u32 x)) K R a b x :=
  ⟨⟨(h.cb.set x).1, h.res.far (by simp) _, h.below.setCell (Nat.le_refl _) _⟩, ⟨(h.cb.set x).2.1, h.res.far (by simp) _, h.below.setCell (Nat.le_refl _) _⟩, ⟨(h.cb.set x).2.2, h.res.far (by simp) _, h.below.setCell (Nat.le_refl _) _⟩⟩
theorem CodeB.frz {w : World} {g : Nat} {K R : Int} {a b c : Nat} (h : CodeB w g K R a b c) (o : Nat) : w.frozen? ⟨g, o, none⟩ = false := frozen_of_row _ _ _ _ _ h
set_option maxRecDepth 100000 in
set_option maxHeartbeats 4000000 in
theorem crev_two (n a b c : Nat) (hn : 2 ≤ n ∧ n ≤ 31) (hA : a ≤ 4294967295) (hB : b ≤ 4294967295) (hC : c ≤ 4294967295) (hck : checkF (n + 1) 2 a b c = 0) (w : World) :
    Calls Tryd.prog 5 #[.agg #[.int .i64 (n + 1), .int .i64 2, .int .u32 a, .int .u32 b, .int .u32 c]] w fun e w' => e = .returned (.tuple #[.agg #[.int .i64 (n + 1), .int .i64 2, .int .u32 (Rev.revP n a : Nat), .int .u32 (Rev.revP n b : Nat), .int .u32 (c : Nat)], .int .i64 0]) ∧ Below w.heap.size w w' := by
  have HC := hide (check_any (n + 1) 2 a b c hA hB hC)
  rw [hck] at HC
  obtain ⟨_, hgg, _, _, _⟩ := checkF_zero hck
  rw [show ((n : Int) + 1).toNat = n + 1 by omega] at hgg
  have HP0 := hide (prev_ok a n (by omega) (len_of_good hgg.1) (by omega))
  have b0 := revP_le (x := a) hn.2
  have HP1 := hide (prev_ok b n (by omega) (len_of_good hgg.2.1) (by omega))
  have b1 := revP_le (x := b) hn.2
  generalize Rev.revP n a = x at *
  generalize Rev.revP n b = y at *
  have hwn : IntKind.i64.wrap ((n : Int) + 1 - 1) = n := by rw [IntWalk.i64_in _ ⟨by omega, by omega⟩]; omega
  have hwn2 : IntKind.i64.wrap (n : Int) = n := IntWalk.i64_in _ ⟨by omega, by omega⟩
  have hw0 : IntKind.u64.wrap (a : Int) = a := IntWalk.u64_in _ ⟨by omega, by omega⟩
  have hw1 : IntKind.u64.wrap (b : Int) = b := IntWalk.u64_in _ ⟨by omega, by omega⟩
  clear hck hgg
  go_enter Tryd.func5, Tryd.ntmps5
  go_wp2_with fail
  have h0 : RvSt w ((w.alloc (.cells #[.int .i64 (n + 1), .int .i64 2, .int .u32 a, .int .u32 b, .int .u32 c] 25)).alloc (.cells #[.int .i64 0, .int .i64 0, .int .u32 0, .int .u32 0, .int .u32 0] 25)) (n + 1) 2 a b c := ⟨(CodeB.new w _ _ a b c).alloc _, by have := CodeB.new (w.alloc (.cells #[.int .i64 (n + 1), .int .i64 2, .int .u32 a, .int .u32 b, .int .u32 c] 25)) 0 0 0 0 0; simpa [CodeB] using this, ((Below.refl _ _).alloc (Nat.le_refl _) _).alloc (by simp) _⟩
  have hzz : w.heap.size + 1 < ((w.alloc (.cells #[.int .i64 (n + 1), .int .i64 2, .int .u32 a, .int .u32 b, .int .u32 c] 25)).alloc (.cells #[.int .i64 0, .int .i64 0, .int .u32 0, .int .u32 0, .int .u32 0] 25)).heap.size := by simp
  generalize ((w.alloc (.cells #[.int .i64 (n + 1), .int .i64 2, .int .u32 a, .int .u32 b, .int .u32 c] 25)).alloc (.cells #[.int .i64 0, .int .i64 0, .int .u32 0, .int .u32 0, .int .u32 0] 25)) = W0 at *
  refine (HC.out _).mono ?_
  rintro e w1 ⟨rfl, hb1⟩
  have HS := hide (show RvSt w w1 (n + 1) 2 a b c from ⟨h0.cb.keep hb1 h0.cb.lt, h0.res.keep hb1 hzz, h0.below.trans (hb1.mono h0.below.size)⟩)
  clear h0 hb1 hzz
  obtain ⟨s0, s1, s2, s3, s4⟩ := HS.out.cb.cells
  go_wp2_with fail
  clear s0 s1 s2 s3 s4
  go_loopw [16] (fun i u => (i = .int .i64 0 ∧ Hid (RvSt w u (n + 1) 2 a b c)) ∨ (i = .int .i64 1 ∧ Hid (RvSt w u (n + 1) 2 x b c)) ∨ (i = .int .i64 2 ∧ Hid (RvSt w u (n + 1) 2 x y c))) (fun i _ => 2 - (intOf i).toNat)
  case atStart => exact .inl ⟨rfl, HS⟩
  case round =>
    rename World => wr
    rcases hrel with ⟨rfl, hs⟩ | ⟨rfl, hs⟩ | ⟨rfl, hs⟩
    · obtain ⟨s0, s1, s2, s3, s4⟩ := hs.out.cb.cells
      have f2 := hs.out.cb.frz 2
      have HN := hide fun (m : Nat) => ((hs.out.drewN m).set x).1
      have hcv : IntKind.u32.wrap (x : Int) = x := by rw [IntKind.wrap_u32]; omega
      go_wp2_with fail
      go_quiet ((go_at_call 16; first | exact quiet_rv (HP0.out _) | exact quiet_rv' (HP0.out _)))
      go_wp2_with fail
      go_roundw
      case rel => exact .inr (.inl ⟨rfl, hide (HN.out _)⟩)
      case measure => simp [intOf]
    · obtain ⟨s0, s1, s2, s3, s4⟩ := hs.out.cb.cells
      have f3 := hs.out.cb.frz 3
      have HN := hide fun (m : Nat) => ((hs.out.drewN m).set y).2.1
      have hcv : IntKind.u32.wrap (y : Int) = y := by rw [IntKind.wrap_u32]; omega
      go_wp2_with fail
      go_quiet ((go_at_call 16; first | exact quiet_rv (HP1.out _) | exact quiet_rv' (HP1.out _)))
      go_wp2_with fail
      go_roundw
      case rel => exact .inr (.inr (⟨rfl, hide (HN.out _)⟩))
      case measure => simp [intOf]
    · obtain ⟨s0, s1, s2, s3, s4⟩ := hs.out.cb.cells
      obtain ⟨r0, r1, r2, r3, r4⟩ := hs.out.res.cells
      have q0 := hs.out.res.frz 0
      have q1 := hs.out.res.frz 1
      have q2 := hs.out.res.frz 2
      have q3 := hs.out.res.frz 3
      have q4 := hs.out.res.frz 4
      have HB := hide hs.out.below
      have hl1 := hs.out.res.lt
      clear hs
      go_wp2_with fail
      refine bodyPost_ret (v := .tuple #[.agg #[.int .i64 (n + 1), .int .i64 2, .int .u32 x, .int .u32 y, .int .u32 c], .int .i64 0]) (by simp [results, Tryd.results5, go_sem, *]) rfl ⟨rfl, ?_⟩
      exact ((((HB.out.setCell (p := ⟨w.heap.size + 1, 0, none⟩) (by simp) _).setCell (p := ⟨w.heap.size + 1, 1, none⟩) (by simp) _).setCell (p := ⟨w.heap.size + 1, 2, none⟩) (by simp) _).setCell (p := ⟨w.heap.size + 1, 3, none⟩) (by simp) _).setCell (p := ⟨w.heap.size + 1, 4, none⟩) (by simp) _
set_option maxRecDepth 100000 in
set_option maxHeartbeats 4000000 in
theorem crev_three (n a b c : Nat) (hn : 2 ≤ n ∧ n ≤ 31) (hA : a ≤ 4294967295) (hB : b ≤ 4294967295) (hC : c ≤ 4294967295) (hck : checkF (n + 1) 3 a b c = 0) (w : World) :
    Calls Tryd.prog 5 #[.agg #[.int .i64 (n + 1), .int .i64 3, .int .u32 a, .int .u32 b, .int .u32 c]] w fun e w' => e = .returned (.tuple #[.agg #[.int .i64 (n + 1), .int .i64 3, .int .u32 (Rev.revP n a : Nat), .int .u32 (Rev.revP n b : Nat), .int .u32 (Rev.revP n c : Nat)], .int .i64 0]) ∧ Below w.heap.size w w' := by
  have HC := hide (check_any (n + 1) 3 a b c hA hB hC)
  rw [hck] at HC
  obtain ⟨_, hgg, _, _, _⟩ := checkF_zero hck
  rw [show ((n : Int) + 1).toNat = n + 1 by omega] at hgg
  have HP0 := hide (prev_ok a n (by omega) (len_of_good hgg.1) (by omega))
  have b0 := revP_le (x := a) hn.2
  have HP1 := hide (prev_ok b n (by omega) (len_of_good hgg.2.1) (by omega))
  have b1 := revP_le (x := b) hn.2
  have HP2 := hide (prev_ok c n (by omega) (len_of_good (hgg.2.2 rfl)) (by omega))
  have b2 := revP_le (x := c) hn.2
  generalize Rev.revP n a = x at *
  generalize Rev.revP n b = y at *
  generalize Rev.revP n c = z at *
  have hwn : IntKind.i64.wrap ((n : Int) + 1 - 1) = n := by rw [IntWalk.i64_in _ ⟨by omega, by omega⟩]; omega
  have hwn2 : IntKind.i64.wrap (n : Int) = n := IntWalk.i64_in _ ⟨by omega, by omega⟩
  have hw0 : IntKind.u64.wrap (a : Int) = a := IntWalk.u64_in _ ⟨by omega, by omega⟩
  have hw1 : IntKind.u64.wrap (b : Int) = b := IntWalk.u64_in _ ⟨by omega, by omega⟩
  have hw2 : IntKind.u64.wrap (c : Int) = c := IntWalk.u64_in _ ⟨by omega, by omega⟩
  clear hck hgg
  go_enter Tryd.func5, Tryd.ntmps5
  go_wp2_with fail
  have h0 : RvSt w ((w.alloc (.cells #[.int .i64 (n + 1), .int .i64 3, .int .u32 a, .int .u32 b, .int .u32 c] 25)).alloc (.cells #[.int .i64 0, .int .i64 0, .int .u32 0, .int .u32 0, .int .u32 0] 25)) (n + 1) 3 a b c := ⟨(CodeB.new w _ _ a b c).alloc _, by have := CodeB.new (w.alloc (.cells #[.int .i64 (n + 1), .int .i64 3, .int .u32 a, .int .u32 b, .int .u32 c] 25)) 0 0 0 0 0; simpa [CodeB] using this, ((Below.refl _ _).alloc (Nat.le_refl _) _).alloc (by simp) _⟩
  have hzz : w.heap.size + 1 < ((w.alloc (.cells #[.int .i64 (n + 1), .int .i64 3, .int .u32 a, .int .u32 b, .int .u32 c] 25)).alloc (.cells #[.int .i64 0, .int .i64 0, .int .u32 0, .int .u32 0, .int .u32 0] 25)).heap.size := by simp
  generalize ((w.alloc (.cells #[.int .i64 (n + 1), .int .i64 3, .int .u32 a, .int .u32 b, .int .u32 c] 25)).alloc (.cells #[.int .i64 0, .int .i64 0, .int .u32 0, .int .u32 0, .int .u32 0] 25)) = W0 at *
  refine (HC.out _).mono ?_
  rintro e w1 ⟨rfl, hb1⟩
  have HS := hide (show RvSt w w1 (n + 1) 3 a b c from ⟨h0.cb.keep hb1 h0.cb.lt, h0.res.keep hb1 hzz, h0.below.trans (hb1.mono h0.below.size)⟩)
  clear h0 hb1 hzz
  obtain ⟨s0, s1, s2, s3, s4⟩ := HS.out.cb.cells
  go_wp2_with fail
  clear s0 s1 s2 s3 s4
  go_loopw [16] (fun i u => (i = .int .i64 0 ∧ Hid (RvSt w u (n + 1) 3 a b c)) ∨ (i = .int .i64 1 ∧ Hid (RvSt w u (n + 1) 3 x b c)) ∨ (i = .int .i64 2 ∧ Hid (RvSt w u (n + 1) 3 x y c)) ∨ (i = .int .i64 3 ∧ Hid (RvSt w u (n + 1) 3 x y z))) (fun i _ => 3 - (intOf i).toNat)
  case atStart => exact .inl ⟨rfl, HS⟩
  case round =>
    rename World => wr
    rcases hrel with ⟨rfl, hs⟩ | ⟨rfl, hs⟩ | ⟨rfl, hs⟩ | ⟨rfl, hs⟩
    · obtain ⟨s0, s1, s2, s3, s4⟩ := hs.out.cb.cells
      have f2 := hs.out.cb.frz 2
      have HN := hide fun (m : Nat) => ((hs.out.drewN m).set x).1
      have hcv : IntKind.u32.wrap (x : Int) = x := by rw [IntKind.wrap_u32]; omega
      go_wp2_with fail
      go_quiet ((go_at_call 16; first | exact quiet_rv (HP0.out _) | exact quiet_rv' (HP0.out _)))
      go_wp2_with fail
      go_roundw
      case rel => exact .inr (.inl ⟨rfl, hide (HN.out _)⟩)
      case measure => simp [intOf]
    · obtain ⟨s0, s1, s2, s3, s4⟩ := hs.out.cb.cells
      have f3 := hs.out.cb.frz 3
      have HN := hide fun (m : Nat) => ((hs.out.drewN m).set y).2.1
      have hcv : IntKind.u32.wrap (y : Int) = y := by rw [IntKind.wrap_u32]; omega
      go_wp2_with fail
      go_quiet ((go_at_call 16; first | exact quiet_rv (HP1.out _) | exact quiet_rv' (HP1.out _)))
      go_wp2_with fail
      go_roundw
      case rel => exact .inr (.inr (.inl ⟨rfl, hide (HN.out _)⟩))
      case measure => simp [intOf]
    · obtain ⟨s0, s1, s2, s3, s4⟩ := hs.out.cb.cells
      have f4 := hs.out.cb.frz 4
      have HN := hide fun (m : Nat) => ((hs.out.drewN m).set z).2.2
      have hcv : IntKind.u32.wrap (z : Int) = z := by rw [IntKind.wrap_u32]; omega
      go_wp2_with fail
      go_quiet ((go_at_call 16; first | exact quiet_rv (HP2.out _) | exact quiet_rv' (HP2.out _)))
      go_wp2_with fail
      go_roundw
      case rel => exact .inr (.inr (.inr (⟨rfl, hide (HN.out _)⟩)))
      case measure => simp [intOf]
    · obtain ⟨s0, s1, s2, s3, s4⟩ := hs.out.cb.cells
      obtain ⟨r0, r1, r2, r3, r4⟩ := hs.out.res.cells
      have q0 := hs.out.res.frz 0
      have q1 := hs.out.res.frz 1
      have q2 := hs.out.res.frz 2
      have q3 := hs.out.res.frz 3
      have q4 := hs.out.res.frz 4
      have HB := hide hs.out.below
      have hl1 := hs.out.res.lt
      clear hs
      go_wp2_with fail
      refine bodyPost_ret (v := .tuple #[.agg #[.int .i64 (n + 1), .int .i64 3, .int .u32 x, .int .u32 y, .int .u32 z], .int .i64 0]) (by simp [results, Tryd.results5, go_sem, *]) rfl ⟨rfl, ?_⟩
      exact ((((HB.out.setCell (p := ⟨w.heap.size + 1, 0, none⟩) (by simp) _).setCell (p := ⟨w.heap.size + 1, 1, none⟩) (by simp) _).setCell (p := ⟨w.heap.size + 1, 2, none⟩) (by simp) _).setCell (p := ⟨w.heap.size + 1, 3, none⟩) (by simp) _).setCell (p := ⟨w.heap.size + 1, 4, none⟩) (by simp) _
/-- what Reverse answers of a code that may be -/
theorem crev_good (n r a b c : Nat) (hr : r = 2 ∨ r = 3) (hn : 2 ≤ n ∧ n ≤ 31) (hA : a ≤ 4294967295) (hB : b ≤ 4294967295) (hC : c ≤ 4294967295) (hck : checkF (n + 1) r a b c = 0) (w : World) :
    Calls Tryd.prog 5 #[.agg #[.int .i64 (n + 1), .int .i64 r, .int .u32 a, .int .u32 b, .int .u32 c]] w fun e w' => e = .returned (.tuple #[.agg #[.int .i64 (n + 1), .int .i64 r, .int .u32 (Rev.revP n a : Nat), .int .u32 (Rev.revP n b : Nat), .int .u32 (revC r n c : Nat)], .int .i64 0]) ∧ Below w.heap.size w w' := by
  rcases hr with rfl | rfl
  · exact crev_two n a b c hn hA hB hC hck w
  · exact crev_three n a b c hn hA hB hC hck w
end Go.Proofs.YtfjaohadjmigoaaDoor
