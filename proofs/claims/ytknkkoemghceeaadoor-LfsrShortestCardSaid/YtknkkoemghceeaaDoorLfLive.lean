/- (*Runner).Skip, State; outpostlaw04.small, live. -/
import Derived.Test.YtknkkoemghceeaaDoorRows
import Derived.Test.YtknkkoemghceeaaDoorLfJump
import Derived.Test.YtknkkoemghceeaaDoorLfBits
import Derived.Test.YtknkkoemghceeaaDoorLfPeriod
import Derived.Test.YtknkkoemghceeaaDoorOwn4
import Derived.Test.YtknkkoemghceeaaDoorLit
namespace Go.Proofs.YtknkkoemghceeaaDoor
open Go.RowKit

theorem RegL.set3 {w : World} {g : Nat} {D : Int} {T S : Nat} (h : RegL w g D T S) (t : Nat) : RegL (((w.setCell ⟨g, 0, none⟩ (.int .i64 D)).setCell ⟨g, 1, none⟩ (.int .u64 T)).setCell ⟨g, 2, none⟩ (.int .u64 (t : Nat))) g D T t := by
  obtain ⟨ty, h⟩ := h
  exact ⟨ty, heap_setCell_same _ g 2 _ ty _ (heap_setCell_same _ g 1 _ ty _ (heap_setCell_same w g 0 _ ty _ h))⟩
set_option maxHeartbeats 400000 in
theorem lstate_good (n T S g : Nat) (hg : GoodL n T S) (w : World) (hr : RegL w g n T S) :
    Calls Tryd.prog 36 #[.pointer (some ⟨g, 0, none⟩)] w fun e w' => e = .returned (.int .u64 S) ∧ w = w' := by
  have HN := hide (lnone_good n T S g hg w hr)
  obtain ⟨hlt, q0, q1, q2, fz⟩ := hr.parts
  clear hr hg
  go_enter Tryd.func36, Tryd.ntmps36
  go_wp2_with fail
  refine HN.out.mono ?_
  rintro e w' ⟨rfl, rfl⟩
  go_wp2_with fail
  go_ret
  exact ⟨rfl, rfl⟩
set_option maxHeartbeats 400000 in
theorem lskip_good (n T S g K : Nat) (hg : GoodL n T S) (hK : K ≤ 18446744073709551615) (w : World) (hr : RegL w g n T S) (ht : TabW w) :
    Calls Tryd.prog 34 #[.pointer (some ⟨g, 0, none⟩), .int .u64 K] w fun e w' => e = .returned (.tuple #[]) ∧ RegL w' g n T (Gf2.stpN n T K S) ∧ w.grownBy w' (some g) := by
  have HN := hide (lnone_good n T S g hg w hr)
  have HJ := hide (jump_good n T S K hg hK w ht)
  have HR := hide hr
  obtain ⟨hlt, q0, q1, q2, fz⟩ := hr.parts
  have f0 : w.frozen? ⟨g, 0, none⟩ = false := by obtain ⟨ty, h⟩ := hr; exact frozen_of_row w g 0 _ ty h
  have f1 : w.frozen? ⟨g, 1, none⟩ = false := by obtain ⟨ty, h⟩ := hr; exact frozen_of_row w g 1 _ ty h
  generalize Gf2.stpN n T K S = S' at *
  clear hr hg
  go_enter Tryd.func34, Tryd.ntmps34
  go_wp2_with fail
  refine HN.out.mono ?_
  rintro e w' ⟨rfl, rfl⟩
  go_wp2_with fail
  refine HJ.out.mono ?_
  rintro e w1 ⟨rfl, hb1⟩
  have HR1 := hide ((HR.out.below hb1 hlt).set3 S')
  have HG1 := hide (grownBy_set (grownBy_set (grownBy_set (grownBy_of (row := some g) hb1) ⟨g, 0, none⟩ (.int .i64 n) (.inl rfl)) ⟨g, 1, none⟩ (.int .u64 T) (.inl rfl)) ⟨g, 2, none⟩ (.int .u64 S') (.inl rfl))
  have d0 := bcell hb1 hlt q0
  have d1 := bcell hb1 hlt q1
  have d2 := bcell hb1 hlt q2
  have e0 := bfrozen hb1 hlt f0
  have e1 := bfrozen hb1 hlt f1
  have e2 := bfrozen hb1 hlt fz
  clear hb1
  go_wp2_with fail
  go_end0
  exact ⟨rfl, HR1.out, HG1.out⟩
theorem lsmall_any (w : World) :
    Calls Tryd.prog 62 #[] w fun e w' => e = .returned (.agg #[.int .i64 3, .int .u64 3, .int .u64 1]) ∧ Below w.heap.size w w' := by
  go_enter Tryd.func62, Tryd.ntmps62
  go_wp2_with fail
  refine bodyPost_ret (v := .agg #[.int .i64 3, .int .u64 3, .int .u64 1]) (by simp [results, Tryd.results62, go_sem]) rfl ⟨rfl, ?_⟩
  exact (Below.refl _ _).alloc (Nat.le_refl _) _
theorem small_good : GoodL 3 3 1 := ⟨by decide, by decide, by decide, by decide, by decide, by decide⟩
theorem small_bits : firstL 3 3 1 7 = [1, 0, 0, 1, 0, 1, 1] := by decide +kernel
theorem small_per : Gf2.Per 3 3 1 7 := ⟨by decide, by decide +kernel, fun m h1 h2 => by
  have : m = 1 ∨ m = 2 ∨ m = 3 ∨ m = 4 ∨ m = 5 ∨ m = 6 := by omega
  rcases this with rfl | rfl | rfl | rfl | rfl | rfl <;> decide +kernel⟩
theorem small_next : Gf2.stpN 3 3 3 1 % 2 = 1 := by decide +kernel
set_option maxRecDepth 100000 in
set_option maxHeartbeats 2000000 in
theorem llive_any (w : World) (ht : TabW w) :
    Calls Tryd.prog 24 #[] w fun e w' => e = .returned (.bool true) ∧ Below w.heap.size w w' := by
  have HBI := hide (lbits_ok 3 3 1 small_good 7 (by omega))
  rw [small_bits] at HBI
  have HPE := hide (lperiod_ok 3 3 1 7 small_good small_per (by omega))
  have HSE := hide (lseries_good 3 3 1 small_good)
  have HSK := hide fun (g : Nat) (W : World) (hr : RegL W g ((3 : Nat) : Int) 3 1) (ht : TabW W) => lskip_good 3 3 1 g 3 small_good (by omega) W hr ht
  have HNX := hide fun (g : Nat) (W : World) (hr : RegL W g ((3 : Nat) : Int) 3 (Gf2.stpN 3 3 3 1)) => lnext_good 3 3 _ g (small_good.stpN 3) W hr
  rw [small_next] at HNX
  have HT := hide ht
  clear ht
  go_enter Tryd.func24, Tryd.ntmps24
  go_wp2_with fail
  refine (lsmall_any _).mono ?_
  rintro e w1 ⟨rfl, hb1⟩
  go_wp2_with fail
  refine (HBI.out _).mono ?_
  rintro e w2 ⟨v2, rfl, ho2, hb2⟩
  obtain ⟨al, cl, rfl, rl, gl⟩ := ho2.rowg
  have RL := hide rl
  have GL := hide gl
  have HB2 := hide (below_then hb1 hb2)
  clear ho2 rl hb1 hb2 gl
  go_wp2_with fail
  refine (lsmall_any _).mono ?_
  rintro e w3 ⟨rfl, hb3⟩
  go_wp2_with fail
  refine (HPE.out _).mono ?_
  rintro e w4 ⟨rfl, hb4⟩
  have HB4 := hide (below_then hb3 hb4)
  clear hb3 hb4
  go_wp2_with fail
  refine (lsmall_any _).mono ?_
  rintro e w5 ⟨rfl, hb5⟩
  go_wp2_with fail
  refine (HSE.out _).mono ?_
  rintro e w6 ⟨g, rfl, hr6, hg6, hb6⟩
  have HB6 := hide (below_then HB4.out (below_then hb5 hb6))
  have HB26 := hide (below_then HB2.out HB6.out)
  have RL6 := hide (RL.out.below HB6.out)
  have HR6 := hide hr6
  have hz5 : w2.heap.size ≤ g := by have := HB4.out.size; have := hb5.size; omega
  have hz2 := HB2.out.size
  clear hb5 hb6 hr6
  go_wp2_with fail
  refine (num_any _ _).mono ?_
  rintro e w' ⟨rfl, rfl⟩
  go_wp2_with fail
  refine (HSK.out g _ HR6.out (HT.out.below HB26.out)).mono ?_
  rintro e w7 ⟨rfl, hr7, hg7⟩
  have RL7 := hide (RL6.out.grown hg7 (fun b off e h => by have := GL.out b off e; have := Option.some.inj h; omega))
  have HB7 := hide (HB26.out.grown hg7 HB26.out.size (fun k e => by have := Option.some.inj e; omega))
  have HR7 := hide hr7
  clear hr7 hg7
  go_wp2_with fail
  refine (num_any _ _).mono ?_
  rintro e w' ⟨rfl, rfl⟩
  go_wp2_with fail
  refine (same_yes _ _ _ _ _ _ [1, 0, 0, 1, 0, 1, 1] rfl rfl _ (RL7.out.alloc _) ?hl3).mono ?_
  case hl3 => exact RowA.litAt _ [1, 0, 0, 1, 0, 1, 1] _ (by simp)
  rintro e w' ⟨rfl, rfl⟩
  go_wp2_with fail
  refine (num_any _ _).mono ?_
  rintro e w' ⟨rfl, rfl⟩
  go_wp2_with fail
  refine (HNX.out g _ (HR7.out.alloc _)).mono ?_
  rintro e w8 ⟨rfl, _, hg8⟩
  have HB8 := hide ((HB7.out.alloc HB7.out.size (.cells (bytesV [1, 0, 0, 1, 0, 1, 1]).toArray 5)).grown hg8 (by have := HB7.out.size; simp; omega) (fun k e => by have := Option.some.inj e; omega))
  clear hg8
  go_wp2_with fail
  go_ret
  exact ⟨rfl, HB8.out⟩
end Go.Proofs.YtknkkoemghceeaaDoor
