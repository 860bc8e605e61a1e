/- outpostref07.loops, walked. -/
import Derived.Test.YtpmnbdkncmjafaaRows
import Derived.Test.YtpmnbdkncmjafaaLsM
import Derived.Test.YtpmnbdkncmjafaaLsBody
import Derived.Test.YtpmnbdkncmjafaaLpE
import Derived.Deep.LoopGhost
import Derived.StillTailTactics
import Derived.Deep.CutRange
import Derived.Deep.Cut
namespace Go.Proofs.Ytpmnbdkncmjafaa
open Go.RowKit

theorem intsZ {w : World} {B W : Nat} {v : Value} (h : OwnV 3 w B v (List.replicate W (.int .i64 0))) : IntsV w B v (List.replicate W 0) := by
  unfold IntsV
  rw [List.map_replicate]
  exact h
def LoopsPost (n : Nat) (R : Int) (a b c t : Nat) (w : World) (e : Ending) (w' : World) : Prop :=
  ∃ (ga gl : Nat) (all least : Nat → Int), e = .returned (.tuple #[.slice (some ⟨ga, 0, none⟩) (t + 1) (t + 1), .slice (some ⟨gl, 0, none⟩) (t + 1) (t + 1)]) ∧ RowC w' (t + 1) ga all ∧ RowC w' (t + 1) gl least ∧ ResInv n R a b c t all least ∧ Below w.heap.size w w'
set_option maxRecDepth 100000 in
set_option maxHeartbeats 8000000 in
theorem loops_any (n a b c : Nat) (R : Int) (t : Nat) (hA : a ≤ 4294967295) (hB : b ≤ 4294967295) (hC : c ≤ 4294967295) (hn : 2 ≤ n ∧ n ≤ 7) (hR : R = 2 ∨ R = 3) (hg : GoodN n R a b c) (ht : t ≤ 24) (w : World) :
    Calls Try.prog 48 #[.agg #[.int .i64 (n + 1), .int .i64 R, .int .u32 a, .int .u32 b, .int .u32 c], .int .i64 t] w fun e w' => LoopsPost n R a b c t w e w' := by
  have HG := hide hg
  clear hg
  obtain ⟨N, hN⟩ : ∃ N : Nat, N = 2 ^ n := ⟨_, rfl⟩
  have hNl : N ≤ 128 := by have : 2 ^ n ≤ 2 ^ 7 := Nat.pow_le_pow_right (by omega) hn.2; omega
  have hN4 : 4 ≤ N := by have : 2 ^ 2 ≤ 2 ^ n := Nat.pow_le_pow_right (by omega) hn.1; omega
  have eN : (2 : Int) ^ n = (N : Int) := by rw [hN]; simp
  have HN := hide hN
  clear hN
  go_enter Try.func48, Try.ntmps48
  go_upto_region 2 with fail
  obtain ⟨W, hW⟩ : ∃ W, W = t + 1 := ⟨_, rfl⟩
  have et : (t : Int) + 1 = (W : Int) := by omega
  have hWl : W ≤ 25 := by omega
  have HW := hide hW
  have c0 : (w.alloc (.cells #[.int .i64 (n + 1), .int .i64 R, .int .u32 a, .int .u32 b, .int .u32 c] 25)).cell? ⟨w.heap.size, 0, none⟩ = some (.int .i64 (n + 1)) := by simp [go_sem]
  have c1 : (w.alloc (.cells #[.int .i64 (n + 1), .int .i64 R, .int .u32 a, .int .u32 b, .int .u32 c] 25)).cell? ⟨w.heap.size, 1, none⟩ = some (.int .i64 R) := by simp [go_sem]
  have c2 : (w.alloc (.cells #[.int .i64 (n + 1), .int .i64 R, .int .u32 a, .int .u32 b, .int .u32 c] 25)).cell? ⟨w.heap.size, 2, none⟩ = some (.int .u32 a) := by simp [go_sem]
  have c3 : (w.alloc (.cells #[.int .i64 (n + 1), .int .i64 R, .int .u32 a, .int .u32 b, .int .u32 c] 25)).cell? ⟨w.heap.size, 3, none⟩ = some (.int .u32 b) := by simp [go_sem]
  have c4 : (w.alloc (.cells #[.int .i64 (n + 1), .int .i64 R, .int .u32 a, .int .u32 b, .int .u32 c] 25)).cell? ⟨w.heap.size, 4, none⟩ = some (.int .u32 c) := by simp [go_sem]
  have hsz : (w.alloc (.cells #[.int .i64 (n + 1), .int .i64 R, .int .u32 a, .int .u32 b, .int .u32 c] 25)).heap.size = w.heap.size + 1 := by simp
  have HB0 := hide ((Below.refl w.heap.size w).alloc (Nat.le_refl _) (.cells #[.int .i64 (n + 1), .int .i64 R, .int .u32 a, .int .u32 b, .int .u32 c] 25))
  generalize w.alloc (.cells #[.int .i64 (n + 1), .int .i64 R, .int .u32 a, .int .u32 b, .int .u32 c] 25) = v0 at *
  have HC := hide (⟨c0, c1, c2, c3, c4⟩ : v0.cell? ⟨w.heap.size, 0, none⟩ = some (.int .i64 (n + 1)) ∧ v0.cell? ⟨w.heap.size, 1, none⟩ = some (.int .i64 R) ∧ v0.cell? ⟨w.heap.size, 2, none⟩ = some (.int .u32 a) ∧ v0.cell? ⟨w.heap.size, 3, none⟩ = some (.int .u32 b) ∧ v0.cell? ⟨w.heap.size, 4, none⟩ = some (.int .u32 c))
  have HSZ := hide hsz
  clear c0 c1 c2 c3 c4 hW hsz
  go_upto_region 3 with (first
    | (at_make; refine wpList_makeV elemRow rfl rfl _ _ rfl v0.heap.size _ _ N rfl rfl (by first | rfl | omega) (by first | rfl | omega) (by omega) (by omega) (by omega) ?_; intro v1 hx1 hg1 hz1)
    | fail)
  go_wp2_with (first
    | (at_make; refine wpList_makeV elemRow rfl rfl _ _ rfl v0.heap.size _ _ N rfl rfl (by first | rfl | omega) (by first | rfl | omega) (by omega) (by omega) (by omega) ?_; intro v2 hx2 hg2 hz2)
    | fail)
  have hbu := hide (build_start (W := W) hx1 hx2 hg2 hz1 (fun _ => 0))
  have HBv := hide (show Below v0.heap.size v0 v2 from ⟨hg2.os.trans hg1.os, hg2.tape.trans hg1.tape, hg2.output.trans hg1.output, Nat.le_trans hg1.size hg2.size, fun k hk => (hg2.block k (by have := hg1.size; omega) (by simp)).trans (hg1.block k hk (by simp))⟩)
  clear hx1 hx2 hg1 hg2 hz2
  generalize hg0 : v0.heap.size = g0 at *
  generalize v1.heap.size = g1 at *
  have HG0 := hide hg0
  clear hg0
  go_loopw [9] (fun iv wr => ∃ (k : Nat) (r : Nat → Nat), k ≤ N ∧ iv = .int .i64 k ∧ Hid (BuildP wr N W k g0 g1 r) ∧ Hid (Below g0 v0 wr)) (fun iv _ => N - (intOf iv).toNat)
  case atStart => exact ⟨0, fun _ => 0, Nat.zero_le _, rfl, hbu, HBv⟩
  case round =>
    obtain ⟨k, r, hk, rfl, HP, HB⟩ := hrel
    rename World => wa
    by_cases hlt : k < N
    · have hkI : (k : Int) < (N : Int) := by omega
      have ca := HP.out.a1 k (Nat.le_refl _) hlt
      have cz := HP.out.az k hlt
      have cb := HP.out.b1 k (Nat.le_refl _) hlt
      have cy := HP.out.bz k hlt
      have hgg := HP.out.gg
      have hgl := HP.out.gl
      go_upto_region 8 with (first
        | (at_make; refine wpList_makeV elemInt rfl rfl _ _ rfl g0 _ _ W rfl rfl (by first | rfl | omega) (by first | rfl | omega) (by omega) (by omega) (by omega) ?_; intro w1 hx1 hg1 hz1; have ca1 := gcell hg1 (by omega) (by simp) ca; have cz1 := (World.frozen?_of_block (a := ⟨g0, k, none⟩) (hg1.block g0 (by omega) (by simp))).trans cz)
        | fail)
      have cb1 := cellO (a := ⟨g0, k, none⟩) (u := .slice (some ⟨wa.heap.size, 0, none⟩) W W) (gcell hg1 hgl (by simp) cb) (by simp; omega)
      have cy1 := frzS (a := ⟨g0, k, none⟩) (u := .slice (some ⟨wa.heap.size, 0, none⟩) W W) ((World.frozen?_of_block (a := ⟨g1, k, none⟩) (hg1.block g1 hgl (by simp))).trans cy)
      go_wp2_with (first
        | (at_make; refine wpList_makeV elemInt rfl rfl _ _ rfl g0 _ _ W rfl rfl (by first | rfl | omega) (by first | rfl | omega) (by omega) (by omega) (by simp; omega) ?_; intro w3 hx3 hg3 hz3; have cb3 := gcell hg3 (by simp; omega) (by simp) cb1; have cy3 := (World.frozen?_of_block (a := ⟨g1, k, none⟩) (hg3.block g1 (by simp; omega) (by simp))).trans cy1)
        | fail)
      rw [World.size_setCell] at hx3
      have hst := hide (build_step HP.out hlt (intsZ hx1) hg1 (intsZ hx3) hg3)
      have hB2 := hide (HB.out.grown (row := none) hg1 (by have := HB.out.size; omega) (fun q e => by cases e))
      have hB4 := hide (((hB2.out.setCell (p := ⟨g0, k, none⟩) (by simp) (.slice (some ⟨wa.heap.size, 0, none⟩) W W)).grown (row := none) hg3 (by simp; have := HB.out.size; omega) (fun q e => by cases e)).setCell (p := ⟨g1, k, none⟩) (by simp; omega) (.slice (some ⟨w1.heap.size, 0, none⟩) W W))
      clear hx1 hg1 hx3 hg3 hz3 cb3 cy3 ca1 cz1 cb1 cy1 ca cz cb cy
      go_roundw
      case rel => exact ⟨k + 1, _, by omega, by simp, hst, hB4⟩
      case measure => simp [intOf]; omega
    · obtain rfl : k = N := by omega
      have HGr := hide HP.out.grid
      have hgg := HP.out.gg
      have hgl := HP.out.gl
      clear HP hbu HBv
      go_upto_region 10 with (first
        | (at_make; refine wpList_makeV elemInt rfl rfl _ _ rfl g0 _ _ W rfl rfl (by first | rfl | omega) (by first | rfl | omega) (by omega) (by omega) (by omega) ?_; intro w1 hx1 hg1 hz1)
        | fail)
      go_wp2_with (first
        | (at_make; refine wpList_makeV elemInt rfl rfl _ _ rfl g0 _ _ W rfl rfl (by first | rfl | omega) (by first | rfl | omega) (by omega) (by omega) (by omega) ?_; intro w2 hx2 hg2 hz2)
        | fail)
      have hRA := hide ((RowC.made (intsZ hx1)).keep hg2.size (hg2.block _ hz1 (by simp)))
      have hRL := hide (RowC.made (intsZ hx2))
      have hBa : Below wa.heap.size wa w2 := ⟨hg2.os.trans hg1.os, hg2.tape.trans hg1.tape, hg2.output.trans hg1.output, Nat.le_trans hg1.size hg2.size, fun k hk => (hg2.block k (by have := hg1.size; omega) (by simp)).trans (hg1.block k hk (by simp))⟩
      have hGr2 := hide (HGr.out.below hBa)
      have hszv : g0 = w.heap.size + 1 := HSZ.out
      have hpre : PreL v0 w2 n R a b c k W w.heap.size wa.heap.size w1.heap.size g0 g1 r (fun _ _ => 0) (fun _ _ => 0) (fun _ => 0) (fun _ => 0) := by
        have hg00 := HG0.out
        have hbw := HB.out.trans (hBa.mono (by have := HB.out.size; omega))
        exact ⟨BoxC.keep HC.out (hbw.block _ (by omega)), hGr2.out, hRA.out, hRL.out, by omega, fun j hj => HGr.out.lt hj, hz1, hbw⟩
      have HPre := hide hpre
      have hk0 : 0 < k := by omega
      clear hx1 hx2 hg1 hg2 hBa HB HGr hpre hszv hGr2 hRA hRL hz1 hz2 hgg hgl
      generalize wa.heap.size = ga at *
      generalize w1.heap.size = gl at *
      go_loopw [12] (fun iv wr => ∃ v : Nat, v ≤ W ∧ iv = .int .i64 v ∧ Hid (PreL v0 wr n R a b c k W w.heap.size ga gl g0 g1 r (fun _ _ => 0) (fun _ _ => 0) (fun _ => 0) (fun u => if u < v then -1 else 0))) (fun iv _ => W - (intOf iv).toNat)
      case atStart => exact ⟨0, by omega, rfl, HPre⟩
      case round =>
        obtain ⟨v, hv, rfl, HP⟩ := hrel
        rename World => wb
        by_cases hlt : v < W
        · have hvI : (v : Int) ≤ (t : Int) := by omega
          have hvW : (v : Int) < (W : Int) := by omega
          have cv := HP.out.rL.cel v hlt
          have zv := HP.out.rL.frz v hlt
          have hset := hide (HP.out.setL hk0 hlt (-1))
          go_wp2_with fail
          go_roundw
          case rel =>
            refine ⟨v + 1, by omega, by simp, ?_⟩
            have e : (fun u => if u = v then (-1 : Int) else if u < v then -1 else 0) = fun u => if u < v + 1 then -1 else 0 := by
              funext u
              by_cases e1 : u = v
              · rw [if_pos e1, if_pos (by omega)]
              · rw [if_neg e1]
                by_cases e2 : u < v
                · rw [if_pos e2, if_pos (by omega)]
                · rw [if_neg e2, if_neg (by omega)]
            rw [← e]; exact hset
          case measure => simp [intOf]; omega
        · obtain rfl : v = W := by omega
          have hvI : ¬ (v : Int) ≤ (t : Int) := by omega
          have hv0 : 0 < v := by omega
          have HP2 : Hid (PreL v0 wb n R a b c k v w.heap.size ga gl g0 g1 r (fun _ _ => 0) (fun _ _ => 0) (fun _ => 0) (fun u => if u < v then -1 else 0)) := HP
          obtain ⟨c0, c1, c2, c3, c4⟩ := HP.out.box
          have hbcl : w.heap.size < wb.heap.size := by have := HP.out.bl; have := HP.out.gA.gg; have := HP.out.gA.gl; omega
          have hnx1 : nxF n 0 1 = 1 := by unfold nxF; exact Nat.mod_eq_of_lt (Nat.one_lt_two_pow (by omega))
          have HN0 := hide (next_any n a b c 0 1 R hR (by omega) hA hB hC (by omega) (by omega))
          have HO0 := hide (rones_any (outF (2 * 0 + 1) a) (outF (2 * 0 + 1) b) (third R (outF (2 * 0 + 1) c)) (outF_le _ _) (outF_le _ _) (third_le1 _ (outF_le _ _)))
          change Hid (∀ w, Calls Try.prog 37 _ w fun e w' => e = .returned (.tuple #[.int .u32 ((nxF n 0 1 : Nat) : Int), _]) ∧ Below w.heap.size w w') at HN0
          change Hid (∀ w, Calls Try.prog 46 _ w fun e w' => e = .returned (.int .i64 ((wtF R a b c 0 1 : Nat) : Int)) ∧ Below w.heap.size w w') at HO0
          rw [hnx1] at HN0
          clear hnx1
          generalize outF (2 * 0 + 1) a = y0 at HN0 HO0
          generalize outF (2 * 0 + 1) b = y1 at HN0 HO0
          generalize third R (outF (2 * 0 + 1) c) = y2 at HN0 HO0
          have hwl := wtF_le R a b c 0 1
          generalize hwt : wtF R a b c 0 1 = wt at HO0 hwl
          have HWT := hide hwt
          clear hwt
          go_wp2_with fail
          refine (HN0.out _).mono ?_
          rintro e w3 ⟨rfl, hb3⟩
          have hbc3 : w.heap.size < w3.heap.size := Nat.lt_of_lt_of_le hbcl hb3.size
          have HP3 := hide (HP2.out.below hb3)
          clear hb3 c0 c1 c2 c3 c4
          go_wp2_with fail
          refine (HO0.out _).mono ?_
          rintro e w4 ⟨rfl, hb4⟩
          have r0 := bcell hb4 (b := w3.heap.size) (o := 0) (v := .int .u8 y0) (by simp) (by simp [go_sem])
          have r1 := bcell hb4 (b := w3.heap.size) (o := 1) (v := .int .u8 y1) (by simp) (by simp [go_sem])
          have r2 := bcell hb4 (b := w3.heap.size) (o := 2) (v := .int .u8 y2) (by simp) (by simp [go_sem])
          have HP4 := hide ((HP3.out.below ((Below.refl _ _).alloc (Nat.le_refl _) _)).below hb4)
          have hl4 : w3.heap.size < w4.heap.size := by have := hb4.size; simp at this; omega
          have hne3 : ∀ j, j < 2 * k → r j ≠ w3.heap.size := fun j hj => by have := HP3.out.gA.lt hj; omega
          have HNE3 := hide hne3
          clear hb4 hne3
          go_upto_if 74 with fail
          go_cut [1] from 71 to 88 (fun s1 wc => s1 = .int .i64 t ∧ ∃ num few : Nat → Nat → Int, Hid (PreL v0 wc n R a b c k v w.heap.size ga gl g0 g1 r num few (fun _ => 0) (fun u => if u < v then -1 else 0)) ∧ Hid (∀ s u, s < k → u < v → num s u = if s = 1 ∧ u = wt then 1 else 0) ∧ Hid (∀ s u, s < k → u < v → few s u = if s = 1 ∧ u = wt then 1 else 0))
          case first =>
            by_cases hle : wt ≤ t
            · have hleI : (wt : Int) ≤ (t : Int) := by omega
              have hwv : wt < v := by omega
              have hwvI : (wt : Int) < (v : Int) := by omega
              have ca : w4.cell? ⟨g0, 1, none⟩ = some (.slice (some ⟨r 2, 0, none⟩) v v) := HP4.out.gA.a0 1 (by omega)
              have cc : w4.cell? ⟨r 2, wt, none⟩ = some (.int .i64 0) := (HP4.out.gA.r0 1 (by omega)).cel wt hwv
              have cz : w4.frozen? ⟨r 2, wt, none⟩ = false := (HP4.out.gA.r0 1 (by omega)).frz wt hwv
              have HU := hide fun (u : World) (h : Below w4.heap.size w4 u) => (⟨bcell h hl4 r0, bcell h hl4 r1, bcell h hl4 r2, HP4.out.below h, Nat.lt_of_lt_of_le hl4 h.size⟩ :
                u.cell? ⟨w3.heap.size, 0, none⟩ = some (.int .u8 y0) ∧ u.cell? ⟨w3.heap.size, 1, none⟩ = some (.int .u8 y1) ∧ u.cell? ⟨w3.heap.size, 2, none⟩ = some (.int .u8 y2) ∧ PreL v0 u n R a b c k v w.heap.size ga gl g0 g1 r (fun _ _ => 0) (fun _ _ => 0) (fun _ => 0) (fun u => if u < v then -1 else 0) ∧ w3.heap.size < u.heap.size)
              go_upto_region 17 with fail
              go_cut [1] from 71 to 88 (fun s1 wc => s1 = .int .i64 t ∧ Hid (PreL v0 wc n R a b c k v w.heap.size ga gl g0 g1 r (fun s u => if s = 1 ∧ u = wt then 1 else 0) (fun _ _ => 0) (fun _ => 0) (fun u => if u < v then -1 else 0)) ∧ wc.cell? ⟨w3.heap.size, 0, none⟩ = some (.int .u8 y0) ∧ wc.cell? ⟨w3.heap.size, 1, none⟩ = some (.int .u8 y1) ∧ wc.cell? ⟨w3.heap.size, 2, none⟩ = some (.int .u8 y2) ∧ w3.heap.size < wc.heap.size)
              case first =>
                go_region_with (go_at_call 46; refine (HO0.out _).mono ?_; rintro e w5 ⟨rfl, hb5⟩; obtain ⟨s0, s1, s2, hp5, hl5⟩ := HU.out w5 (below_drewL hb5); have ca5 : w5.cell? ⟨g0, 1, none⟩ = some (.slice (some ⟨r 2, 0, none⟩) v v) := hp5.gA.a0 1 (by omega); have cc5 : w5.cell? ⟨r 2, wt, none⟩ = some (.int .i64 0) := (hp5.gA.r0 1 (by omega)).cel wt hwv; have cz5 : w5.frozen? ⟨r 2, wt, none⟩ = false := (hp5.gA.r0 1 (by omega)).frz wt hwv; have hH5 := hide hp5; clear hp5 hb5)
                all_goals (
                  have hs6 := hide (hH5.out.setN (s := 1) (by omega) hwv 1)
                  have hz6 : r 2 ≠ w3.heap.size := HNE3.out 2 (by omega)
                  change Hid (PreL v0 (w5.setCell ⟨r 2, wt, none⟩ (.int .i64 1)) n R a b c k v w.heap.size ga gl g0 g1 r _ _ _ _) at hs6
                  go_wp2_with fail
                  go_meet
                  case rel => exact ⟨rfl, hs6, cellO s0 (by simpa using hz6), cellO s1 (by simpa using hz6), cellO s2 (by simpa using hz6), by simpa using hl5⟩)
              case rest =>
              obtain ⟨rfl, HPwd, r0, r1, r2, hlwd⟩ := hcut
              rename World => wd
              clear ca cc cz HU
              have ca : wd.cell? ⟨g1, 1, none⟩ = some (.slice (some ⟨r 3, 0, none⟩) v v) := HPwd.out.gA.b0 1 (by omega)
              have cc : wd.cell? ⟨r 3, wt, none⟩ = some (.int .i64 0) := (HPwd.out.gA.r1 1 (by omega)).cel wt hwv
              have cz : wd.frozen? ⟨r 3, wt, none⟩ = false := (HPwd.out.gA.r1 1 (by omega)).frz wt hwv
              have HU := hide fun (u : World) (h : Below wd.heap.size wd u) => (⟨bcell h hlwd r0, bcell h hlwd r1, bcell h hlwd r2, HPwd.out.below h, Nat.lt_of_lt_of_le hlwd h.size⟩ :
                u.cell? ⟨w3.heap.size, 0, none⟩ = some (.int .u8 y0) ∧ u.cell? ⟨w3.heap.size, 1, none⟩ = some (.int .u8 y1) ∧ u.cell? ⟨w3.heap.size, 2, none⟩ = some (.int .u8 y2) ∧ PreL v0 u n R a b c k v w.heap.size ga gl g0 g1 r (fun s u => if s = 1 ∧ u = wt then 1 else 0) (fun _ _ => 0) (fun _ => 0) (fun u => if u < v then -1 else 0) ∧ w3.heap.size < u.heap.size)
              go_upto_region 18 with fail
              go_cut [1] from 71 to 88 (fun s1 wc => s1 = .int .i64 t ∧ Hid (PreL v0 wc n R a b c k v w.heap.size ga gl g0 g1 r (fun s u => if s = 1 ∧ u = wt then 1 else 0) (fun s u => if s = 1 ∧ u = wt then 1 else 0) (fun _ => 0) (fun u => if u < v then -1 else 0)) ∧ wc.cell? ⟨w3.heap.size, 0, none⟩ = some (.int .u8 y0) ∧ wc.cell? ⟨w3.heap.size, 1, none⟩ = some (.int .u8 y1) ∧ wc.cell? ⟨w3.heap.size, 2, none⟩ = some (.int .u8 y2) ∧ w3.heap.size < wc.heap.size)
              case first =>
                go_region_with (go_at_call 46; refine (HO0.out _).mono ?_; rintro e w5 ⟨rfl, hb5⟩; obtain ⟨s0, s1, s2, hp5, hl5⟩ := HU.out w5 (below_drewL hb5); have ca5 : w5.cell? ⟨g1, 1, none⟩ = some (.slice (some ⟨r 3, 0, none⟩) v v) := hp5.gA.b0 1 (by omega); have cc5 : w5.cell? ⟨r 3, wt, none⟩ = some (.int .i64 0) := (hp5.gA.r1 1 (by omega)).cel wt hwv; have cz5 : w5.frozen? ⟨r 3, wt, none⟩ = false := (hp5.gA.r1 1 (by omega)).frz wt hwv; have hH5 := hide hp5; clear hp5 hb5)
                all_goals (
                  have hs6 := hide (hH5.out.setF (s := 1) (by omega) hwv 1)
                  have hz6 : r 3 ≠ w3.heap.size := HNE3.out 3 (by omega)
                  change Hid (PreL v0 (w5.setCell ⟨r 3, wt, none⟩ (.int .i64 1)) n R a b c k v w.heap.size ga gl g0 g1 r _ _ _ _) at hs6
                  go_wp2_with fail
                  go_meet
                  case rel => exact ⟨rfl, hs6, cellO s0 (by simpa using hz6), cellO s1 (by simpa using hz6), cellO s2 (by simpa using hz6), by simpa using hl5⟩)
              case rest =>
              obtain ⟨rfl, HPwe, r0, r1, r2, hlwe⟩ := hcut
              rename World => we
              clear ca cc cz HU
              go_wp2_with fail
              go_meet
              case rel => exact ⟨rfl, _, _, HPwe, hide fun s u _ _ => rfl, hide fun s u _ _ => rfl⟩
            · have hleI : ¬ (wt : Int) ≤ (t : Int) := by omega
              go_wp2_with fail
              go_meet
              case rel => exact ⟨rfl, _, _, HP4, hide fun s u _ hu => by rw [if_neg (by omega)], hide fun s u _ hu => by rw [if_neg (by omega)]⟩
          case rest =>
          obtain ⟨rfl, num, few, HP5, HNu, HFe⟩ := hcut
          have HM5 := hide (HP5.out.toM hk0 HB0.out)
          have HLv := hide (LvInv.zero (W := t) HG.out (num := num) (few := few) (fun s u hs hu => by rw [HWT.out]; exact HNu.out s u (by have := HN.out; omega) (by have := HW.out; omega)) (fun s u hs hu => by rw [HWT.out]; exact HFe.out s u (by have := HN.out; omega) (by have := HW.out; omega)))
          have hl0 : Hid (PreM w wc n R a b c k v w.heap.size ga gl g0 g1 r num few (fun _ => 0) (fun u => -1)) := hide ⟨HM5.out.box, HM5.out.gA, HM5.out.rA, HM5.out.rL.congr (fun u hu => if_pos hu), HM5.out.ba, HM5.out.al, HM5.out.fa, HM5.out.bel⟩
          have HNx := hide fun s x (hs : s ≤ 2147483647) (hx : x ≤ 1) => next_any n a b c s x R hR (by omega) hA hB hC hs hx
          have HOx := hide fun s x => rones_any (outF (2 * s + x) a) (outF (2 * s + x) b) (third R (outF (2 * s + x) c)) (outF_le _ _) (outF_le _ _) (third_le1 _ (outF_le _ _))
          change Hid (∀ s x, s ≤ 2147483647 → x ≤ 1 → ∀ w, Calls Try.prog 37 _ w fun e w' => e = .returned (.tuple #[.int .u32 ((nxF n s x : Nat) : Int), _]) ∧ Below w.heap.size w w') at HNx
          change Hid (∀ s x w, Calls Try.prog 46 _ w fun e w' => e = .returned (.int .i64 ((wtF R a b c s x : Nat) : Int)) ∧ Below w.heap.size w w') at HOx
          have HNN := hide (HN.out : k = 2 ^ n)
          have HVW := hide (HW.out : v = t + 1)
          have hvt : v ≤ t + 1 := by omega
          clear HP5 HNu HFe HM5 HP4 HP3 HP2 HPre HP HN HW HWT HN0 HO0 HNE3 r0 r1 r2 HC HSZ HG0 hlt hvI hv hwl
          go_wp2_with fail
          go_loopg [7, 8, 15] ((t + 1) * n + 1) (fun g v7 v8 v15 wr => ∃ (L : Nat) (sm : Bool) (g0 g1 : Nat) (r : Nat → Nat) (num few : Nat → Nat → Int) (all least : Nat → Int), v7 = .slice (some ⟨g0, 0, none⟩) k k ∧ v8 = .slice (some ⟨g1, 0, none⟩) k k ∧ v15 = .bool sm ∧ Hid (PreM w wr n R a b c k v w.heap.size ga gl g0 g1 r num few all least) ∧ Hid (LvInv n a b c t L num few all least) ∧ Hid (g + L = (t + 1) * n + 1 ∧ (sm = false → aL n a b c t L = []) ∧ (sm = true → L ≤ (t + 1) * n)))
          case atStart => exact ⟨0, true, g0, g1, r, num, few, fun _ => 0, fun _ => -1, rfl, rfl, rfl, hl0, HLv, hide ⟨rfl, fun h => absurd h (by simp), fun _ => Nat.zero_le _⟩⟩
          case round =>
            rename World => ws
            obtain ⟨L, sm, g0, g1, r, num, few, all, least, rfl, rfl, rfl, HM, HLv, HL⟩ := hrel
            cases sm with
            | false =>
              have hres := hide (HLv.out.res HG.out (HL.out.2.1 rfl))
              go_wp2_with fail
              have hvv : v = t + 1 := HVW.out
              refine bodyPost_ret (v := .tuple #[.slice (some ⟨ga, 0, none⟩) v v, .slice (some ⟨gl, 0, none⟩) v v]) (by simp [results, Try.results48, go_sem]) rfl ⟨ga, gl, all, least, by rw [hvv], by rw [← hvv]; exact HM.out.rA, by rw [← hvv]; exact HM.out.rL, hres.out, HM.out.bel⟩
            | true =>
              go_upto_region 23 with (first
                | (at_make; refine wpList_makeV elemRow rfl rfl _ _ rfl ws.heap.size _ _ k rfl rfl (by first | rfl | omega) (by first | rfl | omega) (by omega) (by omega) (by omega) ?_; intro v1 hx1 hg1 hz1)
                | fail)
              go_wp2_with (first
                | (at_make; refine wpList_makeV elemRow rfl rfl _ _ rfl ws.heap.size _ _ k rfl rfl (by first | rfl | omega) (by first | rfl | omega) (by omega) (by omega) (by omega) ?_; intro v2 hx2 hg2 hz2)
                | fail)
              have hbu := hide (build_start (W := v) hx1 hx2 hg2 hz1 (fun _ => 0))
              have HBv := hide (show Below ws.heap.size ws v2 from ⟨hg2.os.trans hg1.os, hg2.tape.trans hg1.tape, hg2.output.trans hg1.output, Nat.le_trans hg1.size hg2.size, fun k hk => (hg2.block k (by have := hg1.size; omega) (by simp)).trans (hg1.block k hk (by simp))⟩)
              clear hx1 hx2 hg1 hg2 hz2
              generalize hh0 : ws.heap.size = h0 at *
              generalize v1.heap.size = h1 at *
              have HH0 := hide hh0
              clear hh0 hz1
              go_loopw [18] (fun iv wr => ∃ (j : Nat) (q : Nat → Nat), j ≤ k ∧ iv = .int .i64 j ∧ Hid (BuildP wr k v j h0 h1 q) ∧ Hid (Below h0 ws wr)) (fun iv _ => k - (intOf iv).toNat)
              case atStart => exact ⟨0, fun _ => 0, Nat.zero_le _, rfl, hbu, HBv⟩
              case round =>
                obtain ⟨j, q, hj, rfl, HP, HB⟩ := hrel
                rename World => wa
                by_cases hlt : j < k
                · have hkI : (j : Int) < (k : Int) := by omega
                  have ca := HP.out.a1 j (Nat.le_refl _) hlt
                  have cz := HP.out.az j hlt
                  have cb := HP.out.b1 j (Nat.le_refl _) hlt
                  have cy := HP.out.bz j hlt
                  have hgg := HP.out.gg
                  have hgl := HP.out.gl
                  go_upto_region 28 with (first
                    | (at_make; refine wpList_makeV elemInt rfl rfl _ _ rfl h0 _ _ v rfl rfl (by first | rfl | omega) (by first | rfl | omega) (by omega) (by omega) (by omega) ?_; intro w1 hx1 hg1 hz1; have ca1 := gcell hg1 (by omega) (by simp) ca; have cz1 := (World.frozen?_of_block (a := ⟨h0, j, none⟩) (hg1.block h0 (by omega) (by simp))).trans cz)
                    | fail)
                  have cb1 := cellO (a := ⟨h0, j, none⟩) (u := .slice (some ⟨wa.heap.size, 0, none⟩) v v) (gcell hg1 hgl (by simp) cb) (by simp; omega)
                  have cy1 := frzS (a := ⟨h0, j, none⟩) (u := .slice (some ⟨wa.heap.size, 0, none⟩) v v) ((World.frozen?_of_block (a := ⟨h1, j, none⟩) (hg1.block h1 hgl (by simp))).trans cy)
                  go_wp2_with (first
                    | (at_make; refine wpList_makeV elemInt rfl rfl _ _ rfl h0 _ _ v rfl rfl (by first | rfl | omega) (by first | rfl | omega) (by omega) (by omega) (by simp; omega) ?_; intro w3 hx3 hg3 hz3; have cb3 := gcell hg3 (by simp; omega) (by simp) cb1; have cy3 := (World.frozen?_of_block (a := ⟨h1, j, none⟩) (hg3.block h1 (by simp; omega) (by simp))).trans cy1)
                    | fail)
                  rw [World.size_setCell] at hx3
                  have hst := hide (build_step HP.out hlt (intsZ hx1) hg1 (intsZ hx3) hg3)
                  have hB2 := hide (HB.out.grown (row := none) hg1 (by have := HB.out.size; omega) (fun q e => by cases e))
                  have hB4 := hide (((hB2.out.setCell (p := ⟨h0, j, none⟩) (by simp) (.slice (some ⟨wa.heap.size, 0, none⟩) v v)).grown (row := none) hg3 (by simp; have := HB.out.size; omega) (fun q e => by cases e)).setCell (p := ⟨h1, j, none⟩) (by simp; omega) (.slice (some ⟨w1.heap.size, 0, none⟩) v v))
                  clear hx1 hg1 hx3 hg3 hz3 cb3 cy3 ca1 cz1 cb1 cy1 ca cz cb cy
                  go_roundw
                  case rel => exact ⟨j + 1, _, by omega, by simp, hst, hB4⟩
                  case measure => simp [intOf]; omega
                · have hst := hide (HM.out.lst (by rw [HH0.out]; exact HB.out) (by
                    obtain rfl : j = k := by omega
                    exact HP.out.grid) (by rw [HH0.out]; exact Nat.le_refl _))
                  have hB5 := hide (HM.out.bel.trans (HB.out.mono (by have := HM.out.lt; have := HH0.out; omega)))
                  have hInv := hide (HLv.out.start HG.out)
                  have hjI : ¬ (j : Int) < (k : Int) := by omega
                  clear HP hbu HBv HB hlt
                  have HK2 := hide (show k ≤ 128 from hNl)
                  go_wp2_with fail
                  go_loopw [15, 19] (fun v15 iv wr => ∃ (s : Nat) (sm : Bool) (num2 few2 : Nat → Nat → Int) (all least : Nat → Int), 1 ≤ s ∧ s ≤ k ∧ v15 = .bool sm ∧ iv = .int .i64 s ∧ Hid (LSt wr n R a b c k v w.heap.size ga gl g0 g1 r h0 h1 q num few num2 few2 all least) ∧ Hid (StInv n a b c t L (befT n a b c s 0 0) num2 few2 all least sm) ∧ Hid (Below w.heap.size w wr)) (fun _ iv _ => k - (intOf iv).toNat)
                  case atStart => exact ⟨1, false, _, _, all, least, Nat.le_refl _, by omega, rfl, rfl, hst, hInv, hB5⟩
                  case round =>
                    rename World => wf
                    obtain ⟨s, sm, num2, few2, all, least, hs1, hsk, rfl, rfl, HS, HI, HB⟩ := hrel
                    by_cases hlt : s < k
                    · have hsI : (s : Int) < (k : Int) := by omega
                      go_wp2_with fail
                      go_loopw [15, 20] (fun v15 iv wr => ∃ (u : Nat) (sm : Bool) (num2 few2 : Nat → Nat → Int) (all least : Nat → Int), u ≤ v ∧ v15 = .bool sm ∧ iv = .int .i64 u ∧ Hid (LSt wr n R a b c k v w.heap.size ga gl g0 g1 r h0 h1 q num few num2 few2 all least) ∧ Hid (StInv n a b c t L (befT n a b c s u 0) num2 few2 all least sm) ∧ Hid (Below w.heap.size w wr)) (fun _ iv _ => v - (intOf iv).toNat)
                      case atStart => exact ⟨0, sm, num2, few2, all, least, Nat.zero_le _, rfl, rfl, HS, HI, HB⟩
                      case round =>
                        rename World => wg
                        obtain ⟨u, sm, num2, few2, all, least, huv, rfl, rfl, HS, HI, HB⟩ := hrel
                        by_cases hlu : u < v
                        · have huI : (u : Int) ≤ (t : Int) := by omega
                          go_wp2_with fail
                          go_loopw [15, 21] (fun v15 iv wr => ∃ (x : Nat) (sm : Bool) (num2 few2 : Nat → Nat → Int) (all least : Nat → Int), x ≤ 2 ∧ v15 = .bool sm ∧ iv = .int .u8 x ∧ Hid (LSt wr n R a b c k v w.heap.size ga gl g0 g1 r h0 h1 q num few num2 few2 all least) ∧ Hid (StInv n a b c t L (befT n a b c s u x) num2 few2 all least sm) ∧ Hid (Below w.heap.size w wr) ∧ Hid (¬ 0 < num s u → x = 0)) (fun _ iv _ => 2 - (intOf iv).toNat)
                          case atStart => exact ⟨0, sm, num2, few2, all, least, by omega, rfl, rfl, HS, HI, HB, hide fun _ => rfl⟩
                          case round =>
                            rename World => wh
                            obtain ⟨x, sm, num2, few2, all, least, hx2, rfl, rfl, HS, HI, HB, HX⟩ := hrel
                            have eA := HS.out.gA.a0 s hlt
                            have eB := HS.out.gA.b0 s hlt
                            have eC := (HS.out.gA.r0 s hlt).cel u hlu
                            have hs0 : s ≠ 0 := by omega
                            have hs2 : s < 2 ^ n := by have := HNN.out; omega
                            have hut : u ≤ t := by omega
                            have hnum := HLv.out.hnum s u hs0 hs2 hut
                            have HNum := hide hnum
                            have huvI : (u : Int) < (v : Int) := by omega
                            have hskI : (s : Int) < (k : Int) := by omega
                            clear hnum
                            by_cases hp : 0 < num s u
                            · have hpd := decide_eq_true hp
                              by_cases hx : x < 2
                              · have hxI : (x : Int) < 2 := by omega
                                have hx1 : x ≤ 1 := by omega
                                have HP7 := hide hp
                                refine wp_seq_k fun K1 hK1 => ?_
                                have HK1 := hide hK1
                                clear hK1
                                go_wp2_with fail
                                refine HK1.out _ _ ?_
                                refine wp_seq_k fun K2 hK2 => ?_
                                refine ls_body n a b c R t k v w.heap.size ga gl g0 g1 h0 h1 s u x L r q num few num2 few2 all least _ _ sm w wh hA hB hC hn hR HG.out ht HNN.out HVW.out HLv.out HS.out HI.out HB.out hs1 hlt hlu HP7.out hx1 K2 _ _ _ _ _ _ _ _ _ _ _ _ _ _ _ _ _ _ _ _ _ _ _ _ _ _ _ _ _ _ _ _ _ _ _ _ _ _ _ _ _ _ _ _ _ _ _ _ _ _ _ _ _ _ _ _ _ _ _ _ _ _ _ _ _ _ _ _ _ _ _ _ _ _ _ _ _ _ _ _ _ _ _ _ _ _ _ _ _ _ _ _ _ _ _ _ _ _ _ _ _ _ _ _ _ _ _ _ _ _ _ _ _ _ _ _ _ _ _ _ _ _ _ _ _ _ _ _ _ _ _ _ _ _ _ _ _ _ _ _ _ _ _ _ _ _ _ _ _ _ _ _ _ _ _ _ _ _ _ _ _ _ _ _ _ _ _ _ _ _ _ _ _ _ _ _ _ _ _ _ _ _ _ _ _ _ _ _ _ _ _ _ _ _ _ _ _ _ _ _ _ _ _ _ _ _ _ _ _ _ _ _ _ _ _ _ _ _ _ _ _ _ _ _ _ _ _ _ _ _ _ _ _ ?_
                                intro sm' num2' few2' all' least' wr' y22 y23 y24 y25 y135 y136 y137 y138 y139 y140 y141 y142 y143 y144 y145 y146 y147 y148 y149 y150 y151 y152 y153 y154 y155 y156 y157 y158 y159 y160 y161 y162 y163 y164 y165 y166 y167 y168 y169 y170 y171 y172 y173 y174 y175 y176 y177 y178 y179 y180 y181 y182 y183 y184 y185 y186 y187 y188 y189 y190 y191 y192 y193 y194 y195 y196 y197 y198 y199 y200 y201 y202 y203 y204 y205 y206 y207 y208 y209 y210 y211 y212 y213 y214 y215 y216 y217 y218 y219 y220 y221 y222 y223 y224 y225 y226 y227 y228 y229 y230 y231 y232 y233 y234 y235 y236 y237 y238 y239 y240 hS' hI' hB'
                                have HS2 := hide hS'
                                have HI2 := hide hI'
                                have HB2 := hide hB'
                                clear hS' hI' hB'
                                refine hK2 _ _ ?_
                                clear hK2
                                go_wp2_with fail
                                go_roundw
                                case rel => exact ⟨x + 1, sm', num2', few2', all', least', by omega, rfl, by simp, HS2, HI2, HB2, hide fun h => absurd HP7.out (by omega)⟩
                                case measure => simp [intOf]; omega
                              · obtain rfl : x = 2 := by omega
                                go_wp2_with fail
                                exact ⟨⟨u + 1, sm, num2, few2, all, least, by omega, rfl, by simp, HS, hide HI.out.wt, HB⟩, by simp [intOf]; omega⟩
                            · have hpd := decide_eq_false hp
                              obtain rfl : x = 0 := HX.out hp
                              have hc0 : cN n a b c t L s u = 0 := by have := HNum.out; omega
                              have HI2 := hide (HI.out.nobody hc0)
                              clear hc0
                              go_wp2_with fail
                              exact ⟨⟨u + 1, sm, num2, few2, all, least, by omega, rfl, by simp, HS, HI2, HB⟩, by simp [intOf]; omega⟩
                        · have huI : ¬ (u : Int) ≤ (t : Int) := by omega
                          obtain rfl : u = v := by omega
                          have HI2 := hide (StInv.st HG.out (by have e : u = t + 1 := HVW.out; have h := HI.out; rwa [e] at h))
                          go_wp2_with fail
                          exact ⟨⟨s + 1, sm, num2, few2, all, least, by omega, by omega, rfl, by simp, HS, HI2, HB⟩, by simp [intOf]; omega⟩
                    · have hsI : ¬ (s : Int) < (k : Int) := by omega
                      obtain rfl : s = k := by omega
                      have HI2 : Hid (StInv n a b c t L (befT n a b c (2 ^ n) 0 0) num2 few2 all least sm) := by have e : s = 2 ^ n := HNN.out; have h := HI.out; rw [e] at h; exact hide h
                      have HI3 := hide (HI2.out.next HG.out)
                      have HM2 := hide (HS.out.toM HB.out)
                      have HL2 : Hid (gk - 1 + (L + 1) = (t + 1) * n + 1 ∧ (sm = false → aL n a b c t (L + 1) = []) ∧ (sm = true → L + 1 ≤ (t + 1) * n)) := hide (by
                        obtain ⟨l1, _, l3⟩ := HL.out
                        have l4 := l3 (by first | rfl | trivial)
                        refine ⟨by omega, fun e => ?_, fun e => ?_⟩
                        · subst e; exact HI2.out.over HG.out
                        · subst e; exact HI2.out.more HG.out)
                      have hgk : 0 < gk := by have := HL.out.1; have := HL.out.2.2 (by first | rfl | trivial); omega
                      go_wp2_with fail
                      go_roundg (gk - 1)
                      case measure => omega
                      case rel => exact ⟨L + 1, sm, h0, h1, q, num2, few2, all, least, rfl, rfl, rfl, HM2, HI3, HL2⟩
end Go.Proofs.Ytpmnbdkncmjafaa
