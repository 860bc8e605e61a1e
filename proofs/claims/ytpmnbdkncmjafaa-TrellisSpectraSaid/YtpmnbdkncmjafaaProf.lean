/- trellis.Profile, walked. -/
import Derived.Test.YtpmnbdkncmjafaaRows
import Derived.Test.YtpmnbdkncmjafaaProfPut
import Derived.Test.YtpmnbdkncmjafaaOwnVe
import Derived.Deep.CutRange
import Derived.Deep.Cut
namespace Go.Proofs.Ytpmnbdkncmjafaa
open Go.RowKit

theorem elemInt : ElemI 49 3 (.int .i64 0) 8 where
  und := Try.underlying49
  inf := ⟨Try.t3, by kernel_rfl, by kernel_rfl, by kernel_rfl, by kernel_rfl⟩
  one := rfl
abbrev IntsV (w : World) (B : Nat) (v : Value) (xs : List Int) : Prop := OwnV 3 w B v (xs.map (Value.int .i64))
/-- the least weight of i + 1 steps from the state 0, the first by the bit 1 -/
def prK (n a b c : Nat) (R : Int) (i : Nat) : Nat := wtF R a b c 0 1 + rmin (nxF n) (wtF R a b c) i (nxF n 0 1)
theorem rmin_le (n a b c : Nat) (R : Int) (i s : Nat) : rmin (nxF n) (wtF R a b c) i s ≤ 3 * i := by
  induction i generalizing s with
  | zero => simp [rmin]
  | succ i ih => simp only [rmin]; have := ih (nxF n s 0); have := wtF_le R a b c s 0; omega
open Classical in
noncomputable def profE (K R : Int) (a b c : Nat) (t : Int) : Int := if checkF K R a b c ≠ 0 then checkF K R a b c else if t < 0 ∨ 16 < t then 1 else 0
def profL (n a b c : Nat) (R : Int) (t : Nat) : List Int := (List.range t).map fun i => ((prK n a b c R i : Nat) : Int)
theorem prof_bad1 (K R : Int) (a b c : Nat) (t : Int) (hA : a ≤ 4294967295) (hB : b ≤ 4294967295) (hC : c ≤ 4294967295) (hbad : checkF K R a b c ≠ 0) (w : World) :
    Calls Try.prog 25 #[.agg #[.int .i64 K, .int .i64 R, .int .u32 a, .int .u32 b, .int .u32 c], .int .i64 t] w fun e w' => e = .returned (.tuple #[.slice none 0 0, .int .i64 (checkF K R a b c)]) ∧ Below w.heap.size w w' := by
  have HC := hide (check_any K R a b c hA hB hC)
  generalize checkF K R a b c = er at *
  have hne : (er != 0) = true := bne_iff_ne.2 hbad
  go_enter Try.func25, Try.ntmps25
  go_wp2_with fail
  refine (HC.out _).mono ?_
  rintro e w1 ⟨rfl, hb1⟩
  go_wp2_with fail
  go_ret2
  exact ⟨rfl, below_one hb1⟩
theorem prof_bad2 (K R : Int) (a b c : Nat) (t : Int) (hA : a ≤ 4294967295) (hB : b ≤ 4294967295) (hC : c ≤ 4294967295) (hgood : checkF K R a b c = 0) (ht : t < 0 ∨ 16 < t) (w : World) :
    Calls Try.prog 25 #[.agg #[.int .i64 K, .int .i64 R, .int .u32 a, .int .u32 b, .int .u32 c], .int .i64 t] w fun e w' => e = .returned (.tuple #[.slice none 0 0, .int .i64 1]) ∧ Below w.heap.size w w' := by
  have HC := hide (check_any K R a b c hA hB hC)
  rw [hgood] at HC
  clear hgood
  rcases ht with ht | ht
  all_goals
    go_enter Try.func25, Try.ntmps25
    go_wp2_with fail
    refine (HC.out _).mono ?_
    rintro e w1 ⟨rfl, hb1⟩
    go_wp2_with fail
    go_ret2
    exact ⟨rfl, below_one hb1⟩
theorem range_lt16 {i t : Nat} (h : i < t) (ht : t ≤ 16) : 2 ^ (i + 1) ≤ 65536 := by
  have : 2 ^ (i + 1) ≤ 2 ^ 16 := Nat.pow_le_pow_right (by omega) (by omega)
  omega
theorem StepAt.two {nx wt : Nat → Nat → Nat} {D D' : Nat → Option Nat} {rem : Nat → Bool} {x d : Nat} (h : StepAt nx wt D D' fun t _ => !rem t) (hD : D x = some d) :
    StepAt nx wt D (putMin (putMin D' (nx x 0) (d + wt x 0)) (nx x 1) (d + wt x 1)) fun t _ => !(rem t && !decide (t = x)) := by
  refine ((h.put (b := 0) (by omega) hD).put (b := 1) (by omega) hD).cong fun t b hb _ => ?_
  have hb2 : b = 0 ∨ b = 1 := by omega
  by_cases e : t = x
  · rcases hb2 with rfl | rfl <;> simp [e]
  · simp [e, beq_eq_false_iff_ne.2 e]
/-- what the third loop has found -/
def BestI (D : Nat → Option Nat) (rem : Nat → Bool) (v : Int) : Prop :=
  (v = -1 ∧ ∀ x, (D x).isSome → rem x = true) ∨ ∃ m : Nat, v = m ∧ m ≤ 1000000 ∧ (∃ x, D x = some m) ∧ ∀ x d, D x = some d → rem x = false → m ≤ d
/-- what holds ahead of round i of Profile -/
def ProfInv (n a b c : Nat) (R : Int) (i N : Nat) (D : Nat → Option Nat) : Prop :=
  N ≤ 2 ^ i ∧ (∀ t d, D t = some d → t < 2 ^ n ∧ d ≤ 3 * i) ∧ (i = 0 → N = 0 ∧ ∀ t, D t = none) ∧ (0 < i → ∀ k, LeastAt (nxF n) (wtF R a b c) D k (prK n a b c R (i - 1 + k)))
theorem best_new {D : Nat → Option Nat} {rem : Nat → Bool} {v : Int} {x c : Nat} (h : BestI D rem v) (hD : D x = some c) (hc : c ≤ 1000000) (hlt : v < 0 ∨ (c : Int) < v) : BestI D (fun y => rem y && !decide (y = x)) (c : Int) := by
  refine .inr ⟨c, rfl, hc, ⟨x, hD⟩, fun y d hy hr => ?_⟩
  by_cases e : y = x
  · subst e; rw [hD] at hy; cases hy; omega
  · rcases h with ⟨rfl, h⟩ | ⟨m, rfl, _, _, h⟩
    · have := h y (by rw [hy]; rfl)
      simp [this, e] at hr
    · have := h y d hy (by simpa [e] using hr)
      omega
theorem best_old {D : Nat → Option Nat} {rem : Nat → Bool} {v : Int} {x c : Nat} (h : BestI D rem v) (hD : D x = some c) (h0 : ¬ v < 0) (h1 : ¬ (c : Int) < v) : BestI D (fun y => rem y && !decide (y = x)) v := by
  rcases h with ⟨rfl, h⟩ | ⟨m, rfl, hm, hx, h⟩
  · omega
  · refine .inr ⟨m, rfl, hm, hx, fun y d hy hr => ?_⟩
    by_cases e : y = x
    · subst e; rw [hD] at hy; cases hy; omega
    · exact h y d hy (by simpa [e] using hr)
section
variable {n a b c : Nat} {R : Int} {i N N' : Nat} {D D' : Nat → Option Nat}
theorem prof_step (hI : ProfInv n a b c R i N D) (h1 : 0 < i → StepAt (nxF n) (wtF R a b c) D D' fun _ _ => true) (h0 : i = 0 → D' = putMin (fun _ => none) (nxF n 0 1) (wtF R a b c 0 1)) (hN : N' ≤ 2 ^ (i + 1)) : ProfInv n a b c R (i + 1) N' D' := by
  obtain ⟨_, hb, h00, hl⟩ := hI
  refine ⟨hN, fun t d h => ?_, fun h => by omega, fun _ k => ?_⟩
  · rcases Nat.eq_zero_or_pos i with e | e
    · rw [h0 e] at h
      unfold putMin at h
      by_cases e2 : t = nxF n 0 1
      · rw [if_pos e2] at h
        have h : some (wtF R a b c 0 1) = some d := h
        have := wtF_le R a b c 0 1
        cases h
        exact ⟨by rw [e2]; exact nxF_lt _ _ _, by omega⟩
      · rw [if_neg e2] at h; cases h
    · obtain ⟨u, d0, x, hx, hD, _, rfl, rfl⟩ := (h1 e).2 t d h
      have := wtF_le R a b c u x
      have := (hb u d0 hD).2
      exact ⟨nxF_lt _ _ _, by omega⟩
  · rcases Nat.eq_zero_or_pos i with e | e
    · have hD : D' = fun t => if t = nxF n 0 1 then some (wtF R a b c 0 1) else none := by rw [h0 e]; rfl
      rw [hD, show i + 1 - 1 + k = k by omega]
      exact LeastAt.one
    · have := (h1 e).least (hl e (k + 1))
      rwa [show i - 1 + (k + 1) = i + 1 - 1 + k by omega] at this
theorem best_end {rem : Nat → Bool} {v : Int} (hI : ProfInv n a b c R (i + 1) N D) (h : BestI D rem v) (hr : ∀ x d, D x = some d → rem x = false) : v = (prK n a b c R i : Nat) := by
  obtain ⟨v1, t, d, hD, ev⟩ := hI.2.2.2 (by omega) 0
  rw [show i + 1 - 1 + 0 = i by omega] at v1 ev
  rcases h with ⟨rfl, h⟩ | ⟨m, rfl, _, ⟨x, hx⟩, h⟩
  · have := h t (by rw [hD]; rfl)
    rw [hr t d hD] at this; cases this
  · have h1 := h t d hD (hr t d hD)
    have h2 := v1 x m hx
    simp only [rmin] at h2 ev
    omega
theorem ProfInv.ok (hI : ProfInv n a b c R i N D) (hn : n ≤ 31) {t d : Nat} (h : D t = some d) : t ≤ 2147483647 ∧ d ≤ 3 * i := by
  obtain ⟨h1, h2⟩ := hI.2.1 t d h
  have : 2 ^ n ≤ 2 ^ 31 := Nat.pow_le_pow_right (by omega) hn
  omega
end
theorem profL_succ (n a b c : Nat) (R : Int) (i : Nat) : profL n a b c R (i + 1) = profL n a b c R i ++ [((prK n a b c R i : Nat) : Int)] := by simp [profL, List.range_succ]
set_option maxHeartbeats 4000000 in
theorem prof_good (n a b c : Nat) (R : Int) (t : Nat) (hA : a ≤ 4294967295) (hB : b ≤ 4294967295) (hC : c ≤ 4294967295) (hn : 2 ≤ n ∧ n ≤ 31) (hR : R = 2 ∨ R = 3) (hgood : checkF (n + 1) R a b c = 0) (ht : t ≤ 16) (w : World) :
    Calls Try.prog 25 #[.agg #[.int .i64 (n + 1), .int .i64 R, .int .u32 a, .int .u32 b, .int .u32 c], .int .i64 t] w fun e w' => ∃ v, e = .returned (.tuple #[v, .int .i64 0]) ∧ IntsV w' (w.heap.size + 1) v (profL n a b c R t) ∧ Below w.heap.size w w' := by
  have HC := hide (check_any (n + 1) R a b c hA hB hC)
  rw [hgood] at HC
  clear hgood
  have hmm := @run_makeMap Try.prog
  have hmf : ∀ (fn : Fn) (first cap : Array Value) (w : World), (Instr.makeFunc fn first cap).run Try.prog w = .ok (.func fn first cap) w := fun _ _ _ _ => rfl
  go_enter Try.func25, Try.ntmps25
  go_wp2_with fail
  refine (HC.out _).mono ?_
  rintro e w1 ⟨rfl, hb1⟩
  have hz1 : w.heap.size < w1.heap.size := size_mid hb1
  have k1 := bk hb1 w.heap.size (by simp)
  have c0 := bcell hb1 (b := w.heap.size) (o := 0) (v := .int .i64 (n + 1)) (by simp) (by simp [go_sem])
  have c1 := bcell hb1 (b := w.heap.size) (o := 1) (v := .int .i64 R) (by simp) (by simp [go_sem])
  have c2 := bcell hb1 (b := w.heap.size) (o := 2) (v := .int .u32 a) (by simp) (by simp [go_sem])
  have c3 := bcell hb1 (b := w.heap.size) (o := 3) (v := .int .u32 b) (by simp) (by simp [go_sem])
  have c4 := bcell hb1 (b := w.heap.size) (o := 4) (v := .int .u32 c) (by simp) (by simp [go_sem])
  have HB1 := hide (below_one hb1)
  clear hb1 k1
  have hm1 := hide (MapF.made mapN w1)
  go_wp2_with fail
  trace_state
  go_loopw [7, 8, 30] (fun v lm iv wr => ∃ (i N b' : Nat) (D : Nat → Option Nat), i ≤ t ∧ iv = .int .i64 i ∧ lm = .map (some b') ∧ MapF mapN wr b' N D ∧ Hid (ProfInv n a b c R i N D) ∧ IntsV wr w1.heap.size v (profL n a b c R i) ∧ Below w1.heap.size w1 wr) (fun _ _ iv _ => t - (intOf iv).toNat)
  case atStart => exact ⟨0, 0, _, _, Nat.zero_le _, rfl, rfl, MapF.made mapN w1, hide ⟨by simp, fun t d h => by (simp at h), fun _ => ⟨rfl, fun _ => rfl⟩, fun h => by omega⟩, OwnV.nil _ _ _, (Below.refl _ _).alloc (Nat.le_refl _) _⟩
  case round =>
    obtain ⟨i, N, b', D, hi, rfl, rfl, hm, HI, hout, hbl⟩ := hrel
    have hzr : w.heap.size < wr.heap.size := Nat.lt_of_lt_of_le hz1 hbl.size
    have c0 := bcell hbl hz1 c0
    have c1 := bcell hbl hz1 c1
    have c2 := bcell hbl hz1 c2
    have c3 := bcell hbl hz1 c3
    have c4 := bcell hbl hz1 c4
    by_cases hlt : i < t
    · have hS := hide (MapF.made mapN wr)
      have hq : ((wr.alloc (.map #[] 0)).alloc (.cells #[.map (some wr.heap.size)] 74)).cell? ⟨wr.heap.size + 1, 0, none⟩ = some (.map (some wr.heap.size)) := by simp [go_sem]
      have hbS : Below wr.heap.size wr ((wr.alloc (.map #[] 0)).alloc (.cells #[.map (some wr.heap.size)] 74)) := ((Below.refl _ _).alloc (Nat.le_refl _) _).alloc (by simp) _
      have hHS := hide (hS.out.alloc (.cells #[.map (some wr.heap.size)] 74))
      go_upto_if 36 with fail
      go_cut [30] from 30 to 73 (fun iv wc => iv = .int .i64 i ∧ ∃ (N0 : Nat) (D0 : Nat → Option Nat), MapF mapN wc wr.heap.size N0 D0 ∧ N0 + 2 * N ≤ 2 ^ (i + 1) ∧ Hid ((i = 0 → D0 = putMin (fun _ => none) (nxF n 0 1) (wtF R a b c 0 1)) ∧ (0 < i → D0 = fun _ => none)) ∧ wc.cell? ⟨wr.heap.size + 1, 0, none⟩ = some (.map (some wr.heap.size)) ∧ Below wr.heap.size wr wc ∧ wr.heap.size + 1 < wc.heap.size)
      case first =>
        by_cases h0 : i = 0
        · subst h0
          go_wp2_with fail
          refine (profput_any n a b c 0 1 0 R hR hn hA hB hC (by omega) (by omega) (by omega) w.heap.size (wr.heap.size + 1) wr.heap.size 0 _ (by decide) _ (by simp) (bcell hbS hzr c0) (bcell hbS hzr c1) (bcell hbS hzr c2) (bcell hbS hzr c3) (bcell hbS hzr c4) hq hHS.out).mono ?_
          rintro e w3 ⟨rfl, hm3, hg3⟩
          have hq3 := gcell hg3 (by simp) (by simp) hq
          have hHm3 := hide hm3
          have hb3 := hide (hbS.grown hg3 (by simp; omega) (fun k e => (by simpa using e) ▸ Nat.le_refl _))
          have hz3 := hg3.size
          clear hm3 hg3
          go_wp2_with fail
          go_meet
          case rel => exact ⟨rfl, 1, _, hHm3.out, by have := HI.out.2.2.1 rfl; omega, hide ⟨fun _ => by rw [Nat.zero_add], fun h => by omega⟩, hq3, hb3.out, by simp at hz3; omega⟩
        · go_wp2_with fail
          go_meet
          case rel => exact ⟨rfl, 0, _, hHS.out, by have := HI.out.1; rw [Nat.pow_succ]; omega, hide ⟨fun h => absurd h h0, fun _ => rfl⟩, hq, hbS, by simp⟩
      case rest =>
        obtain ⟨rfl, N0, D0, hm0, hN0, HD0, hq, hb0, hz0⟩ := hcut
        have HBL := hide hm.lt
        have hm1 := hide (hm.below hb0)
        have hHm0 := hide hm0
        clear hm hm0
        go_wp2_with (first | (at_range; refine wpList_rangeF mapN rfl _ rfl rfl hm1.out ?_; intro w4 cnt hcnt hrg hg4 hs4) | go_in)
        have hbl2 : b' < wr.heap.size := HBL.out
        have hx1 := range_lt16 hlt ht
        go_loopw [12] (fun _ wl => ∃ (D' : Nat → Option Nat) (N' cnt' : Nat) (rem : Nat → Bool), RangeF mapN wl b' wc.heap.size N D rem cnt' ∧ Hid (MapF mapN wl wr.heap.size N' D') ∧ N' + 2 * cnt' ≤ 2 ^ (i + 1) ∧ Hid ((0 < i → StepAt (nxF n) (wtF R a b c) D D' fun t _ => !rem t) ∧ (i = 0 → D' = D0)) ∧ wl.cell? ⟨wr.heap.size + 1, 0, none⟩ = some (.map (some wr.heap.size)) ∧ Below wr.heap.size wr wl ∧ wr.heap.size + 1 < wl.heap.size) (fun _ wl => wl.rangeLeft b' wc.heap.size)
        case atStart =>
          exact ⟨D0, N0, cnt, _, hrg, hide (hHm0.out.grown hg4 (by simp)), by omega, hide ⟨fun h => by rw [HD0.out.2 h]; exact (StepAt.none D).cong (fun t b _ h => by simp only [h]; rfl), fun _ => rfl⟩, gcell hg4 (by omega) (by simp) hq, hb0.trans ⟨hg4.os, hg4.tape, hg4.output, hg4.size, fun k hk => hg4.block k (by omega) (by simp)⟩, by omega⟩
        case round =>
          rename World => wl
          obtain ⟨D', N', cnt', rem, hrl, hHl, hNl, HSt, hql, hbw, hzl⟩ := hrel
          go_wp2_with (first | (at_next; refine wpList_nextF mapN rfl _ rfl rfl hrl (fun x => .int .u32 (x : Int)) (fun c => .int .i64 (c : Int)) (fun _ => rfl) (fun _ => rfl) ?_ ?_) | fail)
          · intro hdone
            have HI2 := hide (prof_step (N' := N') HI.out (fun h => (HSt.out.1 h).cong fun t b _ ht => by
              obtain ⟨d, hd⟩ := Option.isSome_iff_exists.1 ht
              rw [hdone t (show t ≤ 4294967295 by have := (HI.out.ok hn.2 hd).1; omega)]; rfl) (fun h => (HSt.out.2 h).trans (HD0.out.1 h)) (by omega))
            have hout2 := hide (OwnV.below hout hbw)
            clear HSt HD0 hHm0
            go_wp2_with (first | (at_range; refine wpList_rangeF mapN rfl _ rfl rfl hHl.out ?_; intro w6 cnt6 hcnt6 hrg6 hg6 hs6) | fail)
            go_frame
            go_loopw [14] (fun bv wx => ∃ (v : Int) (cnt' : Nat) (rem : Nat → Bool), bv = .int .i64 v ∧ RangeF mapN wx wr.heap.size wl.heap.size N' D' rem cnt' ∧ Hid (BestI D' rem v) ∧ -1 ≤ v ∧ v ≤ 1000000 ∧ Below wl.heap.size wl wx) (fun _ wx => wx.rangeLeft wr.heap.size wl.heap.size)
            case atStart =>
              exact ⟨-1, _, _, rfl, hrg6, hide (.inl ⟨rfl, fun x h => h⟩), by omega, by omega, ⟨hg6.os, hg6.tape, hg6.output, hg6.size, fun k hk => hg6.block k hk (by simp)⟩⟩
            case round =>
              rename World => wx
              obtain ⟨v, cnt', rem, rfl, hrx, HBe, hv1, hv2, hbx⟩ := hrel
              go_wp2_with (first | (at_next; refine wpList_nextF mapN rfl _ rfl rfl hrx (fun x => .int .u32 (x : Int)) (fun c => .int .i64 (c : Int)) (fun _ => rfl) (fun _ => rfl) ?_ ?_) | fail)
              · intro hdone2
                have ev := best_end HI2.out HBe.out (fun x d h => hdone2 x (show x ≤ 4294967295 by have := (HI2.out.ok hn.2 h).1; omega))
                have HEv := hide ev
                clear ev
                have hout3 := hide ((OwnV.below hout2.out hbx).alloc (.cells #[.int .i64 v] 3))
                have hrow1 := hide (RowV.one (w := wx.alloc (.cells #[.int .i64 v] 3)) (b := wx.heap.size) (u := .int .i64 v) (by simp [go_sem]) (by simp))
                have hbo : Below w1.heap.size w1 (wx.alloc (.cells #[.int .i64 v] 3)) := (hbl.trans ((hbw.trans (hbx.mono (by omega))).mono hbl.size)).alloc (Nat.le_trans hbl.size (Nat.le_trans hbw.size hbx.size)) _
                have hHbo := hide hbo
                have hzx : w1.heap.size ≤ wx.heap.size := by have := hbl.size; have := hbw.size; have := hbx.size; omega
                clear hbo
                go_wp2_with (first | (at_builtin; refine wpList_appV elemInt rfl (.tmp 69) (.tmp 71) rfl w1.heap.size _ _ rfl hout3.out (some ⟨wx.heap.size, 0, none⟩) 1 1 [.int .i64 v] rfl hrow1.out (by intro u hu; simp at hu; subst hu; rfl) rfl ?c1 ?c2 ?c3 ?_) | fail)
                case c1 => simp [profL]; omega
                case c2 => simp [profL]; omega
                case c3 => simp; omega
                intro v' w8 hown8 hg8 hloc8
                have hb8 := hHbo.out.grown hg8 (by simp; omega) (fun k e => (hout3.out.lt e).1)
                have hHm8 := hide ((hrx.owns.alloc (.cells #[.int .i64 v] 3)).grown hg8 (fun e => by have := (hout.lt e.symm).2; omega))
                have hHb8 := hide hb8
                have hown9 : IntsV w8 w1.heap.size v' (profL n a b c R (i + 1)) := by
                  unfold IntsV
                  rw [profL_succ, ← HEv.out, List.map_append]; exact hown8
                have hHown9 := hide hown9
                clear hb8 hown8 hown9 hg8 hloc8
                go_wp2_with fail
                go_roundw
                case rel => exact ⟨i + 1, N', wr.heap.size, D', by omega, by simp, rfl, hHm8.out, HI2, hHown9.out, hHb8.out⟩
                case measure => simp [intOf]; omega
              · intro x cv w5 cnt5 hx _ hrem hfx hrg5 hlt5 hg5 hs5 hen
                have hcv := (HI2.out.ok hn.2 hfx).2
                have hbx5 : Below wl.heap.size wl w5 := hbx.trans ⟨hg5.os, hg5.tape, hg5.output, hg5.size, fun k hk => hg5.block k (Nat.lt_of_lt_of_le hk hbx.size) (by simp; omega)⟩
                have hHB5 := hide hbx5
                clear hbx5 hs5
                by_cases h0 : v < 0
                · go_wp2_with fail
                  go_roundw
                  case rel => exact ⟨(cv : Int), cnt5, _, rfl, hrg5, hide (best_new HBe.out hfx (by omega) (.inl h0)), by omega, by omega, hHB5.out⟩
                  case measure => rw [hrg5.left_eq, hrx.left_eq]; omega
                · by_cases h1 : (cv : Int) < v
                  · go_wp2_with fail
                    go_roundw
                    case rel => exact ⟨(cv : Int), cnt5, _, rfl, hrg5, hide (best_new HBe.out hfx (by omega) (.inr h1)), by omega, by omega, hHB5.out⟩
                    case measure => rw [hrg5.left_eq, hrx.left_eq]; omega
                  · go_wp2_with fail
                    go_roundw
                    case rel => exact ⟨v, cnt5, _, rfl, hrg5, hide (best_old HBe.out hfx h0 h1), by omega, by omega, hHB5.out⟩
                    case measure => rw [hrg5.left_eq, hrx.left_eq]; omega
          · intro x cv w5 cnt5 hx _ hrem hfx hrg5 hlt5 hg5 hs5 hen
            have hok := HI.out.ok hn.2 hfx
            have hpos : 0 < i := by
              rcases Nat.eq_zero_or_pos i with e | e
              · rw [(HI.out.2.2.1 e).2 x] at hfx; cases hfx
              · exact e
            have hne1 : b' ≠ wr.heap.size := by omega
            have hne2 : wc.heap.size ≠ wr.heap.size := by omega
            have hb5 : Below wr.heap.size wr w5 := hbw.trans ⟨hg5.os, hg5.tape, hg5.output, hg5.size, fun k hk => hg5.block k (by omega) (by simp; omega)⟩
            have hq5 := gcell hg5 (by omega) (by simp; omega) hql
            have hm5 := hHl.out.grown hg5 (by simp; omega)
            have hz5 : wr.heap.size + 1 < w5.heap.size := by omega
            have hHrg := hide hrg5
            have hHlt := hide hlt5
            clear hrg5 hlt5 hg5 hs5 hql
            go_wp2_with fail
            refine (profput_any n a b c x 0 cv R hR hn hA hB hC (by omega) (by omega) (by omega) w.heap.size (wr.heap.size + 1) wr.heap.size N' _ (by unfold maxLen; omega) _ hz5 (bcell hb5 hzr c0) (bcell hb5 hzr c1) (bcell hb5 hzr c2) (bcell hb5 hzr c3) (bcell hb5 hzr c4) hq5 hm5).mono ?_
            rintro e w6 ⟨rfl, hm6, hg6⟩
            have hb6 := hb5.grown hg6 (by omega) (fun k e => by cases e; exact Nat.le_refl _)
            have hq6 := gcell hg6 (by omega) (by simp) hq5
            have hz6 : wr.heap.size + 1 < w6.heap.size := Nat.lt_of_lt_of_le hz5 hg6.size
            have hHrg6 := hide (hHrg.out.grown hg6 (by simp; omega) (by simp; omega))
            clear hg6 hm5
            go_wp2_with fail
            refine (profput_any n a b c x 1 cv R hR hn hA hB hC (by omega) (by omega) (by omega) w.heap.size (wr.heap.size + 1) wr.heap.size (N' + 1) _ (by unfold maxLen; omega) _ hz6 (bcell hb6 hzr c0) (bcell hb6 hzr c1) (bcell hb6 hzr c2) (bcell hb6 hzr c3) (bcell hb6 hzr c4) hq6 hm6).mono ?_
            rintro e w7 ⟨rfl, hm7, hg7⟩
            have hb7 := hb6.grown hg7 (by omega) (fun k e => by cases e; exact Nat.le_refl _)
            have hq7 := gcell hg7 (by omega) (by simp) hq6
            have hz7 : wr.heap.size + 1 < w7.heap.size := Nat.lt_of_lt_of_le hz6 hg7.size
            have hHrg7 := hide (hHrg6.out.grown hg7 (by simp; omega) (by simp; omega))
            have hHm7 := hide hm7
            clear hg7 hm6 hm7
            go_wp2_with fail
            go_roundw
            case rel => exact ⟨_, N' + 1 + 1, cnt5, _, hHrg7.out, hHm7, by have := hHlt.out; omega, hide ⟨fun _ => (HSt.out.1 hpos).two hfx, fun h => by omega⟩, hq7, hb7, hz7⟩
            case measure => rw [hHrg7.out.left_eq, hrl.left_eq]; exact hHlt.out
    · go_wp2_with fail
      obtain rfl : i = t := by omega
      refine bodyPost_ret (v := .tuple #[u7, .int .i64 0]) (by simp [results, Try.results25, go_sem]) rfl ⟨_, rfl, hout.mono (by omega), HB1.out.trans (hbl.mono (by omega))⟩
open Classical in
noncomputable def profV (K R : Int) (a b c : Nat) (t : Int) : List Int := if profE K R a b c t = 0 then profL (K - 1).toNat a b c R t.toNat else []
theorem profE_zero {K R : Int} {a b c : Nat} {t : Int} (h : profE K R a b c t = 0) : checkF K R a b c = 0 ∧ 0 ≤ t ∧ t ≤ 16 := by
  unfold profE at h
  by_cases h1 : checkF K R a b c = 0
  · rw [if_neg (by simpa using h1)] at h
    by_cases h2 : t < 0 ∨ 16 < t
    · rw [if_pos h2] at h; omega
    · exact ⟨h1, by omega, by omega⟩
  · rw [if_pos h1] at h; exact absurd h h1
theorem prof_any (K R : Int) (a b c : Nat) (t : Int) (hA : a ≤ 4294967295) (hB : b ≤ 4294967295) (hC : c ≤ 4294967295) (w : World) :
    Calls Try.prog 25 #[.agg #[.int .i64 K, .int .i64 R, .int .u32 a, .int .u32 b, .int .u32 c], .int .i64 t] w fun e w' => ∃ v, e = .returned (.tuple #[v, .int .i64 (profE K R a b c t)]) ∧ IntsV w' w.heap.size v (profV K R a b c t) ∧ Below w.heap.size w w' := by
  by_cases h1 : checkF K R a b c = 0
  · by_cases h2 : t < 0 ∨ 16 < t
    · have e : profE K R a b c t = 1 := by unfold profE; rw [if_neg (by simpa using h1), if_pos h2]
      unfold profV
      rw [e, if_neg (by omega)]
      exact (prof_bad2 K R a b c t hA hB hC h1 h2 w).mono fun e w' h => ⟨_, h.1, OwnV.nil _ _ _, h.2⟩
    · have e : profE K R a b c t = 0 := by unfold profE; rw [if_neg (by simpa using h1), if_neg h2]
      unfold profV
      rw [e, if_pos rfl]
      obtain ⟨n, rfl, hn2, hn31, hR⟩ := good_code h1
      obtain ⟨t, rfl⟩ : ∃ m : Nat, t = m := ⟨t.toNat, by omega⟩
      rw [show ((n : Int) + 1 - 1).toNat = n by omega, Int.toNat_natCast]
      exact (prof_good n a b c R t hA hB hC ⟨hn2, hn31⟩ hR h1 (by omega) w).mono fun e w' ⟨v, h1, h2, h3⟩ => ⟨v, h1, h2.mono (by omega), h3⟩
  · have e : profE K R a b c t = checkF K R a b c := by unfold profE; rw [if_pos h1]
    unfold profV
    rw [e, if_neg h1]
    exact (prof_bad1 K R a b c t hA hB hC h1 w).mono fun e w' h => ⟨_, h.1, OwnV.nil _ _ _, h.2⟩
end Go.Proofs.Ytpmnbdkncmjafaa
