/- outpostref07.Profile, walked. -/
import Derived.Test.YtpmnbdkncmjafaaRows
import Derived.Test.YtpmnbdkncmjafaaWays
namespace Go.Proofs.Ytpmnbdkncmjafaa
open Go.RowKit

theorem IntsV.celln {w : World} {B g cap n : Nat} {xs : List Int} (h : IntsV w B (.slice (some ⟨g, 0, none⟩) n cap) xs) (hn : n = xs.length) {j : Nat} (hj : j < n) : w.cell? ⟨g, j, none⟩ = some (.int .i64 (xs.getD j 0)) := by
  rw [OwnV.cell h (by simpa using hn) hj]
  simp [show j < xs.length by omega, List.getD]
theorem rprof_bad1 (K R : Int) (a b c : Nat) (t : Int) (hA : a ≤ 4294967295) (hB : b ≤ 4294967295) (hC : c ≤ 4294967295) (hbad : checkF K R a b c ≠ 0) (w : World) :
    Calls Try.prog 26 #[.agg #[.int .i64 K, .int .i64 R, .int .u32 a, .int .u32 b, .int .u32 c], .int .i64 t] w fun e w' => e = .returned (.tuple #[.slice none 0 0, .int .i64 (checkF K R a b c)]) ∧ Below w.heap.size w w' := by
  have HC := hide (rcheck_any K R a b c hA hB hC)
  generalize checkF K R a b c = er at *
  have hne : (er != 0) = true := bne_iff_ne.2 hbad
  go_enter Try.func26, Try.ntmps26
  go_wp2_with fail
  refine (HC.out _).mono ?_
  rintro e w1 ⟨rfl, hb1⟩
  go_wp2_with fail
  go_ret2
  exact ⟨rfl, below_one hb1⟩
theorem rprof_bad2 (K R : Int) (a b c : Nat) (t : Int) (hA : a ≤ 4294967295) (hB : b ≤ 4294967295) (hC : c ≤ 4294967295) (hgood : checkF K R a b c = 0) (ht : t < 0 ∨ 16 < t) (w : World) :
    Calls Try.prog 26 #[.agg #[.int .i64 K, .int .i64 R, .int .u32 a, .int .u32 b, .int .u32 c], .int .i64 t] w fun e w' => e = .returned (.tuple #[.slice none 0 0, .int .i64 1]) ∧ Below w.heap.size w w' := by
  have HC := hide (rcheck_any K R a b c hA hB hC)
  rw [hgood] at HC
  clear hgood
  rcases ht with ht | ht
  all_goals
    go_enter Try.func26, Try.ntmps26
    go_wp2_with fail
    refine (HC.out _).mono ?_
    rintro e w1 ⟨rfl, hb1⟩
    go_wp2_with fail
    go_ret2
    exact ⟨rfl, below_one hb1⟩
/-- the row of which k places are written, behind them zeros -/
def mones (t k : Nat) : List Int := List.replicate k (-1) ++ List.replicate (t - k) 0
theorem mones_length {t k : Nat} (h : k ≤ t) : (mones t k).length = t := by simp [mones]; omega
theorem mones_set {t k : Nat} (h : k < t) : (mones t k).set k (-1) = mones t (k + 1) := by
  apply List.ext_getElem?
  intro i
  simp only [mones, List.getElem?_set, List.getElem?_append, List.getElem?_replicate, List.length_append, List.length_replicate]
  by_cases e : k = i
  · subst e; simp [show k < k + (t - k) by omega]
  · rw [if_neg e]
    by_cases h1 : i < k
    · simp [h1, Nat.lt_succ_of_lt h1]
    · simp [h1, show ¬ i < k + 1 by omega]
      by_cases h2 : i - k < t - k
      · rw [if_pos h2, if_pos (by omega)]
      · rw [if_neg h2, if_neg (by omega)]
theorem mones_full (n a b c : Nat) (R : Int) (t : Nat) : updL 0 (fun j => wtF R a b c 0 1 + rmin (nxF n) (wtF R a b c) j (nxF n 0 1)) (mones t t) = profL n a b c R t := by
  unfold updL profL
  apply List.ext_getElem?
  intro i
  simp only [mones, Nat.sub_self, List.replicate_zero, List.append_nil, List.getElem?_mapIdx, List.getElem?_replicate, List.getElem?_map]
  by_cases h : i < t
  · simp [h, updI, prK]
  · simp [h]
set_option maxHeartbeats 2000000 in
theorem rprof_good (n a b c : Nat) (R : Int) (t : Nat) (hA : a ≤ 4294967295) (hB : b ≤ 4294967295) (hC : c ≤ 4294967295) (hn : 2 ≤ n ∧ n ≤ 31) (hR : R = 2 ∨ R = 3) (hgood : checkF (n + 1) R a b c = 0) (ht : t ≤ 16) (w : World) :
    Calls Try.prog 26 #[.agg #[.int .i64 (n + 1), .int .i64 R, .int .u32 a, .int .u32 b, .int .u32 c], .int .i64 t] w fun e w' => ∃ v, e = .returned (.tuple #[v, .int .i64 0]) ∧ IntsV w' (w.heap.size + 1) v (profL n a b c R t) ∧ Below w.heap.size w w' := by
  have HC := hide (rcheck_any (n + 1) R a b c hA hB hC)
  rw [hgood] at HC
  clear hgood
  go_enter Try.func26, Try.ntmps26
  go_wp2_with fail
  refine (HC.out _).mono ?_
  rintro e w1 ⟨rfl, hb1⟩
  have hz1 : w.heap.size < w1.heap.size := size_mid hb1
  have c0 := bcell hb1 (b := w.heap.size) (o := 0) (v := .int .i64 (n + 1)) (by simp) (by simp [go_sem])
  have c1 := bcell hb1 (b := w.heap.size) (o := 1) (v := .int .i64 R) (by simp) (by simp [go_sem])
  have c2 := bcell hb1 (b := w.heap.size) (o := 2) (v := .int .u32 a) (by simp) (by simp [go_sem])
  have c3 := bcell hb1 (b := w.heap.size) (o := 3) (v := .int .u32 b) (by simp) (by simp [go_sem])
  have c4 := bcell hb1 (b := w.heap.size) (o := 4) (v := .int .u32 c) (by simp) (by simp [go_sem])
  have HB1 := hide (below_one hb1)
  clear hb1
  go_wp2_with (first | (at_make; refine wpList_makeV elemInt rfl rfl _ _ rfl w1.heap.size _ _ t rfl rfl rfl rfl (by omega) (by omega) (by omega) ?_; intro w2 hx2 hg2 hz2) | fail)
  have hx0 : IntsV w2 w1.heap.size (.slice (some ⟨w1.heap.size, 0, none⟩) t t) (mones t 0) := by
    have e : (mones t 0).map (Value.int .i64) = List.replicate t (Value.int .i64 0) := by simp [mones]
    unfold IntsV
    rw [e]; exact hx2
  have hb2 : Below w1.heap.size w1 w2 := ⟨hg2.os, hg2.tape, hg2.output, hg2.size, fun k hk => hg2.block k hk (by simp)⟩
  clear hx2 hg2
  go_loopw [8] (fun i wr => ∃ k : Nat, k ≤ t ∧ i = .int .i64 k ∧ Hid (IntsV wr w1.heap.size (.slice (some ⟨w1.heap.size, 0, none⟩) t t) (mones t k)) ∧ Below w1.heap.size w1 wr ∧ w1.heap.size < wr.heap.size) (fun i _ => t - (intOf i).toNat)
  case atStart => exact ⟨0, by omega, rfl, hide hx0, hb2, hz2⟩
  case round =>
    rename World => wr
    obtain ⟨k, hk, rfl, HX, hbl, hzr⟩ := hrel
    by_cases hlt : k < t
    · have hkI : (k : Int) < t := by omega
      have hlen := mones_length hk
      have hcl := IntsV.celln HX.out hlen.symm hlt
      have hfz := OwnV.frz HX.out (by simpa using hlen.symm) k
      have hset := hide (IntsV.set HX.out hlen.symm k (-1))
      clear hlen
      go_wp2_with fail
      go_roundw
      case rel => exact ⟨k + 1, by omega, by simp, by rw [← mones_set hlt]; exact hide hset.out.1, hbl.grown hset.out.2 (Nat.le_of_lt hzr) (fun j e => by cases e; exact Nat.le_refl _), by simpa using hzr⟩
      case measure => simp [intOf]; omega
    · obtain rfl : k = t := by omega
      clear hk hlt
      by_cases h0 : k = 0
      · have h0I : ¬ (0 : Int) < (k : Int) := by omega
        have hfin : IntsV wr w1.heap.size (.slice (some ⟨w1.heap.size, 0, none⟩) k k) (profL n a b c R k) := by
          have := HX.out
          subst h0
          simpa [mones, profL] using this
        have HF := hide hfin
        clear hfin h0
        go_wp2_with fail
        refine bodyPost_ret (v := .tuple #[.slice (some ⟨w1.heap.size, 0, none⟩) k k, .int .i64 0]) (by simp [results, Try.results26, go_sem]) rfl ⟨_, rfl, HF.out.mono (by omega), HB1.out.trans (hbl.mono (by omega))⟩
      · have h0I : (0 : Int) < (k : Int) := by omega
        have c0 := bcell hbl hz1 c0
        have c1 := bcell hbl hz1 c1
        have c2 := bcell hbl hz1 c2
        have c3 := bcell hbl hz1 c3
        have c4 := bcell hbl hz1 c4
        have HN0 := hide (next_any n a b c 0 1 R hR hn hA hB hC (by omega) (by omega))
        have HO0 := hide (rones_any (outF (2 * 0 + 1) a) (outF (2 * 0 + 1) b) (third R (outF (2 * 0 + 1) c)) (outF_le _ _) (outF_le _ _) (third_le1 _ (outF_le _ _)))
        change Hid (∀ w, Calls Try.prog 37 _ w fun e w' => e = .returned (.tuple #[.int .u32 ((nxF n 0 1 : Nat) : Int), _]) ∧ Below w.heap.size w w') at HN0
        change Hid (∀ w, Calls Try.prog 46 _ w fun e w' => e = .returned (.int .i64 ((wtF R a b c 0 1 : Nat) : Int)) ∧ Below w.heap.size w w') at HO0
        generalize outF (2 * 0 + 1) a = y0 at HN0 HO0
        generalize outF (2 * 0 + 1) b = y1 at HN0 HO0
        generalize third R (outF (2 * 0 + 1) c) = y2 at HN0 HO0
        have hwtl := wtF_le R a b c 0 1
        have hnxl := nxF_lt n 0 1
        have HW0 := hide fun (u : World) (h : IntsV u w1.heap.size (.slice (some ⟨w1.heap.size, 0, none⟩) k k) (mones k k)) => ways_any n a b c R hA hB hC hn hR w1.heap.size k w1.heap.size k ht (k - 1) (nxF n 0 1) 0 (wtF R a b c 0 1) (mones k k) u hnxl (by omega) (mones_length (Nat.le_refl _)) (by omega) h
        have HFL := hide (mones_full n a b c R k)
        generalize hnx : nxF n 0 1 = q at HN0 HW0 HFL
        generalize hwt : wtF R a b c 0 1 = wt at HO0 HW0 HFL
        clear hnx hwt hwtl hnxl
        go_wp2_with fail
        refine (HN0.out _).mono ?_
        rintro e w3 ⟨rfl, hb3⟩
        have hz3 : w.heap.size < w3.heap.size := by have := hb3.size; omega
        have d0 := bcell hb3 (by omega) c0
        have d1 := bcell hb3 (by omega) c1
        have d2 := bcell hb3 (by omega) c2
        have d3 := bcell hb3 (by omega) c3
        have d4 := bcell hb3 (by omega) c4
        have HU := hide fun (u : World) (h : Below (w3.alloc (.cells #[.int .u8 y0, .int .u8 y1, .int .u8 y2] 26)).heap.size (w3.alloc (.cells #[.int .u8 y0, .int .u8 y1, .int .u8 y2] 26)) u) => (⟨bcell_mid h hz3 d0, bcell_mid h hz3 d1, bcell_mid h hz3 d2, bcell_mid h hz3 d3, bcell_mid h hz3 d4, hide (HX.out.below (below_mid hb3 h)), hide (hbl.trans ((below_mid hb3 h).mono (by omega))), by have := (below_mid hb3 h).size; omega⟩ :
          u.cell? ⟨w.heap.size, 0, none⟩ = some (.int .i64 (n + 1)) ∧ u.cell? ⟨w.heap.size, 1, none⟩ = some (.int .i64 R) ∧ u.cell? ⟨w.heap.size, 2, none⟩ = some (.int .u32 a) ∧ u.cell? ⟨w.heap.size, 3, none⟩ = some (.int .u32 b) ∧ u.cell? ⟨w.heap.size, 4, none⟩ = some (.int .u32 c) ∧ Hid (IntsV u w1.heap.size (.slice (some ⟨w1.heap.size, 0, none⟩) k k) (mones k k)) ∧ Hid (Below w1.heap.size w1 u) ∧ w1.heap.size < u.heap.size)
        go_wp2_with fail
        go_region_with (first
          | (go_at_call 46; refine (HO0.out _).mono ?_; rintro e w2 ⟨rfl, hb2⟩; obtain ⟨c0, c1, c2, c3, c4, hz2, hg2, hzz⟩ := HU.out w2 (below_drewL hb2))
          | (go_at_call 45; refine (HW0.out _ hz2.out).mono ?_; rintro e w4 ⟨rfl, hi3, hg3⟩; have hHi := hide hi3; have hHb := hide (hg2.out.grown hg3 (Nat.le_of_lt hzz) (fun j e => by cases e; exact Nat.le_refl _)); clear hi3 hg3))
        all_goals (
          go_wp2_with fail
          refine bodyPost_ret (v := .tuple #[.slice (some ⟨w1.heap.size, 0, none⟩) k k, .int .i64 0]) (by simp [results, Try.results26, go_sem]) rfl ⟨_, rfl, ?_, HB1.out.trans (hHb.out.mono (by omega))⟩
          have := hHi.out
          rw [HFL.out] at this
          exact this.mono (by omega))
theorem rprof_any (K R : Int) (a b c : Nat) (t : Int) (hA : a ≤ 4294967295) (hB : b ≤ 4294967295) (hC : c ≤ 4294967295) (w : World) :
    Calls Try.prog 26 #[.agg #[.int .i64 K, .int .i64 R, .int .u32 a, .int .u32 b, .int .u32 c], .int .i64 t] w fun e w' => ∃ v, e = .returned (.tuple #[v, .int .i64 (profE K R a b c t)]) ∧ IntsV w' w.heap.size v (profV K R a b c t) ∧ Below w.heap.size w w' := by
  by_cases h1 : checkF K R a b c = 0
  · by_cases h2 : t < 0 ∨ 16 < t
    · have e : profE K R a b c t = 1 := by unfold profE; rw [if_neg (by simpa using h1), if_pos h2]
      unfold profV
      rw [e, if_neg (by omega)]
      exact (rprof_bad2 K R a b c t hA hB hC h1 h2 w).mono fun e w' h => ⟨_, h.1, OwnV.nil _ _ _, h.2⟩
    · have e : profE K R a b c t = 0 := by unfold profE; rw [if_neg (by simpa using h1), if_neg h2]
      unfold profV
      rw [e, if_pos rfl]
      obtain ⟨n, rfl, hn2, hn31, hR⟩ := good_code h1
      obtain ⟨t, rfl⟩ : ∃ m : Nat, t = m := ⟨t.toNat, by omega⟩
      rw [show ((n : Int) + 1 - 1).toNat = n by omega, Int.toNat_natCast]
      exact (rprof_good n a b c R t hA hB hC ⟨hn2, hn31⟩ hR h1 (by omega) w).mono fun e w' ⟨v, h1, h2, h3⟩ => ⟨v, h1, h2.mono (by omega), h3⟩
  · have e : profE K R a b c t = checkF K R a b c := by unfold profE; rw [if_pos h1]
    unfold profV
    rw [e, if_neg h1]
    exact (rprof_bad1 K R a b c t hA hB hC h1 w).mono fun e w' h => ⟨_, h.1, OwnV.nil _ _ _, h.2⟩
end Go.Proofs.Ytpmnbdkncmjafaa
