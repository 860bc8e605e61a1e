/- The law WeatherStrikes, walked: it returns true. -/
import Derived.Test.YtmagpmoghnmhmaaRows
import Derived.Test.YtmagpmoghnmhmaaLvOf
import Derived.Test.YtmagpmoghnmhmaaWDays
import Derived.Deep.DeepCutAuto
import Derived.BigQuiet
import Derived.Deep.QuietTactic
namespace Go.Proofs.Ytmagpmoghnmhmaa
open Go.RowKit

def bothB (a b k : Int) : Bool := a == k && b == k
set_option maxRecDepth 100000 in
set_option maxHeartbeats 1000000 in
theorem strikes_bad (D : Int) (T S : Nat) (W B C M : Int) (lev : Int) (hT : T ≤ 18446744073709551615) (hS : S ≤ 18446744073709551615) (hne : wchk D T S W B C M ≠ 0) (b : Value) (w : World) :
    Calls Try.prog 7 #[.agg #[.int .i64 D, .int .u64 T, .int .u64 S, .int .i64 W, .int .i64 B, .int .i64 C, .int .i64 M], .int .i64 lev, b] w fun e w' => e = .returned (.bool true) ∧ Below w.heap.size w w' := by
  have HC := hide (r37check_any D T S W B C M hT hS)
  have hb := nzBne hne
  generalize wchk D T S W B C M = cf at *
  clear hne
  go_enter Try.func7, Try.ntmps7
  go_wp2_with fail
  refine (HC.out _).mono ?_
  rintro e w1 ⟨rfl, hb1⟩
  go_wp2_with fail
  refine (knows_any _).mono ?_
  rintro e w2 ⟨rfl, hb2⟩
  go_wp2_with fail
  go_ret
  exact ⟨rfl, below_then (below_one hb1) hb2⟩
set_option maxRecDepth 100000 in
set_option maxHeartbeats 4000000 in
theorem strikes_good (p : Gf2.Wp) (S : Nat) (hg : GoodL p.D p.T S) (h0 : wchk p.D p.T S p.W p.B p.C p.M = 0) (lev : Int) (ad : Option Addr) (cap : Nat) (xs : List Nat) (hl : xs.length ≤ 140737488351232) (h8 : ∀ i, xs.getD i 0 ≤ 255) (w : World) (hr : RowA w ad xs) :
    Calls Try.prog 7 #[.agg #[.int .i64 p.D, .int .u64 p.T, .int .u64 S, .int .i64 p.W, .int .i64 p.B, .int .i64 p.C, .int .i64 p.M], .int .i64 lev, .slice ad xs.length cap] w fun e w' => e = .returned (.bool true) ∧ Below w.heap.size w w' := by
  have HC := hide (r37check_any p.D p.T S p.W p.B p.C p.M (by have := hg.small; omega) (by have := hg.small; omega))
  rw [h0] at HC
  have HN := hide (wnew_good p S hg h0)
  have HSP := hide fun (m : Nat) (hm : m ≤ 1048576) => spell_ok p S hg h0 m hm
  obtain ⟨lv, elv, l2, l16, t0, t1⟩ := lv_of lev
  have HRW := hide fun (u : World) (h : RowA u ad xs) => row_any lv (by omega) ad cap xs hl h8 u h
  have hul : ((List.range xs.length).map fun i => xs.getD i 0 % lv).length = xs.length := by simp
  have hux : ∀ i, i < ((List.range xs.length).map fun i => xs.getD i 0 % lv).length → ((List.range xs.length).map fun i => xs.getD i 0 % lv).getD i 0 < lv := fun i hi => by
    rw [hul] at hi; rw [fill_at _ hi]; exact Nat.mod_lt _ (by omega)
  generalize (List.range xs.length).map (fun i => xs.getD i 0 % lv) = us at *
  have HT := hide fun (x bn g : Nat) (u : World) (ad : Option Addr) (cap : Nat) (h : WSt u x bn g p S (S, false) 0) (hr : RowA u ad us) (hne : ∀ b off, ad = some ⟨b, off, none⟩ → b ≠ x ∧ b ≠ g) =>
    turn_ok lv (by omega) ad cap us (by omega) hux u h (by omega) hr hne
  have HUX := hide hux
  have HR := hide hr
  have hul2 : us.length ≤ 140737488351232 := by omega
  clear hg h0 h8 hr hux hul hl
  generalize ht : lev.tmod 15 = t at *
  go_enter Try.func7, Try.ntmps7
  go_wp2_with fail
  refine (HC.out _).mono ?_
  rintro e w1 ⟨rfl, hb1⟩
  have HX1 := hide (boxW w w1 p S _ (by simpa using hb1))
  have HB1 := hide (below_one hb1)
  have hz1 := size_mid (w1 := w) hb1
  clear hb1
  go_wp2_with fail
  refine (knows_any _).mono ?_
  rintro e w2 ⟨rfl, hb2⟩
  have HX2 := hide ((hb2.block _ hz1).trans HX1.out)
  have hz2 : w.heap.size < w2.heap.size := by have := hb2.size; omega
  have HB2 := hide (below_then HB1.out hb2)
  clear hb2
  go_wp2_with fail
  refine (HRW.out _ (HR.out.below HB2.out)).mono ?_
  rintro e w3 ⟨vu, rfl, hou, hb3⟩
  have HX3 := hide ((hb3.block _ hz2).trans HX2.out)
  have HB3 := hide (below_then HB2.out hb3)
  have hz3 : w.heap.size < w3.heap.size := by have := hb3.size; omega
  obtain ⟨au, cu, rfl, ru, gu⟩ := hou.rowg
  have RU := hide ru
  have GU := hide gu
  obtain ⟨q0, q1, q2, q3, q4, q5, q6⟩ := boxW_cells HX3.out
  clear hou hb3 ru gu
  go_wp2_with fail
  refine (HN.out _).mono ?_
  rintro e w4 ⟨x, bn, g, rfl, hs4, ⟨a1, a2, a3⟩, hb4⟩
  have HS4 := hide hs4
  have HX4 := hide ((hb4.block _ hz3).trans HX3.out)
  have HB4 := hide (below_then HB3.out hb4)
  have RU4 := hide (RU.out.below hb4)
  have hz4 := hb4.size
  clear hs4 hb4 q0 q1 q2 q3 q4 q5 q6
  go_wp2_with fail
  refine (num_any _ _).mono ?_
  rintro e w' ⟨rfl, rfl⟩
  go_wp2_with fail
  refine (HT.out x bn g _ _ _ HS4.out RU4.out (fun b off e => by have := GU.out b off e; omega)).mono ?_
  rintro e w5 ⟨vl, rfl, hol, hs5, ht5⟩
  obtain ⟨al, cl, hvl, rl, gl⟩ := hol.rowg
  rw [Gf2.wturn_length] at hvl
  subst hvl
  have HLS := hide (show ∀ i, i < us.length → (Gf2.wturn p lv (S, false) us).getD i 0 = if Gf2.whit p (Gf2.wat p i (S, false)) then lv - 1 - us.getD i 0 else us.getD i 0 from fun i hi => Gf2.wturn_at p lv (S, false) us hi)
  have HLL := hide (Gf2.wturn_length p lv (S, false) us)
  generalize Gf2.wturn p lv (S, false) us = ls at *
  have HX5 := hide ((ht5.block _ (by omega) (by omega) (by omega)).trans HX4.out)
  have HB5 := hide (Two.then_ HB4.out ht5 (by omega) (by omega) HB4.out.size)
  have RU5 := hide (RU4.out.two ht5 (fun b off e => by have := GU.out b off e; omega))
  have RL5 := hide rl
  clear hol hs5 ht5 rl gl
  go_wp2_with fail
  refine (num_any _ _).mono ?_
  rintro e w' ⟨rfl, rfl⟩
  obtain ⟨q0, q1, q2, q3, q4, q5, q6⟩ := boxW_cells HX5.out
  go_upto_region 11 with fail
  go_cut [12] (fun v12 wx => v12 = .bool (bothB p.C p.M 0) ∧ w5 = wx)
  case first =>
    by_cases hc0 : p.C = 0
    · go_wp2_with fail
      go_meet
      case rel => exact ⟨by unfold bothB; simp [hc0], rfl⟩
    · have b1 := nzBeq hc0
      go_wp2_with fail
      go_meet
      case rel => exact ⟨by unfold bothB; simp [b1], rfl⟩
  case rest =>
    obtain ⟨rfl, rfl⟩ := hcut
    go_upto_region 12 with fail
    go_cut [13] (fun v13 wx => v13 = .bool (bothB p.C p.M 256) ∧ w5 = wx)
    case first =>
      by_cases hc0 : p.C = 256
      · go_wp2_with fail
        go_meet
        case rel => exact ⟨by unfold bothB; simp [hc0], rfl⟩
      · have b1 : (p.C == 256) = false := by simpa using hc0
        go_wp2_with fail
        go_meet
        case rel => exact ⟨by unfold bothB; simp [b1], rfl⟩
    case rest =>
      obtain ⟨rfl, rfl⟩ := hcut
      have HNO := hide (show bothB p.C p.M 0 = true → ∀ s, Gf2.whit p s = false from fun h s => by unfold bothB at h; simp at h; exact Gf2.hit_none s h.1 h.2)
      have HEV := hide (show bothB p.C p.M 256 = true → ∀ s, Gf2.whit p s = true from fun h s => by unfold bothB at h; simp at h; exact Gf2.hit_every s h.1 h.2)
      generalize bothB p.C p.M 0 = bno at *
      generalize bothB p.C p.M 256 = bev at *
      go_wp2_with fail
      go_loopw [14] (fun i u => ∃ (k : Nat) (dn : Nat), k ≤ us.length ∧ i = .int .i64 k ∧ u = w5.drewN dn) (fun i _ => us.length - (intOf i).toNat)
      case atStart => exact ⟨0, 0, by omega, rfl, rfl⟩
      case round =>
        obtain ⟨k, dn, hk, rfl, rfl⟩ := hrel
        by_cases hlt : k < us.length
        · as_aux_lemma =>
          obtain ⟨bu, ou, rfl, _, hcu⟩ := RU5.out.at_ hlt
          obtain ⟨bl, ol, rfl, _, hcl⟩ := RL5.out.at_ (by rw [HLL.out]; exact hlt)
          have hux := HUX.out k hlt
          have hls := HLS.out k hlt
          have HN1 := hide fun h => HNO.out h (Gf2.wat p k (S, false))
          have HE1 := hide fun h => HEV.out h (Gf2.wat p k (S, false))
          generalize Gf2.whit p (Gf2.wat p k (S, false)) = hit at *
          have hin : (0 : Int) ≤ k := by omega
          have hin2 : (k : Int) < us.length := by omega
          obtain ⟨q, hq, hq2⟩ : ∃ q : Nat, (lv : Int) - 1 - us.getD k 0 = q ∧ lv - 1 - us.getD k 0 = q := ⟨lv - 1 - us.getD k 0, by omega, rfl⟩
          rw [hq2] at hls
          generalize us.getD k 0 = y at *
          generalize ls.getD k 0 = z at *
          clear hq2
          cases hit
          · obtain rfl : z = y := by simpa using hls
            obtain rfl : bev = false := by
              cases bev
              · rfl
              · exact absurd (HE1.out rfl) (by decide)
            clear hls
            cases bno
            all_goals
              go_wp2_with fail
              go_quiet (fail)
              go_wp2_with fail
              go_roundw
              case rel => exact ⟨k + 1, _, by omega, by simp, rfl⟩
              case measure => simp [intOf]; omega
          · obtain rfl : z = q := by simpa using hls
            obtain rfl : bno = false := by
              cases bno
              · rfl
              · exact absurd (HN1.out rfl) (by decide)
            clear hls
            by_cases hzy : z = y
            · subst hzy
              cases bev
              all_goals
                go_wp2_with fail
                go_quiet (fail)
                go_wp2_with fail
                go_roundw
                case rel => exact ⟨k + 1, _, by omega, by simp, rfl⟩
                case measure => simp [intOf]; omega
            · have hb1 : ((z : Int) != (y : Int)) = true := by rw [bne_iff_ne]; omega
              cases bev
              all_goals
                go_wp2_with fail
                go_quiet (fail)
                go_wp2_with fail
                go_roundw
                case rel => exact ⟨k + 1, _, by omega, by simp, rfl⟩
                case measure => simp [intOf]; omega
        · as_aux_lemma =>
          obtain rfl : k = us.length := by omega
          go_upto_region 19 with fail
          go_cut [16] (fun v16 wx => v16 = .int .i64 (min us.length 1048576 : Nat) ∧ w5.drewN dn = wx)
          case first =>
            by_cases hmm : us.length ≤ 1048576
            · have hmd : decide ((1048576 : Int) < us.length) = false := by simp; omega
              go_wp2_with fail
              go_meet
              case rel => exact ⟨by rw [Nat.min_eq_left hmm], rfl⟩
            · have hmd : decide ((1048576 : Int) < us.length) = true := by simp; omega
              go_wp2_with fail
              go_meet
              case rel => exact ⟨by rw [Nat.min_eq_right (by omega)]; rfl, rfl⟩
          case rest =>
            obtain ⟨rfl, rfl⟩ := hcut
            have hm : min us.length 1048576 ≤ 1048576 := Nat.min_le_right _ _
            generalize min us.length 1048576 = m at *
            have hz5 : w.heap.size < w5.heap.size := by have := HB5.out.size; have := ((Array.getElem?_eq_some_iff.1 HX5.out).1); omega
            go_wp2_with fail
            refine (HSP.out m hm _).mono ?_
            rintro e w6 ⟨vd, rfl, hod, hb6⟩
            obtain ⟨ad6, cd, hvd, rd, gd⟩ := hod.rowg
            have hdl : (Gf2.wspell p (S, false) m).length = m := by simp [Gf2.wspell]
            rw [hdl] at hvd
            subst hvd
            have HDS := hide (show ∀ i, i < m → (Gf2.wspell p (S, false) m).getD i 0 = dayN (Gf2.wat p (i + 1) (S, false)).2 from fun i hi => by unfold Gf2.wspell; rw [fill_at _ hi]; rfl)
            have HDL := hide hdl
            clear hdl
            generalize Gf2.wspell p (S, false) m = ds at *
            have HX6 := hide ((hb6.block w.heap.size hz5).trans HX5.out)
            have HB6 := hide (HB5.out.trans ((below_drewNL hb6).mono HB5.out.size))
            have RD := hide rd
            clear hod hb6 rd gd q0 q1 q2 q3 q4 q5 q6
            obtain ⟨q0, q1, q2, q3, q4, q5, q6⟩ := boxW_cells HX6.out
            clear q0 q2
            go_wp2_with fail
            refine (num_any _ _).mono ?_
            rintro e w' ⟨rfl, rfl⟩
            go_wp2_with fail
            go_loop [19] (fun i => ∃ k : Nat, k ≤ m ∧ i = .int .i64 k) (fun i => m - (intOf i).toNat)
            case atStart => exact ⟨0, by omega, rfl⟩
            case round =>
              obtain ⟨k, hk, rfl⟩ := hrel
              by_cases hlt : k < m
              · as_aux_lemma =>
                obtain ⟨bd, od, rfl, _, hcd⟩ := RD.out.at_ (by rw [HDL.out]; exact hlt)
                have hds := HDS.out k hlt
                have hz1 : ds.getD k 0 ≤ 1 := by rw [hds]; unfold dayN; split <;> omega
                have hin : (0 : Int) ≤ k := by omega
                have hin2 : (k : Int) < m := by omega
                generalize ds.getD k 0 = z at *
                by_cases hW : p.W = 0
                · have hb0 : p.W == 0 := by simpa using hW
                  have hb1 : (p.W == 256) = false := by rw [hW]; rfl
                  rw [Gf2.day_never S hW] at hds
                  obtain rfl : z = 0 := hds
                  clear hW
                  go_wp2_with fail
                  go_round
                  case rel => exact ⟨k + 1, by omega, by simp⟩
                  case measure => simp [intOf]; omega
                · have hb0 := nzBeq hW
                  by_cases hW2 : p.W = 256
                  · have hb1 : (p.W == 256) = true := by simpa using hW2
                    by_cases hB : p.B = 256
                    · have hb2 : (p.B == 256) = true := by simpa using hB
                      have hb3 : (p.B == 0) = false := by rw [hB]; rfl
                      rw [Gf2.day_turns S hW2 hB] at hds
                      have hb4 : ((z : Int) != 1 - (k : Int) % 2) = false := by
                        rw [bne_eq_false_iff_eq, hds]; unfold dayN
                        rcases Nat.mod_two_eq_zero_or_one k with h | h
                        · rw [show (k + 1) % 2 = 1 by omega]; simp; omega
                        · rw [show (k + 1) % 2 = 0 by omega]; simp; omega
                      clear hds hW hW2 hB
                      go_wp2_with fail
                      go_round
                      case rel => exact ⟨k + 1, by omega, by simp⟩
                      case measure => simp [intOf]; omega
                    · have hb2 : (p.B == 256) = false := by simpa using hB
                      by_cases hB0 : p.B = 0
                      · have hb3 : (p.B == 0) = true := by simpa using hB0
                        rw [Gf2.day_always S hW2 hB0] at hds
                        obtain rfl : z = 1 := hds
                        clear hW hW2 hB hB0
                        go_wp2_with fail
                        go_round
                        case rel => exact ⟨k + 1, by omega, by simp⟩
                        case measure => simp [intOf]; omega
                      · have hb3 := nzBeq hB0
                        clear hds hW hW2 hB hB0
                        go_wp2_with fail
                        go_round
                        case rel => exact ⟨k + 1, by omega, by simp⟩
                        case measure => simp [intOf]; omega
                  · have hb1 : (p.W == 256) = false := by simpa using hW2
                    clear hds hW hW2
                    go_wp2_with fail
                    go_round
                    case rel => exact ⟨k + 1, by omega, by simp⟩
                    case measure => simp [intOf]; omega
              · obtain rfl : k = m := by omega
                go_wp2_with fail
                go_ret
                exact ⟨rfl, HB6.out⟩
theorem law_strikes (D : Int) (T S : Nat) (W B C M : Int) (lev : Int) (hT : T ≤ 18446744073709551615) (hS : S ≤ 18446744073709551615) (ad : Option Addr) (cap : Nat) (xs : List Nat) (hl : xs.length ≤ 140737488351232) (h8 : ∀ i, i < xs.length → xs.getD i 0 ≤ 255) (w : World) (hr : RowA w ad xs) :
    Calls Try.prog 7 #[.agg #[.int .i64 D, .int .u64 T, .int .u64 S, .int .i64 W, .int .i64 B, .int .i64 C, .int .i64 M], .int .i64 lev, .slice ad xs.length cap] w fun e w' => e = .returned (.bool true) ∧ Below w.heap.size w w' := by
  by_cases h0 : wchk D T S W B C M = 0
  · obtain ⟨⟨n, rfl, hg⟩, _⟩ := wchk_zero h0
    exact strikes_good ⟨n, T, W, B, C, M⟩ S hg h0 lev ad cap xs hl (all8 h8) w hr
  · exact strikes_bad D T S W B C M lev hT hS h0 _ w
end Go.Proofs.Ytmagpmoghnmhmaa
