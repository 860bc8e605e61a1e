/- (*Weather).pass, Skip, Turn for any count of symbols gone (mod 2^64), the refusals too. -/
import Derived.Test.YtmagpmoghnmhmaaRows
import Derived.Test.YtmagpmoghnmhmaaWTurn
namespace Go.Proofs.Ytmagpmoghnmhmaa
open Go.RowKit

/-- a count as it stands in 64 bits -/
def md (n : Nat) : Nat := n % 18446744073709551616
theorem md_succ (n : Nat) : IntKind.u64.wrap ((md n : Int) + 1) = ((md (n + 1) : Nat) : Int) := by
  unfold md
  by_cases h : (n + 1) % 18446744073709551616 = 0
  · rw [h, show n % 18446744073709551616 = 18446744073709551615 by omega]
    rfl
  · rw [IntWalk.u64_in _ (by omega)]
    omega
theorem md_lt (n : Nat) : md n ≤ 18446744073709551615 := by unfold md; omega
theorem md_small {n : Nat} (h : n ≤ 18446744073709551615) : md n = n := by unfold md; omega
set_option linter.unusedSimpArgs false in
set_option maxHeartbeats 2000000 in
theorem passw_any {x bn g S0 n : Nat} {p : Gf2.Wp} {s : Nat × Bool} (w : World) (h : WSt w x bn g p S0 s (md n)) :
    Calls Try.prog 38 #[.pointer (some ⟨x, 0, none⟩)] w fun e w' => e = .returned (.bool (Gf2.whit p s)) ∧ WSt w' x bn g p S0 (Gf2.wnx p s) (md (n + 1)) ∧ Two w w' x g := by
  obtain ⟨S, bad⟩ := s
  have ew := md_succ n
  have hn0 := md_lt n
  generalize md (n + 1) = m1 at *
  generalize md n = m0 at *
  obtain ⟨n1, n2, n3⟩ := h.ne
  have HD := hide fun (k : Nat) (W : World) (hr : RegL W g p.D p.T (Gf2.stpN p.D p.T k S)) (hb : NextB W bn g) => draw_any p.D p.T (Gf2.stpN p.D p.T k S) bn g (h.good.stpN k) n3 W hr hb
  have H := hide h
  obtain ⟨q3, q4, q5, q6, q7, q8, q9, f8, f9⟩ := h.wea.cells
  have hgd := hide h.good
  clear h
  have d1 : Gf2.drw p.D p.T 8 S ≤ 255 := by have := Gf2.drw_lt p.D p.T 8 S; omega
  have d2 : Gf2.drw p.D p.T 8 (Gf2.stpN p.D p.T 8 S) ≤ 255 := by have := Gf2.drw_lt p.D p.T 8 (Gf2.stpN p.D p.T 8 S); omega
  have HX := hide (show Gf2.wnx p (S, bad) = (Gf2.stpN p.D p.T 8 (Gf2.stpN p.D p.T 8 S), Gf2.wday p (S, bad)) from congrArg (·, _) (Gf2.stpN_add 8 8 S))
  have HH := hide (show Gf2.whit p (S, bad) = decide ((Gf2.drw p.D p.T 8 (Gf2.stpN p.D p.T 8 S) : Int) < if Gf2.wday p (S, bad) then p.M else p.C) from rfl)
  have hday : Gf2.wday p (S, bad) = if bad then decide (p.B ≤ (Gf2.drw p.D p.T 8 S : Int)) else decide ((Gf2.drw p.D p.T 8 S : Int) < p.W) := rfl
  generalize Gf2.wday p (S, bad) = day at *
  generalize Gf2.whit p (S, bad) = hit at *
  generalize Gf2.wnx p (S, bad) = nx at *
  have HD0 := hide (HD.out 0)
  have HD8 := hide fun (W : World) (hr : RegL W g p.D p.T (Gf2.stpN p.D p.T 8 S)) (hb : NextB W bn g) => HD.out 8 W hr hb
  have HR := hide H.out.reg
  have HN := hide H.out.nxt
  have HB := hide H.out.wea
  simp only at HR HB
  generalize Gf2.drw p.D p.T 8 (Gf2.stpN p.D p.T 8 S) = v2 at *
  have e0 : Gf2.drw p.D p.T 8 (Gf2.stpN p.D p.T 0 S) = Gf2.drw p.D p.T 8 S := rfl
  rw [e0] at HD0
  clear e0
  generalize Gf2.drw p.D p.T 8 S = v1 at *
  have hx1 : ¬ g = x := fun e => n2 e.symm
  have fin : ∀ w1 w4 : World, Two w w1 x g → WeaB w1 x p S0 bn bad m1 → NextB w1 bn g → (w1.setCell ⟨x, 8, none⟩ (.bool day)).grownBy w4 (some g) → RegL w4 g p.D p.T (Gf2.stpN p.D p.T 8 (Gf2.stpN p.D p.T 8 S)) → WSt w4 x bn g p S0 nx m1 ∧ Two w w4 x g := by
    intro w1 w4 ht hwb hnb hgr hrg
    have hgd2 := (hgd.out.stpN 8).stpN 8
    rw [HX.out]
    refine ⟨⟨(hwb.day day).keep (hgr.block x (by simpa using hwb.lt) (by simpa using n2)), ?_, hrg, hgd2, ⟨n1, n2, n3⟩⟩, (ht.set 8 _).trans (Two.of_grown hgr)⟩
    exact (hnb.keep (Below.heap_setCell _ _ _ _ (Ne.symm n1))).grown hgr (by simpa using n3)
  have FIN := hide fin
  clear fin
  go_enter Try.func38, Try.ntmps38
  go_wp2_with fail
  refine (HD0.out _ ?r0 ?n0).mono ?_
  case r0 => exact HR.out.far hx1 _
  case n0 => exact HN.out.keep (Below.heap_setCell _ _ _ _ (Ne.symm n1))
  rintro e w1 ⟨rfl, hr1, hg1⟩
  have HB1 := hide ((HB.out.gone m1).keep (hg1.block x (by simpa using HB.out.lt) (by simpa using n2)))
  have HN1 := hide ((HN.out.keep (Below.heap_setCell w ⟨x, 9, none⟩ (.int .u64 (m1 : Nat)) _ (Ne.symm n1))).grown hg1 (by simpa using n3))
  have HT1 := hide (((Two.refl w x g).set 9 _).trans (Two.of_grown hg1))
  have HR1 := hide hr1
  obtain ⟨r3, r4, r5, r6, r7, r8, r9, f81, f91⟩ := HB1.out.cells
  clear hr1 hg1 q3 q4 q5 q6 q7 q8 q9 f8 f9
  cases bad
  all_goals
    simp only [Bool.false_eq_true, if_true, if_false] at hday
    replace hday := hday.symm
    cases day
  all_goals
    simp only [Bool.false_eq_true, if_true, if_false] at HH
    go_wp2_with fail
    refine (HD8.out _ ?r1 ?n1).mono ?_
    case r1 => exact HR1.out.far hx1 _
    case n1 => exact HN1.out.keep (Below.heap_setCell _ _ _ _ (Ne.symm n1))
    rintro e w2 ⟨rfl, hr2, hg2⟩
    have HF := hide (FIN.out w1 w2 HT1.out HB1.out HN1.out hg2 hr2)
    clear hr2 hg2
    go_wp2_with fail
    go_ret
    exact ⟨by rw [HH.out]; rfl, HF.out⟩
set_option maxHeartbeats 1000000 in
theorem skipw_ok {x bn g S0 n : Nat} {p : Gf2.Wp} {s : Nat × Bool} (m : Nat) (hm : m ≤ 1048576) (w : World) (h : WSt w x bn g p S0 s (md n)) :
    Calls Try.prog 21 #[.pointer (some ⟨x, 0, none⟩), .int .i64 m] w fun e w' => e = .returned (.int .i64 0) ∧ WSt w' x bn g p S0 (Gf2.wat p m s) (md (n + m)) ∧ Two w w' x g := by
  have HG := hide (wgood_any w h)
  have HM := hide (many_any m)
  rw [show manyF m = 0 by unfold manyF; rw [if_neg (by omega), if_neg (by omega)]] at HM
  have H := hide h
  clear h
  go_enter Try.func21, Try.ntmps21
  go_wp2_with fail
  refine HG.out.mono ?_
  rintro e w' ⟨rfl, rfl⟩
  go_wp2_with fail
  refine (HM.out _).mono ?_
  rintro e w' ⟨rfl, rfl⟩
  go_wp2_with fail
  go_loopw [15] (fun i u => ∃ k : Nat, k ≤ m ∧ i = .int .i64 k ∧ Hid (WSt u x bn g p S0 (Gf2.wat p k s) (md (n + k))) ∧ Hid (Two w u x g)) (fun i _ => m - (intOf i).toNat)
  case atStart => exact ⟨0, by omega, rfl, H, hide (Two.refl _ _ _)⟩
  case round =>
    obtain ⟨k, hk, rfl, hs, ht⟩ := hrel
    by_cases hlt : k < m
    · have HP := hide (passw_any (n := n + k) _ hs.out)
      go_wp2_with fail
      refine HP.out.mono ?_
      rintro e w2 ⟨rfl, hs2, ht2⟩
      have HS2 := hide hs2
      have HT2 := hide (ht.out.trans ht2)
      clear hs2 ht2
      go_wp2_with fail
      go_roundw
      case rel => exact ⟨k + 1, by omega, by simp, HS2, HT2⟩
      case measure => simp [intOf]; omega
    · obtain rfl : k = m := by omega
      go_wp2_with fail
      go_ret
      exact ⟨rfl, hs.out, ht.out⟩
set_option maxHeartbeats 2000000 in
theorem turnw_ok {x bn g S0 n : Nat} {p : Gf2.Wp} {s : Nat × Bool} (lv : Nat) (hlv : 2 ≤ lv ∧ lv ≤ 16) (ad : Option Addr) (cap : Nat) (xs : List Nat) (hl : xs.length ≤ 140737488351232) (hx : ∀ i, i < xs.length → xs.getD i 0 < lv) (w : World)
    (h : WSt w x bn g p S0 s (md n)) (hr : RowA w ad xs) (hne : 0 < xs.length → ∀ b off, ad = some ⟨b, off, none⟩ → b ≠ x ∧ b ≠ g) :
    Calls Try.prog 18 #[.pointer (some ⟨x, 0, none⟩), .int .i64 lv, .slice ad xs.length cap] w fun e w' => ∃ v, e = .returned (.tuple #[v, .int .i64 0]) ∧ OwnB w' w.heap.size v (Gf2.wturn p lv s xs) ∧ WSt w' x bn g p S0 (Gf2.wat p xs.length s) (md (n + xs.length)) ∧ Two w w' x g := by
  have HG := hide (wgood_any w h)
  have H := hide h
  have HX := hide hx
  have HR := hide hr
  have HNE := hide hne
  clear h hx hr hne
  obtain ⟨l2, l16⟩ := hlv
  have dl : decide ((lv : Int) < 2) = false := by simp; omega
  have dh : decide ((16 : Int) < lv) = false := by simp; omega
  go_enter Try.func18, Try.ntmps18
  go_wp2_with fail
  refine HG.out.mono ?_
  rintro e w' ⟨rfl, rfl⟩
  go_wp2_with fail
  go_loop [26] (fun i => ∃ k : Nat, k ≤ xs.length ∧ i = .int .i64 k) (fun i => xs.length - (intOf i).toNat)
  case atStart => exact ⟨0, by omega, rfl⟩
  case round =>
    obtain ⟨k, hk, rfl⟩ := hrel
    by_cases hlt : k < xs.length
    · obtain ⟨b, off, rfl, _, hc⟩ := HR.out.at_ hlt
      have h1 := HX.out k hlt
      generalize xs.getD k 0 = y at *
      go_wp2_with fail
      go_round
      case rel => exact ⟨k + 1, by omega, by simp⟩
      case measure => simp [intOf]; omega
    · obtain rfl : k = xs.length := by omega
      go_wp2_with (first
        | (at_make; refine wpList_makeB rfl _ _ rfl w.heap.size _ _ xs.length rfl rfl ?c1 ?c2 ?c3 ?c4 ?_)
        | go_in)
      case c1 => rfl
      case c2 => rfl
      case c3 => omega
      intro w1 hown1 hgrow1 hz1
      have HL := hide H.out.lt
      have HO1 := hide (show OwnB w1 w.heap.size (.slice (some ⟨w.heap.size, 0, none⟩) xs.length xs.length) (fillK (fun i => Gf2.wone p lv (Gf2.wat p i s) (xs.getD i 0)) xs.length 0) by rw [fillK_zero]; exact hown1)
      have HS1 := hide (H.out.grown hgrow1 ⟨by simp, by simp, by simp⟩)
      have HT1 := hide (show Two w w1 x g from ⟨hgrow1.os, hgrow1.tape, hgrow1.output, hgrow1.size, fun k hk _ _ => hgrow1.block k hk (by simp)⟩)
      clear hown1 hgrow1
      go_wp2_with fail
      go_loopw [40] (fun i u => ∃ k : Nat, k ≤ xs.length ∧ i = .int .i64 k ∧ Hid (OwnB u w.heap.size (.slice (some ⟨w.heap.size, 0, none⟩) xs.length xs.length) (fillK (fun i => Gf2.wone p lv (Gf2.wat p i s) (xs.getD i 0)) xs.length k)) ∧ Hid (WSt u x bn g p S0 (Gf2.wat p k s) (md (n + k))) ∧ Hid (Two w u x g)) (fun i _ => xs.length - (intOf i).toNat)
      case atStart => exact ⟨0, by omega, rfl, HO1, HS1, HT1⟩
      case round =>
        obtain ⟨k, hk, rfl, ho, hs, ht⟩ := hrel
        by_cases hlt : k < xs.length
        · obtain ⟨b, off, rfl, _, hc⟩ := (HR.out.two ht.out (HNE.out (by omega))).at_ hlt
          have h1 := HX.out k hlt
          have hcg := ho.out.cell (fillK_length hk).symm hlt
          have hfz := ho.out.frz (fillK_length hk).symm k
          have hset := (ho.out.set (fillK_length hk).symm k (xs.getD k 0)).1
          have HO2 := hide hset
          have HS2 := hide (show WSt (World.setCell _ ⟨w.heap.size, k, none⟩ (.int .u8 (xs.getD k 0 : Nat))) x bn g p S0 (Gf2.wat p k s) (md (n + k)) from
            ⟨hs.out.wea.keep (Below.heap_setCell _ _ _ _ (by have := HL.out; simp; omega)), hs.out.nxt.keep (Below.heap_setCell _ _ _ _ (by have := HL.out; simp; omega)), hs.out.reg.keep (Below.heap_setCell _ _ _ _ (by have := HL.out; simp; omega)), hs.out.good, hs.out.ne⟩)
          have HT2 := hide (two_far ht.out k (.int .u8 (xs.getD k 0 : Nat)))
          clear hset
          have hin : (0 : Int) ≤ k := by omega
          have hin2 : (k : Int) < xs.length := by omega
          have HE := hide (show Gf2.wat p (k + 1) s = Gf2.wnx p (Gf2.wat p k s) from rfl)
          have HF := hide (fillK_set (f := fun i => Gf2.wone p lv (Gf2.wat p i s) (xs.getD i 0)) hlt)
          have hfk : Gf2.wone p lv (Gf2.wat p k s) (xs.getD k 0) = if Gf2.whit p (Gf2.wat p k s) then lv - 1 - xs.getD k 0 else xs.getD k 0 := rfl
          have HFK := hide hfk
          have hlen := hide (show xs.length = ((fillK (fun i => Gf2.wone p lv (Gf2.wat p i s) (xs.getD i 0)) xs.length k).set k (xs.getD k 0)).length by rw [List.length_set, fillK_length hk])
          clear hfk
          generalize hy : xs.getD k 0 = y at *
          have HY := hide hy
          clear hy
          go_wp2_with fail
          refine (passw_any (n := n + k) _ HS2.out).mono ?_
          rintro e w2 ⟨rfl, hs3, ht3⟩
          have ho3 := OwnB.two HO2.out ht3 (fun b e => by simp [Value.ownBlock] at e; have := HL.out; omega)
          have HO3 := hide ho3
          have HS3 := hide hs3
          have HT3 := hide (HT2.out.trans ht3)
          have hcg3 := ho3.cell hlen.out hlt
          have hfz3 := ho3.frz hlen.out k
          clear hs3 ht3 ho3 hcg hfz hc
          by_cases hh : Gf2.whit p (Gf2.wat p k s) = true
          · rw [hh, if_pos rfl] at HFK
            have hv : (lv : Int) - 1 - y = ((lv - 1 - y : Nat) : Int) := by omega
            have HV := hide hv
            have hset := (OwnB.set HO3.out hlen.out k (lv - 1 - y)).1
            have hF := HF.out
            rw [HFK.out] at hF
            rw [List.set_set, hF] at hset
            clear hF
            have HO4 := hide hset
            have HS4 := hide (show WSt (World.setCell _ ⟨w.heap.size, k, none⟩ (.int .u8 (lv - 1 - y : Nat))) x bn g p S0 (Gf2.wnx p (Gf2.wat p k s)) (md (n + k + 1)) from
              ⟨HS3.out.wea.keep (Below.heap_setCell _ _ _ _ (by have := HL.out; simp; omega)), HS3.out.nxt.keep (Below.heap_setCell _ _ _ _ (by have := HL.out; simp; omega)), HS3.out.reg.keep (Below.heap_setCell _ _ _ _ (by have := HL.out; simp; omega)), HS3.out.good, HS3.out.ne⟩)
            have HT4 := hide (two_far HT3.out k (.int .u8 (lv - 1 - y : Nat)))
            clear hset hv
            go_wp2_with fail
            rw [HV.out]
            go_roundw
            case rel => exact ⟨k + 1, by omega, by simp, HO4, HS4, HT4⟩
            case measure => simp [intOf]; omega
          · simp only [Bool.not_eq_true] at hh
            rw [hh, if_neg (by decide)] at HFK
            have ho4 := HO3.out
            have hF := HF.out
            rw [HFK.out] at hF
            rw [hF] at ho4
            clear hF
            have HO4 := hide ho4
            clear ho4
            go_wp2_with fail
            go_roundw
            case rel => exact ⟨k + 1, by omega, by simp, HO4, HS3, HT3⟩
            case measure => simp [intOf]; omega
        · obtain rfl : k = xs.length := by omega
          go_wp2_with fail
          go_ret2
          exact ⟨_, rfl, by have := ho.out; rw [fillK_full] at this; exact this, hs.out, ht.out⟩
end Go.Proofs.Ytmagpmoghnmhmaa
