/- outpostref37: by, Turn, Skip, At, Bad for any count, walked. -/
import Derived.Test.YtmagpmoghnmhmaaRows
import Derived.Test.YtmagpmoghnmhmaaR37
import Derived.Test.YtmagpmoghnmhmaaWPlay
namespace Go.Proofs.Ytmagpmoghnmhmaa
open Go.RowKit

set_option maxRecDepth 100000 in
set_option maxHeartbeats 1000000 in
theorem rbyw_any (p : Gf2.Wp) (S x n : Nat) (day : Bool) (hg : GoodL p.D p.T S) (w : World) (hr : RWB w x p S day (md n)) :
    Calls Try.prog 40 #[.pointer (some ⟨x, 0, none⟩)] w fun e w' => e = .returned (.bool (Gf2.whit p (S, day))) ∧ RWB w' x p (Gf2.wnx p (S, day)).1 (Gf2.wnx p (S, day)).2 (md (n + 1)) ∧ w.grownBy w' (some x) := by
  have ew := md_succ n
  have hn0 := md_lt n
  generalize md (n + 1) = m1 at *
  generalize md n = m0 at *
  have HD1 := hide (rdraw_any p S x m0 day hg w hr)
  have HD2 := hide fun (b : Bool) (m : Nat) (u : World) (h : RWB u x p (Gf2.stpN p.D p.T 8 S) b m) => rdraw_any p (Gf2.stpN p.D p.T 8 S) x m b (hg.stpN 8) u h
  have hlx := hr.lt
  clear hr hg
  have d1 : Gf2.drw p.D p.T 8 S ≤ 255 := by have := Gf2.drw_lt p.D p.T 8 S; omega
  have d2 : Gf2.drw p.D p.T 8 (Gf2.stpN p.D p.T 8 S) ≤ 255 := by have := Gf2.drw_lt p.D p.T 8 (Gf2.stpN p.D p.T 8 S); omega
  have HX := hide (show Gf2.wnx p (S, day) = (Gf2.stpN p.D p.T 8 (Gf2.stpN p.D p.T 8 S), Gf2.wday p (S, day)) from congrArg (·, _) (Gf2.stpN_add 8 8 S))
  have HH := hide (show Gf2.whit p (S, day) = decide ((Gf2.drw p.D p.T 8 (Gf2.stpN p.D p.T 8 S) : Int) < if Gf2.wday p (S, day) then p.M else p.C) from rfl)
  have hday : Gf2.wday p (S, day) = if day then decide (p.B ≤ (Gf2.drw p.D p.T 8 S : Int)) else decide ((Gf2.drw p.D p.T 8 S : Int) < p.W) := rfl
  generalize Gf2.wday p (S, day) = dd at *
  generalize Gf2.whit p (S, day) = hit at *
  generalize Gf2.wnx p (S, day) = nx at *
  generalize Gf2.drw p.D p.T 8 (Gf2.stpN p.D p.T 8 S) = v2 at *
  generalize Gf2.drw p.D p.T 8 S = v1 at *
  go_enter Try.func40, Try.ntmps40
  go_wp2_with fail
  refine HD1.out.mono ?_
  rintro e w1 ⟨rfl, hr1, hg1⟩
  obtain ⟨q3, q4, q5, q6, q7, q8, f7, f8⟩ := hr1.cells
  have hl1 := hr1.lt
  have HR2 := hide ((hr1.setDay dd).setGone m1)
  have HG2 := hide (grownBy_set (grownBy_set hg1 ⟨x, 7, none⟩ (.bool dd) (.inl rfl)) ⟨x, 8, none⟩ (.int .u64 ((m1 : Nat) : Int)) (.inl rfl))
  clear hr1 hg1
  cases day
  · have hdd : decide ((v1 : Int) < p.W) = dd := by simpa using hday.symm
    clear hday
    go_wp2_with fail
    refine (HD2.out dd m1 _ HR2.out).mono ?_
    rintro e w2 ⟨rfl, hr2, hg2⟩
    obtain ⟨p3, p4, p5, p6, p7, p8, -, -⟩ := hr2.cells
    have HR3 := hide (show RWB w2 x p nx.1 nx.2 m1 by rw [HX.out]; exact hr2)
    have HG3 := hide (grownBy_trans HG2.out hg2)
    clear hr2 hg2
    cases dd
    · have hh : decide ((v2 : Int) < p.C) = hit := by simpa using HH.out.symm
      clear hdd
      go_wp2_with fail
      go_ret
      exact ⟨rfl, HR3.out, HG3.out⟩
    · have hh : decide ((v2 : Int) < p.M) = hit := by simpa using HH.out.symm
      clear hdd
      go_wp2_with fail
      go_ret
      exact ⟨rfl, HR3.out, HG3.out⟩
  · have hdd : decide (p.B ≤ (v1 : Int)) = dd := by simpa using hday.symm
    clear hday
    go_wp2_with fail
    refine (HD2.out dd m1 _ HR2.out).mono ?_
    rintro e w2 ⟨rfl, hr2, hg2⟩
    obtain ⟨p3, p4, p5, p6, p7, p8, -, -⟩ := hr2.cells
    have HR3 := hide (show RWB w2 x p nx.1 nx.2 m1 by rw [HX.out]; exact hr2)
    have HG3 := hide (grownBy_trans HG2.out hg2)
    clear hr2 hg2
    cases dd
    · have hh : decide ((v2 : Int) < p.C) = hit := by simpa using HH.out.symm
      clear hdd
      go_wp2_with fail
      go_ret
      exact ⟨rfl, HR3.out, HG3.out⟩
    · have hh : decide ((v2 : Int) < p.M) = hit := by simpa using HH.out.symm
      clear hdd
      go_wp2_with fail
      go_ret
      exact ⟨rfl, HR3.out, HG3.out⟩
section
variable {x n : Nat} {p : Gf2.Wp} {s : Nat × Bool}
set_option maxHeartbeats 400000 in
theorem rwat_any (w : World) (S : Nat) (b : Bool) (h : RWB w x p S b n) :
    Calls Try.prog 30 #[.pointer (some ⟨x, 0, none⟩)] w fun e w' => e = .returned (.int .u64 n) ∧ w = w' := by
  obtain ⟨q3, q4, q5, q6, q7, q8, f7, f8⟩ := h.cells
  clear h
  go_enter Try.func30, Try.ntmps30
  go_wp2_with fail
  go_ret
  exact ⟨rfl, rfl⟩
set_option maxHeartbeats 400000 in
theorem rwbad_any (w : World) (S : Nat) (b : Bool) (h : RWB w x p S b n) :
    Calls Try.prog 29 #[.pointer (some ⟨x, 0, none⟩)] w fun e w' => e = .returned (.bool b) ∧ w = w' := by
  obtain ⟨q3, q4, q5, q6, q7, q8, f7, f8⟩ := h.cells
  clear h
  go_enter Try.func29, Try.ntmps29
  go_wp2_with fail
  go_ret
  exact ⟨rfl, rfl⟩
theorem wat_good {p : Gf2.Wp} {s : Nat × Bool} (hg : GoodL p.D p.T s.1) (k : Nat) : GoodL p.D p.T (Gf2.wat p k s).1 := by
  induction k with
  | zero => exact hg
  | succ k ih => exact ih.stpN 16
set_option maxHeartbeats 1000000 in
theorem rskipw_ok (m : Nat) (hm : m ≤ 1048576) (hg : GoodL p.D p.T s.1) (w : World) (h : RWB w x p s.1 s.2 (md n)) :
    Calls Try.prog 35 #[.pointer (some ⟨x, 0, none⟩), .int .i64 m] w fun e w' => e = .returned (.int .i64 0) ∧ RWB w' x p (Gf2.wat p m s).1 (Gf2.wat p m s).2 (md (n + m)) ∧ w.grownBy w' (some x) := by
  have HG := hide fun (k : Nat) => wat_good hg k
  have H := hide (show RWB w x p (Gf2.wat p 0 s).1 (Gf2.wat p 0 s).2 (md (n + 0)) from h)
  clear h hg
  go_enter Try.func35, Try.ntmps35
  go_wp2_with fail
  go_loopw [5] (fun i u => ∃ k : Nat, k ≤ m ∧ i = .int .i64 k ∧ Hid (RWB u x p (Gf2.wat p k s).1 (Gf2.wat p k s).2 (md (n + k))) ∧ Hid (w.grownBy u (some x))) (fun i _ => m - (intOf i).toNat)
  case atStart => exact ⟨0, by omega, rfl, H, hide (World.grownBy.refl w _)⟩
  case round =>
    obtain ⟨k, hk, rfl, hs, ht⟩ := hrel
    by_cases hlt : k < m
    · have HP := hide (rbyw_any p _ x (n + k) _ (HG.out k) _ hs.out)
      go_wp2_with fail
      refine HP.out.mono ?_
      rintro e w2 ⟨rfl, hs2, ht2⟩
      have HS2 := hide (show RWB w2 x p (Gf2.wat p (k + 1) s).1 (Gf2.wat p (k + 1) s).2 (md (n + (k + 1))) from hs2)
      have HT2 := hide (grownBy_trans ht.out ht2)
      clear hs2 ht2
      go_wp2_with fail
      go_roundw
      case rel => exact ⟨k + 1, by omega, by simp, HS2, HT2⟩
      case measure => simp [intOf]; omega
    · obtain rfl : k = m := by omega
      go_wp2_with fail
      go_ret
      exact ⟨rfl, hs.out, ht.out⟩
set_option maxHeartbeats 400000 in
theorem rskipw_bad (m : Int) (hm : manyF m ≠ 0) (w : World) :
    Calls Try.prog 35 #[.pointer (some ⟨x, 0, none⟩), .int .i64 m] w fun e w' => e = .returned (.int .i64 (manyF m)) ∧ w = w' := by
  by_cases h1 : m < 0
  · rw [show manyF m = 1 from if_pos h1]
    clear hm
    go_enter Try.func35, Try.ntmps35
    go_wp2_with fail
    go_ret
    exact ⟨rfl, rfl⟩
  · by_cases h2 : 1048576 < m
    · rw [show manyF m = 6 by unfold manyF; rw [if_neg h1, if_pos h2]]
      clear hm
      go_enter Try.func35, Try.ntmps35
      go_wp2_with fail
      go_ret
      exact ⟨rfl, rfl⟩
    · exact absurd (by unfold manyF; rw [if_neg h1, if_neg h2]) hm
end
/-- the error of a call of Turn -/
def turnF (lv : Int) (xs : List Nat) : Int := if lv < 2 ∨ 16 < lv then 1 else if ∃ i, i < xs.length ∧ lv ≤ (xs.getD i 0 : Int) then 91 else 0
theorem wturn_push (p : Gf2.Wp) (lv : Nat) (s : Nat × Bool) (xs : List Nat) (k : Nat) :
    ((List.range (k + 1)).map fun i => Gf2.wone p lv (Gf2.wat p i s) (xs.getD i 0)) = ((List.range k).map fun i => Gf2.wone p lv (Gf2.wat p i s) (xs.getD i 0)) ++ [if Gf2.whit p (Gf2.wat p k s) then lv - 1 - xs.getD k 0 else xs.getD k 0] := by
  rw [List.range_succ, List.map_append]
  rfl
set_option maxRecDepth 100000 in
set_option maxHeartbeats 2000000 in
theorem rturnw_ok {x n : Nat} {p : Gf2.Wp} {s : Nat × Bool} (lv : Nat) (hlv : 2 ≤ lv ∧ lv ≤ 16) (ad : Option Addr) (cap : Nat) (xs : List Nat) (hl : xs.length ≤ 140737488351232) (hx : ∀ i, i < xs.length → xs.getD i 0 < lv) (hg : GoodL p.D p.T s.1) (w : World)
    (h : RWB w x p s.1 s.2 (md n)) (hr : RowA w ad xs) (hne : 0 < xs.length → ∀ b off, ad = some ⟨b, off, none⟩ → b ≠ x) :
    Calls Try.prog 32 #[.pointer (some ⟨x, 0, none⟩), .int .i64 lv, .slice ad xs.length cap] w fun e w' => ∃ v, e = .returned (.tuple #[v, .int .i64 0]) ∧ OwnB w' w.heap.size v (Gf2.wturn p lv s xs) ∧ RWB w' x p (Gf2.wat p xs.length s).1 (Gf2.wat p xs.length s).2 (md (n + xs.length)) ∧ w.grownBy w' (some x) := by
  have HG := hide fun (k : Nat) => wat_good hg k
  have H := hide (show RWB w x p (Gf2.wat p 0 s).1 (Gf2.wat p 0 s).2 (md (n + 0)) from h)
  have HX := hide hx
  have HR := hide hr
  have HNE := hide hne
  clear h hg hx hr hne
  obtain ⟨l2, l16⟩ := hlv
  have dl : decide ((lv : Int) < 2) = false := by simp; omega
  have dh : decide ((16 : Int) < lv) = false := by simp; omega
  go_enter Try.func32, Try.ntmps32
  go_wp2_with fail
  go_loop [8] (fun i => ∃ k : Nat, k ≤ xs.length ∧ i = .int .i64 k) (fun i => xs.length - (intOf i).toNat)
  case atStart => exact ⟨0, by omega, rfl⟩
  case round =>
    obtain ⟨k, hk, rfl⟩ := hrel
    by_cases hlt : k < xs.length
    · obtain ⟨b, off, rfl, _, hc⟩ := HR.out.at_ hlt
      have h1 := HX.out k hlt
      generalize xs.getD k 0 = y at *
      go_wp2_with fail
      go_round
      case rel => exact ⟨k + 1, by omega, by simp⟩
      case measure => simp [intOf]; omega
    · obtain rfl : k = xs.length := by omega
      clear hk hlt
      go_wp2_with fail
      have HO1 := hide (show OwnB w w.heap.size (.slice none 0 0) ((List.range 0).map fun i => Gf2.wone p lv (Gf2.wat p i s) (xs.getD i 0)) from OwnB.nil _ _)
      go_loopw [9, 10] (fun v i u => ∃ k : Nat, k ≤ xs.length ∧ i = .int .i64 k ∧ Hid (OwnB u w.heap.size v ((List.range k).map fun i => Gf2.wone p lv (Gf2.wat p i s) (xs.getD i 0))) ∧ Hid (RWB u x p (Gf2.wat p k s).1 (Gf2.wat p k s).2 (md (n + k))) ∧ Hid (w.grownBy u (some x))) (fun _ i _ => xs.length - (intOf i).toNat)
      case atStart => exact ⟨0, by omega, rfl, HO1, H, hide (World.grownBy.refl w _)⟩
      case round =>
        rename World => w3
        obtain ⟨k, hk, rfl, hO, hR, hB⟩ := hrel
        clear HO1
        have hxs := H.out.lt
        by_cases hlt : k < xs.length
        · obtain ⟨b, off, had, hbw, hc⟩ := (HR.out.keep hB.out.size (fun b off e hb => hB.out.block b hb (by simpa using HNE.out (by omega) b off e))).at_ hlt
          subst had
          have h1 := HX.out k hlt
          have HBY := hide (rbyw_any p _ x (n + k) _ (HG.out k) w3 hR.out)
          have HSP := hide (wturn_push p lv s xs k)
          have hlen : ((List.range k).map fun i => Gf2.wone p lv (Gf2.wat p i s) (xs.getD i 0)).length = k := by simp
          have HLEN := hide hlen
          clear hlen
          generalize hys : ((List.range k).map fun i => Gf2.wone p lv (Gf2.wat p i s) (xs.getD i 0)) = ys at *
          have HYS := hide hys
          clear hys
          generalize hy : xs.getD k 0 = y at *
          have HY := hide hy
          clear hy
          generalize hh : Gf2.whit p (Gf2.wat p k s) = hit at *
          clear hh
          go_wp2_with fail
          refine HBY.out.mono ?_
          rintro e w4 ⟨rfl, hr4, hg4⟩
          have hr4' : RWB w4 x p (Gf2.wat p (k + 1) s).1 (Gf2.wat p (k + 1) s).2 (md (n + (k + 1))) := hr4
          have HO2 := hide (hO.out.grown hg4 (fun g e e2 => by have := (hO.out.lt e).1; have := Option.some.inj e2; omega))
          have HB2 := hide (grownBy_trans hB.out hg4)
          have HR2 := hide hr4'
          have hle4 := HB2.out.size
          clear hr4 hr4' hg4 HBY hO hR hB
          generalize hz : (if hit = true then lv - 1 - y else y) = z at *
          cases hit
          · simp only [Bool.false_eq_true, if_false] at hz
            subst hz
            go_wp2_with (first
              | (at_builtin; refine wpList_appB rfl (.tmp 53) (.tmp 55) rfl w.heap.size _ ys rfl (HO2.out.alloc _) (some ⟨w4.heap.size, 0, none⟩) 1 1 [y] rfl ?d1 rfl ?d2 ?d3 ?_)
              | go_in)
            case d1 => exact fun _ => ⟨w4.heap.size, 0, rfl, by simp, fun i hi => by
              obtain rfl : i = 0 := by simpa using hi
              simp [go_sem]⟩
            case d2 =>
              have e1 : ys.length = k := HLEN.out
              have e2 : xs.length ≤ 140737488351232 := hl
              rw [e1]
              show k + 1 ≤ 140737488355328
              omega
            case d3 => simp; omega
            intro v5 w5 ho5 hg5 _
            have HO5 := hide (show OwnB w5 w.heap.size v5 ((List.range (k + 1)).map fun i => Gf2.wone p lv (Gf2.wat p i s) (xs.getD i 0)) by rw [HSP.out]; exact ho5)
            have HR5 := hide ((HR2.out.alloc _).grown hg5 (fun e => by have := (HO2.out.lt e.symm).1; omega))
            have HB5 := hide (show w.grownBy w5 (some x) from ⟨hg5.os.trans HB2.out.os, hg5.tape.trans HB2.out.tape, hg5.output.trans HB2.out.output, by have := hg5.size; simp at this; omega, fun j hj hne => ((hg5.block j (by simp; omega) (fun e => by have := (HO2.out.lt e.symm).1; omega)).trans (Below.heap_alloc _ _ _ (by omega))).trans (HB2.out.block j hj hne)⟩)
            clear ho5 hg5
            go_wp2_with fail
            go_roundw
            case rel => exact ⟨k + 1, by omega, by simp, HO5, HR5, HB5⟩
            case measure => simp [intOf]; omega
          · simp only [if_true] at hz
            have hv : (lv : Int) - 1 - y = ((z : Nat) : Int) := by omega
            have hz8 : z ≤ 255 := by omega
            have HV := hide hv
            clear hv hz
            go_wp2_with (first
              | rw [HV.out]
              | (at_builtin; refine wpList_appB rfl (.tmp 53) (.tmp 55) rfl w.heap.size _ ys rfl (HO2.out.alloc _) (some ⟨w4.heap.size, 0, none⟩) 1 1 [z] rfl ?d1 rfl ?d2 ?d3 ?_)
              | go_in)
            case d1 => exact fun _ => ⟨w4.heap.size, 0, rfl, by simp, fun i hi => by
              obtain rfl : i = 0 := by simpa using hi
              simp [go_sem]⟩
            case d2 =>
              have e1 : ys.length = k := HLEN.out
              have e2 : xs.length ≤ 140737488351232 := hl
              rw [e1]
              show k + 1 ≤ 140737488355328
              omega
            case d3 => simp; omega
            intro v5 w5 ho5 hg5 _
            have HO5 := hide (show OwnB w5 w.heap.size v5 ((List.range (k + 1)).map fun i => Gf2.wone p lv (Gf2.wat p i s) (xs.getD i 0)) by rw [HSP.out]; exact ho5)
            have HR5 := hide ((HR2.out.alloc _).grown hg5 (fun e => by have := (HO2.out.lt e.symm).1; omega))
            have HB5 := hide (show w.grownBy w5 (some x) from ⟨hg5.os.trans HB2.out.os, hg5.tape.trans HB2.out.tape, hg5.output.trans HB2.out.output, by have := hg5.size; simp at this; omega, fun j hj hne => ((hg5.block j (by simp; omega) (fun e => by have := (HO2.out.lt e.symm).1; omega)).trans (Below.heap_alloc _ _ _ (by omega))).trans (HB2.out.block j hj hne)⟩)
            clear ho5 hg5
            go_wp2_with fail
            go_roundw
            case rel => exact ⟨k + 1, by omega, by simp, HO5, HR5, HB5⟩
            case measure => simp [intOf]; omega
        · obtain rfl : k = xs.length := by omega
          go_wp2_with fail
          go_ret2
          exact ⟨_, rfl, hO.out, hR.out, hB.out⟩
end Go.Proofs.Ytmagpmoghnmhmaa
