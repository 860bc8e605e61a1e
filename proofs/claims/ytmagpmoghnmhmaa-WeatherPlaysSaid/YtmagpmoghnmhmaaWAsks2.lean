/- asks of two weathers that were made, walked. -/
import Derived.Test.YtmagpmoghnmhmaaRows
import Derived.Test.YtmagpmoghnmhmaaWAsks
import Derived.Test.YtmagpmoghnmhmaaStr
namespace Go.Proofs.Ytmagpmoghnmhmaa
open Go.RowKit

set_option maxRecDepth 100000 in
set_option maxHeartbeats 2000000 in
theorem asksw_any {x bn g d lo hi S0 N : Nat} {p : Gf2.Wp} (k n : Int) (ai : Option Addr) (ci : Nat) (xs : List Nat) (hl : xs.length ≤ 140737488351232) (h8 : ∀ i, i < xs.length → xs.getD i 0 ≤ 255) (w : World) (hx : RowA w ai xs) (hai : 0 < xs.length → ∀ b off, ai = some ⟨b, off, none⟩ → b < lo) (h : PairG w x bn g d lo hi p S0 N N) :
    Calls Try.prog 15 #[.pointer (some ⟨x, 0, none⟩), .pointer (some ⟨d, 0, none⟩), .agg #[.int .i64 k, .int .i64 n, .slice ai xs.length ci]] w fun e w' => e = .returned (.bool true) ∧ (∃ N', PairG w' x bn g d lo hi p S0 N' N') ∧ Span lo hi w w' := by
  have HX := hide hx
  have HAI := hide hai
  have hhi := h.hh
  have hlh : lo ≤ hi := by have := h.lx.1; have := h.hx.1; omega
  have HB0 := hide ((Below.refl w.heap.size w).alloc (Nat.le_refl _) (.cells #[.int .i64 k, .int .i64 n, .slice ai xs.length ci] 42))
  have HP0 := hide (h.below HB0.out)
  have HS0 := hide ((Span.refl lo hi w).below HB0.out)
  clear hx h hai
  by_cases h1 : k = 1
  · subst h1
    have HL := hide fun w hx => lent_any ai ci xs hl w hx
    go_enter Try.func15, Try.ntmps15
    go_wp2_with fail
    refine (HL.out _ (HX.out.alloc _)).mono ?_
    rintro e w1 ⟨L, cl, rfl, hl1, hb1⟩
    have c1 := bcell hb1 (b := w.heap.size) (o := 1) (v := .int .i64 n) (by simp) (by simp [go_sem])
    have c2 := bcell hb1 (b := w.heap.size) (o := 2) (v := .slice ai xs.length ci) (by simp) (by simp [go_sem])
    have HLB := hide hl1
    have hlt := hl1.lt
    have hlB : w.heap.size < L := by have := hlt.1; simp at this; omega
    have hLs := hlt.2.1
    have HP1 := hide (HP0.out.below hb1)
    have HS1 := hide (HS0.out.below hb1)
    have HX1 := hide (HX.out.span HS1.out (fun h0 b off e => .inl (HAI.out h0 b off e)))
    clear hb1 hl1 hlt HL
    go_wp2_with fail
    refine (pturn_any n (some ⟨L, 0, none⟩) cl xs hl h8 _ HP1.out HLB.out.rowx (fun _ b off e => by cases e; exact .inr (by omega))).mono ?_
    rintro e w2 ⟨v1, rfl, ho1, hp2, hs2⟩
    have HP2 := hide hp2
    have HS2 := hide hs2
    have HO1 := hide ho1
    have HX2 := hide (HX1.out.span hs2 (fun h0 b off e => .inl (HAI.out h0 b off e)))
    have d1 := hs2.cell (by omega) (.inr (by omega)) c1
    have d2 := hs2.cell (by omega) (.inr (by omega)) c2
    clear hp2 hs2 ho1 c1 c2
    go_wp2_with fail
    refine (prturn_any n ai ci xs hl h8 _ HP2.out HX2.out (fun h0 b off e => .inl (HAI.out h0 b off e))).mono ?_
    rintro e w3 ⟨v2, rfl, ho2, hp3, hs3⟩
    have HP3 := hide hp3
    have HS3 := hide (HS2.out.trans hs3)
    have hsz2 := HS2.out.size
    have HO13 := hide (OwnB.keep HO1.out fun g hg => hs3.block g (HO1.out.lt hg).2 (.inr (by have := (HO1.out.lt hg).1; omega)))
    have HO2 := hide ho2
    have HX3 := hide (HX2.out.span hs3 (fun h0 b off e => .inl (HAI.out h0 b off e)))
    have HLB3 := hide (OwnB.keep HLB.out fun g hg => by exact HS3.out.block g ((OwnB.lt HLB.out hg).2) (.inr (by have := (OwnB.lt HLB.out hg).1; simp at this; omega)))
    have e2 := hs3.cell (by omega) (.inr (by omega)) d2
    have hsz3 := hs3.size
    clear hp3 hs3 ho2 d1 d2
    generalize turnR p n (Gf2.wat p N (S0, false)) xs = R at *
    obtain ⟨a1, q1, rfl, r1⟩ := HO13.out.row
    obtain ⟨a2, q2, rfl, r2⟩ := HO2.out.row
    have cv1 := r1.conv q1
    have cv2 := r2.conv q2
    clear r1 r2
    go_wp2_with fail
    refine (num_any _ _).mono ?_
    rintro e w' ⟨rfl, rfl⟩
    go_wp2_with fail
    refine (stays_any ai ci _ L cl xs hl w3 HLB3.out HX3.out).mono ?_
    rintro e w' ⟨rfl, m, rfl⟩
    clear cv1 cv2
    go_wp2_with fail
    refine (spoil_any _ L cl xs h8 hl (w3.drewN m) (OwnB.keep HLB3.out fun _ _ => rfl)).mono ?_
    rintro e w4 ⟨rfl, hg⟩
    have HP4 := hide ((HP3.out.below (below_drewN (Below.refl _ _) m)).grown hg (by omega))
    have HS4 := hide ((((HS1.out.trans HS3.out).below (below_drewN (Below.refl _ _) m))).grown hg (.inr (by omega)))
    have o1 : OwnB w4 w1.heap.size (.slice a1 R.length q1) R := OwnB.keep HO13.out fun b hb => hg.block b (HO13.out.lt hb).2 (by intro e; have := Option.some.inj e; have := (HO13.out.lt hb).1; omega)
    have o2 : OwnB w4 w2.heap.size (.slice a2 R.length q2) R := OwnB.keep HO2.out fun b hb => hg.block b (HO2.out.lt hb).2 (by intro e; have := Option.some.inj e; have := (HO2.out.lt hb).1; omega)
    have cv1 := o1.rowS.2.conv q1
    have cv2 := o2.rowS.2.conv q2
    clear hg o1 o2 e2
    go_wp2_with fail
    refine (plooks_any _ HP4.out).mono ?_
    rintro e w' ⟨rfl, rfl⟩
    go_wp2_with fail
    go_ret
    exact ⟨rfl, ⟨_, HP4.out⟩, HS4.out⟩
  · have hk1 : ¬ k = 1 := h1
    have hb1 : (k == 1) = false := by rw [beq_eq_false_iff_ne]; exact h1
    by_cases h2 : k = 2
    · subst h2
      have HPS := hide fun (u : World) (a b : Nat) (hh : PairG u x bn g d lo hi p S0 a b ∧ Span lo hi w u ∧ u.cell? ⟨w.heap.size, 1, none⟩ = some (.int .i64 n) ∧ w.heap.size < u.heap.size) => hh.2.2.1
      have HA := hide fun (u : World) (a b : Nat) (hh : PairG u x bn g d lo hi p S0 a b ∧ Span lo hi w u ∧ u.cell? ⟨w.heap.size, 1, none⟩ = some (.int .i64 n) ∧ w.heap.size < u.heap.size) =>
        (pskip_any n u hh.1).mono (R' := fun e u' => e = .returned (.int .i64 (manyF n)) ∧ (PairG u' x bn g d lo hi p S0 (a + skipN n) b ∧ Span lo hi w u' ∧ u'.cell? ⟨w.heap.size, 1, none⟩ = some (.int .i64 n) ∧ w.heap.size < u'.heap.size)) (fun e u' ⟨he, hp, hs⟩ => ⟨he, hp, hh.2.1.trans hs, hs.cell hh.2.2.2 (.inr (by omega)) hh.2.2.1, Nat.lt_of_lt_of_le hh.2.2.2 hs.size⟩)
      have HB := hide fun (u : World) (a b : Nat) (hh : PairG u x bn g d lo hi p S0 a b ∧ Span lo hi w u ∧ u.cell? ⟨w.heap.size, 1, none⟩ = some (.int .i64 n) ∧ w.heap.size < u.heap.size) =>
        (prskip_any n u hh.1).mono (R' := fun e u' => e = .returned (.int .i64 (manyF n)) ∧ (PairG u' x bn g d lo hi p S0 a (b + skipN n) ∧ Span lo hi w u' ∧ u'.cell? ⟨w.heap.size, 1, none⟩ = some (.int .i64 n) ∧ w.heap.size < u'.heap.size)) (fun e u' ⟨he, hp, hs⟩ => ⟨he, hp, hh.2.1.trans hs, hs.cell hh.2.2.2 (.inr (by omega)) hh.2.2.1, Nat.lt_of_lt_of_le hh.2.2.2 hs.size⟩)
      clear hk1 hb1 h1
      have HQ0 := hide (show PairG (w.alloc (.cells #[.int .i64 2, .int .i64 n, .slice ai xs.length ci] 42)).drew x bn g d lo hi p S0 N N ∧ Span lo hi w (w.alloc (.cells #[.int .i64 2, .int .i64 n, .slice ai xs.length ci] 42)).drew ∧ (w.alloc (.cells #[.int .i64 2, .int .i64 n, .slice ai xs.length ci] 42)).drew.cell? ⟨w.heap.size, 1, none⟩ = some (.int .i64 n) ∧ w.heap.size < (w.alloc (.cells #[.int .i64 2, .int .i64 n, .slice ai xs.length ci] 42)).drew.heap.size from
        ⟨HP0.out.below ((Below.refl _ _).drew), HS0.out.below ((Below.refl _ _).drew), by simp [go_sem], by simp⟩)
      have HA1 := hide (HA.out _ _ _ HQ0.out)
      have HB1 := hide (HB.out _ _ _ HQ0.out)
      clear HQ0 HP0 HS0 HB0
      generalize manyF n = mm at *
      go_enter Try.func15, Try.ntmps15
      go_wp2_with fail
      go_region_with (first
        | (go_at_call 12; refine (num_any _ _).mono ?_; rintro e w' ⟨rfl, rfl⟩)
        | (go_at_call 21; refine HA1.out.mono ?_; rintro e w6 ⟨rfl, hSA⟩; have ca1 := HPS.out w6 _ _ hSA)
        | (go_at_call 21; refine (HA.out _ _ _ hSB).mono ?_; rintro e w7 ⟨rfl, hSF⟩; have ca1 := HPS.out w7 _ _ hSF)
        | (go_at_call 35; refine HB1.out.mono ?_; rintro e w6 ⟨rfl, hSB⟩; have ca1 := HPS.out w6 _ _ hSB)
        | (go_at_call 35; refine (HB.out _ _ _ hSA).mono ?_; rintro e w7 ⟨rfl, hSF⟩; have ca1 := HPS.out w7 _ _ hSF))
      all_goals (
        go_wp2_with fail
        refine (plooks_any _ hSF.1).mono ?_
        rintro e w' ⟨rfl, rfl⟩
        go_wp2_with fail
        go_ret
        exact ⟨rfl, ⟨_, hSF.1⟩, hSF.2.1⟩)
    · have hb2 : (k == 2) = false := by rw [beq_eq_false_iff_ne]; exact h2
      go_enter Try.func15, Try.ntmps15
      go_wp2_with fail
      refine (plooks_any _ HP0.out).mono ?_
      rintro e w' ⟨rfl, rfl⟩
      go_wp2_with fail
      go_ret
      exact ⟨rfl, ⟨_, HP0.out⟩, HS0.out⟩
end Go.Proofs.Ytmagpmoghnmhmaa
