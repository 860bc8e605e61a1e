/- The law EncoderBack, walked: it returns true. -/
import Derived.Test.YtmmngcjnofcmmaaRows
import Derived.Test.YtmmngcjnofcmmaaEncInv
import Derived.Test.YtmmngcjnofcmmaaCodeB
import Derived.Test.YtmmngcjnofcmmaaLive
import Derived.Test.YtmmngcjnofcmmaaEncM
import Derived.BigQuiet
import Derived.Deep.QuietTactic
import Derived.Deep.DeepCutAuto
namespace Go.Proofs.Ytmmngcjnofcmmaa
open Go.RowKit

theorem encO_short {K R : Int} {a b c : Nat} {xs : List Nat} (h : encE K R a b c xs = 0) (hn : xs.length ≤ 1048576) : (encO K R a b c xs).length ≤ 3145824 := by
  obtain ⟨n, rfl, h2, h31, hR⟩ := good_code (encE_zero h).1
  rw [encO_length h, show ((n : Int) + 1 - 1).toNat = n by omega]
  have : rateN R = 2 ∨ rateN R = 3 := by rcases hR with rfl | rfl <;> simp [rateN]
  rcases this with e | e <;> rw [e] <;> omega
theorem back_start (K R : Int) (a b c : Nat) (A1 A2 A3 : Option Addr) (c1 c2 c3 : Nat) (xs ys zs : List Nat) (w : World) :
    CodeB ((w.alloc (.cells #[.int .i64 K, .int .i64 R, .int .u32 a, .int .u32 b, .int .u32 c, .slice A1 xs.length c1, .slice A2 ys.length c2, .slice A3 zs.length c3] 38)).alloc (.cells #[.int .i64 K, .int .i64 R, .int .u32 a, .int .u32 b, .int .u32 c] 25)).drew (w.heap.size + 1) K R a b c ∧ Below w.heap.size w ((w.alloc (.cells #[.int .i64 K, .int .i64 R, .int .u32 a, .int .u32 b, .int .u32 c, .slice A1 xs.length c1, .slice A2 ys.length c2, .slice A3 zs.length c3] 38)).alloc (.cells #[.int .i64 K, .int .i64 R, .int .u32 a, .int .u32 b, .int .u32 c] 25)).drew ∧ w.heap.size + 1 < ((w.alloc (.cells #[.int .i64 K, .int .i64 R, .int .u32 a, .int .u32 b, .int .u32 c, .slice A1 xs.length c1, .slice A2 ys.length c2, .slice A3 zs.length c3] 38)).alloc (.cells #[.int .i64 K, .int .i64 R, .int .u32 a, .int .u32 b, .int .u32 c] 25)).drew.heap.size := by
  refine ⟨?_, ((((Below.refl _ _).alloc (Nat.le_refl _) _).alloc (by simp) _)).drew, by simp⟩
  have := heap_alloc_new (w.alloc (.cells #[.int .i64 K, .int .i64 R, .int .u32 a, .int .u32 b, .int .u32 c, .slice A1 xs.length c1, .slice A2 ys.length c2, .slice A3 zs.length c3] 38)) (.cells #[.int .i64 K, .int .i64 R, .int .u32 a, .int .u32 b, .int .u32 c] 25)
  simp only [CodeB] at this ⊢
  simpa [World.drew] using this
set_option maxRecDepth 100000 in
set_option maxHeartbeats 2000000 in
theorem back_bad (K R : Int) (a b c : Nat) (hA : a ≤ 4294967295) (hB : b ≤ 4294967295) (hC : c ≤ 4294967295) (A1 A2 A3 : Option Addr) (c1 c2 c3 : Nat) (xs ys zs : List Nat) (hx : xs.length ≤ 140737488351232) (he : encE K R a b c xs ≠ 0) (w : World) (rx : RowA w A1 xs) :
    Calls Try.prog 4 #[.agg #[.int .i64 K, .int .i64 R, .int .u32 a, .int .u32 b, .int .u32 c, .slice A1 xs.length c1, .slice A2 ys.length c2, .slice A3 zs.length c3]] w fun e w' => e = .returned (.bool true) ∧ Below w.heap.size w w' := by
  have HG := hide fun w hr => good_no K R a b c hA hB hC A1 c1 xs hx he w hr
  have HX := hide rx
  clear he rx
  go_enter Try.func4, Try.ntmps4
  go_wp2_with fail
  go_region_held3 (fun u => u.cell? ⟨w.heap.size, 0, none⟩ = some (.int .i64 K) ∧ u.cell? ⟨w.heap.size, 1, none⟩ = some (.int .i64 R) ∧ u.cell? ⟨w.heap.size, 2, none⟩ = some (.int .u32 a) ∧ u.cell? ⟨w.heap.size, 3, none⟩ = some (.int .u32 b) ∧ u.cell? ⟨w.heap.size, 4, none⟩ = some (.int .u32 c)
      ∧ u.cell? ⟨w.heap.size, 5, none⟩ = some (.slice A1 xs.length c1) ∧ u.cell? ⟨w.heap.size, 6, none⟩ = some (.slice A2 ys.length c2) ∧ u.cell? ⟨w.heap.size, 7, none⟩ = some (.slice A3 zs.length c3)) (simp [go_sem]) (fail)
  have hX := back_start K R a b c A1 A2 A3 c1 c2 c3 xs ys zs w
  generalize hXe : ((w.alloc (.cells #[.int .i64 K, .int .i64 R, .int .u32 a, .int .u32 b, .int .u32 c, .slice A1 xs.length c1, .slice A2 ys.length c2, .slice A3 zs.length c3] 38)).alloc (.cells #[.int .i64 K, .int .i64 R, .int .u32 a, .int .u32 b, .int .u32 c] 25)).drew = X at *
  clear hXe
  obtain ⟨hcb, hb0, hg0⟩ := hX
  have HU := hide fun (u : World) (hb : Below X.heap.size X u) => (hcb.keep hb hg0).cells
  have q0 := hcb.cells
  obtain ⟨q0, q1, q2, q3, q4⟩ := q0
  have HB0 := hide hb0
  clear hcb hb0
  go_wp2_with fail
  refine (HG.out _ (HX.out.below HB0.out)).mono ?_
  rintro e w1 ⟨rfl, hb1⟩
  go_wp2_with fail
  refine (live_any _).mono ?_
  rintro e w2 ⟨rfl, hb2⟩
  go_wp2_with fail
  go_ret
  exact ⟨rfl, below_then (below_then HB0.out hb1) hb2⟩
set_option maxRecDepth 100000 in
set_option maxHeartbeats 2000000 in
theorem back_good (K R : Int) (a b c : Nat) (hA : a ≤ 4294967295) (hB : b ≤ 4294967295) (hC : c ≤ 4294967295) (A1 A2 A3 : Option Addr) (c1 c2 c3 : Nat) (xs ys zs : List Nat) (hx : xs.length ≤ 1048576) (hy : ys.length ≤ 1048576) (hz : zs.length ≤ 1048576) (he : encE K R a b c xs = 0) (w : World) (rx : RowA w A1 xs) (ry : RowA w A2 ys) (rz : RowA w A3 zs) :
    Calls Try.prog 4 #[.agg #[.int .i64 K, .int .i64 R, .int .u32 a, .int .u32 b, .int .u32 c, .slice A1 xs.length c1, .slice A2 ys.length c2, .slice A3 zs.length c3]] w fun e w' => e = .returned (.bool true) ∧ Below w.heap.size w w' := by
  have HG := hide fun w hr => good_yes K R a b c hA hB hC A1 c1 xs (by omega) he w hr
  have HOX := hide fun w hr => own_any A1 c1 xs (by omega) w hr
  have HOY := hide fun w hr => own_any A2 c2 ys (by omega) w hr
  have HOZ := hide fun w hr => own_any A3 c3 zs (by omega) w hr
  have HEX := hide fun ad cp w hr => encode_any K R a b c hA hB hC ad cp xs (by omega) w hr
  have HEY := hide fun ad cp w hr => encode_any K R a b c hA hB hC ad cp ys (by omega) w hr
  have hll := encO_short he hx
  have HIL := hide fun ad cp hc w hr => invert_any K R a b c hA hB hC ad cp (encO K R a b c xs) (by omega) hc w hr
  have HIZ := hide fun ad cp hc w hr => invert_any K R a b c hA hB hC ad cp zs (by omega) hc w hr
  have hvl := invO_length K R a b c zs
  have HEV := hide fun ad cp w hr => encode_any K R a b c hA hB hC ad cp (invO K R a b c zs) (by omega) w hr
  rw [he] at HEX
  rw [(inv_enc he).1, (inv_enc he).2] at HIL
  have HSW := hide fun (h : encE K R a b c ys = 0) => same_words he h
  have HEI := hide fun (h : invE K R a b c zs = 0) => enc_inv h
  generalize encO K R a b c xs = ls at *
  generalize encO K R a b c ys = ms at *
  generalize encE K R a b c ys = gy at *
  generalize invO K R a b c zs = vs at *
  generalize invE K R a b c zs = hv at *
  generalize encE K R a b c vs = iv at *
  generalize encO K R a b c vs = ws at *
  have HX := hide rx
  have HY := hide ry
  have HZ := hide rz
  clear he rx ry rz
  go_enter Try.func4, Try.ntmps4
  go_wp2_with fail
  go_region_held3 (fun u => u.cell? ⟨w.heap.size, 0, none⟩ = some (.int .i64 K) ∧ u.cell? ⟨w.heap.size, 1, none⟩ = some (.int .i64 R) ∧ u.cell? ⟨w.heap.size, 2, none⟩ = some (.int .u32 a) ∧ u.cell? ⟨w.heap.size, 3, none⟩ = some (.int .u32 b) ∧ u.cell? ⟨w.heap.size, 4, none⟩ = some (.int .u32 c)
      ∧ u.cell? ⟨w.heap.size, 5, none⟩ = some (.slice A1 xs.length c1) ∧ u.cell? ⟨w.heap.size, 6, none⟩ = some (.slice A2 ys.length c2) ∧ u.cell? ⟨w.heap.size, 7, none⟩ = some (.slice A3 zs.length c3)) (simp [go_sem]) (fail)
  have hX := back_start K R a b c A1 A2 A3 c1 c2 c3 xs ys zs w
  generalize hXe : ((w.alloc (.cells #[.int .i64 K, .int .i64 R, .int .u32 a, .int .u32 b, .int .u32 c, .slice A1 xs.length c1, .slice A2 ys.length c2, .slice A3 zs.length c3] 38)).alloc (.cells #[.int .i64 K, .int .i64 R, .int .u32 a, .int .u32 b, .int .u32 c] 25)).drew = X at *
  clear hXe
  obtain ⟨hcb, hb0, hg0⟩ := hX
  have HU := hide fun (u : World) (hb : Below X.heap.size X u) => (hcb.keep hb hg0).cells
  have q0 := hcb.cells
  obtain ⟨q0, q1, q2, q3, q4⟩ := q0
  have HB0 := hide hb0
  clear hcb hb0
  go_wp2_with fail
  refine (HG.out _ (HX.out.below HB0.out)).mono ?_
  rintro e w1 ⟨rfl, hb1⟩
  have HB1 := hide hb1
  clear hb1
  obtain ⟨s0, s1, s2, s3, s4⟩ := HU.out w1 HB1.out
  go_wp2_with fail
  go_region_held3 (fun u => u.cell? ⟨w.heap.size + 1, 0, none⟩ = some (.int .i64 K) ∧ u.cell? ⟨w.heap.size + 1, 1, none⟩ = some (.int .i64 R) ∧ u.cell? ⟨w.heap.size + 1, 2, none⟩ = some (.int .u32 a) ∧ u.cell? ⟨w.heap.size + 1, 3, none⟩ = some (.int .u32 b) ∧ u.cell? ⟨w.heap.size + 1, 4, none⟩ = some (.int .u32 c))
    (first | exact HU.out _ HB1.out.drew | exact HU.out _ (below_then HB1.out.drew hbo) | exact HU.out _ (below_then HB1.out hbo) | exact HU.out _ (below_then (below_then HB1.out.drew hbo) hbe) | exact HU.out _ (below_then (below_then HB1.out hbo) hbe))
    ((first
      | (go_at_call 15; refine (HOX.out _ (HX.out.below (below_then HB0.out HB1.out.drew))).mono ?_; rintro e w2 ⟨L, cl, rfl, hlo, hbo⟩)
      | (go_at_call 14; refine (HEX.out _ _ _ hlo.rowx).mono ?_; rintro e w3 ⟨v3, rfl, ho3, hbe⟩)))
  have HB3 := hide (below_then (below_then HB1.out.drew hbo) hbe)
  obtain ⟨al, cl2, rfl, rl, hcl, _⟩ := ho3.rowc
  have RL := hide rl
  clear hlo hbo hbe ho3 rl s0 s1 s2 s3 s4
  obtain ⟨s0, s1, s2, s3, s4⟩ := HU.out _ HB3.out
  go_wp2_with fail
  refine (HIL.out _ _ hcl _ RL.out).mono ?_
  rintro e w4 ⟨v4, rfl, ho4, hb4⟩
  obtain ⟨au, cu, rfl, ru, hcu, _⟩ := ho4.rowc
  have HB4 := hide (below_then HB3.out hb4)
  have RL4 := hide (RL.out.below hb4)
  have RU := hide ru
  clear ho4 ru hb4 s0 s1 s2 s3 s4
  go_wp2_with fail
  refine (num_any _ _).mono ?_
  rintro e w' ⟨rfl, rfl⟩
  go_wp2_with fail
  refine (num_any _ _).mono ?_
  rintro e w' ⟨rfl, rfl⟩
  go_wp2_with fail
  refine (same_yes _ _ _ _ _ _ xs rfl rfl _ RU.out (HX.out.below (below_then HB0.out HB4.out))).mono ?_
  rintro e w' ⟨rfl, rfl⟩
  obtain ⟨s0, s1, s2, s3, s4⟩ := HU.out _ HB4.out
  go_wp2_with fail
  go_region_held3 (fun u => u.cell? ⟨w.heap.size + 1, 0, none⟩ = some (.int .i64 K) ∧ u.cell? ⟨w.heap.size + 1, 1, none⟩ = some (.int .i64 R) ∧ u.cell? ⟨w.heap.size + 1, 2, none⟩ = some (.int .u32 a) ∧ u.cell? ⟨w.heap.size + 1, 3, none⟩ = some (.int .u32 b) ∧ u.cell? ⟨w.heap.size + 1, 4, none⟩ = some (.int .u32 c))
    (first | exact HU.out _ HB4.out.drew | exact HU.out _ (below_then HB4.out.drew hbo) | exact HU.out _ (below_then HB4.out hbo) | exact HU.out _ (below_then (below_then HB4.out.drew hbo) hbe) | exact HU.out _ (below_then (below_then HB4.out hbo) hbe))
    ((first
      | (go_at_call 15; refine (HOY.out _ (HY.out.below (below_then HB0.out HB4.out.drew))).mono ?_; rintro e w5 ⟨L, cl, rfl, hlo, hbo⟩)
      | (go_at_call 14; refine (HEY.out _ _ _ hlo.rowx).mono ?_; rintro e w6 ⟨v6, rfl, ho6, hbe⟩)))
  have HB6 := hide (below_then (below_then HB4.out.drew hbo) hbe)
  have RL6 := hide (RL4.out.below (below_then ((Below.refl _ _).drew) (below_then hbo hbe)))
  obtain ⟨am, cm, rfl, rm, hcm, _⟩ := ho6.rowc
  have RM := hide rm
  clear hlo hbo hbe ho6 rm s0 s1 s2 s3 s4
  go_wp2_with fail
  by_cases hgy : gy = 0
  · have hsw := HSW.out hgy
    subst hgy
    refine (num_any _ _).mono ?_
    rintro e w' ⟨rfl, rfl⟩
    go_wp2_with fail
    refine (same_any _ _ _ _ _ _ ms ls rfl rfl _ RM.out RL6.out).mono ?_
    rintro e w' ⟨rfl, rfl⟩
    rw [hsw]
    have b2 : (sameB ys xs != sameB ys xs) = false := by simp
    have HY6 := hide (HY.out.below (below_then HB0.out HB6.out))
    have HX6 := hide (HX.out.below (below_then HB0.out HB6.out))
    have HSB := hide (same_any _ _ c2 c1 _ _ ys xs rfl rfl _ HY6.out HX6.out)
    generalize sameB ys xs = sb at *
    go_wp2_with fail
    refine HSB.out.mono ?_
    rintro e w' ⟨rfl, rfl⟩
    go_wp2_with fail
    obtain ⟨s0, s1, s2, s3, s4⟩ := HU.out _ HB6.out
    go_wp2_with fail
    go_region_held3 (fun u => u.cell? ⟨w.heap.size + 1, 0, none⟩ = some (.int .i64 K) ∧ u.cell? ⟨w.heap.size + 1, 1, none⟩ = some (.int .i64 R) ∧ u.cell? ⟨w.heap.size + 1, 2, none⟩ = some (.int .u32 a) ∧ u.cell? ⟨w.heap.size + 1, 3, none⟩ = some (.int .u32 b) ∧ u.cell? ⟨w.heap.size + 1, 4, none⟩ = some (.int .u32 c))
      (first | exact HU.out _ HB6.out.drew | exact HU.out _ (below_then HB6.out.drew hbo) | exact HU.out _ (below_then HB6.out hbo) | exact HU.out _ (below_then (below_then HB6.out.drew hbo) hbe) | exact HU.out _ (below_then (below_then HB6.out hbo) hbe))
      ((first
        | (go_at_call 15; refine (HOZ.out _ (HZ.out.below (below_then HB0.out HB6.out.drew))).mono ?_; rintro e w7 ⟨L, cl, rfl, hlo, hbo⟩)
        | (go_at_call 19; refine (HIZ.out _ _ (by have := hlo.lt; omega) _ hlo.rowx).mono ?_; rintro e w8 ⟨v8, rfl, ho8, hbe⟩)))
    have HB8 := hide (below_then (below_then HB6.out.drew hbo) hbe)
    obtain ⟨av, cv, rfl, rv, hcv, _⟩ := ho8.rowc
    have RV := hide rv
    clear hlo hbo hbe ho8 rv s0 s1 s2 s3 s4
    by_cases e0 : hv = 0
    · subst e0
      obtain ⟨hiv, hws⟩ := HEI.out rfl
      subst hiv hws
      go_wp2_with fail
      refine (num_any _ _).mono ?_
      rintro e w' ⟨rfl, rfl⟩
      obtain ⟨s0, s1, s2, s3, s4⟩ := HU.out _ HB8.out
      go_wp2_with fail
      refine (HEV.out _ _ _ RV.out).mono ?_
      rintro e w9 ⟨v9, rfl, ho9, hb9⟩
      obtain ⟨aw, cw, rfl, rw9, _, _⟩ := ho9.rowc
      have RW := hide rw9
      have HB9 := hide (below_then HB8.out hb9)
      clear ho9 rw9 hb9 s0 s1 s2 s3 s4
      go_wp2_with fail
      refine (num_any _ _).mono ?_
      rintro e w' ⟨rfl, rfl⟩
      go_wp2_with fail
      refine (same_yes _ _ _ _ _ _ _ rfl rfl _ RW.out (HZ.out.below (below_then HB0.out HB9.out))).mono ?_
      rintro e w' ⟨rfl, rfl⟩
      go_wp2_with fail
      refine (live_any _).mono ?_
      rintro e w10 ⟨rfl, hb10⟩
      go_wp2_with fail
      go_ret
      exact ⟨rfl, below_then (below_then HB0.out HB9.out) hb10⟩
    · have b1 := nzBne e0
      go_wp2_with fail
      refine (num_any _ _).mono ?_
      rintro e w' ⟨rfl, rfl⟩
      go_wp2_with fail
      refine (live_any _).mono ?_
      rintro e w10 ⟨rfl, hb10⟩
      go_wp2_with fail
      go_ret
      exact ⟨rfl, below_then (below_then HB0.out HB8.out) hb10⟩
  · have b0 := nzBeq hgy
    refine (num_any _ _).mono ?_
    rintro e w' ⟨rfl, rfl⟩
    go_wp2_with fail
    obtain ⟨s0, s1, s2, s3, s4⟩ := HU.out _ HB6.out
    go_wp2_with fail
    go_region_held3 (fun u => u.cell? ⟨w.heap.size + 1, 0, none⟩ = some (.int .i64 K) ∧ u.cell? ⟨w.heap.size + 1, 1, none⟩ = some (.int .i64 R) ∧ u.cell? ⟨w.heap.size + 1, 2, none⟩ = some (.int .u32 a) ∧ u.cell? ⟨w.heap.size + 1, 3, none⟩ = some (.int .u32 b) ∧ u.cell? ⟨w.heap.size + 1, 4, none⟩ = some (.int .u32 c))
      (first | exact HU.out _ HB6.out.drew | exact HU.out _ (below_then HB6.out.drew hbo) | exact HU.out _ (below_then HB6.out hbo) | exact HU.out _ (below_then (below_then HB6.out.drew hbo) hbe) | exact HU.out _ (below_then (below_then HB6.out hbo) hbe))
      ((first
        | (go_at_call 15; refine (HOZ.out _ (HZ.out.below (below_then HB0.out HB6.out.drew))).mono ?_; rintro e w7 ⟨L, cl, rfl, hlo, hbo⟩)
        | (go_at_call 19; refine (HIZ.out _ _ (by have := hlo.lt; omega) _ hlo.rowx).mono ?_; rintro e w8 ⟨v8, rfl, ho8, hbe⟩)))
    have HB8 := hide (below_then (below_then HB6.out.drew hbo) hbe)
    obtain ⟨av, cv, rfl, rv, hcv, _⟩ := ho8.rowc
    have RV := hide rv
    clear hlo hbo hbe ho8 rv s0 s1 s2 s3 s4
    by_cases e0 : hv = 0
    · subst e0
      obtain ⟨hiv, hws⟩ := HEI.out rfl
      subst hiv hws
      go_wp2_with fail
      refine (num_any _ _).mono ?_
      rintro e w' ⟨rfl, rfl⟩
      obtain ⟨s0, s1, s2, s3, s4⟩ := HU.out _ HB8.out
      go_wp2_with fail
      refine (HEV.out _ _ _ RV.out).mono ?_
      rintro e w9 ⟨v9, rfl, ho9, hb9⟩
      obtain ⟨aw, cw, rfl, rw9, _, _⟩ := ho9.rowc
      have RW := hide rw9
      have HB9 := hide (below_then HB8.out hb9)
      clear ho9 rw9 hb9 s0 s1 s2 s3 s4
      go_wp2_with fail
      refine (num_any _ _).mono ?_
      rintro e w' ⟨rfl, rfl⟩
      go_wp2_with fail
      refine (same_yes _ _ _ _ _ _ _ rfl rfl _ RW.out (HZ.out.below (below_then HB0.out HB9.out))).mono ?_
      rintro e w' ⟨rfl, rfl⟩
      go_wp2_with fail
      refine (live_any _).mono ?_
      rintro e w10 ⟨rfl, hb10⟩
      go_wp2_with fail
      go_ret
      exact ⟨rfl, below_then (below_then HB0.out HB9.out) hb10⟩
    · have b1 := nzBne e0
      go_wp2_with fail
      refine (num_any _ _).mono ?_
      rintro e w' ⟨rfl, rfl⟩
      go_wp2_with fail
      refine (live_any _).mono ?_
      rintro e w10 ⟨rfl, hb10⟩
      go_wp2_with fail
      go_ret
      exact ⟨rfl, below_then (below_then HB0.out HB8.out) hb10⟩
theorem law_back (K R : Int) (a b c : Nat) (hA : a ≤ 4294967295) (hB : b ≤ 4294967295) (hC : c ≤ 4294967295) (A1 A2 A3 : Option Addr) (c1 c2 c3 : Nat) (xs ys zs : List Nat) (hx : xs.length ≤ 1048576) (hy : ys.length ≤ 1048576) (hz : zs.length ≤ 1048576) (w : World) (rx : RowA w A1 xs) (ry : RowA w A2 ys) (rz : RowA w A3 zs) :
    Calls Try.prog 4 #[.agg #[.int .i64 K, .int .i64 R, .int .u32 a, .int .u32 b, .int .u32 c, .slice A1 xs.length c1, .slice A2 ys.length c2, .slice A3 zs.length c3]] w fun e w' => e = .returned (.bool true) ∧ Below w.heap.size w w' := by
  by_cases he : encE K R a b c xs = 0
  · exact back_good K R a b c hA hB hC A1 A2 A3 c1 c2 c3 xs ys zs hx hy hz he w rx ry rz
  · exact back_bad K R a b c hA hB hC A1 A2 A3 c1 c2 c3 xs ys zs (by omega) he w rx
end Go.Proofs.Ytmmngcjnofcmmaa
