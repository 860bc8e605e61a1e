/- The law EncoderTurned, walked: it returns true. -/
import Derived.Test.YtmmngcjnofcmmaaRows
import Derived.Test.YtmmngcjnofcmmaaLtBack
import Derived.Test.YtmmngcjnofcmmaaSteps
import Derived.Test.YtmmngcjnofcmmaaCRev
namespace Go.Proofs.Ytmmngcjnofcmmaa
open Go.RowKit
set_option linter.unusedVariables false

theorem steps_any (r : Nat) (hr : r = 1 ∨ r = 2 ∨ r = 3) (T : Nat) (hT : T ≤ 4194304) (ad : Option Addr) (cap : Nat) (xs : List Nat) (hl : xs.length = T * r) (hc : xs.length ≤ cap) (N : Nat) (hN : xs.length = N) (w : World) (hx : RowA w ad xs) :
    Calls Try.prog 37 #[.slice ad N cap, .int .i64 r] w fun e w' => ∃ v, e = .returned v ∧ OwnB w' w.heap.size v (stepsK r T xs T) ∧ Below w.heap.size w w' := by
  rcases hr with rfl | rfl | rfl
  · exact steps_1 T hT ad cap xs hl hc N hN w hx
  · exact steps_2 T hT ad cap xs hl hc N hN w hx
  · exact steps_3 T hT ad cap xs hl hc N hN w hx
theorem OwnB.rowC {w : World} {B : Nat} {v : Value} {xs : List Nat} {n : Nat} (h : OwnB w B v xs) (hn : xs.length = n) : ∃ ad cap, v = .slice ad n cap ∧ RowA w ad xs ∧ n ≤ cap := by
  subst hn
  obtain ⟨ad, cap, e, r, hc, _⟩ := h.rowc
  exact ⟨ad, cap, e, r, hc⟩
set_option maxRecDepth 100000 in
set_option maxHeartbeats 2000000 in
theorem turned_bad (K R : Int) (a b c : Nat) (hA : a ≤ 4294967295) (hB : b ≤ 4294967295) (hC : c ≤ 4294967295) (ad : Option Addr) (cap : Nat) (xs : List Nat) (hx : xs.length ≤ 140737488351232) (he : encE K R a b c xs ≠ 0) (w : World) (rx : RowA w ad xs) :
    Calls Try.prog 11 #[.agg #[.int .i64 K, .int .i64 R, .int .u32 a, .int .u32 b, .int .u32 c], .slice ad xs.length cap] w fun e w' => e = .returned (.bool true) ∧ Below w.heap.size w w' := by
  have HG := hide fun w hr => good_no K R a b c hA hB hC ad cap xs hx he w hr
  have HX := hide rx
  clear he rx
  go_enter Try.func11, Try.ntmps11
  go_wp2_with fail
  refine (HG.out _ (HX.out.alloc _)).mono ?_
  rintro e w1 ⟨rfl, hb1⟩
  go_wp2_with fail
  refine (live_any _).mono ?_
  rintro e w2 ⟨rfl, hb2⟩
  go_wp2_with fail
  go_ret
  exact ⟨rfl, below_then (below_one hb1) hb2⟩
set_option maxRecDepth 100000 in
set_option maxHeartbeats 4000000 in
theorem turned_good (n r a b c : Nat) (hr : r = 2 ∨ r = 3) (hn : 2 ≤ n ∧ n ≤ 31) (hA : a ≤ 4294967295) (hB : b ≤ 4294967295) (hC : c ≤ 4294967295) (hck : checkF (n + 1) r a b c = 0) (ad : Option Addr) (cap : Nat) (xs : List Nat) (hcap : xs.length ≤ cap) (hx : xs.length ≤ 1048576) (hb : Bits xs) (w : World) (rx : RowA w ad xs) :
    Calls Try.prog 11 #[.agg #[.int .i64 (n + 1), .int .i64 r, .int .u32 a, .int .u32 b, .int .u32 c], .slice ad xs.length cap] w fun e w' => e = .returned (.bool true) ∧ Below w.heap.size w w' := by
  have he := encE_good hck hb
  have hR : (r : Int) = 2 ∨ (r : Int) = 3 := by omega
  have hrn : rateN r = r := by unfold rateN; rcases hr with rfl | rfl <;> rfl
  have HG := hide fun w hx' => good_yes (n + 1) r a b c hA hB hC ad cap xs (by omega) he w hx'
  have HRV := hide (crev_good n r a b c hr hn hA hB hC hck)
  have hO : encO (n + 1) r a b c xs = wordF r a b c n xs := by rw [encO_some he]; simp
  have hck2 := checkF_rev hck
  have hb2 : Bits xs.reverse := fun i hi => by rw [List.length_reverse] at hi; rw [rev_at xs hi]; exact hb.all _
  have he2 := encE_good hck2 hb2
  have hO2 : encO (n + 1) r (Rev.revP n a) (Rev.revP n b) (revC r n c) xs.reverse = stepsK r (xs.length + n) (wordF r a b c n xs) (xs.length + n) := by
    rw [encO_some he2]
    have := word_rev (xs := xs) hR hck hn.2 hb
    rw [hrn] at this
    simpa using this
  have hwl : (wordF r a b c n xs).length = (xs.length + n) * r := by rw [word_length, hrn]
  have hsl := stepsK_length hwl (xs.length + n) (Nat.le_refl _)
  have h3 : (xs.length + n) * r ≤ 3200000 := by
    rcases hr with rfl | rfl <;> omega
  have ra := revP_le (x := a) hn.2
  have rb := revP_le (x := b) hn.2
  have rc : revC r n c ≤ 4294967295 := by unfold revC; split; exact hC; exact revP_le hn.2
  have HO1 := hide fun ad cp w hr => own_any ad cp xs (by omega) w hr
  have HE1 := hide fun ad cp w hr => encode_any (n + 1) r a b c hA hB hC ad cp xs (by omega) w hr
  rw [he, hO] at HE1
  have HE2 := hide fun ad cp w hr => encode_any (n + 1) r (Rev.revP n a) (Rev.revP n b) (revC r n c) ra rb rc ad cp xs.reverse (by rw [List.length_reverse]; omega) w hr
  rw [he2, hO2, List.length_reverse] at HE2
  have HS1 := hide fun w hx => steps_any 1 (.inl rfl) xs.length (by omega) ad cap xs (by omega) hcap xs.length rfl w hx
  rw [stepsK_one] at HS1
  have HS2 := hide fun ad cp hc N hN w hx => steps_any r (by omega) (xs.length + n) (by omega) ad cp (wordF r a b c n xs) hwl hc N hN w hx
  generalize stepsK r (xs.length + n) (wordF r a b c n xs) (xs.length + n) = ws at *
  generalize wordF r a b c n xs = wd at *
  generalize (xs.length + n) * r = N at *
  generalize Rev.revP n a = pa at *
  generalize Rev.revP n b = pb at *
  generalize revC r n c = pc at *
  have HWL := hide hwl
  have HSL := hide hsl
  have HRL := hide (show xs.reverse.length = xs.length from List.length_reverse)
  have HX := hide rx
  clear rx he hO he2 hO2 hwl hsl hck hck2 hb hb2 hR hrn ra rb rc
  go_enter Try.func11, Try.ntmps11
  go_wp2_with fail
  have hcb : CodeB (w.alloc (.cells #[.int .i64 (n + 1), .int .i64 r, .int .u32 a, .int .u32 b, .int .u32 c] 25)) w.heap.size (n + 1) r a b c := CodeB.new w _ _ a b c
  have hb0 : Below w.heap.size w (w.alloc (.cells #[.int .i64 (n + 1), .int .i64 r, .int .u32 a, .int .u32 b, .int .u32 c] 25)) := (Below.refl _ _).alloc (Nat.le_refl _) _
  generalize w.alloc (.cells #[.int .i64 (n + 1), .int .i64 r, .int .u32 a, .int .u32 b, .int .u32 c] 25) = W0 at *
  have HU := hide fun (u : World) (hb : Below W0.heap.size W0 u) => (hcb.keep hb hcb.lt).cells
  have HB0 := hide hb0
  have hz0 := hcb.lt
  clear hcb hb0
  refine (HG.out _ (HX.out.below HB0.out)).mono ?_
  rintro e w1 ⟨rfl, hb1⟩
  have HB1 := hide hb1
  obtain ⟨s0, s1, s2, s3, s4⟩ := HU.out _ hb1
  clear hb1
  go_wp2_with fail
  refine (HRV.out _).mono ?_
  rintro e w2 ⟨rfl, hb2⟩
  have HB2 := hide (below_then HB1.out hb2)
  have hz2 := HB2.out.size
  clear hb2 s0 s1 s2 s3 s4
  go_wp2_with fail
  have hdb := CodeB.new w2 (n + 1) r pa pb pc
  have hbd : Below w2.heap.size w2 (w2.alloc (.cells #[.int .i64 (n + 1), .int .i64 r, .int .u32 pa, .int .u32 pb, .int .u32 pc] 25)) := (Below.refl _ _).alloc (Nat.le_refl _) _
  generalize w2.alloc (.cells #[.int .i64 (n + 1), .int .i64 r, .int .u32 pa, .int .u32 pb, .int .u32 pc] 25) = W2 at *
  have HV := hide fun (u : World) (hb : Below W2.heap.size W2 u) => (hdb.keep hb hdb.lt).cells
  have HB2d := hide (below_then HB2.out hbd)
  clear hdb hbd
  have HX2 := hide (HX.out.below (below_then HB0.out HB2d.out))
  obtain ⟨s0, s1, s2, s3, s4⟩ := HU.out _ HB2d.out
  obtain ⟨t0, t1, t2, t3, t4⟩ := HV.out _ (Below.refl _ _)
  go_wp2_with fail
  go_region_held3 (fun u => u.cell? ⟨w.heap.size, 0, none⟩ = some (.int .i64 (n + 1)) ∧ u.cell? ⟨w.heap.size, 1, none⟩ = some (.int .i64 r) ∧ u.cell? ⟨w.heap.size, 2, none⟩ = some (.int .u32 a) ∧ u.cell? ⟨w.heap.size, 3, none⟩ = some (.int .u32 b) ∧ u.cell? ⟨w.heap.size, 4, none⟩ = some (.int .u32 c))
    (first | exact HU.out _ HB2d.out.drew | exact HU.out _ (below_then HB2d.out.drew hbo) | exact HU.out _ (below_then HB2d.out hbo) | exact HU.out _ (below_then (below_then HB2d.out.drew hbo) hbe) | exact HU.out _ (below_then (below_then HB2d.out hbo) hbe))
    ((first
      | (go_at_call 14; refine (HE1.out _ _ _ hlo.rowx).mono ?_; rintro e w4 ⟨v4, rfl, ho, hbe⟩)
      | (go_at_call 15; refine (HO1.out _ _ _ (HX2.out.below (Below.refl _ _).drew)).mono ?_; rintro e w3 ⟨L, cl, rfl, hlo, hbo⟩)))
  have DB4 := hide (show Below W2.heap.size W2 w4 from by first | exact below_then ((Below.refl _ _).drew) (below_then hbo hbe) | exact below_then hbo hbe)
  obtain ⟨a4, c4, rfl, r4, hc4⟩ := ho.rowC HWL.out
  have HR4 := hide r4
  have HX4 := hide (HX2.out.below DB4.out)
  have HB4 := hide (below_then HB2d.out DB4.out)
  clear ho r4 hlo hbo hbe s0 s1 s2 s3 s4 t0 t1 t2 t3 t4
  obtain ⟨t0, t1, t2, t3, t4⟩ := HV.out _ DB4.out
  go_wp2_with fail
  go_region_held3 (fun u => u.cell? ⟨w2.heap.size, 0, none⟩ = some (.int .i64 (n + 1)) ∧ u.cell? ⟨w2.heap.size, 1, none⟩ = some (.int .i64 r) ∧ u.cell? ⟨w2.heap.size, 2, none⟩ = some (.int .u32 pa) ∧ u.cell? ⟨w2.heap.size, 3, none⟩ = some (.int .u32 pb) ∧ u.cell? ⟨w2.heap.size, 4, none⟩ = some (.int .u32 pc))
    (first | exact HV.out _ DB4.out.drew | exact HV.out _ (below_then DB4.out.drew hbo) | exact HV.out _ (below_then DB4.out hbo) | exact HV.out _ (below_then (below_then DB4.out.drew hbo) hbe) | exact HV.out _ (below_then (below_then DB4.out hbo) hbe))
    ((first
      | (go_at_call 14; obtain ⟨a5, c5, rfl, r5, _⟩ := hso.rowC HRL.out; refine (HE2.out _ _ _ r5).mono ?_; rintro e w6 ⟨v6, rfl, ho, hbe⟩)
      | (go_at_call 37; refine (HS1.out _ (HX4.out.below (Below.refl _ _).drew)).mono ?_; rintro e w5 ⟨v5, rfl, hso, hbo⟩)))
  have DB6 := hide (show Below w4.heap.size w4 w6 from by first | exact below_then ((Below.refl _ _).drew) (below_then hbo hbe) | exact below_then hbo hbe)
  obtain ⟨a6, c6, rfl, r6, _⟩ := ho.rowC HSL.out
  have HR6 := hide r6
  have HR46 := hide (HR4.out.below DB6.out)
  have HB6 := hide (below_then HB4.out DB6.out)
  clear ho r6 hbo hbe t0 t1 t2 t3 t4
  obtain ⟨s0, s1, s2, s3, s4⟩ := HU.out _ HB6.out
  go_wp2_with fail
  refine (num_any _ _).mono ?_
  rintro e w' ⟨rfl, rfl⟩
  go_wp2_with fail
  refine (num_any _ _).mono ?_
  rintro e w' ⟨rfl, rfl⟩
  go_wp2_with fail
  refine (num_any _ _).mono ?_
  rintro e w' ⟨rfl, rfl⟩
  go_wp2_with fail
  refine (HS2.out _ _ (by rw [HWL.out]; exact hc4) _ HWL.out _ HR46.out).mono ?_
  rintro e w7 ⟨v7, rfl, ho7, hb7⟩
  obtain ⟨a7, c7, rfl, r7, _⟩ := ho7.rowC HSL.out
  have HB7 := hide (below_then HB6.out hb7)
  have HR7 := hide r7
  have HR67 := hide (HR6.out.below hb7)
  clear ho7 r7 hb7 s0 s1 s2 s3 s4
  go_wp2_with fail
  refine (same_yes _ _ _ _ _ _ ws HSL.out.symm HSL.out.symm _ HR7.out HR67.out).mono ?_
  rintro e w' ⟨rfl, rfl⟩
  go_wp2_with fail
  refine (live_any _).mono ?_
  rintro e w8 ⟨rfl, hb8⟩
  go_wp2_with fail
  go_ret
  exact ⟨rfl, below_then (below_then HB0.out HB7.out) hb8⟩
theorem law_turned (K R : Int) (a b c : Nat) (hA : a ≤ 4294967295) (hB : b ≤ 4294967295) (hC : c ≤ 4294967295) (ad : Option Addr) (cap : Nat) (xs : List Nat) (hcap : xs.length ≤ cap) (hx : xs.length ≤ 1048576) (w : World) (rx : RowA w ad xs) :
    Calls Try.prog 11 #[.agg #[.int .i64 K, .int .i64 R, .int .u32 a, .int .u32 b, .int .u32 c], .slice ad xs.length cap] w fun e w' => e = .returned (.bool true) ∧ Below w.heap.size w w' := by
  by_cases he : encE K R a b c xs = 0
  · obtain ⟨hck, hb⟩ := encE_zero he
    obtain ⟨n, rfl, hn1, hn2, hR⟩ := good_code hck
    obtain ⟨r, rfl, hr⟩ : ∃ r : Nat, R = r ∧ (r = 2 ∨ r = 3) := ⟨R.toNat, by omega, by omega⟩
    exact turned_good n r a b c hr ⟨hn1, hn2⟩ hA hB hC hck ad cap xs hcap hx hb w rx
  · exact turned_bad K R a b c hA hB hC ad cap xs (by omega) he w rx
end Go.Proofs.Ytmmngcjnofcmmaa
