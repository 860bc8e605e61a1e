/- The laws ModemSymbols and ModemWindows, walked: they return true. -/
import Derived.Test.YtlbfndibgojbiaaRows
import Derived.Test.YtlbfndibgojbiaaMLawSym
import Derived.Test.YtlbfndibgojbiaaMLawChecks
namespace Go.Proofs.Ytlbfndibgojbiaa
open Go.RowKit
set_option linter.unusedVariables false

set_option maxRecDepth 100000 in
set_option maxHeartbeats 4000000 in
theorem law_msymbols (K R : Int) (a b c : Nat) (D : Int) (T S m : Nat) (l q z : Int) (hA : a ≤ 4294967295) (hB : b ≤ 4294967295) (hC : c ≤ 4294967295) (hT : T ≤ 18446744073709551615) (hS : S ≤ 18446744073709551615) (hM : m ≤ 18446744073709551615) (ad : Option Addr) (cap : Nat) (xs : List Nat) (hl : xs.length ≤ 140737488351232) (h8 : ∀ i, xs.getD i 0 ≤ 255) (w : World) (hx : RowA w ad xs) :
    Calls Try.prog 3 #[.agg #[.int .i64 K, .int .i64 R, .int .u32 a, .int .u32 b, .int .u32 c, .int .i64 D, .int .u64 T, .int .u64 S, .int .u64 m, .int .i64 l, .int .i64 q, .int .i64 z], .slice ad xs.length cap] w fun e w' => e = .returned (.bool true) ∧ Below w.heap.size w w' := by
  have HS1 := hide fun w hx => lsymbols_any K R a b c D T S m l q z hA hB hC hT hS hM ad cap xs hl h8 w hx
  have HS2 := hide fun ad cap w hx => lsymbols_any K R a b c D T S m l q z hA hB hC hT hS hM ad cap (rowL z xs) (by rw [rowL_length]; have := rowN_le z; omega) (fun i => by have := (rowL_bits z xs).all i; omega) w hx
  have HRW := hide fun w hx => row25_any K R a b c D T S m l q z ad cap xs hl h8 w hx
  have HX := hide hx
  clear hx h8
  generalize rowL z xs = ys at *
  go_enter Try.func3, Try.ntmps3
  go_wp2_with fail
  have hM0 := ModB.new (K := K) (R := R) (a := a) (b := b) (c := c) (D := D) (T := T) (S := S) (m := m) (l := l) (q := q) (z := z) w
  have hb0 : Below w.heap.size w (w.alloc (.cells #[.int .i64 K, .int .i64 R, .int .u32 a, .int .u32 b, .int .u32 c, .int .i64 D, .int .u64 T, .int .u64 S, .int .u64 m, .int .i64 l, .int .i64 q, .int .i64 z] 32)) := (Below.refl _ _).alloc (Nat.le_refl _) _
  generalize w.alloc (.cells #[.int .i64 K, .int .i64 R, .int .u32 a, .int .u32 b, .int .u32 c, .int .i64 D, .int .u64 T, .int .u64 S, .int .u64 m, .int .i64 l, .int .i64 q, .int .i64 z] 32) = W0 at *
  have HU := hide fun (u : World) (hb : Below W0.heap.size W0 u) => (hM0.keep hb hM0.lt).cells
  have HP := hide fun (u : World) (hb : Below W0.heap.size W0 u) => hM0.p hb
  have HB0 := hide hb0
  have HX0 := hide fun (u : World) (h : modP w.heap.size K R a b c D T S m l q z W0 u) => HX.out.below (below_then hb0 h.below)
  clear hM0 hb0
  obtain ⟨s0, s1, s2, s3, s4, s5, s6, s7, s8, s9, s10, s11⟩ := HU.out _ (Below.refl _ _)
  have HSt := hide (show modP w.heap.size K R a b c D T S m l q z W0 W0 from HP.out _ (Below.refl _ _))
  have HKe := hide (fun u u' (h : modP w.heap.size K R a b c D T S m l q z W0 u) (hb : Below u.heap.size u u') => (show modP w.heap.size K R a b c D T S m l q z W0 u' from HP.out _ (below_then h.below hb)))
  go_region_held3 (fun u => u.cell? ⟨w.heap.size, 0, none⟩ = some (.int .i64 K) ∧ u.cell? ⟨w.heap.size, 1, none⟩ = some (.int .i64 R) ∧ u.cell? ⟨w.heap.size, 2, none⟩ = some (.int .u32 a) ∧ u.cell? ⟨w.heap.size, 3, none⟩ = some (.int .u32 b) ∧ u.cell? ⟨w.heap.size, 4, none⟩ = some (.int .u32 c) ∧ u.cell? ⟨w.heap.size, 5, none⟩ = some (.int .i64 D) ∧ u.cell? ⟨w.heap.size, 6, none⟩ = some (.int .u64 T) ∧ u.cell? ⟨w.heap.size, 7, none⟩ = some (.int .u64 S) ∧ u.cell? ⟨w.heap.size, 8, none⟩ = some (.int .u64 m) ∧ u.cell? ⟨w.heap.size, 9, none⟩ = some (.int .i64 l) ∧ u.cell? ⟨w.heap.size, 10, none⟩ = some (.int .i64 q) ∧ u.cell? ⟨w.heap.size, 11, none⟩ = some (.int .i64 z) ∧ Below W0.heap.size W0 u)
    (first | exact HKe.out _ _ HSt.out (Below.refl _ _).drew | exact HSt.out | exact HKe.out _ _ (by assumption) (by assumption) | exact HKe.out _ _ (by assumption) (Below.refl _ _))
    (first
      | (go_at_call 12; refine (HRW.out _ (HX0.out _ (show modP w.heap.size K R a b c D T S m l q z W0 _ by assumption))).mono ?_; rintro e w' ⟨v2, rfl, ho2, hb'⟩; obtain ⟨a2, c2, rfl, r2, _⟩ := ho2.rowg)
      | (go_at_call 11; (with_reducible refine (HS1.out _ ?hx1).mono ?_); (case hx1 => (first | exact HX0.out _ (show modP w.heap.size K R a b c D T S m l q z W0 _ by assumption) | exact HX0.out _ HSt.out | exact HX0.out _ (HKe.out _ _ HSt.out (Below.refl _ _).drew))); rintro e w' ⟨rfl, hb'⟩)
      | (go_at_call 11; refine (HS2.out _ _ _ r2).mono ?_; rintro e w' ⟨rfl, hb'⟩)
      | (go_at_call 13; refine (knows25_any _).mono ?_; rintro e w' ⟨rfl, hb'⟩))
  rename_i hh
  have HF := hide (below_then HB0.out (show modP w.heap.size K R a b c D T S m l q z W0 _ from hh).below)
  go_wp2_with fail
  go_ret
  exact ⟨rfl, HF.out⟩
/-- a body that may be, out of any bytes -/
def fitL (N M : Nat) (xs : List Nat) : List Nat := (List.range N).map fun i => xs.getD i 0 % M
theorem fitL_length (N M : Nat) (xs : List Nat) : (fitL N M xs).length = N := by simp [fitL]
theorem fitL_le (N M : Nat) (hM : 0 < M ∧ M ≤ 256) (xs : List Nat) (i : Nat) : (fitL N M xs).getD i 0 ≤ 255 := by
  unfold fitL
  rcases Nat.lt_or_ge i N with hi | hi
  · rw [fill_at _ hi]
    have := Nat.mod_lt (xs.getD i 0) hM.1
    omega
  · rw [fill_far _ hi]; omega
set_option maxRecDepth 100000 in
set_option maxHeartbeats 4000000 in
theorem law_mwindows_ok (K R : Int) (a b c : Nat) (D : Int) (T S m : Nat) (l q z : Int) (hA : a ≤ 4294967295) (hB : b ≤ 4294967295) (hC : c ≤ 4294967295) (hT : T ≤ 18446744073709551615) (hS : S ≤ 18446744073709551615) (hM : m ≤ 18446744073709551615) (hE : modE K R a b c D T S m l q z = 0) (L : Int) (ad : Option Addr) (cap : Nat) (xs : List Nat) (hl : xs.length ≤ 140737488351232) (h8 : ∀ i, xs.getD i 0 ≤ 255) (w : World) (hx : RowA w ad xs) :
    Calls Try.prog 6 #[.agg #[.int .i64 K, .int .i64 R, .int .u32 a, .int .u32 b, .int .u32 c, .int .i64 D, .int .u64 T, .int .u64 S, .int .u64 m, .int .i64 l, .int .i64 q, .int .i64 z], .int .i64 L, .slice ad xs.length cap] w fun e w' => e = .returned (.bool true) ∧ Below w.heap.size w w' := by
  have HS1 := hide fun w hx => lwindow_any K R a b c D T S m l q z hA hB hC hT hS hM L ad cap xs hl h8 w hx
  have HS2 := hide fun ad cap ys hl h8 w hx => lwindow_any K R a b c D T S m l q z hA hB hC hT hS hM L ad cap ys hl h8 w hx
  have HBD := hide (rbody_any K R a b c D T S m l q z hA hB hC hT hS)
  unfold bodyN at HBD
  rw [hE, if_pos rfl] at HBD
  obtain ⟨_, _, _, hK, hR, _, _, hz⟩ := modE_good K R a b c D T S m l q z hE
  obtain ⟨b1, b2⟩ := bodyI_le hK hR hz
  obtain ⟨N, hN, hN2⟩ : ∃ N : Nat, bodyI K R z = N ∧ N ≤ 3165 := ⟨(bodyI K R z).toNat, by omega, by omega⟩
  rw [hN] at HBD
  clear hE hK hR hz b1 b2 hN
  have HX := hide hx
  have H8 := hide h8
  clear hx h8
  go_enter Try.func6, Try.ntmps6
  go_wp2_with fail
  have hM0 := ModB.new (K := K) (R := R) (a := a) (b := b) (c := c) (D := D) (T := T) (S := S) (m := m) (l := l) (q := q) (z := z) w
  have hb0 : Below w.heap.size w (w.alloc (.cells #[.int .i64 K, .int .i64 R, .int .u32 a, .int .u32 b, .int .u32 c, .int .i64 D, .int .u64 T, .int .u64 S, .int .u64 m, .int .i64 l, .int .i64 q, .int .i64 z] 32)) := (Below.refl _ _).alloc (Nat.le_refl _) _
  generalize w.alloc (.cells #[.int .i64 K, .int .i64 R, .int .u32 a, .int .u32 b, .int .u32 c, .int .i64 D, .int .u64 T, .int .u64 S, .int .u64 m, .int .i64 l, .int .i64 q, .int .i64 z] 32) = W0 at *
  have HU := hide fun (u : World) (hb : Below W0.heap.size W0 u) => (hM0.keep hb hM0.lt).cells
  have HB0 := hide hb0
  clear hM0 hb0
  refine (HBD.out _).mono ?_
  rintro e w1 ⟨rfl, hb1⟩
  have HB1 := hide hb1
  clear hb1
  go_wp2_with (first
    | (at_make; refine wpList_makeB rfl _ _ rfl w1.heap.size _ _ N rfl rfl ?c1 ?c2 ?c3 ?c4 ?_)
    | go_in)
  case c1 => first | rfl | (rw [HN.out]; rfl)
  case c2 => first | rfl | (rw [HN.out]; rfl)
  case c3 => omega
  case c4 => exact Nat.le_refl _
  intro w2 hown2 hgrow2 hz2
  obtain ⟨M, hMm⟩ : ∃ M : Nat, (2 ≤ L → min L 256 = (M : Int) ∧ 2 ≤ M ∧ M ≤ 256) ∧ (L < 2 → M = 1) := by
    by_cases h2 : 2 ≤ L
    · exact ⟨(min L 256).toNat, fun _ => by omega, fun h => by omega⟩
    · exact ⟨1, fun h => by omega, fun _ => rfl⟩
  obtain ⟨hMa, hMb⟩ := hMm
  have hM1 : 0 < M ∧ M ≤ 256 := by
    by_cases h2 : 2 ≤ L
    · have := hMa h2; omega
    · have := hMb (by omega); omega
  have HMa := hide hMa
  have HMb := hide hMb
  have HO2 := hide (show OwnB w2 w1.heap.size (.slice (some ⟨w1.heap.size, 0, none⟩) N N) (fillK (fun i => xs.getD i 0 % M) N 0) by rw [fillK_zero]; exact hown2)
  have HB2 := hide (HB1.out.grown hgrow2 HB1.out.size (fun k e => by cases e))
  clear hown2 hgrow2 hMa hMb
  go_wp2_with fail
  go_loopw [10] (fun i u => ∃ k : Nat, k ≤ N ∧ i = .int .i64 k ∧ Hid (OwnB u w1.heap.size (.slice (some ⟨w1.heap.size, 0, none⟩) N N) (fillK (fun i => xs.getD i 0 % M) N k)) ∧ Hid (Below W0.heap.size W0 u)) (fun i _ => N - (intOf i).toNat)
  case atStart => exact ⟨0, by omega, rfl, HO2, HB2⟩
  case round =>
    rename World => wr
    obtain ⟨k, hk, rfl, ho, hb⟩ := hrel
    clear HO2 HB2
    by_cases hgo : k < N ∧ k < xs.length ∧ 2 ≤ L
    · obtain ⟨hlt, hlx, hL2⟩ := hgo
      have d1 : decide ((k : Int) < N) = true := decide_eq_true (by omega)
      have d2 : decide ((k : Int) < xs.length) = true := decide_eq_true (by omega)
      obtain ⟨hmin, hm2, hm3⟩ := HMa.out hL2
      obtain ⟨b, off, rfl, _, hc⟩ := (HX.out.below (below_then HB0.out hb.out)).at_ hlx
      have hcg := ho.out.cell (fillK_length hk).symm hlt
      have hfz := ho.out.frz (fillK_length hk).symm k
      have hset := (ho.out.set (fillK_length hk).symm k (xs.getD k 0 % M)).1
      have hF : (fillK (fun i => xs.getD i 0 % M) N k).set k (xs.getD k 0 % M) = fillK (fun i => xs.getD i 0 % M) N (k + 1) := fillK_set (f := fun i => xs.getD i 0 % M) hlt
      rw [hF] at hset
      have HO4 := hide hset
      have HB4 := hide (hb.out.setCell (p := ⟨w1.heap.size, k, none⟩) HB1.out.size (.int .u8 (xs.getD k 0 % M : Nat)))
      have hm : (xs.getD k 0 : Int) % M = ((xs.getD k 0 % M : Nat) : Int) := by simp
      have hmt : (xs.getD k 0 : Int).tmod M = ((xs.getD k 0 % M : Nat) : Int) := by rw [Int.tmod_eq_emod_of_nonneg (by omega)]; exact hm
      have hml : xs.getD k 0 % M < M := Nat.mod_lt _ (by omega)
      have hz : (M : Int) ≠ 0 := by omega
      have hy8 := H8.out k
      clear hset hF
      have hin : (0 : Int) ≤ k := by omega
      have hin2 : (k : Int) < xs.length := by omega
      have hin3 : (k : Int) < N := by omega
      generalize hq : xs.getD k 0 % M = y2 at *
      generalize hy : xs.getD k 0 = y at *
      have HQ := hide hq
      have HY := hide hy
      clear hq hy
      go_wp2_with fail
      go_roundw
      case rel => exact ⟨k + 1, by omega, by simp, HO4, HB4⟩
      case measure => simp [intOf]; omega
    · have HFU := hide (show fillK (fun i => xs.getD i 0 % M) N k = fitL N M xs from fillK_rest (f := fun i => xs.getD i 0 % M) hk (fun i h1 h2 => by
        by_cases h3 : 2 ≤ L
        · have : xs.length ≤ i := by
            rcases Nat.lt_or_ge k xs.length with h4 | h4
            · exact absurd ⟨by omega, h4, h3⟩ hgo
            · omega
          simp only [getD_far' this, Nat.zero_mod]
        · rw [HMb.out (by omega), Nat.mod_one]))
      have hown := ho.out
      rw [HFU.out] at hown
      have hrow := hown.row
      obtain ⟨a9, c9, e9, hrow⟩ := hrow
      rw [fitL_length] at e9
      cases e9
      have HRO := hide hrow
      obtain ⟨s0, s1, s2, s3, s4, s5, s6, s7, s8, s9, s10, s11⟩ := HU.out _ hb.out
      have HFS := hide fun ad cap w hx => HS2.out ad cap (fitL N M xs) (by rw [fitL_length]; omega) (fitL_le N M hM1 xs) w hx
      rw [fitL_length] at HFS
      clear hown hrow
      by_cases g1 : k < N
      · have d1 : decide ((k : Int) < N) = true := decide_eq_true (by omega)
        by_cases g2 : k < xs.length
        · have d2 : decide ((k : Int) < xs.length) = true := decide_eq_true (by omega)
          have d3 : decide ((2 : Int) ≤ L) = false := decide_eq_false (fun h => hgo ⟨g1, g2, h⟩)
          clear hgo
          go_wp2_with fail
          refine (HS1.out _ (HX.out.below (below_then HB0.out hb.out))).mono ?_
          rintro e w3 ⟨rfl, hb3⟩
          have HB3 := hide (below_then hb.out hb3)
          have HRO3 := hide (HRO.out.below hb3)
          clear hb3 s0 s1 s2 s3 s4 s5 s6 s7 s8 s9 s10 s11
          obtain ⟨s0, s1, s2, s3, s4, s5, s6, s7, s8, s9, s10, s11⟩ := HU.out _ HB3.out
          go_wp2_with fail
          refine (HFS.out _ _ _ HRO3.out).mono ?_
          rintro e w4 ⟨rfl, hb4⟩
          go_wp2_with fail
          refine (knows25_any _).mono ?_
          rintro e w5 ⟨rfl, hb5⟩
          go_wp2_with fail
          go_ret
          exact ⟨rfl, below_then HB0.out (below_then (below_then HB3.out hb4) hb5)⟩
        · have d2 : decide ((k : Int) < xs.length) = false := decide_eq_false (by omega)
          clear hgo
          go_wp2_with fail
          refine (HS1.out _ (HX.out.below (below_then HB0.out hb.out))).mono ?_
          rintro e w3 ⟨rfl, hb3⟩
          have HB3 := hide (below_then hb.out hb3)
          have HRO3 := hide (HRO.out.below hb3)
          clear hb3 s0 s1 s2 s3 s4 s5 s6 s7 s8 s9 s10 s11
          obtain ⟨s0, s1, s2, s3, s4, s5, s6, s7, s8, s9, s10, s11⟩ := HU.out _ HB3.out
          go_wp2_with fail
          refine (HFS.out _ _ _ HRO3.out).mono ?_
          rintro e w4 ⟨rfl, hb4⟩
          go_wp2_with fail
          refine (knows25_any _).mono ?_
          rintro e w5 ⟨rfl, hb5⟩
          go_wp2_with fail
          go_ret
          exact ⟨rfl, below_then HB0.out (below_then (below_then HB3.out hb4) hb5)⟩
      · have d1 : decide ((k : Int) < N) = false := decide_eq_false (by omega)
        clear hgo
        go_wp2_with fail
        refine (HS1.out _ (HX.out.below (below_then HB0.out hb.out))).mono ?_
        rintro e w3 ⟨rfl, hb3⟩
        have HB3 := hide (below_then hb.out hb3)
        have HRO3 := hide (HRO.out.below hb3)
        clear hb3 s0 s1 s2 s3 s4 s5 s6 s7 s8 s9 s10 s11
        obtain ⟨s0, s1, s2, s3, s4, s5, s6, s7, s8, s9, s10, s11⟩ := HU.out _ HB3.out
        go_wp2_with fail
        refine (HFS.out _ _ _ HRO3.out).mono ?_
        rintro e w4 ⟨rfl, hb4⟩
        go_wp2_with fail
        refine (knows25_any _).mono ?_
        rintro e w5 ⟨rfl, hb5⟩
        go_wp2_with fail
        go_ret
        exact ⟨rfl, below_then HB0.out (below_then (below_then HB3.out hb4) hb5)⟩
set_option maxRecDepth 100000 in
set_option maxHeartbeats 4000000 in
theorem law_mwindows_bad (K R : Int) (a b c : Nat) (D : Int) (T S m : Nat) (l q z : Int) (hA : a ≤ 4294967295) (hB : b ≤ 4294967295) (hC : c ≤ 4294967295) (hT : T ≤ 18446744073709551615) (hS : S ≤ 18446744073709551615) (hM : m ≤ 18446744073709551615) (hE : modE K R a b c D T S m l q z ≠ 0) (L : Int) (ad : Option Addr) (cap : Nat) (xs : List Nat) (hl : xs.length ≤ 140737488351232) (h8 : ∀ i, xs.getD i 0 ≤ 255) (w : World) (hx : RowA w ad xs) :
    Calls Try.prog 6 #[.agg #[.int .i64 K, .int .i64 R, .int .u32 a, .int .u32 b, .int .u32 c, .int .i64 D, .int .u64 T, .int .u64 S, .int .u64 m, .int .i64 l, .int .i64 q, .int .i64 z], .int .i64 L, .slice ad xs.length cap] w fun e w' => e = .returned (.bool true) ∧ Below w.heap.size w w' := by
  have HS1 := hide fun w hx => lwindow_any K R a b c D T S m l q z hA hB hC hT hS hM L ad cap xs hl h8 w hx
  have HS2 := hide fun ad cap ys hl h8 w hx => lwindow_any K R a b c D T S m l q z hA hB hC hT hS hM L ad cap ys hl h8 w hx
  have HBD := hide (rbody_any K R a b c D T S m l q z hA hB hC hT hS)
  unfold bodyN at HBD
  rw [if_neg hE] at HBD
  have nz := nzBne hE
  generalize modE K R a b c D T S m l q z = ef at *
  clear hE
  obtain ⟨N, hN, hN2⟩ : ∃ N : Nat, N = 0 ∧ N ≤ 3165 := ⟨0, rfl, by omega⟩
  have HX := hide hx
  have H8 := hide h8
  clear hx h8
  go_enter Try.func6, Try.ntmps6
  go_wp2_with fail
  have hM0 := ModB.new (K := K) (R := R) (a := a) (b := b) (c := c) (D := D) (T := T) (S := S) (m := m) (l := l) (q := q) (z := z) w
  have hb0 : Below w.heap.size w (w.alloc (.cells #[.int .i64 K, .int .i64 R, .int .u32 a, .int .u32 b, .int .u32 c, .int .i64 D, .int .u64 T, .int .u64 S, .int .u64 m, .int .i64 l, .int .i64 q, .int .i64 z] 32)) := (Below.refl _ _).alloc (Nat.le_refl _) _
  generalize w.alloc (.cells #[.int .i64 K, .int .i64 R, .int .u32 a, .int .u32 b, .int .u32 c, .int .i64 D, .int .u64 T, .int .u64 S, .int .u64 m, .int .i64 l, .int .i64 q, .int .i64 z] 32) = W0 at *
  have HU := hide fun (u : World) (hb : Below W0.heap.size W0 u) => (hM0.keep hb hM0.lt).cells
  have HB0 := hide hb0
  clear hM0 hb0
  refine (HBD.out _).mono ?_
  rintro e w1 ⟨rfl, hb1⟩
  have HB1 := hide hb1
  clear hb1
  have HN := hide hN
  clear hN
  go_wp2_with (first
    | (at_make; refine wpList_makeB rfl _ _ rfl w1.heap.size _ _ N rfl rfl ?c1 ?c2 ?c3 ?c4 ?_)
    | go_in)
  case c1 => first | rfl | (rw [HN.out]; rfl)
  case c2 => first | rfl | (rw [HN.out]; rfl)
  case c3 => omega
  case c4 => exact Nat.le_refl _
  intro w2 hown2 hgrow2 hz2
  obtain ⟨M, hMm⟩ : ∃ M : Nat, (2 ≤ L → min L 256 = (M : Int) ∧ 2 ≤ M ∧ M ≤ 256) ∧ (L < 2 → M = 1) := by
    by_cases h2 : 2 ≤ L
    · exact ⟨(min L 256).toNat, fun _ => by omega, fun h => by omega⟩
    · exact ⟨1, fun h => by omega, fun _ => rfl⟩
  obtain ⟨hMa, hMb⟩ := hMm
  have hM1 : 0 < M ∧ M ≤ 256 := by
    by_cases h2 : 2 ≤ L
    · have := hMa h2; omega
    · have := hMb (by omega); omega
  have HMa := hide hMa
  have HMb := hide hMb
  have HO2 := hide (show OwnB w2 w1.heap.size (.slice (some ⟨w1.heap.size, 0, none⟩) N N) (fillK (fun i => xs.getD i 0 % M) N 0) by rw [fillK_zero]; exact hown2)
  have HB2 := hide (HB1.out.grown hgrow2 HB1.out.size (fun k e => by cases e))
  clear hown2 hgrow2 hMa hMb
  go_wp2_with fail
  go_loopw [10] (fun i u => ∃ k : Nat, k ≤ N ∧ i = .int .i64 k ∧ Hid (OwnB u w1.heap.size (.slice (some ⟨w1.heap.size, 0, none⟩) N N) (fillK (fun i => xs.getD i 0 % M) N k)) ∧ Hid (Below W0.heap.size W0 u)) (fun i _ => N - (intOf i).toNat)
  case atStart => exact ⟨0, by omega, rfl, HO2, HB2⟩
  case round =>
    rename World => wr
    obtain ⟨k, hk, rfl, ho, hb⟩ := hrel
    clear HO2 HB2
    by_cases hgo : k < N ∧ k < xs.length ∧ 2 ≤ L
    · exact absurd hgo.1 (by have := HN.out; omega)
    · have HFU := hide (show fillK (fun i => xs.getD i 0 % M) N k = fitL N M xs from fillK_rest (f := fun i => xs.getD i 0 % M) hk (fun i h1 h2 => by
        by_cases h3 : 2 ≤ L
        · have : xs.length ≤ i := by
            rcases Nat.lt_or_ge k xs.length with h4 | h4
            · exact absurd ⟨by omega, h4, h3⟩ hgo
            · omega
          simp only [getD_far' this, Nat.zero_mod]
        · rw [HMb.out (by omega), Nat.mod_one]))
      have hown := ho.out
      rw [HFU.out] at hown
      have hrow := hown.row
      obtain ⟨a9, c9, e9, hrow⟩ := hrow
      rw [fitL_length] at e9
      cases e9
      have HRO := hide hrow
      obtain ⟨s0, s1, s2, s3, s4, s5, s6, s7, s8, s9, s10, s11⟩ := HU.out _ hb.out
      have HFS := hide fun ad cap w hx => HS2.out ad cap (fitL N M xs) (by rw [fitL_length]; omega) (fitL_le N M hM1 xs) w hx
      rw [fitL_length] at HFS
      clear hown hrow
      obtain rfl : k = 0 := by have := HN.out; omega
      clear hgo
      go_wp2_with fail
      refine (HS1.out _ (HX.out.below (below_then HB0.out hb.out))).mono ?_
      rintro e w3 ⟨rfl, hb3⟩
      have HB3 := hide (below_then hb.out hb3)
      have HRO3 := hide (HRO.out.below hb3)
      clear hb3 s0 s1 s2 s3 s4 s5 s6 s7 s8 s9 s10 s11
      obtain ⟨s0, s1, s2, s3, s4, s5, s6, s7, s8, s9, s10, s11⟩ := HU.out _ HB3.out
      go_wp2_with fail
      refine (HFS.out _ _ _ HRO3.out).mono ?_
      rintro e w4 ⟨rfl, hb4⟩
      go_wp2_with fail
      refine (knows25_any _).mono ?_
      rintro e w5 ⟨rfl, hb5⟩
      go_wp2_with fail
      go_ret
      exact ⟨rfl, below_then HB0.out (below_then (below_then HB3.out hb4) hb5)⟩
theorem law_mwindows (K R : Int) (a b c : Nat) (D : Int) (T S m : Nat) (l q z : Int) (hA : a ≤ 4294967295) (hB : b ≤ 4294967295) (hC : c ≤ 4294967295) (hT : T ≤ 18446744073709551615) (hS : S ≤ 18446744073709551615) (hM : m ≤ 18446744073709551615) (L : Int) (ad : Option Addr) (cap : Nat) (xs : List Nat) (hl : xs.length ≤ 140737488351232) (h8 : ∀ i, xs.getD i 0 ≤ 255) (w : World) (hx : RowA w ad xs) :
    Calls Try.prog 6 #[.agg #[.int .i64 K, .int .i64 R, .int .u32 a, .int .u32 b, .int .u32 c, .int .i64 D, .int .u64 T, .int .u64 S, .int .u64 m, .int .i64 l, .int .i64 q, .int .i64 z], .int .i64 L, .slice ad xs.length cap] w fun e w' => e = .returned (.bool true) ∧ Below w.heap.size w w' := by
  by_cases h : modE K R a b c D T S m l q z = 0
  · exact law_mwindows_ok K R a b c D T S m l q z hA hB hC hT hS hM h L ad cap xs hl h8 w hx
  · exact law_mwindows_bad K R a b c D T S m l q z hA hB hC hT hS hM h L ad cap xs hl h8 w hx
end Go.Proofs.Ytlbfndibgojbiaa
