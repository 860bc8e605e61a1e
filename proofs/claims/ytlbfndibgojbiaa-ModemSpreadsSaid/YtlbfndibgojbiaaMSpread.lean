/- The law ModemSpreads, walked: it returns true. -/
import Derived.Test.YtlbfndibgojbiaaRows
import Derived.Test.YtlbfndibgojbiaaMLawChecks
import Derived.Test.YtlbfndibgojbiaaMSpreadM
import Derived.Test.YtlbfndibgojbiaaMLv15
import Derived.BigQuiet
import Derived.Deep.QuietTactic
namespace Go.Proofs.Ytlbfndibgojbiaa
open Go.RowKit
set_option linter.unusedVariables false

set_option maxRecDepth 100000 in
set_option maxHeartbeats 4000000 in
theorem spread_bad (K R : Int) (a b c : Nat) (D : Int) (T S m : Nat) (l q z : Int) (hA : a ≤ 4294967295) (hB : b ≤ 4294967295) (hC : c ≤ 4294967295) (hT : T ≤ 18446744073709551615) (hS : S ≤ 18446744073709551615) (hE : modE K R a b c D T S m l q z ≠ 0) (x y : Int) (w : World) :
    Calls Try.prog 8 #[.agg #[.int .i64 K, .int .i64 R, .int .u32 a, .int .u32 b, .int .u32 c, .int .i64 D, .int .u64 T, .int .u64 S, .int .u64 m, .int .i64 l, .int .i64 q, .int .i64 z], .int .i64 x, .int .i64 y] w fun e w' => e = .returned (.bool true) ∧ Below w.heap.size w w' := by
  have HBD := hide (mbody_any K R a b c D T S m l q z hA hB hC hT hS)
  have HC := hide (r25check_any K R a b c D T S m l q z hA hB hC hT hS)
  unfold bodyN at HBD
  rw [if_neg hE] at HBD
  have hne := nzBne hE
  generalize modE K R a b c D T S m l q z = ef at *
  clear hE
  go_enter Try.func8, Try.ntmps8
  go_wp2_with fail
  have hM0 := ModB.new (K := K) (R := R) (a := a) (b := b) (c := c) (D := D) (T := T) (S := S) (m := m) (l := l) (q := q) (z := z) w
  have hb0 : Below w.heap.size w (w.alloc (.cells #[.int .i64 K, .int .i64 R, .int .u32 a, .int .u32 b, .int .u32 c, .int .i64 D, .int .u64 T, .int .u64 S, .int .u64 m, .int .i64 l, .int .i64 q, .int .i64 z] 32)) := (Below.refl _ _).alloc (Nat.le_refl _) _
  generalize w.alloc (.cells #[.int .i64 K, .int .i64 R, .int .u32 a, .int .u32 b, .int .u32 c, .int .i64 D, .int .u64 T, .int .u64 S, .int .u64 m, .int .i64 l, .int .i64 q, .int .i64 z] 32) = W0 at *
  have HU := hide fun (u : World) (hb : Below W0.heap.size W0 u) => (hM0.keep hb hM0.lt).cells
  have HB0 := hide hb0
  clear hM0 hb0
  refine (HBD.out _).mono ?_
  rintro e w1 ⟨rfl, hb1⟩
  have HD1 := hide hb1
  obtain ⟨s0, s1, s2, s3, s4, s5, s6, s7, s8, s9, s10, s11⟩ := HU.out _ hb1
  clear hb1
  go_wp2_with fail
  refine (HC.out _).mono ?_
  rintro e w2 ⟨rfl, hb2⟩
  have HD2 := hide (below_then HD1.out hb2)
  clear hb2 s0 s1 s2 s3 s4 s5 s6 s7 s8 s9 s10 s11
  obtain ⟨s0, s1, s2, s3, s4, s5, s6, s7, s8, s9, s10, s11⟩ := HU.out _ HD2.out
  go_wp2_with fail
  refine (HC.out _).mono ?_
  rintro e w3 ⟨rfl, hb3⟩
  go_wp2_with fail
  refine (knows25_any _).mono ?_
  rintro e w4 ⟨rfl, hb4⟩
  go_wp2_with fail
  go_ret
  exact ⟨rfl, below_then HB0.out (below_then (below_then HD2.out hb3) hb4)⟩
/-- a number brought below n -/
theorem mod_in (x : Int) (n : Nat) (hn : 0 < n) (hle : n ≤ 100000) : ∃ (t : Int) (I : Nat), x.tmod n = t ∧ -n < t ∧ t < n ∧ (t + n) % n = I ∧ (t + n).tmod n = I ∧ I < n := by
  have h1 := Int.tmod_lt_of_pos x (show (0 : Int) < n by omega)
  have h2 : -(n : Int) < x.tmod n := by
    rcases Int.le_total 0 x with h | h
    · rw [Int.tmod_eq_emod_of_nonneg h]; have := Int.emod_nonneg x (show (n : Int) ≠ 0 by omega); omega
    · have e : (-x).tmod n = -(x.tmod n) := Int.neg_tmod x n
      rw [Int.tmod_eq_emod_of_nonneg (by omega)] at e
      have := Int.emod_lt_of_pos (-x) (show (0 : Int) < n by omega)
      omega
  have h3 := Int.emod_nonneg (x.tmod n + n) (show (n : Int) ≠ 0 by omega)
  have h4 := Int.emod_lt_of_pos (x.tmod n + n) (show (0 : Int) < n by omega)
  refine ⟨x.tmod n, ((x.tmod n + n) % n).toNat, rfl, h2, h1, by omega, ?_, by omega⟩
  rw [Int.tmod_eq_emod_of_nonneg (by omega)]
  omega
/-- the place that has been seen so far -/
def seenP (P k : Nat) : Int := if P < k then P else -1
theorem seenP_zero (P : Nat) : seenP P 0 = -1 := by simp [seenP]
theorem seenP_at (P : Nat) : seenP P P = -1 := by simp [seenP]
theorem seenP_hit (P : Nat) : seenP P (P + 1) = P := by simp [seenP]
theorem seenP_miss {P k : Nat} (h : k ≠ P) : seenP P (k + 1) = seenP P k := by
  unfold seenP
  by_cases h1 : P < k
  · rw [if_pos h1, if_pos (by omega)]
  · rw [if_neg h1, if_neg (by omega)]
theorem seenP_all {P n : Nat} (h : P < n) : seenP P n = P := if_pos h
set_option maxRecDepth 100000 in
set_option maxHeartbeats 8000000 in
theorem spread_good (n r a b c d T S m l q z : Nat) (hg : GMod n r a b c d T S m l q z) (x y : Int) (w : World) :
    Calls Try.prog 8 #[.agg #[.int .i64 (n + 1), .int .i64 r, .int .u32 a, .int .u32 b, .int .u32 c, .int .i64 d, .int .u64 T, .int .u64 S, .int .u64 m, .int .i64 l, .int .i64 q, .int .i64 z], .int .i64 x, .int .i64 y] w fun e w' => e = .returned (.bool true) ∧ Below w.heap.size w w' := by
  have HBD := hide (mbody_any (n + 1) r a b c d T S m l q z hg.hA hg.hB hg.hC hg.regs.1 hg.regs.2)
  unfold bodyN at HBD
  rw [hg.ok, if_pos rfl, hg.body] at HBD
  have HC := hide (r25check_any (n + 1) r a b c d T S m l q z hg.hA hg.hB hg.hC hg.regs.1 hg.regs.2)
  rw [hg.ok] at HC
  have hbd := hg.body_le
  have hN1 : 0 < (z + n) * r := Nat.mul_pos (by have := hg.hz; omega) (by rcases hg.hr with e | e <;> omega)
  have hq := hg.hq
  have HW := hide fun ad cap xs hl hb w hx => window_good n r a b c d T S m l q z hg 2 ⟨by omega, by omega⟩ ad cap xs hl (lev_two hb) w hx
  clear hg
  generalize (z + n) * r = N at *
  have hcc := colC_int N q (.inl hN1)
  obtain ⟨hc0, hcN⟩ := colC_pos hN1 hq.1
  have hff : (N : Int).tdiv (colC N q) = ((N / colC N q : Nat) : Int) := by rw [Int.tdiv_eq_ediv_of_nonneg (by omega)]; simp
  have hff2 : (N : Int) / (colC N q) = ((N / colC N q : Nat) : Int) := by simp
  have hf1 : 0 < N / colC N q := Nat.div_pos hcN hc0
  have hfN : N / colC N q ≤ N := Nat.div_le_self _ _
  obtain ⟨t1, I, ht1, ht1a, ht1b, hI, hI2, hIN⟩ := mod_in x N hN1 (by omega)
  obtain ⟨M, hM, hM1, hMa, hMb⟩ : ∃ M : Nat, min ((N : Int) - I) ((N / colC N q : Nat) : Int) = M ∧ 0 < M ∧ M ≤ N / colC N q ∧ I + M ≤ N := ⟨min (N - I) (N / colC N q), by omega, by omega, by omega, by omega⟩
  obtain ⟨t2, J0, ht2, ht2a, ht2b, hJ, hJ2, hJM⟩ := mod_in y M hM1 (by omega)
  obtain ⟨J, hJJ⟩ : ∃ J : Nat, I + J0 = J := ⟨_, rfl⟩
  have hJi : (I : Int) + J0 = J := by omega
  have hJN : J < N := by omega
  have hfar := fun h => ord_far hc0 hcN (I := I) (J := J) h hJN (by omega)
  have hPN := ord_lt hc0 hcN hIN
  have hQN := ord_lt hc0 hcN hJN
  have hwa := fun t ht => win_one d T S q N I hq.1 hIN (t := t) ht
  have hwb := fun t ht => win_one d T S q N J hq.1 hJN (t := t) ht
  have hPQ : I = J → ord N (colC N q) I = ord N (colC N q) J := fun e => by rw [e]
  generalize N / colC N q = f at *
  generalize colC N q = cc at *
  generalize ord N cc I = P at *
  generalize ord N cc J = Q at *
  have HFAR := hide hfar
  have HWA := hide hwa
  have HWB := hide hwb
  have HPQ := hide hPQ
  have HLZ := hide (winL_length d T S q 2 (List.replicate N 0))
  have HLI := hide (winL_length d T S q 2 (oneR N I))
  have HLJ := hide (winL_length d T S q 2 (oneR N J))
  rw [List.length_replicate] at HLZ
  rw [oneR_length] at HLI HLJ
  have HW0 := hide fun ad cap w hx => HW.out ad cap (List.replicate N 0) (by simp) (fun i => by rw [rep_at]; omega) w hx
  have HW1 := hide fun ad cap w hx => HW.out ad cap (oneR N I) (oneR_length N I) (oneR_le N I) w hx
  have HW2 := hide fun ad cap w hx => HW.out ad cap (oneR N J) (oneR_length N J) (oneR_le N J) w hx
  rw [List.length_replicate] at HW0
  rw [oneR_length] at HW1 HW2
  generalize winL d T S q 2 (List.replicate N 0) = lz at *
  generalize winL d T S q 2 (oneR N I) = li at *
  generalize winL d T S q 2 (oneR N J) = lj at *
  have hIJ : I ≤ J := by omega
  clear hfar hwa hwb hPQ HW hJJ
  obtain ⟨q1, q2⟩ := hq
  have n1 : (N : Int) ≠ 0 := by omega
  have n2 : (cc : Int) ≠ 0 := by omega
  have n3 : (M : Int) ≠ 0 := by omega
  have n4 : (q : Int) ≠ 0 := by omega
  have HIDE1 := hide hIN
  go_enter Try.func8, Try.ntmps8
  go_wp2_with fail
  have hM0 := ModB.new (K := n + 1) (R := r) (a := a) (b := b) (c := c) (D := d) (T := T) (S := S) (m := m) (l := l) (q := q) (z := z) w
  have hb0 : Below w.heap.size w (w.alloc (.cells #[.int .i64 (n + 1), .int .i64 r, .int .u32 a, .int .u32 b, .int .u32 c, .int .i64 d, .int .u64 T, .int .u64 S, .int .u64 m, .int .i64 l, .int .i64 q, .int .i64 z] 32)) := (Below.refl _ _).alloc (Nat.le_refl _) _
  generalize w.alloc (.cells #[.int .i64 (n + 1), .int .i64 r, .int .u32 a, .int .u32 b, .int .u32 c, .int .i64 d, .int .u64 T, .int .u64 S, .int .u64 m, .int .i64 l, .int .i64 q, .int .i64 z] 32) = W0 at *
  have HU := hide fun (u : World) (hb : Below W0.heap.size W0 u) => (hM0.keep hb hM0.lt).cells
  have HB0 := hide hb0
  clear hM0 hb0
  refine (HBD.out _).mono ?_
  rintro e w1 ⟨rfl, hb1⟩
  have HD1 := hide hb1
  obtain ⟨s0, s1, s2, s3, s4, s5, s6, s7, s8, s9, s10, s11⟩ := HU.out _ hb1
  clear hb1
  go_wp2_with fail
  refine (HC.out _).mono ?_
  rintro e w2 ⟨rfl, hb2⟩
  have HD2 := hide (below_then HD1.out hb2)
  clear hb2 s0 s1 s2 s3 s4 s5 s6 s7 s8 s9 s10 s11
  have g1 : ¬ (N : Int) < 1 := by omega
  go_wp2_with fail
  refine (num25_any _ _).mono ?_
  rintro e w' ⟨rfl, rfl⟩
  go_wp2_with fail
  refine (knows25_any _).mono ?_
  rintro e w3 ⟨rfl, hb3⟩
  have HD3 := hide (below_then HD2.out hb3)
  clear hb3
  obtain ⟨s0, s1, s2, s3, s4, s5, s6, s7, s8, s9, s10, s11⟩ := HU.out _ HD3.out
  go_wp2_with (first
    | (at_make; refine wpList_makeB rfl _ _ rfl w3.heap.size _ _ N rfl rfl ?c1 ?c2 ?c3 ?c4 ?_)
    | go_in)
  case c1 => rfl
  case c2 => rfl
  case c3 => omega
  case c4 => exact Nat.le_refl _
  intro w4 hown4 hgrow4 hz4
  have HO4 := hide hown4
  have HB4 := hide (HD3.out.grown hgrow4 HD3.out.size (fun k e => by cases e))
  clear hown4 hgrow4 s0 s1 s2 s3 s4 s5 s6 s7 s8 s9 s10 s11
  go_wp2_with (first
    | (at_make; refine wpList_makeB rfl _ _ rfl w4.heap.size _ _ N rfl rfl ?d1 ?d2 ?d3 ?d4 ?_)
    | go_in)
  case d1 => rfl
  case d2 => rfl
  case d3 => omega
  case d4 => exact Nat.le_refl _
  intro w5 hown5 hgrow5 hz5
  have i1 : (0 : Int) ≤ I := by omega
  have i2 : (I : Int) < N := by omega
  have f5 := hown5.frz (by simp) I
  have c5 := hown5.cell (by simp) hIN
  have hset5 := (hown5.set (by simp) I 1).1
  have HO5 := hide (show OwnB (w5.setCell ⟨w4.heap.size, I, none⟩ (.int .u8 1)) w4.heap.size (.slice (some ⟨w4.heap.size, 0, none⟩) N N) (oneR N I) from hset5)
  have HB5 := hide ((HB4.out.grown hgrow5 HB4.out.size (fun k e => by cases e)).setCell (p := ⟨w4.heap.size, I, none⟩) HB4.out.size (.int .u8 1))
  have HO45 := hide (OwnB.far (HO4.out.grown hgrow5 (fun g e h => by cases h)) (p := ⟨w4.heap.size, I, none⟩) (fun g e => by cases e; simp; omega) (.int .u8 1))
  clear hown5 hgrow5 hset5
  go_wp2_with (first
    | (at_make; refine wpList_makeB rfl _ _ rfl w5.heap.size _ _ N rfl rfl ?e1 ?e2 ?e3 ?e4 ?_)
    | go_in)
  case e1 => rfl
  case e2 => rfl
  case e3 => omega
  case e4 => simp
  generalize w5.setCell ⟨w4.heap.size, I, none⟩ (.int .u8 1) = u5 at *
  intro w6 hown6 hgrow6 hz6
  have j1 : (0 : Int) ≤ J := by omega
  have j2 : (J : Int) < N := by omega
  have f6 := hown6.frz (by simp) J
  have c6 := hown6.cell (by simp) hJN
  have hset6 := (hown6.set (by simp) J 1).1
  have HO6 := hide (show OwnB (w6.setCell ⟨w5.heap.size, J, none⟩ (.int .u8 1)) w5.heap.size (.slice (some ⟨w5.heap.size, 0, none⟩) N N) (oneR N J) from hset6)
  have HB6 := hide ((HB5.out.grown hgrow6 HB5.out.size (fun k e => by cases e)).setCell (p := ⟨w5.heap.size, J, none⟩) (show W0.heap.size ≤ w5.heap.size by have := HB4.out.size; omega) (.int .u8 1))
  have HO46 := hide (OwnB.far (HO45.out.grown hgrow6 (fun g e h => by cases h)) (p := ⟨w5.heap.size, J, none⟩) (fun g e => by cases e; simp; omega) (.int .u8 1))
  have HO56 := hide (OwnB.far (HO5.out.grown hgrow6 (fun g e h => by cases h)) (p := ⟨w5.heap.size, J, none⟩) (fun g e => by cases e; simp; omega) (.int .u8 1))
  clear hown6 hgrow6 hset6
  obtain ⟨s0, s1, s2, s3, s4, s5, s6, s7, s8, s9, s10, s11⟩ := HU.out _ HB6.out
  obtain ⟨a0, k0, e0, HRZ, _⟩ := HO46.out.rowN (n := N) (by simp)
  cases e0
  obtain ⟨a1, k1, e1, HRI, _⟩ := HO56.out.rowN (n := N) (oneR_length N I)
  cases e1
  obtain ⟨a2, k2, e2, HRJ, _⟩ := HO6.out.rowN (n := N) (oneR_length N J)
  cases e2
  have HRZ := hide HRZ
  have HRI := hide HRI
  have HRJ := hide HRJ
  go_wp2_with fail
  generalize w6.setCell ⟨w5.heap.size, J, none⟩ (.int .u8 1) = u6 at *
  refine (HW0.out _ _ _ HRZ.out).mono ?_
  rintro e w7 ⟨v7, rfl, ho7, hb7⟩
  obtain ⟨a7, k7, rfl, r7, _⟩ := ho7.rowN HLZ.out
  have HD7 := hide (below_then HB6.out hb7)
  have HRI7 := hide (HRI.out.below hb7)
  have HRJ7 := hide (HRJ.out.below hb7)
  have HR7 := hide r7
  clear ho7 r7 hb7 s0 s1 s2 s3 s4 s5 s6 s7 s8 s9 s10 s11
  obtain ⟨s0, s1, s2, s3, s4, s5, s6, s7, s8, s9, s10, s11⟩ := HU.out _ HD7.out
  go_wp2_with fail
  refine (HW1.out _ _ _ HRI7.out).mono ?_
  rintro e w8 ⟨v8, rfl, ho8, hb8⟩
  obtain ⟨a8, k8, rfl, r8, _⟩ := ho8.rowN HLI.out
  have HD8 := hide (below_then HD7.out hb8)
  have HRJ8 := hide (HRJ7.out.below hb8)
  have HR78 := hide (HR7.out.below hb8)
  have HR8 := hide r8
  clear ho8 r8 hb8 s0 s1 s2 s3 s4 s5 s6 s7 s8 s9 s10 s11
  obtain ⟨s0, s1, s2, s3, s4, s5, s6, s7, s8, s9, s10, s11⟩ := HU.out _ HD8.out
  go_wp2_with fail
  refine (HW2.out _ _ _ HRJ8.out).mono ?_
  rintro e w9 ⟨v9, rfl, ho9, hb9⟩
  obtain ⟨a9, k9, rfl, r9, _⟩ := ho9.rowN HLJ.out
  have HD9 := hide (below_then HB0.out (below_then HD8.out hb9))
  have HR79 := hide (HR78.out.below hb9)
  have HR89 := hide (HR8.out.below hb9)
  have HR9 := hide r9
  clear ho9 r9 hb9 s0 s1 s2 s3 s4 s5 s6 s7 s8 s9 s10 s11 f5 c5 f6 c6 HO4 HO45 HO46 HO5 HO56 HO6 HRZ HRI HRJ HRI7 HRJ7 HRJ8 HB4 HB5 HB6 HD1 HD2 HD3 HD7 HD8 HW0 HW1 HW2
  go_wp2_with fail
  refine (num25_any _ _).mono ?_
  rintro e w' ⟨rfl, rfl⟩
  go_wp2_with fail
  refine (num25_any _ _).mono ?_
  rintro e w' ⟨rfl, rfl⟩
  go_wp2_with fail
  refine (num25_any _ _).mono ?_
  rintro e w' ⟨rfl, rfl⟩
  go_wp2_with fail
  go_loopw [20, 21, 22] (fun p q i u => ∃ k : Nat, k ≤ N ∧ i = .int .i64 k ∧ p = .int .i64 (seenP P k) ∧ q = .int .i64 (seenP Q k) ∧ Hid (∃ n, u = w9.drewN n)) (fun _ _ i _ => N - (intOf i).toNat)
  case atStart => exact ⟨0, Nat.zero_le _, rfl, by rw [seenP_zero], by rw [seenP_zero], hide ⟨0, rfl⟩⟩
  case round =>
    rename World => wr
    obtain ⟨k, hk, rfl, rfl, rfl, hdr⟩ := hrel
    obtain ⟨nd, hdr⟩ := hdr.out
    by_cases hlt : k < N
    · obtain ⟨b7, o7, rfl, _, e7⟩ := HR79.out.at_ (i := k) (by rw [HLZ.out]; exact hlt)
      obtain ⟨b8, o8, rfl, _, e8⟩ := HR89.out.at_ (i := k) (by rw [HLI.out]; exact hlt)
      obtain ⟨b9, o9, rfl, _, e9⟩ := HR9.out.at_ (i := k) (by rw [HLJ.out]; exact hlt)
      have hA := HWA.out k hlt
      have hB := HWB.out k hlt
      have HDR := hide hdr
      have j1 : (0 : Int) ≤ k := by omega
      have j2 : (k : Int) < N := by omega
      have HNX := hide fun (a : Nat) => (show ∃ n, wr.drewN a = w9.drewN n from ⟨nd + a, by rw [hdr, World.drewN_drewN]⟩)
      have hcA : ∀ o, wr.cell? o = w9.cell? o := fun o => by rw [hdr]; rfl
      rw [← hcA] at e7 e8 e9
      clear hcA hdr
      generalize lz.getD k 0 = yz at *
      generalize li.getD k 0 = yi at *
      generalize lj.getD k 0 = yj at *
      by_cases hP : k = P
      · have dA : ((yi : Int) != yz) = true := bne_iff_ne.2 (by have := hA.2 hP; omega)
        have HSP := hide (show seenP P (k + 1) = (k : Int) from by rw [hP]; exact seenP_hit P)
        have hsp : seenP P k = -1 := by rw [hP]; exact seenP_at P
        rw [hsp]
        by_cases hQ : k = Q
        · have dB : ((yj : Int) != yz) = true := bne_iff_ne.2 (by have := hB.2 hQ; omega)
          have HSQ := hide (show seenP Q (k + 1) = (k : Int) from by rw [hQ]; exact seenP_hit Q)
          have hsq : seenP Q k = -1 := by rw [hQ]; exact seenP_at Q
          rw [hsq]
          clear hA hB hP hQ hsp hsq
          go_wp2_with fail
          go_quiet (fail)
          go_wp2_with fail
          go_quiet (fail)
          go_wp2_with fail
          go_roundw
          case rel => exact ⟨k + 1, by omega, by simp, by rw [HSP.out], by rw [HSQ.out], hide (HNX.out _)⟩
          case measure => simp [intOf]; omega
        · have dB : ((yj : Int) != yz) = false := by rw [show yj = yz from Classical.byContradiction fun h => hQ (hB.1 h)]; simp
          have HSQ := hide (show seenP Q (k + 1) = seenP Q k from seenP_miss hQ)
          generalize seenP Q k = sq at *
          clear hA hB hP hQ hsp
          go_wp2_with fail
          go_quiet (fail)
          go_wp2_with fail
          go_quiet (fail)
          go_wp2_with fail
          go_roundw
          case rel => exact ⟨k + 1, by omega, by simp, by rw [HSP.out], by rw [HSQ.out], hide (HNX.out _)⟩
          case measure => simp [intOf]; omega
      · have dA : ((yi : Int) != yz) = false := by rw [show yi = yz from Classical.byContradiction fun h => hP (hA.1 h)]; simp
        have HSP := hide (show seenP P (k + 1) = seenP P k from seenP_miss hP)
        generalize seenP P k = sp at *
        by_cases hQ : k = Q
        · have dB : ((yj : Int) != yz) = true := bne_iff_ne.2 (by have := hB.2 hQ; omega)
          have HSQ := hide (show seenP Q (k + 1) = (k : Int) from by rw [hQ]; exact seenP_hit Q)
          have hsq : seenP Q k = -1 := by rw [hQ]; exact seenP_at Q
          rw [hsq]
          clear hA hB hP hQ hsq
          go_wp2_with fail
          go_quiet (fail)
          go_wp2_with fail
          go_quiet (fail)
          go_wp2_with fail
          go_roundw
          case rel => exact ⟨k + 1, by omega, by simp, by rw [HSP.out], by rw [HSQ.out], hide (HNX.out _)⟩
          case measure => simp [intOf]; omega
        · have dB : ((yj : Int) != yz) = false := by rw [show yj = yz from Classical.byContradiction fun h => hQ (hB.1 h)]; simp
          have HSQ := hide (show seenP Q (k + 1) = seenP Q k from seenP_miss hQ)
          generalize seenP Q k = sq at *
          clear hA hB hP hQ
          go_wp2_with fail
          go_quiet (fail)
          go_wp2_with fail
          go_quiet (fail)
          go_wp2_with fail
          go_roundw
          case rel => exact ⟨k + 1, by omega, by simp, by rw [HSP.out], by rw [HSQ.out], hide (HNX.out _)⟩
          case measure => simp [intOf]; omega
    · obtain rfl : k = N := by omega
      rw [seenP_all hPN, seenP_all hQN]
      have HDR := hide hdr
      clear hdr
      by_cases hIJe : I = J
      · have hpq := HPQ.out hIJe
        have HIE := hide hIJe
        have dI : ((I : Int) == (J : Int)) = true := by rw [hIJe]; simp
        have dP : ((P : Int) == (Q : Int)) = true := by rw [hpq]; simp
        have dp0 : decide ((0 : Int) ≤ (P : Int)) = true := decide_eq_true (by omega)
        have dq0 : decide ((0 : Int) ≤ (Q : Int)) = true := decide_eq_true (by omega)
        clear hpq hIJe
        go_wp2_with fail
        go_ret
        exact ⟨rfl, by rw [HDR.out]; exact below_drewN HD9.out _⟩
      · obtain ⟨hne, hfar⟩ := HFAR.out (by omega)
        have dI : ((I : Int) == (J : Int)) = false := by rw [beq_eq_false_iff_ne]; omega
        have dI2 : ((I : Int) != (J : Int)) = true := bne_iff_ne.2 (by omega)
        have dP2 : ((P : Int) != (Q : Int)) = true := bne_iff_ne.2 (by omega)
        have dp0 : decide ((0 : Int) ≤ (P : Int)) = true := decide_eq_true (by omega)
        have dq0 : decide ((0 : Int) ≤ (Q : Int)) = true := decide_eq_true (by omega)
        have hmax : (cc : Int) - 1 ≤ max ((P : Int) - Q) ((Q : Int) - P) := by omega
        have dm : decide ((cc : Int) - 1 ≤ max ((P : Int) - Q) ((Q : Int) - P)) = true := decide_eq_true hmax
        clear hmax
        go_wp2_with fail
        go_ret
        exact ⟨rfl, by rw [HDR.out]; exact below_drewN HD9.out _⟩
theorem law_mspread (K R : Int) (a b c : Nat) (D : Int) (T S m : Nat) (l q z : Int) (hA : a ≤ 4294967295) (hB : b ≤ 4294967295) (hC : c ≤ 4294967295) (hT : T ≤ 18446744073709551615) (hS : S ≤ 18446744073709551615) (hM : m ≤ 18446744073709551615) (x y : Int) (w : World) :
    Calls Try.prog 8 #[.agg #[.int .i64 K, .int .i64 R, .int .u32 a, .int .u32 b, .int .u32 c, .int .i64 D, .int .u64 T, .int .u64 S, .int .u64 m, .int .i64 l, .int .i64 q, .int .i64 z], .int .i64 x, .int .i64 y] w fun e w' => e = .returned (.bool true) ∧ Below w.heap.size w w' := by
  by_cases h : modE K R a b c D T S m l q z = 0
  · obtain ⟨n, r, d, l', q', z', rfl, rfl, rfl, rfl, rfl, rfl, hg⟩ := modE_gmod K R a b c D T S m l q z hA hB hC hT hS hM h
    exact spread_good n r a b c d T S m l' q' z' hg x y w
  · exact spread_bad K R a b c D T S m l q z hA hB hC hT hS h x y w
end Go.Proofs.Ytlbfndibgojbiaa
