/- The law TrellisLinear, walked: it returns true. -/
import Derived.Test.YtpmnbdkncmjafaaRows
import Derived.Test.YtpmnbdkncmjafaaTKnows
import Derived.Test.YtpmnbdkncmjafaaWalkAny
import Derived.Test.YtpmnbdkncmjafaaLRow
import Derived.Test.YtpmnbdkncmjafaaLin
import Derived.Test.YtpmnbdkncmjafaaLtReturns
import Derived.BigQuiet
import Derived.Deep.QuietTactic
import Derived.Deep.DeepCutAuto
namespace Go.Proofs.Ytpmnbdkncmjafaa
open Go.RowKit

theorem low_le (xs : List Nat) (n i : Nat) : ((xs.take n).map (· % 2)).getD i 0 ≤ 1 := getD_le (fun y h => by obtain ⟨a, _, rfl⟩ := List.mem_map.1 h; omega) i
theorem low_length {xs : List Nat} {n : Nat} (h : n ≤ xs.length) : ((xs.take n).map (· % 2)).length = n := by simp; omega
theorem getD_far {l : List Nat} {i : Nat} (h : l.length ≤ i) : l.getD i 0 = 0 := by simp [List.getD, h]
/-- what the three walks come to -/
theorem linear_facts {R : Int} {j a b c s t n : Nat} {xs ys : List Nat} (hR : R = 2 ∨ R = 3) (hck : checkF (j + 2) R a b c = 0) (hs : s < 2 ^ (j + 1)) (ht : t < 2 ^ (j + 1)) (hxl : xs.length = n) (hyl : ys.length = n) (hn : n ≤ 1055) (hx : ∀ i, xs.getD i 0 ≤ 1) (hy : ∀ i, ys.getD i 0 ≤ 1) :
    ∃ (S T : Nat) (P Q : List Nat),
      (walkE (j + 2) R a b c s xs = 0 ∧ walkS (j + 2) R a b c s xs = S ∧ walkO (j + 2) R a b c s xs = P) ∧
      (walkE (j + 2) R a b c t ys = 0 ∧ walkS (j + 2) R a b c t ys = T ∧ walkO (j + 2) R a b c t ys = Q) ∧
      (walkE (j + 2) R a b c (s ^^^ t) ((List.range n).map fun i => xs.getD i 0 ^^^ ys.getD i 0) = 0 ∧ walkS (j + 2) R a b c (s ^^^ t) ((List.range n).map fun i => xs.getD i 0 ^^^ ys.getD i 0) = S ^^^ T ∧ walkO (j + 2) R a b c (s ^^^ t) ((List.range n).map fun i => xs.getD i 0 ^^^ ys.getD i 0) = List.zipWith (· ^^^ ·) P Q) ∧
      (P.length : Int) = n * R ∧ Q.length = P.length ∧ (∀ i, P.getD i 0 ≤ 255) ∧ (∀ i, Q.getD i 0 ≤ 255) ∧ S < 2 ^ (j + 1) ∧ T < 2 ^ (j + 1) := by
  have hz : ∀ i, ((List.range n).map fun i => xs.getD i 0 ^^^ ys.getD i 0).getD i 0 = xs.getD i 0 ^^^ ys.getD i 0 := fun i => by
    rcases Nat.lt_or_ge i n with h | h
    · exact fill_at _ h
    · rw [fill_far _ h, getD_far (l := xs) (by omega), getD_far (l := ys) (by omega)]; rfl
  have hst : s ^^^ t < 2 ^ (j + 1) := Nat.xor_lt_two_pow hs ht
  have e1 := walkE_good (K := j + 2) (R := R) (a := a) (b := b) (c := c) (s := s) (xs := xs) (right_ok hck rfl hs (by omega)) (fun i _ => hx i) (by omega)
  have e2 := walkE_good (K := j + 2) (R := R) (a := a) (b := b) (c := c) (s := t) (xs := ys) (right_ok hck rfl ht (by omega)) (fun i _ => hy i) (by omega)
  have e3 := walkE_good (K := j + 2) (R := R) (a := a) (b := b) (c := c) (s := s ^^^ t) (xs := (List.range n).map fun i => xs.getD i 0 ^^^ ys.getD i 0) (right_ok hck rfl hst (by omega)) (fun i _ => by rw [hz]; exact xor_bit (hx i) (hy i)) (by simp; omega)
  have ej : (((j : Int) + 2) - 1).toNat = j + 1 := by omega
  refine ⟨_, _, _, _, ⟨e1, rfl, rfl⟩, ⟨e2, rfl, rfl⟩, ⟨e3, ?_, ?_⟩, ?_, ?_, ?_, ?_, ?_, ?_⟩
  · rw [(walk_some e1).1, (walk_some e2).1, (walk_some e3).1, List.length_map, List.length_range, hxl, hyl]
    exact stAt_xor hx hy hz n
  · rw [(walk_some e1).2, (walk_some e2).2, (walk_some e3).2, List.length_map, List.length_range, hxl, hyl]
    exact syms_xor R a b c hx hy hz n
  · rw [(walk_some e1).2, hxl]
    rcases hR with rfl | rfl
    · rw [syms_two]; omega
    · rw [syms_three]; omega
  · rw [(walk_some e1).2, (walk_some e2).2, hxl, hyl]
    exact syms_length R a b c _ _ _ _ _ _
  · rw [(walk_some e1).2]
    exact fun i => Nat.le_trans (getD_le (syms_le _ _ _ _ _ _ _ _) i) (by omega)
  · rw [(walk_some e2).2]
    exact fun i => Nat.le_trans (getD_le (syms_le _ _ _ _ _ _ _ _) i) (by omega)
  · rw [(walk_some e1).1, ej]; exact stAt_lt hs _
  · rw [(walk_some e2).1, ej]; exact stAt_lt ht _

set_option maxRecDepth 100000 in
set_option maxHeartbeats 2000000 in
theorem linear_good (R : Int) (j a b c s t : Nat) (hj : 1 ≤ j ∧ j ≤ 30) (hR : R = 2 ∨ R = 3) (hA : a ≤ 4294967295) (hB : b ≤ 4294967295) (hC : c ≤ 4294967295) (hs : s ≤ 4294967295) (ht : t ≤ 4294967295) (hck : checkF (j + 2) R a b c = 0)
    (ax ay : Option Addr) (cx cy : Nat) (xs ys : List Nat) (hx8 : ∀ i, i < xs.length → xs.getD i 0 ≤ 255) (hy8 : ∀ i, i < ys.length → ys.getD i 0 ≤ 255) (hxn : xs.length ≤ 140737488351232) (hyn : ys.length ≤ 140737488351232) (w : World) (hx : RowA w ax xs) (hy : RowA w ay ys) :
    Calls Try.prog 6 #[.agg #[.int .i64 (j + 2), .int .i64 R, .int .u32 a, .int .u32 b, .int .u32 c], .int .u32 s, .int .u32 t, .slice ax xs.length cx, .slice ay ys.length cy] w fun e w' => e = .returned (.bool true) ∧ Below w.heap.size w w' := by
  have HC := hide (check_any (j + 2) R a b c hA hB hC)
  rw [hck] at HC
  have hM1 : 2 ^ (j + 1) ≤ 2 ^ 31 := Nat.pow_le_pow_right (by omega) (by omega)
  have hM2 : 1 ≤ 2 ^ (j + 1) := Nat.one_le_two_pow
  have hsM : s % 2 ^ (j + 1) < 2 ^ (j + 1) := Nat.mod_lt _ hM2
  have htM : t % 2 ^ (j + 1) < 2 ^ (j + 1) := Nat.mod_lt _ hM2
  have wM : IntKind.u64.wrap ((2 : Int) ^ (j + 1)) = ((2 ^ (j + 1) : Nat) : Int) := by
    rw [show (2 : Int) ^ (j + 1) = ((2 ^ (j + 1) : Nat) : Int) by simp]
    exact IntWalk.u64_in _ (by omega)
  have hss : (s : Int) % ((2 ^ (j + 1) : Nat) : Int) % 4294967296 = ((s % 2 ^ (j + 1) : Nat) : Int) := by omega
  have htt : (t : Int) % ((2 ^ (j + 1) : Nat) : Int) % 4294967296 = ((t % 2 ^ (j + 1) : Nat) : Int) := by omega
  have hM3 : ¬ ((2 ^ (j + 1) : Nat) : Int) = 0 := by omega
  obtain ⟨n, hn⟩ : ∃ n, n = min (min xs.length ys.length) 1055 := ⟨_, rfl⟩
  have hnx : n ≤ xs.length := by omega
  have hny : n ≤ ys.length := by omega
  have hn1 : n ≤ 1055 := by omega
  have hmin : min (min (xs.length : Int) (ys.length : Int)) 1055 = (n : Int) := by omega
  have hmin2 : min (xs.length : Int) (min (ys.length : Int) 1055) = (n : Int) := by omega
  have HN := hide hn
  clear hn
  obtain ⟨S, T, P, Q, e1, e2, e3, hPl, hQl, hP8, hQ8, hS, hT⟩ := linear_facts hR hck hsM htM (low_length hnx) (low_length hny) hn1 (low_le xs n) (low_le ys n)
  have hs2 : s % 2 ^ (j + 1) ≤ 4294967295 := by omega
  have ht2 : t % 2 ^ (j + 1) ≤ 4294967295 := by omega
  have hst2 := Nat.xor_lt_two_pow hsM htM
  have hxst := xor32 hs2 ht2
  have hxST := xor32 (a := S) (b := T) (by omega) (by omega)
  have hST := Nat.xor_lt_two_pow hS hT
  have bST : (((S ^^^ T : Nat) : Int) != ((S ^^^ T : Nat) : Int)) = false := by simp
  have H1 := hide fun ad cap w hr => walk_any (j + 2) R a b c (s % 2 ^ (j + 1)) hA hB hC hs2 ad cap ((xs.take n).map (· % 2)) (by rw [low_length hnx]; omega) w hr
  have H2 := hide fun ad cap w hr => walk_any (j + 2) R a b c (t % 2 ^ (j + 1)) hA hB hC ht2 ad cap ((ys.take n).map (· % 2)) (by rw [low_length hny]; omega) w hr
  have H3 := hide fun ad cap w hr => walk_any (j + 2) R a b c (s % 2 ^ (j + 1) ^^^ t % 2 ^ (j + 1)) hA hB hC (by omega) ad cap ((List.range n).map fun i => ((xs.take n).map (· % 2)).getD i 0 ^^^ ((ys.take n).map (· % 2)).getD i 0) (by simp; omega) w hr
  rw [e1.1, e1.2.1, e1.2.2] at H1
  rw [e2.1, e2.2.1, e2.2.2] at H2
  rw [e3.1, e3.2.1, e3.2.2] at H3
  have HX := hide hx
  have HY := hide hy
  have HR1 := hide fun m hm w hr => lrow_any ax cx n m xs hm hnx hx8 hxn w hr
  have HR2 := hide fun m hm w hr => lrow_any ay cy n m ys hm hny hy8 hyn w hr
  have hul := low_length hnx
  have hvl := low_length hny
  have hu1 := low_le xs n
  have hv1 := low_le ys n
  generalize (xs.take n).map (· % 2) = us at *
  generalize (ys.take n).map (· % 2) = vs at *
  generalize hZ : List.zipWith (· ^^^ ·) P Q = Z at *
  have hZl : Z.length = P.length := by rw [← hZ]; simp; omega
  have HZ := hide fun i => (show Z.getD i 0 = P.getD i 0 ^^^ Q.getD i 0 by rw [← hZ]; exact zip_at hQl.symm)
  generalize s % 2 ^ (j + 1) = s1 at *
  generalize t % 2 ^ (j + 1) = t1 at *
  generalize s1 ^^^ t1 = st1 at *
  generalize S ^^^ T = ST at *
  generalize 2 ^ (j + 1) = M at *
  have HUL := hide hul
  have HVL := hide hvl
  have HU1 := hide hu1
  have HV1 := hide hv1
  have HP8 := hide hP8
  have HQ8 := hide hQ8
  have bPl : ((P.length : Int) != (n : Int) * R) = false := by rw [hPl]; simp
  have bQl : ((Q.length : Int) != (P.length : Int)) = false := by rw [hQl]; simp
  have bZl : ((Z.length : Int) != (P.length : Int)) = false := by rw [hZl]; simp
  have HQL := hide hQl
  have HZL := hide hZl
  have hPn : P.length ≤ 4000 := by rcases hR with rfl | rfl <;> omega
  have wnR : IntKind.i64.wrap ((n : Int) * R) = (n : Int) * R := IntWalk.i64_in _ (by rw [← hPl]; omega)
  clear hx hy e1 e2 e3 hul hvl hu1 hv1 hZ hP8 hQ8 hck hs2 ht2 hst2 hS hT hST hPl hQl hZl hx8 hy8 hR hsM htM hM1 hM2
  go_enter Try.func6, Try.ntmps6
  go_wp2_with fail
  refine (HC.out _).mono ?_
  rintro e w1 ⟨rfl, hb1⟩
  have hz1 := size_mid hb1
  have k1 := bk hb1 w.heap.size (by simp)
  go_wp2_with fail
  refine (num_any _ _).mono ?_
  rintro e w' ⟨rfl, rfl⟩
  go_wp2_with fail
  refine (knows_any _).mono ?_
  rintro e w2 ⟨rfl, hb2⟩
  have hz2 : w.heap.size < w2.heap.size := Nat.lt_of_lt_of_le hz1 hb2.size
  have k2 := bk hb2 w.heap.size hz1
  have hb02 := (below_one hb1).trans (hb2.mono (Nat.le_of_lt hz1))
  have HB02 := hide hb02
  clear hb02
  go_upto_region 6 with fail
  have hn : n = min (min xs.length ys.length) 1055 := HN.out
  go_cut [1, 2, 11, 12] (fun x1 x2 x11 v wx => x1 = .int .u32 s1 ∧ x2 = .int .u32 t1 ∧ x11 = .int .u64 M ∧ v = .int .i64 n ∧ wx = w2)
  case first =>
    clear hmin hmin2
    go_wp2_with fail
    all_goals
      go_meet
      case rel => exact ⟨rfl, rfl, rfl, by first | (congr 1; omega) | rfl, rfl⟩
  case rest =>
  obtain ⟨rfl, rfl, rfl, rfl, rfl⟩ := hcut
  clear hn hmin hmin2
  go_wp2_with fail
  refine (HR1.out _ rfl _ (HX.out.below HB02.out)).mono ?_
  rintro e w3 ⟨vu, rfl, hou, hb3⟩
  have hz3 : w.heap.size < w3.heap.size := Nat.lt_of_lt_of_le hz2 hb3.size
  have k3 := bk hb3 w.heap.size hz2
  have HB03 := hide (HB02.out.trans (hb3.mono (Nat.le_of_lt hz2)))
  have HOU := hide hou
  clear hou
  go_wp2_with fail
  refine (HR2.out _ rfl _ (HY.out.below HB03.out)).mono ?_
  rintro e w4 ⟨vv, rfl, hov, hb4⟩
  have hz4 : w.heap.size < w4.heap.size := Nat.lt_of_lt_of_le hz3 hb4.size
  have k4 := bk hb4 w.heap.size hz3
  have HB04 := hide (HB03.out.trans (hb4.mono (Nat.le_of_lt hz3)))
  obtain ⟨au, cu, rfl, ru, gu⟩ := (HOU.out.below hb4).rowf
  obtain ⟨av, cv, rfl, rv, gv⟩ := hov.rowf
  have RU := hide ru
  have RV := hide rv
  clear hov ru gu rv gv
  go_wp2_with (first
    | (at_make; refine wpList_makeB rfl _ _ rfl w4.heap.size _ _ n rfl rfl ?c1 ?c2 ?c3 ?c4 ?_)
    | go_in)
  case c1 => rfl
  case c2 => rfl
  case c3 => omega
  case c4 => exact Nat.le_refl _
  intro w5 hown5 hg5 hz45
  have hb5 : Below w4.heap.size w4 w5 := (Below.refl _ _).grown hg5 (Nat.le_refl _) (fun k e => by cases e)
  rw [← fillK_zero (fun i => us.getD i 0 ^^^ vs.getD i 0) n] at hown5
  have hz5 : w.heap.size < w5.heap.size := Nat.lt_of_lt_of_le hz4 hb5.size
  have HO5 := hide hown5
  have HB5 := hide hb5
  clear hown5 hg5
  go_wp2_with fail
  go_loopw [16] (fun i wr => ∃ k : Nat, k ≤ n ∧ i = .int .i64 k ∧ Hid (OwnB wr w4.heap.size (.slice (some ⟨w4.heap.size, 0, none⟩) n n) (fillK (fun i => us.getD i 0 ^^^ vs.getD i 0) n k)) ∧ Hid (Below w4.heap.size w4 wr)) (fun i _ => n - (intOf i).toNat)
  case atStart => exact ⟨0, by omega, rfl, HO5, HB5⟩
  case round =>
    rename_i wr _
    obtain ⟨k, hk, rfl, hown, hbl⟩ := hrel
    by_cases hlt : k < n
    · have hf := hown.out.frz (fillK_length (by omega)).symm k
      have hc0 := hown.out.cell (fillK_length (by omega)).symm hlt
      have hst := hown.out.set (fillK_length (by omega)).symm k (us.getD k 0 ^^^ vs.getD k 0)
      rw [fillK_set (f := fun i => us.getD i 0 ^^^ vs.getD i 0) hlt] at hst
      have hul := HUL.out
      have hvl := HVL.out
      have hu2 : (k : Int) < us.length := by omega
      have hv2 : (k : Int) < vs.length := by omega
      obtain ⟨bu, ou, rfl, hbu, hcu⟩ := (RU.out.below hbl.out).at_ (i := k) (by omega)
      obtain ⟨bv, ov, rfl, hbv, hcv⟩ := (RV.out.below hbl.out).at_ (i := k) (by omega)
      have h1 := xorU8 (a := us.getD k 0) (b := vs.getD k 0) (Nat.le_trans (HU1.out k) (by omega)) (Nat.le_trans (HV1.out k) (by omega))
      generalize us.getD k 0 ^^^ vs.getD k 0 = z at *
      generalize us.getD k 0 = y1 at *
      generalize vs.getD k 0 = y2 at *
      generalize (fillK (fun i => us.getD i 0 ^^^ vs.getD i 0) n k).getD k 0 = u at *
      have HS := hide hst
      clear hst hul hvl
      go_wp2_with fail
      go_region_with (fail)
      all_goals
        go_wp2_with fail
        go_roundw
        case rel => exact ⟨k + 1, by omega, by simp, HS.out.1, (hbl.out.setCell (by simp) _).drew⟩
        case measure => simp [intOf]; omega
    · obtain rfl : k = n := by omega
      rw [fillK_full] at hown
      have hz6 : w.heap.size < wr.heap.size := Nat.lt_of_lt_of_le hz4 hbl.out.size
      have k6 := bk hbl.out w.heap.size hz4
      have HB06 := hide (HB04.out.trans (hbl.out.mono (Nat.le_of_lt hz4)))
      obtain ⟨aw, cw, ew, rw_, _⟩ := hown.out.rowf
      simp only [Value.slice.injEq] at ew
      obtain ⟨rfl, ewn, rfl⟩ := ew
      clear ewn
      have RU6 := hide (RU.out.below hbl.out)
      have RV6 := hide (RV.out.below hbl.out)
      have RW6 := hide rw_
      clear rw_
      go_wp2_with fail
      refine (H1.out _ _ _ RU6.out).mono ?_
      rintro e w7 ⟨v7, rfl, ho7, hb7⟩
      obtain ⟨ap, cp, rfl, rp, _⟩ := ho7.rowf
      have hz7 : w.heap.size < w7.heap.size := Nat.lt_of_lt_of_le hz6 hb7.size
      have k7 := bk hb7 w.heap.size hz6
      have HB07 := hide (HB06.out.trans (hb7.mono (Nat.le_of_lt hz6)))
      have RP := hide rp
      have RV7 := hide (RV6.out.below hb7)
      have RW7 := hide (RW6.out.below hb7)
      clear ho7 rp
      go_wp2_with fail
      refine (H2.out _ _ _ RV7.out).mono ?_
      rintro e w8 ⟨v8, rfl, ho8, hb8⟩
      obtain ⟨aq, cq, rfl, rq, _⟩ := ho8.rowf
      have hz8 : w.heap.size < w8.heap.size := Nat.lt_of_lt_of_le hz7 hb8.size
      have k8 := bk hb8 w.heap.size hz7
      have HB08 := hide (HB07.out.trans (hb8.mono (Nat.le_of_lt hz7)))
      have RP8 := hide (RP.out.below hb8)
      have RW8 := hide (RW7.out.below hb8)
      have RQ := hide rq
      clear ho8 rq
      go_wp2_with fail
      rw [List.length_map, List.length_range] at H3
      refine (H3.out _ _ _ RW8.out).mono ?_
      rintro e w9 ⟨v9, rfl, ho9, hb9⟩
      obtain ⟨az, cz, rfl, rz, _⟩ := ho9.rowf
      have hz9 : w.heap.size < w9.heap.size := Nat.lt_of_lt_of_le hz8 hb9.size
      have k9 := bk hb9 w.heap.size hz8
      have HB09 := hide (HB08.out.trans (hb9.mono (Nat.le_of_lt hz8)))
      have RP9 := hide (RP8.out.below hb9)
      have RQ9 := hide (RQ.out.below hb9)
      have RZ := hide rz
      clear ho9 rz
      go_wp2_with fail
      refine (num_any _ _).mono ?_
      rintro e w' ⟨rfl, rfl⟩
      go_wp2_with fail
      refine (num_any _ _).mono ?_
      rintro e w' ⟨rfl, rfl⟩
      go_wp2_with fail
      refine (num_any _ _).mono ?_
      rintro e w' ⟨rfl, rfl⟩
      go_wp2_with fail
      go_loopw [26] (fun i wx => ∃ k m : Nat, k ≤ P.length ∧ i = .int .i64 k ∧ wx = w9.drewN m) (fun i _ => P.length - (intOf i).toNat)
      case atStart => exact ⟨0, 0, by omega, rfl, rfl⟩
      case round =>
        obtain ⟨i, m, hi, rfl, rfl⟩ := hrel
        by_cases hlt2 : i < P.length
        · have hql := HQL.out
          have hzl := HZL.out
          have hp3 : (i : Int) < P.length := by omega
          have hq3 : (i : Int) < Q.length := by omega
          have hz3 : (i : Int) < Z.length := by omega
          obtain ⟨bp, op, rfl, _, hcp⟩ := RP9.out.at_ (i := i) (by omega)
          obtain ⟨bq, oq, rfl, _, hcq⟩ := RQ9.out.at_ (i := i) (by omega)
          obtain ⟨bz, oz, rfl, _, hcz⟩ := RZ.out.at_ (i := i) (by omega)
          rw [HZ.out i] at hcz
          have h1 := xorU8 (HP8.out i) (HQ8.out i)
          generalize P.getD i 0 ^^^ Q.getD i 0 = z at *
          generalize P.getD i 0 = y1 at *
          generalize Q.getD i 0 = y2 at *
          clear hql hzl
          go_wp2_with fail
          go_quiet (fail)
          go_wp2_with fail
          go_roundw
          case rel => exact ⟨i + 1, _, by omega, by simp, rfl⟩
          case measure => simp [intOf]; omega
        · go_wp2_with fail
          go_ret
          exact ⟨rfl, below_drewN HB09.out _⟩

set_option maxHeartbeats 1000000 in
theorem linear_bad (K R : Int) (a b c s t : Nat) (hA : a ≤ 4294967295) (hB : b ≤ 4294967295) (hC : c ≤ 4294967295) (x y : Value) (hne : checkF K R a b c ≠ 0) (w : World) :
    Calls Try.prog 6 #[.agg #[.int .i64 K, .int .i64 R, .int .u32 a, .int .u32 b, .int .u32 c], .int .u32 s, .int .u32 t, x, y] w fun e w' => e = .returned (.bool true) ∧ Below w.heap.size w w' := by
  have HC := hide (check_any K R a b c hA hB hC)
  have hb := nzBne hne
  generalize checkF K R a b c = cf at *
  clear hne
  go_enter Try.func6, Try.ntmps6
  go_wp2_with fail
  refine (HC.out _).mono ?_
  rintro e w1 ⟨rfl, hb1⟩
  go_wp2_with fail
  refine (num_any _ _).mono ?_
  rintro e w' ⟨rfl, rfl⟩
  go_wp2_with fail
  refine (knows_any _).mono ?_
  rintro e w2 ⟨rfl, hb2⟩
  go_wp2_with fail
  go_ret
  have hz1 := size_mid hb1
  exact ⟨rfl, (below_one hb1).trans (hb2.mono (Nat.le_of_lt hz1))⟩
theorem law_linear (K R : Int) (a b c s t : Nat) (hA : a ≤ 4294967295) (hB : b ≤ 4294967295) (hC : c ≤ 4294967295) (hs : s ≤ 4294967295) (ht : t ≤ 4294967295)
    (ax : Option Addr) (cx : Nat) (xs : List Nat) (hx8 : ∀ i, i < xs.length → xs.getD i 0 ≤ 255) (hxn : xs.length ≤ 140737488351232) (ay : Option Addr) (cy : Nat) (ys : List Nat) (hy8 : ∀ i, i < ys.length → ys.getD i 0 ≤ 255) (hyn : ys.length ≤ 140737488351232) (w : World) (hx : RowA w ax xs) (hy : RowA w ay ys) :
    Calls Try.prog 6 #[.agg #[.int .i64 K, .int .i64 R, .int .u32 a, .int .u32 b, .int .u32 c], .int .u32 s, .int .u32 t, .slice ax xs.length cx, .slice ay ys.length cy] w fun e w' => e = .returned (.bool true) ∧ Below w.heap.size w w' := by
  by_cases hck : checkF K R a b c = 0
  · obtain ⟨n, rfl, h2, h31, hR⟩ := good_code hck
    obtain ⟨j, rfl⟩ : ∃ j, n = j + 1 := ⟨n - 1, by omega⟩
    have e : (((j + 1 : Nat) : Int) + 1) = j + 2 := by omega
    rw [e] at hck ⊢
    exact linear_good R j a b c s t (by omega) hR hA hB hC hs ht hck ax ay cx cy xs ys hx8 hy8 hxn hyn w hx hy
  · exact linear_bad K R a b c s t hA hB hC _ _ hck w
end Go.Proofs.Ytpmnbdkncmjafaa
