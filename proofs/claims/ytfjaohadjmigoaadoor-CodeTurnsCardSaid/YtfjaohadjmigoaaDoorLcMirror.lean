/- The law CodeMirror, walked: it returns true. -/
import Derived.Test.YtfjaohadjmigoaaDoorRows
import Derived.Test.YtfjaohadjmigoaaDoorSysW
import Derived.Test.YtfjaohadjmigoaaDoorCRev
import Derived.Test.YtfjaohadjmigoaaDoorKnows
import Derived.Deep.RegionHeld3
import Derived.Deep.DeepCutAuto
namespace Go.Proofs.YtfjaohadjmigoaaDoor
open Go.RowKit
set_option linter.unusedVariables false

theorem al_below (w : World) (o : Obj) : Below w.heap.size w (w.alloc o).drew := ((Below.refl _ _).alloc (Nat.le_refl _) o).drew
theorem eq_zero (w : World) :
    (Op.equalIn 9999 23 (.agg #[.int .u32 0, .int .u32 0, .int .u32 0]) (.agg #[.int .u32 0, .int .u32 0, .int .u32 0])).run Tryd.prog w = .ok true w := eq_same 0 0 0 w
set_option maxRecDepth 100000 in
set_option maxHeartbeats 4000000 in
theorem mirror_bad (K R : Int) (a b c : Nat) (hA : a ≤ 4294967295) (hB : b ≤ 4294967295) (hC : c ≤ 4294967295) (hne : checkF K R a b c ≠ 0) (w : World) :
    Calls Tryd.prog 3 #[.agg #[.int .i64 K, .int .i64 R, .int .u32 a, .int .u32 b, .int .u32 c]] w fun e w' => e = .returned (.bool true) ∧ Below w.heap.size w w' := by
  have HC := hide (check_any K R a b c hA hB hC)
  have HR := hide (crev_bad K R a b c hA hB hC hne)
  have hb := nzBne hne
  generalize checkF K R a b c = cf at *
  have hcf : (cf != cf) = false := by simp
  clear hne
  go_enter Tryd.func3, Tryd.ntmps3
  go_wp2_with fail
  refine (HR.out _).mono ?_
  rintro e w1 ⟨rfl, hb1⟩
  have hcb := (CodeB.new w K R a b c).keep hb1 (CodeB.new w K R a b c).lt
  have HB1 := hide (below_one hb1)
  have hzb := CodeB.new w1 0 0 0 0 0
  have hxb : Below w1.heap.size w1 (w1.alloc (.cells #[.int .i64 0, .int .i64 0, .int .u32 0, .int .u32 0, .int .u32 0] 25)) := (Below.refl _ _).alloc (Nat.le_refl _) _
  have hcb2 := hcb.keep hxb hcb.lt
  go_wp2_with fail
  generalize hX : (w1.alloc (.cells #[.int .i64 0, .int .i64 0, .int .u32 0, .int .u32 0, .int .u32 0] 25)) = X at *
  have HBX := hide (below_then HB1.out hxb)
  have HU := hide fun (u : World) (hb : Below X.heap.size X u) => (hcb2.keep hb hcb2.lt).cells
  have HZ := hide fun (u : World) (hb : Below X.heap.size X u) => (hzb.keep hb hzb.lt).cells
  clear hcb hb1 hcb2 hzb hxb hX HB1 HR
  go_region_held3 (fun u => u.cell? ⟨w.heap.size, 0, none⟩ = some (.int .i64 K) ∧ u.cell? ⟨w.heap.size, 1, none⟩ = some (.int .i64 R) ∧ u.cell? ⟨w.heap.size, 2, none⟩ = some (.int .u32 a) ∧ u.cell? ⟨w.heap.size, 3, none⟩ = some (.int .u32 b) ∧ u.cell? ⟨w.heap.size, 4, none⟩ = some (.int .u32 c))
    (first | exact HU.out _ (Below.refl _ _) | exact HU.out _ (Below.refl _ _).drew | exact HU.out _ (below_then (Below.refl _ _).drew hbk) | exact HU.out _ (below_then (Below.refl _ _) hbk) | exact HU.out _ (below_then (below_then (Below.refl _ _).drew hbk) hbc) | exact HU.out _ (below_then (below_then (Below.refl _ _) hbk) hbc))
    ((first
      | (go_at_call 7; refine (num_any _ _).mono ?_; rintro e w' ⟨rfl, rfl⟩)
      | (go_at_call 8; refine (HC.out _).mono ?_; rintro e wc ⟨rfl, hbc⟩)
      | (go_at_call 6; refine (knows_any _).mono ?_; rintro e wk ⟨rfl, hbk⟩)))
  have HB2 := hide (by first | exact below_then (below_then (Below.refl _ _).drew hbk) hbc | exact below_then (below_then (Below.refl _ _) hbk) hbc : Below X.heap.size X _)
  obtain ⟨z0, z1, z2, z3, z4⟩ := HZ.out _ HB2.out
  clear hbk hbc
  go_wp2_with fail
  refine (num_any _ _).mono ?_
  rintro e w' ⟨rfl, rfl⟩
  have eqz := eq_zero
  go_wp2_with fail
  go_ret
  exact ⟨rfl, below_then HBX.out HB2.out⟩
theorem rev_bits {n x j : Nat} (hx : x < 2 ^ (n + 1)) (hj : j ≤ n) : x / 2 ^ j % 2 = Rev.revP n x / 2 ^ (n - j) % 2 := by
  have h1 := Rev.revP_bit n x (n - j)
  rw [show n - (n - j) = j by omega, show decide (n - j ≤ n) = true by simp, Bool.true_and] at h1
  rw [Nat.testBit_eq_decide_div_mod_eq, Nat.testBit_eq_decide_div_mod_eq] at h1
  have h2 := Nat.mod_lt (x / 2 ^ j) (show 0 < 2 by omega)
  have h3 := Nat.mod_lt (Rev.revP n x / 2 ^ (n - j)) (show 0 < 2 by omega)
  by_cases h : x / 2 ^ j % 2 = 1
  · rw [h] at h1 ⊢; simp at h1; omega
  · by_cases h' : Rev.revP n x / 2 ^ (n - j) % 2 = 1
    · simp [h, h'] at h1
    · omega
theorem and_shr {x k : Nat} (hx : x ≤ 4294967295) : bits .and .u32 ((x : Int) / 2 ^ k) 1 = ((x / 2 ^ k % 2 : Nat) : Int) := by
  rw [shrI]; exact low32 (Nat.le_trans (Nat.div_le_self _ _) hx)
theorem bit_same {x y q v : Nat} (hx : x ≤ 4294967295) (hy : y ≤ 4294967295) (h : x / 2 ^ q % 2 = y / 2 ^ v % 2) : (bits .and .u32 ((x : Int) / 2 ^ q) 1 != bits .and .u32 ((y : Int) / 2 ^ v) 1) = false := by
  rw [and_shr hx, and_shr hy, h]; simp
/-- what the mirror's loops ask of the generators -/
def BitsEq (n x y : Nat) : Prop := ∀ j, j ≤ n → x / 2 ^ j % 2 = y / 2 ^ (n - j) % 2
theorem mirror_nums {n r a b c : Nat} (hr : r = 2 ∨ r = 3) (hn : 2 ≤ n ∧ n ≤ 31) (hck : checkF (n + 1) r a b c = 0) :
    BitsEq n a (Rev.revP n a) ∧ BitsEq n b (Rev.revP n b) ∧ BitsEq n c (revC r n c) ∧ Rev.revP n (Rev.revP n a) = a ∧ Rev.revP n (Rev.revP n b) = b ∧ revC r n (revC r n c) = c := by
  obtain ⟨hh, hgg, _, _, _⟩ := checkF_zero hck
  rw [show ((n : Int) + 1).toNat = n + 1 by omega] at hgg
  refine ⟨fun j hj => rev_bits hgg.1.2 hj, fun j hj => rev_bits hgg.2.1.2 hj, ?_, Rev.revP_revP hgg.1.2, Rev.revP_revP hgg.2.1.2, ?_⟩
  · rcases hr with rfl | rfl
    · intro j hj
      have hc : c = 0 := Decidable.byContradiction fun e => hh (.inr (.inr (.inr ⟨rfl, e⟩)))
      subst hc
      simp [revC]
    · exact fun j hj => rev_bits (hgg.2.2 rfl).2 hj
  · rcases hr with rfl | rfl
    · simp [revC]
    · exact Rev.revP_revP (hgg.2.2 rfl).2
set_option maxRecDepth 100000 in
set_option maxHeartbeats 8000000 in
theorem mirror_good (n r a b c : Nat) (hr : r = 2 ∨ r = 3) (hn : 2 ≤ n ∧ n ≤ 31) (hA : a ≤ 4294967295) (hB : b ≤ 4294967295) (hC : c ≤ 4294967295) (hck : checkF (n + 1) r a b c = 0) (w : World) (ht : TabW w) :
    Calls Tryd.prog 3 #[.agg #[.int .i64 (n + 1), .int .i64 r, .int .u32 a, .int .u32 b, .int .u32 c]] w fun e w' => e = .returned (.bool true) ∧ Below w.heap.size w w' := by
  have HC := hide (check_any (n + 1) r a b c hA hB hC)
  have HR := hide (crev_good n r a b c hr hn hA hB hC hck)
  obtain ⟨q1, q2, q3, q4, q5, q6⟩ := mirror_nums hr hn hck
  have xA := revP_le (x := a) hn.2
  have xB := revP_le (x := b) hn.2
  have xC : revC r n c ≤ 4294967295 := by unfold revC; split <;> first | assumption | exact revP_le hn.2
  have hck2 := checkF_rev hck
  have HC2 := hide (check_any (n + 1) r (Rev.revP n a) (Rev.revP n b) (revC r n c) xA xB xC)
  have HR2 := hide (crev_good n r (Rev.revP n a) (Rev.revP n b) (revC r n c) hr hn xA xB xC hck2)
  rw [q4, q5, q6] at HR2
  rw [hck2] at HC2
  have HS := hide (sys_good (n + 1) r a b c hA hB hC hck)
  have HL0 := hide fun hs => look_no (n + 1) r a b c hA hB hC hck hs
  have HL1 := hide fun i hi hs => look_yes (n + 1) r a b c i hA hB hC hck hi hs
  rw [hck] at HC
  generalize Rev.revP n a = a' at *
  generalize Rev.revP n b = b' at *
  generalize revC r n c = c' at *
  have Q1 := hide q1
  have Q2 := hide q2
  have Q3 := hide q3
  have HT := hide ht
  clear q1 q2 q3 q4 q5 q6 hck hck2 ht
  go_enter Tryd.func3, Tryd.ntmps3
  go_wp2_with fail
  refine (HR.out _).mono ?_
  rintro e w1 ⟨rfl, hb1⟩
  have hcb := (CodeB.new w (n + 1) r a b c).keep hb1 (CodeB.new w (n + 1) r a b c).lt
  have HB1 := hide (below_one hb1)
  have hzb := CodeB.new w1 (n + 1) r a' b' c'
  have hxb : Below w1.heap.size w1 (w1.alloc (.cells #[.int .i64 (n + 1), .int .i64 r, .int .u32 a', .int .u32 b', .int .u32 c'] 25)) := (Below.refl _ _).alloc (Nat.le_refl _) _
  have hcb2 := hcb.keep hxb hcb.lt
  go_wp2_with fail
  generalize hX : (w1.alloc (.cells #[.int .i64 (n + 1), .int .i64 r, .int .u32 a', .int .u32 b', .int .u32 c'] 25)) = X at *
  have HBX := hide (below_then HB1.out hxb)
  have HU := hide fun (u : World) (hb : Below X.heap.size X u) => (hcb2.keep hb hcb2.lt).cells
  have HZ := hide fun (u : World) (hb : Below X.heap.size X u) => (hzb.keep hb hzb.lt).cells
  clear hcb hb1 hcb2 hzb hxb hX HB1 HR
  go_region_held3 (fun u => u.cell? ⟨w.heap.size, 0, none⟩ = some (.int .i64 (n + 1)) ∧ u.cell? ⟨w.heap.size, 1, none⟩ = some (.int .i64 r) ∧ u.cell? ⟨w.heap.size, 2, none⟩ = some (.int .u32 a) ∧ u.cell? ⟨w.heap.size, 3, none⟩ = some (.int .u32 b) ∧ u.cell? ⟨w.heap.size, 4, none⟩ = some (.int .u32 c))
    (first | exact HU.out _ (Below.refl _ _) | exact HU.out _ (Below.refl _ _).drew | exact HU.out _ (below_then (Below.refl _ _).drew hbk) | exact HU.out _ (below_then (Below.refl _ _) hbk) | exact HU.out _ (below_then (below_then (Below.refl _ _).drew hbk) hbc) | exact HU.out _ (below_then (below_then (Below.refl _ _) hbk) hbc))
    ((first
      | (go_at_call 7; refine (num_any _ _).mono ?_; rintro e w' ⟨rfl, rfl⟩)
      | (go_at_call 8; refine (HC.out _).mono ?_; rintro e wc ⟨rfl, hbc⟩)
      | (go_at_call 6; refine (knows_any _).mono ?_; rintro e wk ⟨rfl, hbk⟩)))
  have HB2 := hide (by first | exact below_then (below_then (Below.refl _ _).drew hbk) hbc | exact below_then (below_then (Below.refl _ _) hbk) hbc : Below X.heap.size X wc)
  obtain ⟨z0, z1, z2, z3, z4⟩ := HZ.out _ HB2.out
  clear hbk hbc
  go_wp2_with fail
  refine (num_any _ _).mono ?_
  rintro e w' ⟨rfl, rfl⟩
  go_wp2_with fail
  refine (HR2.out _).mono ?_
  rintro e w3 ⟨rfl, hb3⟩
  clear z0 z1 z2 z3 z4
  have HB3 := hide (below_then HB2.out hb3)
  have yc := CodeB.new w3 (n + 1) r a b c
  have hb4 : Below w3.heap.size w3 (w3.alloc (.cells #[.int .i64 (n + 1), .int .i64 r, .int .u32 a, .int .u32 b, .int .u32 c] 25)) := (Below.refl _ _).alloc (Nat.le_refl _) _
  go_upto_region 7 with fail
  generalize hY : (w3.alloc (.cells #[.int .i64 (n + 1), .int .i64 r, .int .u32 a, .int .u32 b, .int .u32 c] 25)) = Y at *
  have HB4 := hide (below_then HB3.out hb4)
  have HY := hide fun (u : World) (hb : Below Y.heap.size Y u) => (yc.keep hb yc.lt).cells
  clear hb3 hb4 yc hY
  obtain ⟨z0, z1, z2, z3, z4⟩ := HZ.out _ HB4.out
  obtain ⟨s0, s1, s2, s3, s4⟩ := HU.out _ HB4.out
  obtain ⟨y0, y1, y2, y3, y4⟩ := HY.out _ (Below.refl _ _)
  go_wp2_with fail
  refine (HC2.out _).mono ?_
  rintro e w5 ⟨rfl, hb5⟩
  clear z0 z1 z2 z3 z4 s0 s1 s2 s3 s4 y0 y1 y2 y3 y4
  have HB5 := hide (below_then HB4.out hb5)
  obtain ⟨z0, z1, z2, z3, z4⟩ := HZ.out _ HB5.out
  obtain ⟨s0, s1, s2, s3, s4⟩ := HU.out _ HB5.out
  obtain ⟨y0, y1, y2, y3, y4⟩ := HY.out _ hb5
  clear hb5
  go_wp2_with fail
  refine (num_any _ _).mono ?_
  rintro e w' ⟨rfl, rfl⟩
  go_wp2_with fail
  refine (num_any _ _).mono ?_
  rintro e w' ⟨rfl, rfl⟩
  have eqs := eq_same a b c
  go_wp2_with fail
  clear z0 z1 z2 z3 z4 s0 s1 s2 s3 s4 y0 y1 y2 y3 y4 eqs HC2 HR2
  go_loopw [7] (fun i u => ∃ (m : Nat), (i = .int .i64 0 ∨ i = .int .i64 1 ∨ i = .int .i64 2 ∨ i = .int .i64 3) ∧ u = w5.drewN m) (fun i _ => 3 - (intOf i).toNat)
  case atStart => exact ⟨0, .inl rfl, rfl⟩
  case round =>
    obtain ⟨m, hk, rfl⟩ := hrel
    rcases hk with rfl | rfl | rfl | rfl
    · have HQ := hide fun (q : Nat) (hq : q ≤ n) => Q1.out q hq
      go_wp2_with fail
      go_loopw [8] (fun i u => ∃ (q m : Nat), q ≤ n + 1 ∧ i = .int .i64 q ∧ u = w5.drewN m) (fun i _ => n + 1 - (intOf i).toNat)
      case atStart => exact ⟨0, m, by omega, rfl, rfl⟩
      case round =>
        obtain ⟨q, m, hq, rfl, rfl⟩ := hrel
        obtain ⟨z0, z1, z2, z3, z4⟩ := HZ.out _ HB5.out
        obtain ⟨s0, s1, s2, s3, s4⟩ := HU.out _ HB5.out
        by_cases hqn : q = n + 1
        · have hlt : ¬ (q : Int) < (n : Int) + 1 := by omega
          go_wp2_with fail
          go_roundw
          case rel => exact ⟨_, .inr (.inl rfl), rfl⟩
          case measure => simp [intOf]
        · have hlt : (q : Int) < (n : Int) + 1 := by omega
          have hwn : IntKind.i64.wrap (n : Int) = n := IntWalk.i64_in _ ⟨by omega, by omega⟩
          have hwq : IntKind.u64.wrap (q : Int) = q := IntWalk.u64_in _ ⟨by omega, by omega⟩
          have hws : IntKind.i64.wrap ((n : Int) - q) = ((n - q : Nat) : Int) := by rw [IntWalk.i64_in _ ⟨by omega, by omega⟩]; omega
          have hwv : IntKind.u64.wrap ((n - q : Nat) : Int) = ((n - q : Nat) : Int) := IntWalk.u64_in _ ⟨by omega, by omega⟩
          have hmin : min (n - q) 32 = n - q := by omega
          have hbs := bit_same hA xA (HQ.out q (by omega))
          have hbt := hide hbs
          have hn31 := hn.2
          have q32 : q ≤ 31 := by omega
          have v32 : n - q ≤ 31 := by omega
          generalize n - q = v at *
          go_wp2_with fail
          go_quiet (fail)
          go_wp2_with fail
          go_roundw
          case rel => exact ⟨q + 1, _, by omega, by go_num, rfl⟩
          case measure => simp [intOf]; omega
    · have HQ := hide fun (q : Nat) (hq : q ≤ n) => Q2.out q hq
      go_wp2_with fail
      go_loopw [8] (fun i u => ∃ (q m : Nat), q ≤ n + 1 ∧ i = .int .i64 q ∧ u = w5.drewN m) (fun i _ => n + 1 - (intOf i).toNat)
      case atStart => exact ⟨0, m, by omega, rfl, rfl⟩
      case round =>
        obtain ⟨q, m, hq, rfl, rfl⟩ := hrel
        obtain ⟨z0, z1, z2, z3, z4⟩ := HZ.out _ HB5.out
        obtain ⟨s0, s1, s2, s3, s4⟩ := HU.out _ HB5.out
        by_cases hqn : q = n + 1
        · have hlt : ¬ (q : Int) < (n : Int) + 1 := by omega
          go_wp2_with fail
          go_roundw
          case rel => exact ⟨_, .inr (.inr (.inl rfl)), rfl⟩
          case measure => simp [intOf]
        · have hlt : (q : Int) < (n : Int) + 1 := by omega
          have hwn : IntKind.i64.wrap (n : Int) = n := IntWalk.i64_in _ ⟨by omega, by omega⟩
          have hwq : IntKind.u64.wrap (q : Int) = q := IntWalk.u64_in _ ⟨by omega, by omega⟩
          have hws : IntKind.i64.wrap ((n : Int) - q) = ((n - q : Nat) : Int) := by rw [IntWalk.i64_in _ ⟨by omega, by omega⟩]; omega
          have hwv : IntKind.u64.wrap ((n - q : Nat) : Int) = ((n - q : Nat) : Int) := IntWalk.u64_in _ ⟨by omega, by omega⟩
          have hmin : min (n - q) 32 = n - q := by omega
          have hbs := bit_same hB xB (HQ.out q (by omega))
          have hbt := hide hbs
          have hn31 := hn.2
          have q32 : q ≤ 31 := by omega
          have v32 : n - q ≤ 31 := by omega
          generalize n - q = v at *
          go_wp2_with fail
          go_quiet (fail)
          go_wp2_with fail
          go_roundw
          case rel => exact ⟨q + 1, _, by omega, by go_num, rfl⟩
          case measure => simp [intOf]; omega
    · have HQ := hide fun (q : Nat) (hq : q ≤ n) => Q3.out q hq
      go_wp2_with fail
      go_loopw [8] (fun i u => ∃ (q m : Nat), q ≤ n + 1 ∧ i = .int .i64 q ∧ u = w5.drewN m) (fun i _ => n + 1 - (intOf i).toNat)
      case atStart => exact ⟨0, m, by omega, rfl, rfl⟩
      case round =>
        obtain ⟨q, m, hq, rfl, rfl⟩ := hrel
        obtain ⟨z0, z1, z2, z3, z4⟩ := HZ.out _ HB5.out
        obtain ⟨s0, s1, s2, s3, s4⟩ := HU.out _ HB5.out
        by_cases hqn : q = n + 1
        · have hlt : ¬ (q : Int) < (n : Int) + 1 := by omega
          go_wp2_with fail
          go_roundw
          case rel => exact ⟨_, .inr (.inr (.inr rfl)), rfl⟩
          case measure => simp [intOf]
        · have hlt : (q : Int) < (n : Int) + 1 := by omega
          have hwn : IntKind.i64.wrap (n : Int) = n := IntWalk.i64_in _ ⟨by omega, by omega⟩
          have hwq : IntKind.u64.wrap (q : Int) = q := IntWalk.u64_in _ ⟨by omega, by omega⟩
          have hws : IntKind.i64.wrap ((n : Int) - q) = ((n - q : Nat) : Int) := by rw [IntWalk.i64_in _ ⟨by omega, by omega⟩]; omega
          have hwv : IntKind.u64.wrap ((n - q : Nat) : Int) = ((n - q : Nat) : Int) := IntWalk.u64_in _ ⟨by omega, by omega⟩
          have hmin : min (n - q) 32 = n - q := by omega
          have hbs := bit_same hC xC (HQ.out q (by omega))
          have hbt := hide hbs
          have hn31 := hn.2
          have q32 : q ≤ 31 := by omega
          have v32 : n - q ≤ 31 := by omega
          generalize n - q = v at *
          go_wp2_with fail
          go_quiet (fail)
          go_wp2_with fail
          go_roundw
          case rel => exact ⟨q + 1, _, by omega, by go_num, rfl⟩
          case measure => simp [intOf]; omega
    · have hab : a ^^^ b ≤ 4294967295 := xor_le32 hA hB
      have hs32 := xor_le32 hab hC
      have x1 := xor32 hA hB
      have x2 := xor32 hab hC
      generalize a ^^^ b ^^^ c = s at *
      generalize a ^^^ b = ab at *
      clear Q1 Q2 Q3 HC
      obtain ⟨s0, s1, s2, s3, s4⟩ := HU.out _ HB5.out
      go_wp2_with fail
      refine (HS.out _).mono ?_
      rintro e w6 ⟨rfl, hb6⟩
      clear s0 s1 s2 s3 s4 HS
      have HB6 := hide (below_then (below_drewN HB5.out m) hb6)
      obtain ⟨s0, s1, s2, s3, s4⟩ := HU.out _ HB6.out
      clear hb6
      go_upto_region 19 with fail
      go_cut [12] (fun v12 wx => v12 = .bool (sysB a b c) ∧ wx = w6)
      case first =>
        by_cases h1 : a = 1
        · have t1 : ((a : Int) == 1) = true := by rw [beq_iff_eq]; omega
          have hE := hide (show sysB a b c = true by simp [sysB, h1])
          clear h1
          go_wp2_with fail
          go_meet
          case rel => exact ⟨by rw [hE.out], rfl⟩
        · have t1 : ((a : Int) == 1) = false := by rw [beq_eq_false_iff_ne]; omega
          by_cases h2 : b = 1
          · have t2 : ((b : Int) == 1) = true := by rw [beq_iff_eq]; omega
            have hE := hide (show sysB a b c = true by simp [sysB, h2])
            clear h1 h2
            go_wp2_with fail
            go_meet
            case rel => exact ⟨by rw [hE.out], rfl⟩
          · have t2 : ((b : Int) == 1) = false := by rw [beq_eq_false_iff_ne]; omega
            by_cases h3 : c = 1
            · have t3 : ((c : Int) == 1) = true := by rw [beq_iff_eq]; omega
              have hE := hide (show sysB a b c = true by simp [sysB, h3])
              clear h1 h2 h3
              go_wp2_with fail
              go_meet
              case rel => exact ⟨by rw [hE.out], rfl⟩
            · have t3 : ((c : Int) == 1) = false := by rw [beq_eq_false_iff_ne]; omega
              have hE := hide (show sysB a b c = false by simp [sysB, h1, h2, h3])
              clear h1 h2 h3
              go_wp2_with fail
              go_meet
              case rel => exact ⟨by rw [hE.out], rfl⟩
      case rest =>
      obtain ⟨rfl, rfl⟩ := hcut
      generalize sysB a b c = sb at *
      by_cases h0 : s = 0
      · have t0 : ((s : Int) != 0) = false := zBeq h0
        have HL := hide (HL0.out (by rw [h0, Gf2.popF_zero]; omega))
        clear h0 HL0 HL1
        go_wp2_with fail
        refine (HL.out _).mono ?_
        rintro e w7 ⟨rfl, hb7⟩
        go_wp2_with fail
        refine (num_any _ _).mono ?_
        rintro e w' ⟨rfl, rfl⟩
        go_wp2_with fail
        refine (num_any _ _).mono ?_
        rintro e w' ⟨rfl, rfl⟩
        go_wp2_with fail
        go_ret
        exact ⟨rfl, below_then HBX.out (below_then HB6.out hb7)⟩
      · have t0 : ((s : Int) != 0) = true := zBne h0
        have hsub : ((s : Int) - 1) % 4294967296 = ((s - 1 : Nat) : Int) := by omega
        have hsubw : IntKind.u32.wrap ((s : Int) - 1) = ((s - 1 : Nat) : Int) := by rw [IntKind.wrap_u32]; omega
        have hand := and32 hs32 (show s - 1 ≤ 4294967295 by omega)
        have hpr := Gf2.and_pred 32 s (by omega) h0
        by_cases hp : Gf2.popF 32 s = 1
        · obtain ⟨i, hi, hsi⟩ := Gf2.popF_one 32 s (by omega) hp
          rw [hpr.2 hp] at hand
          have HL := hide (HL1.out i hi hsi)
          have hsw : IntKind.u64.wrap (s : Int) = s := IntWalk.u64_in _ ⟨by omega, by omega⟩
          have hiw : IntKind.u64.wrap (i : Int) = i := IntWalk.u64_in _ ⟨by omega, by omega⟩
          have HT6 := hide (HT.out.below (below_then HBX.out HB6.out))
          have hsh : ((s : Int) == IntKind.u64.wrap (2 ^ i)) = true := by
            rw [beq_iff_eq, show ((2 : Int) ^ i) = ((2 ^ i : Nat) : Int) by simp, ← hsi]
            exact hsw.symm
          clear HL0 HL1 hpr hp h0 hsi
          go_wp2_with fail
          refine (HL.out _ HT6.out).mono ?_
          rintro e w7 ⟨rfl, hb7⟩
          go_wp2_with fail
          refine (num_any _ _).mono ?_
          rintro e w' ⟨rfl, rfl⟩
          go_wp2_with fail
          refine (num_any _ _).mono ?_
          rintro e w' ⟨rfl, rfl⟩
          go_wp2_with fail
          go_ret
          exact ⟨rfl, below_then HBX.out (below_then HB6.out hb7)⟩
        · have HL := hide (HL0.out hp)
          have hz : s &&& (s - 1) ≠ 0 := fun e => hp (hpr.1 e)
          have hz2 : (((s &&& (s - 1) : Nat) : Int) == 0) = false := zNe hz
          generalize s &&& (s - 1) = z at *
          clear HL0 HL1 hpr hp h0 hz
          go_wp2_with fail
          refine (HL.out _).mono ?_
          rintro e w7 ⟨rfl, hb7⟩
          go_wp2_with fail
          refine (num_any _ _).mono ?_
          rintro e w' ⟨rfl, rfl⟩
          go_wp2_with fail
          refine (num_any _ _).mono ?_
          rintro e w' ⟨rfl, rfl⟩
          go_wp2_with fail
          go_ret
          exact ⟨rfl, below_then HBX.out (below_then HB6.out hb7)⟩
theorem law_mirror (K R : Int) (a b c : Nat) (hA : a ≤ 4294967295) (hB : b ≤ 4294967295) (hC : c ≤ 4294967295) (w : World) (ht : TabW w) :
    Calls Tryd.prog 3 #[.agg #[.int .i64 K, .int .i64 R, .int .u32 a, .int .u32 b, .int .u32 c]] w fun e w' => e = .returned (.bool true) ∧ Below w.heap.size w w' := by
  by_cases hck : checkF K R a b c = 0
  · obtain ⟨hh, _⟩ := checkF_zero hck
    have h1 : 3 ≤ K := Decidable.byContradiction fun e => hh (.inl (by omega))
    have h2 : K ≤ 32 := Decidable.byContradiction fun e => hh (.inr (.inl (by omega)))
    have h3 : R = 2 ∨ R = 3 := by
      by_cases h : R = 2
      · exact .inl h
      · exact .inr (Decidable.byContradiction fun e => hh (.inr (.inr (.inl ⟨h, e⟩))))
    obtain ⟨n, rfl⟩ : ∃ n : Nat, K = (n : Int) + 1 := ⟨(K - 1).toNat, by omega⟩
    obtain ⟨r, rfl⟩ : ∃ r : Nat, R = (r : Int) := ⟨R.toNat, by omega⟩
    exact mirror_good n r a b c (by omega) (by omega) hA hB hC hck w ht
  · exact mirror_bad K R a b c hA hB hC hck w
end Go.Proofs.YtfjaohadjmigoaaDoor
