/- marker.Row and outpostref22.Row, walked. -/
import Derived.Test.YtlbfndibgojbiaaRows
import Derived.Test.YtlbfndibgojbiaaMark
import Derived.Test.YtlbfndibgojbiaaMB
import Derived.Deep.RegionHeld3
namespace Go.Proofs.Ytlbfndibgojbiaa
open Go.RowKit

theorem markF_ok {m : Nat} {l : Nat} (h : markF m l = 0) : 1 ≤ l ∧ l ≤ 64 := by
  obtain ⟨n, e, h1, h2, _⟩ := markF_zero h
  omega
set_option maxRecDepth 100000 in
set_option maxHeartbeats 2000000 in
theorem mrow_ok (m l : Nat) (hm : m ≤ 18446744073709551615) (h : markF m l = 0) (w : World) :
    Calls Try.prog 32 #[.agg #[.int .u64 m, .int .i64 l]] w fun e w' => ∃ v, e = .returned (.tuple #[v, .int .i64 0]) ∧ OwnB w' w.heap.size v (markL m l) ∧ Below w.heap.size w w' := by
  have HC := hide (mcheck_any m l)
  rw [h] at HC
  obtain ⟨l1, l64⟩ := markF_ok h
  clear h
  have HBI := hide fun i hi w => mbit_any m l i hm l64 hi w
  go_enter Try.func32, Try.ntmps32
  go_wp2_with fail
  have hM0 : (w.alloc (.cells #[.int .u64 m, .int .i64 l] 30)).heap[w.heap.size]? = some (.cells #[.int .u64 m, .int .i64 l] 30 (0, 0)) := heap_alloc_new w _
  have hb0 : Below w.heap.size w (w.alloc (.cells #[.int .u64 m, .int .i64 l] 30)) := (Below.refl _ _).alloc (Nat.le_refl _) _
  have hz0 : w.heap.size < (w.alloc (.cells #[.int .u64 m, .int .i64 l] 30)).heap.size := by simp
  generalize w.alloc (.cells #[.int .u64 m, .int .i64 l] 30) = W0 at *
  have HU := hide fun (u : World) (hb : Below W0.heap.size W0 u) => (show u.cell? ⟨w.heap.size, 0, none⟩ = some (.int .u64 m) ∧ u.cell? ⟨w.heap.size, 1, none⟩ = some (.int .i64 l) by
    have := (hb.block _ hz0).trans hM0
    constructor <;> simp [World.cell?, this])
  have HB0 := hide hb0
  have HZ0 := hide hz0
  clear hM0 hb0 hz0
  refine (HC.out _).mono ?_
  rintro e w1 ⟨rfl, hb1⟩
  obtain ⟨s0, s1⟩ := HU.out _ hb1
  have HB1 := hide hb1
  clear hb1
  go_wp2_with (first
    | (at_make; refine wpList_makeB rfl _ _ rfl w1.heap.size _ _ l rfl rfl ?c1 ?c2 ?c3 ?c4 ?_)
    | go_in)
  case c1 => rfl
  case c2 => rfl
  case c3 => omega
  case c4 => exact Nat.le_refl _
  intro w2 hown2 hgrow2 hz2
  have HO2 := hide (show OwnB w2 w1.heap.size (.slice (some ⟨w1.heap.size, 0, none⟩) l l) (fillK (markB m l) l 0) by rw [fillK_zero]; exact hown2)
  have HB2 := hide (HB1.out.grown hgrow2 HB1.out.size (fun k e => by cases e))
  have HZ1 := hide (show w.heap.size < w1.heap.size by have := HB1.out.size; have := HZ0.out; omega)
  clear hown2 hgrow2 s0 s1
  obtain ⟨s0, s1⟩ := HU.out _ HB2.out
  go_wp2_with fail
  clear s0 s1
  go_loopw [17] (fun i u => ∃ k : Nat, k ≤ l ∧ i = .int .i64 k ∧ Hid (OwnB u w1.heap.size (.slice (some ⟨w1.heap.size, 0, none⟩) l l) (fillK (markB m l) l k)) ∧ Hid (Below W0.heap.size W0 u)) (fun i _ => l - (intOf i).toNat)
  case atStart => exact ⟨0, by omega, rfl, HO2, HB2⟩
  case round =>
    rename World => wr
    obtain ⟨k, hk, rfl, ho, hb⟩ := hrel
    clear HO2 HB2
    obtain ⟨s0, s1⟩ := HU.out _ hb.out
    by_cases hlt : k < l
    · have HF := hide (fillK_set (f := markB m l) hlt)
      have HBK := hide (HBI.out k hlt)
      generalize hy : markB m l k = y at *
      clear hy
      go_wp2_with fail
      refine (HBK.out _).mono ?_
      rintro e w3 ⟨rfl, hb3⟩
      have ho3 := ho.out.below hb3
      have hcg := ho3.cell (fillK_length hk).symm hlt
      have hfz := ho3.frz (fillK_length hk).symm k
      have hset := (ho3.set (fillK_length hk).symm k y).1
      have hF := HF.out
      rw [hF] at hset
      have HO4 := hide hset
      have HB3 := hide (below_then hb.out hb3)
      have HB4 := hide (HB3.out.setCell (p := ⟨w1.heap.size, k, none⟩) HB1.out.size (.int .u8 (y : Nat)))
      have hin : (0 : Int) ≤ k := by omega
      have hin2 : (k : Int) < l := by omega
      clear hset hF ho3 hb3 s0 s1
      go_wp2_with fail
      go_roundw
      case rel => exact ⟨k + 1, by omega, by simp, HO4, HB4⟩
      case measure => simp [intOf]; omega
    · obtain rfl : k = l := by omega
      go_wp2_with fail
      go_ret2
      exact ⟨_, rfl, by have := ho.out; rw [fillK_full] at this; exact OwnB.mono this (Nat.le_of_lt HZ1.out), below_then HB0.out hb.out⟩
set_option maxRecDepth 100000 in
set_option maxHeartbeats 2000000 in
theorem r22row_ok (m l : Nat) (hm : m ≤ 18446744073709551615) (h : markF m l = 0) (w : World) :
    Calls Try.prog 71 #[.agg #[.int .u64 m, .int .i64 l]] w fun e w' => ∃ v, e = .returned (.tuple #[v, .int .i64 0]) ∧ OwnB w' w.heap.size v (markL m l) ∧ Below w.heap.size w w' := by
  have HC := hide (r22check_any m l)
  rw [h] at HC
  obtain ⟨l1, l64⟩ := markF_ok h
  clear h
  have HBI := hide fun i hi w => r22bit_any m l i hm l64 hi w
  go_enter Try.func71, Try.ntmps71
  go_wp2_with fail
  have hM0 : (w.alloc (.cells #[.int .u64 m, .int .i64 l] 30)).heap[w.heap.size]? = some (.cells #[.int .u64 m, .int .i64 l] 30 (0, 0)) := heap_alloc_new w _
  have hb0 : Below w.heap.size w (w.alloc (.cells #[.int .u64 m, .int .i64 l] 30)) := (Below.refl _ _).alloc (Nat.le_refl _) _
  have hz0 : w.heap.size < (w.alloc (.cells #[.int .u64 m, .int .i64 l] 30)).heap.size := by simp
  generalize w.alloc (.cells #[.int .u64 m, .int .i64 l] 30) = W0 at *
  have HU := hide fun (u : World) (hb : Below W0.heap.size W0 u) => (show u.cell? ⟨w.heap.size, 0, none⟩ = some (.int .u64 m) ∧ u.cell? ⟨w.heap.size, 1, none⟩ = some (.int .i64 l) by
    have := (hb.block _ hz0).trans hM0
    constructor <;> simp [World.cell?, this])
  have HB0 := hide hb0
  have HZ0 := hide hz0
  clear hM0 hb0 hz0
  refine (HC.out _).mono ?_
  rintro e w1 ⟨rfl, hb1⟩
  obtain ⟨s0, s1⟩ := HU.out _ hb1
  have HB1 := hide hb1
  clear hb1
  go_wp2_with (first
    | (at_make; refine wpList_makeB rfl _ _ rfl w1.heap.size _ _ l rfl rfl ?c1 ?c2 ?c3 ?c4 ?_)
    | go_in)
  case c1 => rfl
  case c2 => rfl
  case c3 => omega
  case c4 => exact Nat.le_refl _
  intro w2 hown2 hgrow2 hz2
  have HO2 := hide (show OwnB w2 w1.heap.size (.slice (some ⟨w1.heap.size, 0, none⟩) l l) (fillK (markB m l) l 0) by rw [fillK_zero]; exact hown2)
  have HB2 := hide (HB1.out.grown hgrow2 HB1.out.size (fun k e => by cases e))
  have HZ1 := hide (show w.heap.size < w1.heap.size by have := HB1.out.size; have := HZ0.out; omega)
  clear hown2 hgrow2 s0 s1
  obtain ⟨s0, s1⟩ := HU.out _ HB2.out
  go_wp2_with fail
  clear s0 s1
  go_loopw [6] (fun i u => ∃ k : Nat, k ≤ l ∧ i = .int .i64 k ∧ Hid (OwnB u w1.heap.size (.slice (some ⟨w1.heap.size, 0, none⟩) l l) (fillK (markB m l) l k)) ∧ Hid (Below W0.heap.size W0 u)) (fun i _ => l - (intOf i).toNat)
  case atStart => exact ⟨0, by omega, rfl, HO2, HB2⟩
  case round =>
    rename World => wr
    obtain ⟨k, hk, rfl, ho, hb⟩ := hrel
    clear HO2 HB2
    obtain ⟨s0, s1⟩ := HU.out _ hb.out
    by_cases hlt : k < l
    · have HF := hide (fillK_set (f := markB m l) hlt)
      have HBK := hide (HBI.out k hlt)
      generalize hy : markB m l k = y at *
      clear hy
      go_wp2_with fail
      refine (HBK.out _).mono ?_
      rintro e w3 ⟨rfl, hb3⟩
      have ho3 := ho.out.below hb3
      have hcg := ho3.cell (fillK_length hk).symm hlt
      have hfz := ho3.frz (fillK_length hk).symm k
      have hset := (ho3.set (fillK_length hk).symm k y).1
      have hF := HF.out
      rw [hF] at hset
      have HO4 := hide hset
      have HB3 := hide (below_then hb.out hb3)
      have HB4 := hide (HB3.out.setCell (p := ⟨w1.heap.size, k, none⟩) HB1.out.size (.int .u8 (y : Nat)))
      have hin : (0 : Int) ≤ k := by omega
      have hin2 : (k : Int) < l := by omega
      clear hset hF ho3 hb3 s0 s1
      go_wp2_with fail
      go_roundw
      case rel => exact ⟨k + 1, by omega, by simp, HO4, HB4⟩
      case measure => simp [intOf]; omega
    · obtain rfl : k = l := by omega
      go_wp2_with fail
      go_ret2
      exact ⟨_, rfl, by have := ho.out; rw [fillK_full] at this; exact OwnB.mono this (Nat.le_of_lt HZ1.out), below_then HB0.out hb.out⟩
end Go.Proofs.Ytlbfndibgojbiaa
