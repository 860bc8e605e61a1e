/- outpostlaw06.steps, walked. -/
import Derived.Test.YtmmngcjnofcmmaaRows
import Derived.Test.YtmmngcjnofcmmaaTurnM
import Derived.Test.YtmmngcjnofcmmaaBytes
import Derived.Test.YtmmngcjnofcmmaaLit
namespace Go.Proofs.Ytmmngcjnofcmmaa
open Go.RowKit

set_option maxRecDepth 100000 in
set_option maxHeartbeats 2000000 in
theorem steps_1 (T : Nat) (hT : T ≤ 4194304) (ad : Option Addr) (cap : Nat) (xs : List Nat) (hl : xs.length = T * 1) (hc : xs.length ≤ cap) (N : Nat) (hN : xs.length = N) (w : World) (hx : RowA w ad xs) :
    Calls Try.prog 37 #[.slice ad N cap, .int .i64 1] w fun e w' => ∃ v, e = .returned v ∧ OwnB w' w.heap.size v (stepsK 1 T xs T) ∧ Below w.heap.size w w' := by
  have HX := hide hx
  have HL := hide hl
  have hq : (N : Int).tdiv 1 = T := by rw [Int.tdiv_eq_ediv_of_nonneg (by omega)]; omega
  have hq2 : (N : Int) / 1 = T := by omega
  have HLK := hide fun s hs => stepsK_length hl s hs
  have hNT : N = T * 1 := by omega
  have hNc : T * 1 ≤ cap := by omega
  have HNT := hide hNT
  clear hx hl hc hN hNT
  go_enter Try.func37, Try.ntmps37
  go_wp2_with fail
  go_loopw [5, 6] (fun v i u => ∃ s : Nat, s ≤ T ∧ i = .int .i64 ((T : Int) - 1 - s) ∧ Hid (OwnB u w.heap.size v (stepsK 1 T xs s)) ∧ Hid (Below w.heap.size w u)) (fun _ i _ => (intOf i + 1).toNat)
  case atStart => exact ⟨0, by omega, by simp, hide (OwnB.nil _ _), hide (Below.refl _ _)⟩
  case round =>
    rename World => wr
    obtain ⟨s, hs, rfl, ho, hb⟩ := hrel
    by_cases hlt : s < T
    · obtain ⟨t, ht⟩ : ∃ t : Nat, (T : Int) - 1 - s = t := ⟨T - 1 - s, by omega⟩
      have ht2 : T - 1 - s = t := by omega
      obtain ⟨b, off, rfl, _⟩ := HX.out (by rw [HL.out]; omega)
      have HROW := hide ((RowA.drop (HX.out.below hb.out) (t * 1)).take 1)
      have hsk : stepsK 1 T xs (s + 1) = stepsK 1 T xs s ++ (xs.drop (t * 1)).take 1 := by rw [stepsK, ht2]
      have hyl : ((xs.drop (t * 1)).take 1).length = 1 := by rw [List.length_take, List.length_drop, HL.out]; omega
      have hkl := HLK.out s (by omega)
      have htT : t < T := by omega
      generalize (xs.drop (t * 1)).take 1 = ys at *
      generalize hsl : stepsK 1 T xs s = ps at *
      have HSK := hide hsk
      have HYL := hide hyl
      have HKL := hide hkl
      have HT2 := hide ht
      clear hsk hyl hkl hsl ht2
      rw [ht]
      clear ht
      go_wp2_with (first
        | (at_builtin; refine wpList_appB rfl _ _ rfl w.heap.size _ ps rfl ho.out (some ⟨b, off + t, none⟩) 1 (cap - t) ys rfl ?c0 ?cl ?c1 ?c2 ?_)
        | go_in)
      case c0 => have h := HROW.out; rwa [Nat.mul_one] at h
      case cl => rw [HYL.out]
      case c1 => rw [HKL.out, HYL.out]; omega
      case c2 => exact hb.out.size
      intro v2 w2 hown2 hgrow2 _
      rw [← HSK.out] at hown2
      have HN1 := hide hown2
      have HN2 := hide (hb.out.grown hgrow2 hb.out.size (fun g e => (ho.out.lt e).1))
      clear hown2 hgrow2
      go_wp2_with fail
      go_roundw
      case rel => exact ⟨s + 1, by omega, by have := HT2.out; congr 1 <;> omega, HN1, HN2⟩
      case measure => have := HT2.out; simp [intOf] <;> omega
    · obtain rfl : s = T := by omega
      go_wp2_with fail
      go_ret
      exact ⟨_, rfl, ho.out, hb.out⟩
set_option maxRecDepth 100000 in
set_option maxHeartbeats 2000000 in
theorem steps_2 (T : Nat) (hT : T ≤ 4194304) (ad : Option Addr) (cap : Nat) (xs : List Nat) (hl : xs.length = T * 2) (hc : xs.length ≤ cap) (N : Nat) (hN : xs.length = N) (w : World) (hx : RowA w ad xs) :
    Calls Try.prog 37 #[.slice ad N cap, .int .i64 2] w fun e w' => ∃ v, e = .returned v ∧ OwnB w' w.heap.size v (stepsK 2 T xs T) ∧ Below w.heap.size w w' := by
  have HX := hide hx
  have HL := hide hl
  have hq : (N : Int).tdiv 2 = T := by rw [Int.tdiv_eq_ediv_of_nonneg (by omega)]; omega
  have hq2 : (N : Int) / 2 = T := by omega
  have HLK := hide fun s hs => stepsK_length hl s hs
  have hNT : N = T * 2 := by omega
  have hNc : T * 2 ≤ cap := by omega
  have HNT := hide hNT
  clear hx hl hc hN hNT
  go_enter Try.func37, Try.ntmps37
  go_wp2_with fail
  go_loopw [5, 6] (fun v i u => ∃ s : Nat, s ≤ T ∧ i = .int .i64 ((T : Int) - 1 - s) ∧ Hid (OwnB u w.heap.size v (stepsK 2 T xs s)) ∧ Hid (Below w.heap.size w u)) (fun _ i _ => (intOf i + 1).toNat)
  case atStart => exact ⟨0, by omega, by simp, hide (OwnB.nil _ _), hide (Below.refl _ _)⟩
  case round =>
    rename World => wr
    obtain ⟨s, hs, rfl, ho, hb⟩ := hrel
    by_cases hlt : s < T
    · obtain ⟨t, ht⟩ : ∃ t : Nat, (T : Int) - 1 - s = t := ⟨T - 1 - s, by omega⟩
      have ht2 : T - 1 - s = t := by omega
      obtain ⟨b, off, rfl, _⟩ := HX.out (by rw [HL.out]; omega)
      have HROW := hide ((RowA.drop (HX.out.below hb.out) (t * 2)).take 2)
      have hsk : stepsK 2 T xs (s + 1) = stepsK 2 T xs s ++ (xs.drop (t * 2)).take 2 := by rw [stepsK, ht2]
      have hyl : ((xs.drop (t * 2)).take 2).length = 2 := by rw [List.length_take, List.length_drop, HL.out]; omega
      have hkl := HLK.out s (by omega)
      have htT : t < T := by omega
      generalize (xs.drop (t * 2)).take 2 = ys at *
      generalize hsl : stepsK 2 T xs s = ps at *
      have HSK := hide hsk
      have HYL := hide hyl
      have HKL := hide hkl
      have HT2 := hide ht
      clear hsk hyl hkl hsl ht2
      rw [ht]
      clear ht
      go_wp2_with (first
        | (at_builtin; refine wpList_appB rfl _ _ rfl w.heap.size _ ps rfl ho.out (some ⟨b, off + t * 2, none⟩) ((t + 1) * 2 - t * 2) (cap - t * 2) ys rfl ?c0 ?cl ?c1 ?c2 ?_)
        | go_in)
      case c0 => exact HROW.out
      case cl => rw [HYL.out]; omega
      case c1 => rw [HKL.out, HYL.out]; omega
      case c2 => exact hb.out.size
      intro v2 w2 hown2 hgrow2 _
      rw [← HSK.out] at hown2
      have HN1 := hide hown2
      have HN2 := hide (hb.out.grown hgrow2 hb.out.size (fun g e => (ho.out.lt e).1))
      clear hown2 hgrow2
      go_wp2_with fail
      go_roundw
      case rel => exact ⟨s + 1, by omega, by have := HT2.out; congr 1 <;> omega, HN1, HN2⟩
      case measure => have := HT2.out; simp [intOf] <;> omega
    · obtain rfl : s = T := by omega
      go_wp2_with fail
      go_ret
      exact ⟨_, rfl, ho.out, hb.out⟩
set_option maxRecDepth 100000 in
set_option maxHeartbeats 2000000 in
theorem steps_3 (T : Nat) (hT : T ≤ 4194304) (ad : Option Addr) (cap : Nat) (xs : List Nat) (hl : xs.length = T * 3) (hc : xs.length ≤ cap) (N : Nat) (hN : xs.length = N) (w : World) (hx : RowA w ad xs) :
    Calls Try.prog 37 #[.slice ad N cap, .int .i64 3] w fun e w' => ∃ v, e = .returned v ∧ OwnB w' w.heap.size v (stepsK 3 T xs T) ∧ Below w.heap.size w w' := by
  have HX := hide hx
  have HL := hide hl
  have hq : (N : Int).tdiv 3 = T := by rw [Int.tdiv_eq_ediv_of_nonneg (by omega)]; omega
  have hq2 : (N : Int) / 3 = T := by omega
  have HLK := hide fun s hs => stepsK_length hl s hs
  have hNT : N = T * 3 := by omega
  have hNc : T * 3 ≤ cap := by omega
  have HNT := hide hNT
  clear hx hl hc hN hNT
  go_enter Try.func37, Try.ntmps37
  go_wp2_with fail
  go_loopw [5, 6] (fun v i u => ∃ s : Nat, s ≤ T ∧ i = .int .i64 ((T : Int) - 1 - s) ∧ Hid (OwnB u w.heap.size v (stepsK 3 T xs s)) ∧ Hid (Below w.heap.size w u)) (fun _ i _ => (intOf i + 1).toNat)
  case atStart => exact ⟨0, by omega, by simp, hide (OwnB.nil _ _), hide (Below.refl _ _)⟩
  case round =>
    rename World => wr
    obtain ⟨s, hs, rfl, ho, hb⟩ := hrel
    by_cases hlt : s < T
    · obtain ⟨t, ht⟩ : ∃ t : Nat, (T : Int) - 1 - s = t := ⟨T - 1 - s, by omega⟩
      have ht2 : T - 1 - s = t := by omega
      obtain ⟨b, off, rfl, _⟩ := HX.out (by rw [HL.out]; omega)
      have HROW := hide ((RowA.drop (HX.out.below hb.out) (t * 3)).take 3)
      have hsk : stepsK 3 T xs (s + 1) = stepsK 3 T xs s ++ (xs.drop (t * 3)).take 3 := by rw [stepsK, ht2]
      have hyl : ((xs.drop (t * 3)).take 3).length = 3 := by rw [List.length_take, List.length_drop, HL.out]; omega
      have hkl := HLK.out s (by omega)
      have htT : t < T := by omega
      generalize (xs.drop (t * 3)).take 3 = ys at *
      generalize hsl : stepsK 3 T xs s = ps at *
      have HSK := hide hsk
      have HYL := hide hyl
      have HKL := hide hkl
      have HT2 := hide ht
      clear hsk hyl hkl hsl ht2
      rw [ht]
      clear ht
      go_wp2_with (first
        | (at_builtin; refine wpList_appB rfl _ _ rfl w.heap.size _ ps rfl ho.out (some ⟨b, off + t * 3, none⟩) ((t + 1) * 3 - t * 3) (cap - t * 3) ys rfl ?c0 ?cl ?c1 ?c2 ?_)
        | go_in)
      case c0 => exact HROW.out
      case cl => rw [HYL.out]; omega
      case c1 => rw [HKL.out, HYL.out]; omega
      case c2 => exact hb.out.size
      intro v2 w2 hown2 hgrow2 _
      rw [← HSK.out] at hown2
      have HN1 := hide hown2
      have HN2 := hide (hb.out.grown hgrow2 hb.out.size (fun g e => (ho.out.lt e).1))
      clear hown2 hgrow2
      go_wp2_with fail
      go_roundw
      case rel => exact ⟨s + 1, by omega, by have := HT2.out; congr 1 <;> omega, HN1, HN2⟩
      case measure => have := HT2.out; simp [intOf] <;> omega
    · obtain rfl : s = T := by omega
      go_wp2_with fail
      go_ret
      exact ⟨_, rfl, ho.out, hb.out⟩
end Go.Proofs.Ytmmngcjnofcmmaa
