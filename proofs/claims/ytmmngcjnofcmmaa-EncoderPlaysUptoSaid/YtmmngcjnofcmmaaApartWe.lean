/- outpostlaw01.ApartBytes on rows that lie apart, walked: it returns true. -/
import Derived.Test.YtmmngcjnofcmmaaRows
import Derived.Test.YtmmngcjnofcmmaaAparte
namespace Go.Proofs.Ytmmngcjnofcmmaa
open Go.RowKit

/-- the rows of which k are marked whole and the next one up to j -/
def part2 (cs : Nat → List Nat) (k j : Nat) (i : Nat) : List Nat := if i < k then markK i (cs i).length (cs i) else if i = k then markK k j (cs k) else cs i
theorem part2_len {cs : Nat → List Nat} {k j : Nat} (hj : j ≤ (cs k).length) (i : Nat) : (part2 cs k j i).length = (cs i).length := by
  unfold part2
  split
  · exact markK_length (Nat.le_refl _)
  · split
    · rename_i h; subst h; exact markK_length hj
    · rfl
theorem part2_next (cs : Nat → List Nat) (k i : Nat) : part2 cs k (cs k).length i = part2 cs (k + 1) 0 i := by
  unfold part2
  by_cases h1 : i < k
  · rw [if_pos h1, if_pos (by omega)]
  · rw [if_neg h1]
    by_cases h2 : i = k
    · subst h2; rw [if_pos rfl, if_pos (by omega)]
    · rw [if_neg h2, if_neg (by omega)]
      split
      · rename_i h; subst h; rw [markK_zero]
      · rfl
theorem part2_zero (cs : Nat → List Nat) (i : Nat) : part2 cs 0 0 i = cs i := by
  unfold part2
  rw [if_neg (by omega)]
  split
  · rename_i h; subst h; rw [markK_zero]
  · rfl
theorem part2_set {cs : Nat → List Nat} {k j : Nat} (hj : j < (cs k).length) (i : Nat) : (if i = k then (part2 cs k j k).set j (markN k j) else part2 cs k j i) = part2 cs k (j + 1) i := by
  unfold part2
  by_cases h : i = k
  · subst h
    simp only [if_true, Nat.lt_irrefl, if_false]
    exact markK_set hj
  · simp only [if_neg h]
set_option maxRecDepth 100000 in
set_option maxHeartbeats 4000000 in
theorem apart_any (B h n cap : Nat) (vs : Nat → Value) (cs : Nat → List Nat) (hn : n ≤ 1048576) (hl : ∀ i, i < n → (cs i).length + 40 ≤ 140737488355328) (w : World) (hs : ApS w B h n vs cs) :
    Calls Try.prog 28 #[.slice (some ⟨h, 0, none⟩) n cap] w fun e w' => e = .returned (.bool true) ∧ Mny w w' n vs := by
  have HL := hide hl
  have HS0 := hide (hs.cong (cs' := part2 cs 0 0) (fun i _ => (part2_zero cs i).symm))
  have HB := hide hs.hB
  clear hl hs
  go_enter Try.func28, Try.ntmps28
  go_wp2_with fail
  go_loopw [3] (fun i u => ∃ k : Nat, k ≤ n ∧ i = .int .i64 k ∧ Hid (ApS u B h n vs (part2 cs k 0)) ∧ Hid (Mny w u n vs)) (fun i _ => n - (intOf i).toNat)
  case atStart => exact ⟨0, by omega, rfl, HS0, hide (Mny.refl w n vs)⟩
  case round =>
    obtain ⟨k, hk, rfl, hA, hM⟩ := hrel
    by_cases hlt : k < n
    · as_aux_lemma =>
      have hlen := HL.out k hlt
      have hin : (0 : Int) ≤ k := by omega
      have hin2 : (k : Int) < n := by omega
      obtain ⟨ad, c, hv, _⟩ := (hA.out.own k hlt).row
      rw [part2_len (Nat.zero_le _)] at hv
      have HV := hide hv
      clear hv
      go_wp2_with fail
      go_loopw [4] (fun i u => ∃ j : Nat, j ≤ (cs k).length ∧ i = .int .i64 j ∧ Hid (ApS u B h n vs (part2 cs k j)) ∧ Hid (Mny w u n vs)) (fun i _ => (cs k).length - (intOf i).toNat)
      case atStart => exact ⟨0, by omega, rfl, hA, hM⟩
      case round =>
        clear hA hM
        obtain ⟨j, hj, rfl, hA, hM⟩ := hrel
        have hcell := hA.out.cell k hlt
        rw [HV.out] at hcell
        by_cases hjl : j < (cs k).length
        · obtain ⟨g, c2, hv2, _, _, _⟩ := hA.out.full hlt (by rw [part2_len hj]; omega)
          rw [part2_len hj, HV.out] at hv2
          simp only [Value.slice.injEq, true_and] at hv2
          obtain ⟨rfl, rfl⟩ := hv2
          have hgk : (vs k).ownBlock = some g := by rw [HV.out]; rfl
          have HM2 := hide (hM.out.set hlt hgk j (.int .u8 (markN k j : Nat)))
          have ho := hA.out.own k hlt
          rw [HV.out] at ho
          have hc := ho.cell (part2_len hj k).symm hjl
          have hf := ho.frz (part2_len hj k).symm j
          have HA2 := hide ((hA.out.set hlt HV.out (part2_len hj k).symm j (markN k j)).cong (fun i _ => part2_set hjl i))
          have HMK := hide (mark_still k j (by omega) (by omega))
          have hjn : (0 : Int) ≤ j := by omega
          have hjn2 : (j : Int) < (cs k).length := by omega
          clear ho hgk
          generalize markN k j = mk at *
          go_wp2_with fail
          go_still_tail 9, (by kernel_rfl)
          still_call (HMK.out _)
          repeat still_step
          try refine wpStill_nil ?_
          change wpList _ _ _ _ _ (World.drew _)
          go_wp2_with fail
          go_roundw
          case rel => exact ⟨j + 1, by omega, by simp, hide (HA2.out.drewN 1), hide (HM2.out.drewN 1)⟩
          case measure => simp [intOf]; omega
        · obtain rfl : j = (cs k).length := by omega
          go_wp2_with fail
          go_roundw
          case rel => exact ⟨k + 1, by omega, by simp, hide (hA.out.cong (fun i _ => part2_next cs k i)), hM⟩
          case measure => simp [intOf]; omega
    · obtain rfl : n = k := by omega
      have HA1 := hide (hA.out.cong (cs' := fun i => markK i (cs i).length (cs i)) (fun i hi => by unfold part2; rw [if_pos hi]))
      have HM1 := hM
      clear hA hM
      as_aux_lemma =>
      go_wp2_with fail
      go_loopw [5] (fun i u => ∃ k : Nat, k ≤ n ∧ i = .int .i64 k ∧ Hid (ApS u B h n vs (fun i => markK i (cs i).length (cs i))) ∧ Hid (Mny w u n vs)) (fun i _ => n - (intOf i).toNat)
      case atStart => exact ⟨0, by omega, rfl, HA1, HM1⟩
      case round =>
        clear HA1 HM1
        rename World => w2
        obtain ⟨k, hk, rfl, hA, hM⟩ := hrel
        by_cases hlt : k < n
        · as_aux_lemma =>
          have hcell := hA.out.cell k hlt
          have hin : (0 : Int) ≤ k := by omega
          have hin2 : (k : Int) < n := by omega
          go_wp2_with fail
          go_loopw [6, 7] (fun g i u => ∃ t : Nat, t ≤ 40 ∧ i = .int .i64 t ∧ Hid (MoreSt w u B h n vs (fun i => markK i (cs i).length (cs i)) k t g)) (fun _ i _ => 40 - (intOf i).toNat)
          case atStart => exact ⟨0, by omega, rfl, hide (MoreSt.start hA.out hM.out hlt)⟩
          case round =>
            clear hA hM hcell
            rename World => w3
            obtain ⟨t, ht, rfl, hs⟩ := hrel
            by_cases htl : t < 40
            · have HO := hide hs.out.own
              have hkl : (markK k (cs k).length (cs k)).length = (cs k).length := markK_length (Nat.le_refl _)
              have HKL := hide hkl
              have HLk := hide (HL.out k hlt)
              have hsz := hide (show B ≤ w3.heap.size from by have := hs.out.aps.hl; have := hs.out.aps.hB; omega)
              clear hkl
              go_wp2_with (first
                | (at_builtin; refine wpList_app1 rfl (.tmp 48) (.tmp 49) rfl B _ (markK k (cs k).length (cs k) ++ List.replicate t 254) rfl (HO.out.alloc _) (some ⟨w3.heap.size, 0, none⟩) 1 1 [254] rfl ?d1 rfl ?d2 ?d3 ?d4 ?_)
                | go_in)
              case d1 => exact fun _ => ⟨w3.heap.size, 0, rfl, by simp, fun i hi => by
                obtain rfl : i = 0 := by simpa using hi
                simp [go_sem]⟩
              case d2 => simp
              case d3 => rw [List.length_append, HKL.out, List.length_replicate]; have := HLk.out; simp; omega
              case d4 => have := hsz.out; simp; omega
              intro v1 w4 ho hg hd
              have HN := hide (MoreSt.next hs.out hlt (.cells #[.int .u8 254] 5) (v' := v1) (w' := w4) (by simpa using ho) hg (by simpa using hd))
              clear ho hg hd
              go_wp2_with fail
              go_roundw
              case rel => exact ⟨t + 1, by omega, by simp, HN⟩
              case measure => simp [intOf]; omega
            · obtain rfl : t = 40 := by omega
              have HE := hide hs.out.aps
              have HF := hide hs.out.mny
              clear hs
              go_wp2_with fail
              go_roundw
              case rel => exact ⟨k + 1, by omega, by simp, HE, HF⟩
              case measure => simp [intOf]; omega
        · obtain rfl : n = k := by omega
          have HA2 := hA
          have HM2 := hM
          clear hA hM
          as_aux_lemma =>
          go_wp2_with fail
          go_loopw [8] (fun i u => ∃ k nn : Nat, k ≤ n ∧ i = .int .i64 k ∧ u = w2.drewN nn) (fun i _ => n - (intOf i).toNat)
          case atStart => exact ⟨0, 0, by omega, rfl, rfl⟩
          case round =>
            obtain ⟨k, nn, hk, rfl, rfl⟩ := hrel
            by_cases hlt : k < n
            · as_aux_lemma =>
              have hcell := (HA2.out.drewN nn).cell k hlt
              have hin : (0 : Int) ≤ k := by omega
              have hin2 : (k : Int) < n := by omega
              obtain ⟨ad, c, hv, hrow⟩ := (HA2.out.own k hlt).row
              rw [markK_length (Nat.le_refl _)] at hv
              have hlen := HL.out k hlt
              have HV := hide hv
              have HR := hide hrow
              clear hv hrow
              go_wp2_with fail
              go_loopw [9] (fun i u => ∃ j nn : Nat, j ≤ (cs k).length ∧ i = .int .i64 j ∧ u = w2.drewN nn) (fun i _ => (cs k).length - (intOf i).toNat)
              case atStart => exact ⟨0, nn, by omega, rfl, rfl⟩
              case round =>
                obtain ⟨j, nn, hj, rfl, rfl⟩ := hrel
                have hcell := HA2.out.cell k hlt
                rw [HV.out] at hcell
                by_cases hjl : j < (cs k).length
                · obtain ⟨b, off, e, _, hc⟩ := HR.out.at_ (i := j) (by rw [markK_length (Nat.le_refl _)]; exact hjl)
                  subst e
                  rw [markK_at hjl] at hc
                  have HMK := hide (fun W => mark_any k j (by omega) (by omega) W)
                  have hjn : (0 : Int) ≤ j := by omega
                  have hjn2 : (j : Int) < (cs k).length := by omega
                  generalize markN k j = mk at *
                  have hcell2 : (w2.drewN nn).cell? ⟨h, k, none⟩ = some (.slice (some ⟨b, off, none⟩) (cs k).length c) := hcell
                  have hc2 : (w2.drewN nn).cell? ⟨b, off + j, none⟩ = some (.int .u8 mk) := hc
                  clear hcell hc
                  generalize hW : w2.drewN nn = W at *
                  have HWW := hide hW
                  clear hW
                  go_wp2_with fail
                  go_quiet ((go_at_call 48; exact quiet_eq (HMK.out _)))
                  go_wp2_with fail
                  go_roundw
                  case rel => exact ⟨j + 1, nn + nq, by omega, by simp, by rw [← HWW.out, World.drewN_drewN]⟩
                  case measure => simp [intOf]; omega
                · obtain rfl : j = (cs k).length := by omega
                  go_wp2_with fail
                  go_roundw
                  case rel => exact ⟨k + 1, nn, by omega, by simp, rfl⟩
                  case measure => simp [intOf]; omega
            · obtain rfl : n = k := by omega
              go_wp2_with fail
              go_ret
              exact ⟨rfl, HM2.out.drewN nn⟩
end Go.Proofs.Ytmmngcjnofcmmaa
