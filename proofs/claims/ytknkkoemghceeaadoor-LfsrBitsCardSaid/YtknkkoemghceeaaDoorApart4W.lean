/- outpostlaw04.apart on rows that lie apart, walked: it returns true. -/
import Derived.Test.YtknkkoemghceeaaDoorRows
import Derived.Test.YtknkkoemghceeaaDoorApart4
namespace Go.Proofs.YtknkkoemghceeaaDoor
open Go.RowKit

/-- the marks of a row -/
def msF (cs : Nat → List Nat) (i : Nat) : List Nat := List.replicate (cs i).length (100 + i)
set_option maxRecDepth 100000 in
set_option maxHeartbeats 4000000 in
theorem apart4_any (B h n cap : Nat) (vs : Nat → Value) (cs : Nat → List Nat) (hn : n ≤ 100) (hl : ∀ i, i < n → (cs i).length + 64 ≤ 140737488355328) (w : World) (hs : ApS w B h n vs cs) :
    Calls Tryd.prog 23 #[.slice (some ⟨h, 0, none⟩) n cap] w fun e w' => e = .returned (.bool true) ∧ Below B w w' := by
  have HL := hide hl
  have HS0 := hide (hs.cong (cs' := partF cs 0 0) (fun i _ => (partF_zero cs i).symm))
  have HB := hide hs.hB
  have HB0 := hide (show Below B w w from Below.refl _ _)
  clear hl hs
  go_enter Tryd.func23, Tryd.ntmps23
  go_wp2_with fail
  go_loopw [3] (fun i u => ∃ k : Nat, k ≤ n ∧ i = .int .i64 k ∧ Hid (ApS u B h n vs (partF cs k 0)) ∧ Hid (Below B w u)) (fun i _ => n - (intOf i).toNat)
  case atStart => exact ⟨0, by omega, rfl, HS0, HB0⟩
  case round =>
    clear HS0 HB0
    obtain ⟨k, hk, rfl, hA, hM⟩ := hrel
    by_cases hlt : k < n
    · as_aux_lemma =>
      have hlen := HL.out k hlt
      have hin : (0 : Int) ≤ k := by omega
      have hin2 : (k : Int) < n := by omega
      obtain ⟨ad, c, hv, _⟩ := (hA.out.own k hlt).row
      rw [partF_len (Nat.zero_le _)] at hv
      have HV := hide hv
      clear hv
      go_wp2_with fail
      go_loopw [4] (fun i u => ∃ j : Nat, j ≤ (cs k).length ∧ i = .int .i64 j ∧ Hid (ApS u B h n vs (partF cs k j)) ∧ Hid (Below B w u)) (fun i _ => (cs k).length - (intOf i).toNat)
      case atStart => exact ⟨0, by omega, rfl, hA, hM⟩
      case round =>
        clear hA hM
        obtain ⟨j, hj, rfl, hA, hM⟩ := hrel
        have hcell := hA.out.cell k hlt
        rw [HV.out] at hcell
        by_cases hjl : j < (cs k).length
        · obtain ⟨g, c2, hv2, hBg, _, _⟩ := hA.out.full hlt (by rw [partF_len hj]; omega)
          rw [partF_len hj, HV.out] at hv2
          simp only [Value.slice.injEq, true_and] at hv2
          obtain ⟨rfl, rfl⟩ := hv2
          have HM2 := hide (hM.out.setCell (p := ⟨g, j, none⟩) hBg (.int .u8 ((100 + k : Nat) : Int)))
          have ho := hA.out.own k hlt
          rw [HV.out] at ho
          have hc := ho.cell (partF_len hj k).symm hjl
          have hf := ho.frz (partF_len hj k).symm j
          have HA2 := hide ((hA.out.set hlt HV.out (partF_len hj k).symm j (100 + k)).cong (fun i _ => partF_set hjl i))
          have hjn : (0 : Int) ≤ j := by omega
          have hjn2 : (j : Int) < (cs k).length := by omega
          clear ho
          go_wp2_with fail
          go_roundw
          case rel => exact ⟨j + 1, by omega, by simp, by simpa using HA2, by simpa using HM2⟩
          case measure => simp [intOf]; omega
        · obtain rfl : j = (cs k).length := by omega
          go_wp2_with fail
          go_roundw
          case rel => exact ⟨k + 1, by omega, by simp, hide (hA.out.cong (fun i _ => partF_next cs k i)), hM⟩
          case measure => simp [intOf]; omega
    · obtain rfl : n = k := by omega
      have HA1 := hide (hA.out.cong (cs' := msF cs) (fun i hi => by unfold partF msF; rw [if_pos hi]))
      have HM1 := hM
      clear hA hM
      as_aux_lemma =>
      go_wp2_with fail
      go_loopw [5, 6] (fun mv i u => ∃ (k : Nat) (gs : Nat → Value), k ≤ n ∧ i = .int .i64 k ∧ Hid (L2St w u B h n vs (msF cs) k gs mv)) (fun _ i _ => n - (intOf i).toNat)
      case atStart => exact ⟨0, fun _ => .slice none 0 0, by omega, rfl, hide (L2St.start HA1.out HM1.out _)⟩
      case round =>
        clear HA1 HM1
        rename World => w2
        obtain ⟨k, gs, hk, rfl, hA⟩ := hrel
        by_cases hlt : k < n
        · as_aux_lemma =>
          have hcell := hA.out.aps.cell k hlt
          have hin : (0 : Int) ≤ k := by omega
          have hin2 : (k : Int) < n := by omega
          go_wp2_with fail
          go_loopw [7, 8] (fun g i u => ∃ t : Nat, t ≤ 64 ∧ i = .int .i64 t ∧ Hid (GrSt w2 u B (vs k) (msF cs k) (150 + k) t g)) (fun _ i _ => 64 - (intOf i).toNat)
          case atStart => exact ⟨0, by omega, rfl, hide (GrSt.start (hA.out.aps.own k hlt))⟩
          case round =>
            rename World => w3
            obtain ⟨t, ht, rfl, hs⟩ := hrel
            have HSZ := hide (show B ≤ w3.heap.size from by have := hA.out.aps.hl; have := hA.out.aps.hB; have := hs.out.gr.size; omega)
            by_cases htl : t < 64
            · have HO := hide hs.out.own
              have HKL := hide (show (msF cs k).length = (cs k).length by simp [msF])
              have HLk := hide (HL.out k hlt)
              clear hcell
              go_wp2_with (first
                | (at_builtin; refine wpList_app1 rfl (.tmp 49) (.tmp 53) rfl B _ (msF cs k ++ List.replicate t (150 + k)) rfl (HO.out.alloc _) (some ⟨w3.heap.size, 0, none⟩) 1 1 [150 + k] rfl ?d1 rfl ?d2 ?d3 ?d4 ?_)
                | go_in)
              case d1 => exact fun _ => ⟨w3.heap.size, 0, rfl, by simp, fun i hi => by
                obtain rfl : i = 0 := by simpa using hi
                simp [go_sem]⟩
              case d2 => simp
              case d3 => rw [List.length_append, HKL.out, List.length_replicate]; have := HLk.out; simp; omega
              case d4 => have := HSZ.out; simp; omega
              intro v1 w4 ho hg hd
              have HN := hide (GrSt.next hs.out _ (v' := v1) (w' := w4) (by simpa using ho) hg (by simpa using hd))
              clear ho hg hd
              go_wp2_with fail
              go_roundw
              case rel => exact ⟨t + 1, by omega, by simp, HN⟩
              case measure => simp [intOf]; omega
            · obtain rfl : t = 64 := by omega
              obtain ⟨g3, c3, rfl, _⟩ := hs.out.own.full (by simp)
              have HL3 := hide (hA.out.grow hlt hs.out)
              have HMW := hide (show ∀ g, _ → g < w2.heap.size from fun g (e : _ = some g) => (hA.out.more.lt e).2)
              have HVW := hide (show ∀ i, i < n → ∀ g, (vs i).ownBlock = some g → g < w2.heap.size from fun i hi g e => ((hA.out.aps.own i hi).lt e).2)
              have h1c := hs.out.own.one
              have HR := hide (HL3.out.more)
              have hk1 : ((List.range k).map gs).length ≤ 1000 := by simp; omega
              have hsz1 : ∀ o : Obj, B ≤ (w3.alloc o).heap.size := fun o => by have := HSZ.out; simp; omega
              clear hcell
              go_wp2_with (first
                | (at_builtin; refine wpList_appR rfl (.tmp 55) (.tmp 57) rfl B _ ((List.range k).map gs) rfl (HR.out.keep (w' := w3.alloc _) fun g e => Below.heap_alloc _ _ _ (HR.out.lt e).2) w3.heap.size 1 _ rfl (cell_of_row _ w3.heap.size 0 _ _ (0, 0) (heap_alloc_new w3 _)) h1c hk1 (hsz1 _) ?_)
                | go_in)
              intro v1 w4 ho hg hd
              have HN := hide (L2St.push HL3.out hlt hs.out HVW.out HMW.out _ (mv' := v1) (u' := w4) (by simpa using ho) hg (by simpa using hd))
              clear ho hg hd
              go_wp2_with fail
              go_roundw
              case rel => exact ⟨k + 1, _, by omega, by simp, HN⟩
              case measure => simp [intOf]; omega
        · obtain rfl : n = k := by omega
          have HA2 := hide hA.out.aps
          have HO2 := hide hA.out.own
          have HM2 := hide hA.out.more
          have HB2 := hide hA.out.below
          clear hA
          as_aux_lemma =>
          go_wp2_with fail
          go_loop [9] (fun i => ∃ k : Nat, k ≤ n ∧ i = .int .i64 k) (fun i => n - (intOf i).toNat)
          case atStart => exact ⟨0, by omega, rfl⟩
          case round =>
            obtain ⟨k, hk, rfl⟩ := hrel
            by_cases hlt : k < n
            · as_aux_lemma =>
              have hcell := HA2.out.cell k hlt
              have hin : (0 : Int) ≤ k := by omega
              have hin2 : (k : Int) < n := by omega
              obtain ⟨ad, c, hv, hrow⟩ := (HA2.out.own k hlt).row
              have hml : (msF cs k).length = (cs k).length := by simp [msF]
              rw [hml] at hv
              have hlen := HL.out k hlt
              obtain ⟨mo, mc, rfl, hmc, hmcell⟩ := HM2.out.form (by simp; omega)
              have hmk := hmcell k (gs k) (by simp [hlt])
              obtain ⟨gg, gc, hgv, hBg, hgl, hgc, hgm⟩ := (HO2.out k hlt).full (by simp [msF])
              have hgl2 : (msF cs k ++ List.replicate 64 (150 + k)).length = (cs k).length + 64 := by simp [msF]
              rw [hgl2] at hgv hgc
              have hog := HO2.out k hlt
              rw [hgv] at hog
              have HOG := hide hog
              have HGL := hide hgl2
              have HV := hide hv
              have HR := hide hrow
              have hmn : ((List.range n).map gs).length = n := by simp
              rw [hmn] at hmc
              rw [hgv] at hmk
              rw [hv] at hcell
              clear hv hrow hmcell hog hml hgl2 hmn hgv
              go_wp2_with fail
              go_loop [10] (fun i => ∃ j : Nat, j ≤ (cs k).length + 64 ∧ i = .int .i64 j) (fun i => (cs k).length + 64 - (intOf i).toNat)
              case atStart => exact ⟨0, by omega, rfl⟩
              case round =>
                obtain ⟨j, hj, rfl⟩ := hrel
                by_cases hjl : j < (cs k).length + 64
                · have hcg := HOG.out.cell HGL.out.symm hjl
                  have hjn : (0 : Int) ≤ j := by omega
                  have hjn2 : (j : Int) < (((cs k).length + 64 : Nat) : Int) := by omega
                  by_cases hjr : j < (cs k).length
                  · obtain ⟨b, off, rfl, _, hc⟩ := HR.out.at_ (i := j) (by simpa [msF] using hjr)
                    have e1 : (msF cs k).getD j 0 = 100 + k := by simp [msF, List.getD, hjr]
                    have e2 : (msF cs k ++ List.replicate 64 (150 + k)).getD j 0 = 100 + k := by
                      simp [msF, List.getD, List.getElem?_append_left, hjr]
                    rw [e1] at hc
                    rw [e2] at hcg
                    clear e1 e2
                    go_wp2_with fail
                    go_round
                    case rel => exact ⟨j + 1, by omega, by simp⟩
                    case measure => simp [intOf]; omega
                  · have e2 : (msF cs k ++ List.replicate 64 (150 + k)).getD j 0 = 150 + k := by
                      simp only [List.getD]
                      have hm : (msF cs k).length = (cs k).length := by simp [msF]
                      rw [List.getElem?_append_right (by rw [hm]; omega), List.getElem?_replicate, if_pos (by rw [hm]; omega)]
                      rfl
                    rw [e2] at hcg
                    clear e2
                    go_wp2_with fail
                    go_round
                    case rel => exact ⟨j + 1, by omega, by simp⟩
                    case measure => simp [intOf]; omega
                · obtain rfl : j = (cs k).length + 64 := by omega
                  go_wp2_with fail
                  go_round
                  case rel => exact ⟨k + 1, by omega, by simp⟩
                  case measure => simp [intOf]; omega
            · obtain rfl : n = k := by omega
              go_wp2_with fail
              go_ret
              exact ⟨rfl, HB2.out⟩
end Go.Proofs.YtknkkoemghceeaaDoor
