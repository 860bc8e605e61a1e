/- outpostref07.Walk of a good code. -/
import Derived.Test.YtpmnbdkncmjafaaRows
import Derived.Test.YtpmnbdkncmjafaaRWalkBad
import Derived.Test.YtpmnbdkncmjafaaWalkGood
import Derived.Test.YtpmnbdkncmjafaaTKnows
import Derived.OneCell
import Derived.OwnWalk
import Derived.WalkKit
import Derived.Deep.RegionHeld3
namespace Go.Proofs.Ytpmnbdkncmjafaa
open Go.RowKit

theorem box3 {w v : World} {a b c : Value} {t : TypeId} (h : Below (w.alloc (.cells #[a, b, c] t)).heap.size (w.alloc (.cells #[a, b, c] t)) v) : v.cell? ⟨w.heap.size, 0, none⟩ = some a ∧ v.cell? ⟨w.heap.size, 1, none⟩ = some b ∧ v.cell? ⟨w.heap.size, 2, none⟩ = some c ∧
    v.frozen? ⟨w.heap.size, 0, none⟩ = false ∧ v.frozen? ⟨w.heap.size, 1, none⟩ = false ∧ v.frozen? ⟨w.heap.size, 2, none⟩ = false ∧ w.heap.size < v.heap.size :=
  ⟨bcell h (by simp) (by simp [go_sem]), bcell h (by simp) (by simp [go_sem]), bcell h (by simp) (by simp [go_sem]), bfrozen h (by simp) (by simp [go_sem]), bfrozen h (by simp) (by simp [go_sem]), bfrozen h (by simp) (by simp [go_sem]), by have := h.size; simp at this; omega⟩
theorem below_then {w u v : World} (h : Below w.heap.size w u) (h2 : Below u.heap.size u v) : Below w.heap.size w v := h.trans (h2.mono h.size)
set_option maxRecDepth 100000 in
set_option maxHeartbeats 1000000 in
theorem rwalk_two (j a b c s : Nat) (hj : 1 ≤ j ∧ j ≤ 30) (hA : a ≤ 4294967295) (hB : b ≤ 4294967295) (hC : c ≤ 4294967295) (hs : s < 2 ^ (j + 1)) (hs2 : s ≤ 4294967295) (xs : List Nat) (bk off cap : Nat) (hr : rightF (j + 2) 2 a b c s 0 = 0) (hgood : ∀ i, i < xs.length → xs.getD i 0 ≤ 1) (hshort : xs.length ≤ 1055) (w : World) (hx : ∀ i, i < xs.length → w.cell? ⟨bk, off + i, none⟩ = some (.int .u8 (xs.getD i 0 : Nat))) (hbk : bk < w.heap.size) :
    Calls Try.prog 21 #[.agg #[.int .i64 (j + 2), .int .i64 2, .int .u32 a, .int .u32 b, .int .u32 c], .int .u32 s, .slice (some ⟨bk, off, none⟩) xs.length cap] w fun e w' => ∃ v, e = .returned (.tuple #[.int .u32 (stAt (j + 1) s xs xs.length), v, .int .i64 0]) ∧ w'.ownsRow (w.heap.size + 1) 5 1 v (2 * xs.length) (bytesV (symsAt 2 a b c (j + 1) s xs xs.length)) ∧ Below w.heap.size w w' := by
  have HC := hide (wrong_any (j + 2) 2 a b c s 0 hA hB hC hs2 (by omega))
  rw [hr] at HC
  have HX := hide hx
  have HB := hide hgood
  clear hr hx hgood
  obtain ⟨i0, hi, hi0, hi1, hi2⟩ := info_u8
  have hp1 : 2 ^ (j + 1) ≤ 2 ^ 31 := Nat.pow_le_pow_right (by omega) (by omega)
  have HS := hide fun k (hk : k < xs.length) (W : World) => next_any (j + 1) a b c (stAt (j + 1) s xs k) (xs.getD k 0) 2 (.inl rfl) (by omega) hA hB hC (by have := stAt_lt (xs := xs) hs k; omega) (HB.out k hk) W
  rw [show (((j + 1 : Nat) : Int) + 1) = (j : Int) + 2 by omega] at HS
  clear hp1
  go_enter Try.func21, Try.ntmps21
  go_wp2_with fail
  refine (HC.out _).mono ?_
  rintro e w1 ⟨rfl, hb1⟩
  have hb := below_one hb1
  have HXW := hide fun i (hi : i < xs.length) => bcell hb hbk (HX.out i hi)
  have hz1 : w.heap.size < w1.heap.size := by have := hb1.size; simp at this; omega
  have c0 := bcell hb1 (b := w.heap.size) (o := 0) (v := .int .i64 (j + 2)) (by simp) (by simp [go_sem])
  have c1 := bcell hb1 (b := w.heap.size) (o := 1) (v := .int .i64 2) (by simp) (by simp [go_sem])
  have c2 := bcell hb1 (b := w.heap.size) (o := 2) (v := .int .u32 a) (by simp) (by simp [go_sem])
  have c3 := bcell hb1 (b := w.heap.size) (o := 3) (v := .int .u32 b) (by simp) (by simp [go_sem])
  have c4 := bcell hb1 (b := w.heap.size) (o := 4) (v := .int .u32 c) (by simp) (by simp [go_sem])
  go_wp2_with fail
  go_loop [10] (fun i => ∃ k : Nat, k ≤ xs.length ∧ i = .int .i64 k) (fun i => xs.length - (intOf i).toNat)
  case atStart => exact ⟨0, by omega, rfl⟩
  case round =>
    obtain ⟨k, hk, rfl⟩ := hrel
    by_cases hlt : k < xs.length
    · have hck := HXW.out k hlt
      generalize hy : xs.getD k 0 = y at *
      have HY := hide hy
      clear hy
      have hyb : y ≤ 1 := by have := HB.out k hlt; rw [HY.out] at this; exact this
      go_wp2_with fail
      go_round
      case rel => exact ⟨k + 1, by omega, by simp⟩
      case measure => simp [intOf]; omega
    · go_wp2_with fail
      go_loopw [1, 11, 12] (fun s' v i wr => ∃ k : Nat, k ≤ xs.length ∧ i = .int .i64 k ∧ s' = .int .u32 (stAt (j + 1) s xs k) ∧ wr.ownsRow (w.heap.size + 1) 5 1 v (2 * k) (bytesV (symsAt 2 a b c (j + 1) s xs k)) ∧ w1.heap.size ≤ wr.heap.size ∧ Below (w.heap.size + 1) w1 wr) (fun _ _ i _ => xs.length - (intOf i).toNat)
      case atStart => exact ⟨0, by omega, rfl, rfl, World.ownsRow_nil _ _ _ _, Nat.le_refl _, Below.refl _ _⟩
      case round =>
        rename_i wr _
        obtain ⟨k, hk, rfl, rfl, hown, hsz, hbl⟩ := hrel
        have hz2 : w.heap.size < wr.heap.size := by omega
        have c0 := bcell hbl (by omega) c0
        have c1 := bcell hbl (by omega) c1
        have c2 := bcell hbl (by omega) c2
        have c3 := bcell hbl (by omega) c3
        have c4 := bcell hbl (by omega) c4
        by_cases hlt : k < xs.length
        · have hck := bcell hbl (by omega) (HXW.out k hlt)
          have HSk := HS.out k hlt
          have hnext : stAt (j + 1) s xs (k + 1) = (2 * stAt (j + 1) s xs k + xs.getD k 0) % 2 ^ (j + 1) := rfl
          have hsyms : symsAt 2 a b c (j + 1) s xs (k + 1) = symsAt 2 a b c (j + 1) s xs k ++ [outF (2 * stAt (j + 1) s xs k + xs.getD k 0) a, outF (2 * stAt (j + 1) s xs k + xs.getD k 0) b] := rfl
          generalize xs.getD k 0 = y at *
          generalize stAt (j + 1) s xs k = st at *
          generalize (2 * st + y) % 2 ^ (j + 1) = st2 at *
          generalize outF (2 * st + y) a = y0 at *
          generalize outF (2 * st + y) b = y1 at *
          generalize third 2 (outF (2 * st + y) c) = y2 at *
          have HK := hide HSk
          have HN := hide hnext
          have HY := hide hsyms
          clear HSk hnext hsyms
          go_wp2_with fail
          have HU := hide fun (u : World) (h : Below wr.heap.size wr u) => (⟨bcell h (by omega) c0, bcell h (by omega) c1, bcell h (by omega) c2, bcell h (by omega) c3, bcell h (by omega) c4, bcell h (by omega) hck, h⟩ :
            u.cell? ⟨w.heap.size, 0, none⟩ = some (.int .i64 (j + 2)) ∧ u.cell? ⟨w.heap.size, 1, none⟩ = some (.int .i64 2) ∧ u.cell? ⟨w.heap.size, 2, none⟩ = some (.int .u32 a) ∧ u.cell? ⟨w.heap.size, 3, none⟩ = some (.int .u32 b) ∧ u.cell? ⟨w.heap.size, 4, none⟩ = some (.int .u32 c) ∧ u.cell? ⟨bk, off + k, none⟩ = some (.int .u8 y) ∧ Below wr.heap.size wr u)
          have HR := hide fun (v : World) (h : Below ((wr.alloc (.cells #[.int .u8 0, .int .u8 0, .int .u8 0] 26)).drew).heap.size ((wr.alloc (.cells #[.int .u8 0, .int .u8 0, .int .u8 0] 26)).drew) v) => box3 (below_drewL h)
          go_region_held3 (fun u => u.cell? ⟨w.heap.size, 0, none⟩ = some (.int .i64 (j + 2)) ∧ u.cell? ⟨w.heap.size, 1, none⟩ = some (.int .i64 2) ∧ u.cell? ⟨w.heap.size, 2, none⟩ = some (.int .u32 a) ∧ u.cell? ⟨w.heap.size, 3, none⟩ = some (.int .u32 b) ∧ u.cell? ⟨w.heap.size, 4, none⟩ = some (.int .u32 c) ∧ u.cell? ⟨bk, off + k, none⟩ = some (.int .u8 y) ∧ Below wr.heap.size wr u)
            (first | exact HU.out _ (Below.refl _ _).drew | exact HU.out _ (below_then (Below.refl _ _).drew hb2) | exact HU.out _ (below_then ((Below.refl _ _).drew.alloc (Nat.le_refl _) _) hb2) | exact HU.out _ ((below_then (Below.refl _ _).drew hb2).alloc hb2.size _) | exact HU.out _ ((((below_then ((Below.refl _ _).drew.alloc (Nat.le_refl _) _) hb2).setCell (Nat.le_refl _) _).setCell (Nat.le_refl _) _).setCell (Nat.le_refl _) _) | exact HU.out _ ((Below.refl _ _).drew.alloc (Nat.le_refl _) _))
            ((go_at_call 37; refine (HK.out _).mono ?_; rintro e w2 ⟨rfl, hb2⟩; try (have hR := HR.out _ hb2; obtain ⟨r0, r1, r2, f0, f1, f2, hz3⟩ := hR)))
          · have hown2 := owns_below hown (below_drewL hb2)
            have hown3 := hown2.alloc (.cells #[.int .u8 y0, .int .u8 y1, .int .u8 y2] 26)
            have hz3 : w.heap.size < w2.heap.size := Nat.lt_of_lt_of_le hz2 hb2.size
            replace c1 := bcell hb2 hz2 c1
            go_wp2_with (first
              | (at_builtin; refine wpList_append_own _ rfl _ _ 38 rfl (w.heap.size + 1) 5 i0 (.int .u8 0) 1 1 Try.underlying38 hi hi0 hi1 hi2 rfl (by decide) _ _ _ rfl hown3 ⟨w2.heap.size, 0, none⟩ 2 3 [.int .u8 y0, .int .u8 y1] rfl rfl ?c1 ?c2 ?c3 ?c4 ?c5 ?_)
              | go_in)
            case c1 =>
              intro j u hj
              match j, hj with
              | 0, hj => simp at hj; subst hj; simp [Addr.add, go_sem]
              | 1, hj => simp at hj; subst hj; simp [Addr.add, go_sem]
            case c2 => intro u hu; simp at hu; rcases hu with rfl | rfl <;> rfl
            case c3 => unfold maxLen; omega
            case c4 => omega
            case c5 => simp; omega
            · intro v' w4 hown' hgrow _
              have hbl2 : Below (w.heap.size + 1) w1 w2 := hbl.trans ((below_drewL hb2).mono (by show w.heap.size + 1 ≤ wr.heap.size; omega))
              have hbl3 := hbl2.alloc (by have := hbl2.size; omega) (.cells #[.int .u8 y0, .int .u8 y1, .int .u8 y2] 26)
              have hbl4 := hbl3.grown hgrow (by simp; omega) (fun k e => (hown.lt k e).1)
              go_wp2_with fail
              go_roundw
              case rel => exact ⟨k + 1, by omega, by simp, by rw [HN.out], by rw [HY.out, bytesV_append]; exact hown', hbl4.size, hbl4⟩
              case measure => simp [intOf]; omega
          · have hown2 := owns_below (hown.alloc _) (below_drewL hb2)
            have hown3 := fun (u0 u1 u2 : Value) => ownsRow_setCell_other (ownsRow_setCell_other (ownsRow_setCell_other hown2 (a := ⟨wr.heap.size, 0, none⟩) (fun e => absurd (hown.lt _ e).2 (Nat.lt_irrefl _)) u0) (a := ⟨wr.heap.size, 1, none⟩) (fun e => absurd (hown.lt _ e).2 (Nat.lt_irrefl _)) u1) (a := ⟨wr.heap.size, 2, none⟩) (fun e => absurd (hown.lt _ e).2 (Nat.lt_irrefl _)) u2
            replace c1 := bcell_mid (below_drewL hb2) hz2 c1
            go_wp2_with (first
              | (at_builtin; refine wpList_append_own _ rfl _ _ 38 rfl (w.heap.size + 1) 5 i0 (.int .u8 0) 1 1 Try.underlying38 hi hi0 hi1 hi2 rfl (by decide) _ _ _ rfl (hown3 _ _ _) ⟨wr.heap.size, 0, none⟩ 2 3 [.int .u8 y0, .int .u8 y1] rfl rfl ?c1 ?c2 ?c3 ?c4 ?c5 ?_)
              | go_in)
            case c1 =>
              intro j u hj
              match j, hj with
              | 0, hj => simp at hj; subst hj; simp [Addr.add, go_sem, r0]
              | 1, hj => simp at hj; subst hj; simp [Addr.add, go_sem, r1]
            case c2 => intro u hu; simp at hu; rcases hu with rfl | rfl <;> rfl
            case c3 => unfold maxLen; omega
            case c4 => omega
            case c5 => simp; omega
            · intro v' w4 hown' hgrow _
              have hbl2 : Below (w.heap.size + 1) w1 w2 := (hbl.alloc (by omega) _).trans ((below_drewL hb2).mono (by simp; omega))
              have hbl3 := ((hbl2.setCell (p := ⟨wr.heap.size, 0, none⟩) (by simp; omega) (.int .u8 y0)).setCell (p := ⟨wr.heap.size, 1, none⟩) (by simp; omega) (.int .u8 y1)).setCell (p := ⟨wr.heap.size, 2, none⟩) (by simp; omega) (.int .u8 y2)
              have hbl4 := hbl3.grown hgrow (by simp; omega) (fun k e => (hown.lt k e).1)
              go_wp2_with fail
              go_roundw
              case rel => exact ⟨k + 1, by omega, by simp, by rw [HN.out], by rw [HY.out, bytesV_append]; exact hown', hbl4.size, hbl4⟩
              case measure => simp [intOf]; omega
        · go_wp2_with fail
          obtain rfl : k = xs.length := by omega
          refine bodyPost_ret (v := .tuple #[.int .u32 (stAt (j + 1) s xs xs.length), u11, .int .i64 0]) (by simp [results, Try.results21, go_sem]) rfl ⟨u11, rfl, hown, ?_⟩
          exact (below_one hb1).trans (hbl.mono (by omega))
set_option maxRecDepth 100000 in
set_option maxHeartbeats 1000000 in
theorem rwalk_three (j a b c s : Nat) (hj : 1 ≤ j ∧ j ≤ 30) (hA : a ≤ 4294967295) (hB : b ≤ 4294967295) (hC : c ≤ 4294967295) (hs : s < 2 ^ (j + 1)) (hs2 : s ≤ 4294967295) (xs : List Nat) (bk off cap : Nat) (hr : rightF (j + 2) 3 a b c s 0 = 0) (hgood : ∀ i, i < xs.length → xs.getD i 0 ≤ 1) (hshort : xs.length ≤ 1055) (w : World) (hx : ∀ i, i < xs.length → w.cell? ⟨bk, off + i, none⟩ = some (.int .u8 (xs.getD i 0 : Nat))) (hbk : bk < w.heap.size) :
    Calls Try.prog 21 #[.agg #[.int .i64 (j + 2), .int .i64 3, .int .u32 a, .int .u32 b, .int .u32 c], .int .u32 s, .slice (some ⟨bk, off, none⟩) xs.length cap] w fun e w' => ∃ v, e = .returned (.tuple #[.int .u32 (stAt (j + 1) s xs xs.length), v, .int .i64 0]) ∧ w'.ownsRow (w.heap.size + 1) 5 1 v (3 * xs.length) (bytesV (symsAt 3 a b c (j + 1) s xs xs.length)) ∧ Below w.heap.size w w' := by
  have HC := hide (wrong_any (j + 2) 3 a b c s 0 hA hB hC hs2 (by omega))
  rw [hr] at HC
  have HX := hide hx
  have HB := hide hgood
  clear hr hx hgood
  obtain ⟨i0, hi, hi0, hi1, hi2⟩ := info_u8
  have hp1 : 2 ^ (j + 1) ≤ 2 ^ 31 := Nat.pow_le_pow_right (by omega) (by omega)
  have HS := hide fun k (hk : k < xs.length) (W : World) => next_any (j + 1) a b c (stAt (j + 1) s xs k) (xs.getD k 0) 3 (.inr rfl) (by omega) hA hB hC (by have := stAt_lt (xs := xs) hs k; omega) (HB.out k hk) W
  rw [show (((j + 1 : Nat) : Int) + 1) = (j : Int) + 2 by omega] at HS
  clear hp1
  go_enter Try.func21, Try.ntmps21
  go_wp2_with fail
  refine (HC.out _).mono ?_
  rintro e w1 ⟨rfl, hb1⟩
  have hb := below_one hb1
  have HXW := hide fun i (hi : i < xs.length) => bcell hb hbk (HX.out i hi)
  have hz1 : w.heap.size < w1.heap.size := by have := hb1.size; simp at this; omega
  have c0 := bcell hb1 (b := w.heap.size) (o := 0) (v := .int .i64 (j + 2)) (by simp) (by simp [go_sem])
  have c1 := bcell hb1 (b := w.heap.size) (o := 1) (v := .int .i64 3) (by simp) (by simp [go_sem])
  have c2 := bcell hb1 (b := w.heap.size) (o := 2) (v := .int .u32 a) (by simp) (by simp [go_sem])
  have c3 := bcell hb1 (b := w.heap.size) (o := 3) (v := .int .u32 b) (by simp) (by simp [go_sem])
  have c4 := bcell hb1 (b := w.heap.size) (o := 4) (v := .int .u32 c) (by simp) (by simp [go_sem])
  go_wp2_with fail
  go_loop [10] (fun i => ∃ k : Nat, k ≤ xs.length ∧ i = .int .i64 k) (fun i => xs.length - (intOf i).toNat)
  case atStart => exact ⟨0, by omega, rfl⟩
  case round =>
    obtain ⟨k, hk, rfl⟩ := hrel
    by_cases hlt : k < xs.length
    · have hck := HXW.out k hlt
      generalize hy : xs.getD k 0 = y at *
      have HY := hide hy
      clear hy
      have hyb : y ≤ 1 := by have := HB.out k hlt; rw [HY.out] at this; exact this
      go_wp2_with fail
      go_round
      case rel => exact ⟨k + 1, by omega, by simp⟩
      case measure => simp [intOf]; omega
    · go_wp2_with fail
      go_loopw [1, 11, 12] (fun s' v i wr => ∃ k : Nat, k ≤ xs.length ∧ i = .int .i64 k ∧ s' = .int .u32 (stAt (j + 1) s xs k) ∧ wr.ownsRow (w.heap.size + 1) 5 1 v (3 * k) (bytesV (symsAt 3 a b c (j + 1) s xs k)) ∧ w1.heap.size ≤ wr.heap.size ∧ Below (w.heap.size + 1) w1 wr) (fun _ _ i _ => xs.length - (intOf i).toNat)
      case atStart => exact ⟨0, by omega, rfl, rfl, World.ownsRow_nil _ _ _ _, Nat.le_refl _, Below.refl _ _⟩
      case round =>
        rename_i wr _
        obtain ⟨k, hk, rfl, rfl, hown, hsz, hbl⟩ := hrel
        have hz2 : w.heap.size < wr.heap.size := by omega
        have c0 := bcell hbl (by omega) c0
        have c1 := bcell hbl (by omega) c1
        have c2 := bcell hbl (by omega) c2
        have c3 := bcell hbl (by omega) c3
        have c4 := bcell hbl (by omega) c4
        by_cases hlt : k < xs.length
        · have hck := bcell hbl (by omega) (HXW.out k hlt)
          have HSk := HS.out k hlt
          have hnext : stAt (j + 1) s xs (k + 1) = (2 * stAt (j + 1) s xs k + xs.getD k 0) % 2 ^ (j + 1) := rfl
          have hsyms : symsAt 3 a b c (j + 1) s xs (k + 1) = symsAt 3 a b c (j + 1) s xs k ++ [outF (2 * stAt (j + 1) s xs k + xs.getD k 0) a, outF (2 * stAt (j + 1) s xs k + xs.getD k 0) b, third 3 (outF (2 * stAt (j + 1) s xs k + xs.getD k 0) c)] := rfl
          generalize xs.getD k 0 = y at *
          generalize stAt (j + 1) s xs k = st at *
          generalize (2 * st + y) % 2 ^ (j + 1) = st2 at *
          generalize outF (2 * st + y) a = y0 at *
          generalize outF (2 * st + y) b = y1 at *
          generalize third 3 (outF (2 * st + y) c) = y2 at *
          have HK := hide HSk
          have HN := hide hnext
          have HY := hide hsyms
          clear HSk hnext hsyms
          go_wp2_with fail
          have HU := hide fun (u : World) (h : Below wr.heap.size wr u) => (⟨bcell h (by omega) c0, bcell h (by omega) c1, bcell h (by omega) c2, bcell h (by omega) c3, bcell h (by omega) c4, bcell h (by omega) hck, h⟩ :
            u.cell? ⟨w.heap.size, 0, none⟩ = some (.int .i64 (j + 2)) ∧ u.cell? ⟨w.heap.size, 1, none⟩ = some (.int .i64 3) ∧ u.cell? ⟨w.heap.size, 2, none⟩ = some (.int .u32 a) ∧ u.cell? ⟨w.heap.size, 3, none⟩ = some (.int .u32 b) ∧ u.cell? ⟨w.heap.size, 4, none⟩ = some (.int .u32 c) ∧ u.cell? ⟨bk, off + k, none⟩ = some (.int .u8 y) ∧ Below wr.heap.size wr u)
          have HR := hide fun (v : World) (h : Below ((wr.alloc (.cells #[.int .u8 0, .int .u8 0, .int .u8 0] 26)).drew).heap.size ((wr.alloc (.cells #[.int .u8 0, .int .u8 0, .int .u8 0] 26)).drew) v) => box3 (below_drewL h)
          go_region_held3 (fun u => u.cell? ⟨w.heap.size, 0, none⟩ = some (.int .i64 (j + 2)) ∧ u.cell? ⟨w.heap.size, 1, none⟩ = some (.int .i64 3) ∧ u.cell? ⟨w.heap.size, 2, none⟩ = some (.int .u32 a) ∧ u.cell? ⟨w.heap.size, 3, none⟩ = some (.int .u32 b) ∧ u.cell? ⟨w.heap.size, 4, none⟩ = some (.int .u32 c) ∧ u.cell? ⟨bk, off + k, none⟩ = some (.int .u8 y) ∧ Below wr.heap.size wr u)
            (first | exact HU.out _ (Below.refl _ _).drew | exact HU.out _ (below_then (Below.refl _ _).drew hb2) | exact HU.out _ (below_then ((Below.refl _ _).drew.alloc (Nat.le_refl _) _) hb2) | exact HU.out _ ((below_then (Below.refl _ _).drew hb2).alloc hb2.size _) | exact HU.out _ ((((below_then ((Below.refl _ _).drew.alloc (Nat.le_refl _) _) hb2).setCell (Nat.le_refl _) _).setCell (Nat.le_refl _) _).setCell (Nat.le_refl _) _) | exact HU.out _ ((Below.refl _ _).drew.alloc (Nat.le_refl _) _))
            ((go_at_call 37; refine (HK.out _).mono ?_; rintro e w2 ⟨rfl, hb2⟩; try (have hR := HR.out _ hb2; obtain ⟨r0, r1, r2, f0, f1, f2, hz3⟩ := hR)))
          · have hown2 := owns_below hown (below_drewL hb2)
            have hown3 := hown2.alloc (.cells #[.int .u8 y0, .int .u8 y1, .int .u8 y2] 26)
            have hz3 : w.heap.size < w2.heap.size := Nat.lt_of_lt_of_le hz2 hb2.size
            replace c1 := bcell hb2 hz2 c1
            go_wp2_with (first
              | (at_builtin; refine wpList_append_own _ rfl _ _ 38 rfl (w.heap.size + 1) 5 i0 (.int .u8 0) 1 1 Try.underlying38 hi hi0 hi1 hi2 rfl (by decide) _ _ _ rfl hown3 ⟨w2.heap.size, 0, none⟩ 3 3 [.int .u8 y0, .int .u8 y1, .int .u8 y2] rfl rfl ?c1 ?c2 ?c3 ?c4 ?c5 ?_)
              | go_in)
            case c1 =>
              intro j u hj
              match j, hj with
              | 0, hj => simp at hj; subst hj; simp [Addr.add, go_sem]
              | 1, hj => simp at hj; subst hj; simp [Addr.add, go_sem]
              | 2, hj => simp at hj; subst hj; simp [Addr.add, go_sem]
            case c2 => intro u hu; simp at hu; rcases hu with rfl | rfl | rfl <;> rfl
            case c3 => unfold maxLen; omega
            case c4 => omega
            case c5 => simp; omega
            · intro v' w4 hown' hgrow _
              have hbl2 : Below (w.heap.size + 1) w1 w2 := hbl.trans ((below_drewL hb2).mono (by show w.heap.size + 1 ≤ wr.heap.size; omega))
              have hbl3 := hbl2.alloc (by have := hbl2.size; omega) (.cells #[.int .u8 y0, .int .u8 y1, .int .u8 y2] 26)
              have hbl4 := hbl3.grown hgrow (by simp; omega) (fun k e => (hown.lt k e).1)
              go_wp2_with fail
              go_roundw
              case rel => exact ⟨k + 1, by omega, by simp, by rw [HN.out], by rw [HY.out, bytesV_append]; exact hown', hbl4.size, hbl4⟩
              case measure => simp [intOf]; omega
          · have hown2 := owns_below (hown.alloc _) (below_drewL hb2)
            have hown3 := fun (u0 u1 u2 : Value) => ownsRow_setCell_other (ownsRow_setCell_other (ownsRow_setCell_other hown2 (a := ⟨wr.heap.size, 0, none⟩) (fun e => absurd (hown.lt _ e).2 (Nat.lt_irrefl _)) u0) (a := ⟨wr.heap.size, 1, none⟩) (fun e => absurd (hown.lt _ e).2 (Nat.lt_irrefl _)) u1) (a := ⟨wr.heap.size, 2, none⟩) (fun e => absurd (hown.lt _ e).2 (Nat.lt_irrefl _)) u2
            replace c1 := bcell_mid (below_drewL hb2) hz2 c1
            go_wp2_with (first
              | (at_builtin; refine wpList_append_own _ rfl _ _ 38 rfl (w.heap.size + 1) 5 i0 (.int .u8 0) 1 1 Try.underlying38 hi hi0 hi1 hi2 rfl (by decide) _ _ _ rfl (hown3 _ _ _) ⟨wr.heap.size, 0, none⟩ 3 3 [.int .u8 y0, .int .u8 y1, .int .u8 y2] rfl rfl ?c1 ?c2 ?c3 ?c4 ?c5 ?_)
              | go_in)
            case c1 =>
              intro j u hj
              match j, hj with
              | 0, hj => simp at hj; subst hj; simp [Addr.add, go_sem, r0]
              | 1, hj => simp at hj; subst hj; simp [Addr.add, go_sem, r1]
              | 2, hj => simp at hj; subst hj; simp [Addr.add, go_sem, r2]
            case c2 => intro u hu; simp at hu; rcases hu with rfl | rfl | rfl <;> rfl
            case c3 => unfold maxLen; omega
            case c4 => omega
            case c5 => simp; omega
            · intro v' w4 hown' hgrow _
              have hbl2 : Below (w.heap.size + 1) w1 w2 := (hbl.alloc (by omega) _).trans ((below_drewL hb2).mono (by simp; omega))
              have hbl3 := ((hbl2.setCell (p := ⟨wr.heap.size, 0, none⟩) (by simp; omega) (.int .u8 y0)).setCell (p := ⟨wr.heap.size, 1, none⟩) (by simp; omega) (.int .u8 y1)).setCell (p := ⟨wr.heap.size, 2, none⟩) (by simp; omega) (.int .u8 y2)
              have hbl4 := hbl3.grown hgrow (by simp; omega) (fun k e => (hown.lt k e).1)
              go_wp2_with fail
              go_roundw
              case rel => exact ⟨k + 1, by omega, by simp, by rw [HN.out], by rw [HY.out, bytesV_append]; exact hown', hbl4.size, hbl4⟩
              case measure => simp [intOf]; omega
        · go_wp2_with fail
          obtain rfl : k = xs.length := by omega
          refine bodyPost_ret (v := .tuple #[.int .u32 (stAt (j + 1) s xs xs.length), u11, .int .i64 0]) (by simp [results, Try.results21, go_sem]) rfl ⟨u11, rfl, hown, ?_⟩
          exact (below_one hb1).trans (hbl.mono (by omega))
end Go.Proofs.Ytpmnbdkncmjafaa
