/- outpostref04.Shortest, walked. -/
import Derived.Test.YtknkkoemghceeaaDoorRows
import Derived.Test.YtknkkoemghceeaaDoorR4Rows
import Derived.Test.YtknkkoemghceeaaDoorR4Makes
namespace Go.Proofs.YtknkkoemghceeaaDoor
open Go.RowKit
open Gf2.BM

theorem rshort_size (ad : Option Addr) (cp n : Nat) (hn : 63 < n) (w : World) :
    Calls Tryd.prog 48 #[.slice ad n cp] w fun e w' => e = .returned (.tuple #[.int .i64 0, .int .u64 0, .int .i64 6]) ∧ w = w' := by
  have h : (63 : Int) < n := by omega
  clear hn
  go_enter Tryd.func48, Tryd.ntmps48
  go_wp2_with fail
  go_ret3
  exact ⟨rfl, rfl⟩
theorem rshort_bad (ad : Option Addr) (cp : Nat) (xs : List Nat) (hn : xs.length ≤ 63) (hx : ¬ ∀ i, xs.getD i 0 ≤ 1) (w : World) (hr : RowA w ad xs) :
    Calls Tryd.prog 48 #[.slice ad xs.length cp] w fun e w' => e = .returned (.tuple #[.int .i64 0, .int .u64 0, .int .i64 10]) ∧ w = w' := by
  have HN := hide (right_no ad cp xs (by omega) hx w hr)
  have h : ¬ (63 : Int) < xs.length := by omega
  clear hx hr
  generalize xs.length = n at *
  go_enter Tryd.func48, Tryd.ntmps48
  go_wp2_with fail
  refine HN.out.mono ?_
  rintro e w' ⟨rfl, rfl⟩
  go_wp2_with fail
  go_ret3
  exact ⟨rfl, rfl⟩
set_option maxRecDepth 100000 in
set_option maxHeartbeats 1000000 in
theorem rshort_ok (ad : Option Addr) (cp : Nat) (xs : List Nat) (hlen : xs.length ≤ 63) (hx : ∀ i, xs.getD i 0 ≤ 1) (w : World) (hr : RowA w ad xs) :
    Calls Tryd.prog 48 #[.slice ad xs.length cp] w fun e w' => e = .returned (.tuple #[.int .i64 ((run (rowN xs) xs.length).L : Nat), .int .u64 (fin (rowN xs) xs.length : Nat), .int .i64 0]) ∧ Below w.heap.size w w' := by
  have HR := hide hr
  have HY := hide (right_yes ad cp xs (by omega) (fun i _ => hx i))
  have HROWS := hide (fun (L : Nat) (hL : L ≤ xs.length) => rows_any ad cp xs L hL hlen hx)
  have HSV := hide (fun (L : Nat) (h : L < 64) => sv_run hx h)
  have HBD := hide (fun L => rowsL_lt hx L)
  have HDONE := hide (fun (L : Nat) (l : List Nat) (c : Nat) (h : L < 64) => Grd.done (c := c) (l := l) hx h)
  have hM := run_le (rowN xs) xs.length
  obtain ⟨M, hMe⟩ : ∃ M, M = (run (rowN xs) xs.length).L := ⟨_, rfl⟩
  rw [← hMe] at hM HSV HDONE ⊢
  generalize hF : fin (rowN xs) xs.length = F at *
  obtain ⟨n, hn⟩ : ∃ n, xs.length = n := ⟨_, rfl⟩
  rw [hn] at hM hlen ⊢
  have HRL := hide (fun L => rowsL_length xs L)
  have HN := hide hn
  have h63 : ¬ (63 : Int) < n := by omega
  rw [hn] at HY HROWS
  clear hr hx hn hMe hF
  go_enter Tryd.func48, Tryd.ntmps48
  go_wp2_with fail
  refine (HY.out _ HR.out).mono ?_
  rintro e w' ⟨rfl, rfl⟩
  go_wp2_with fail
  go_loopw [5] (fun ll u => ∃ L : Nat, L ≤ M ∧ ll = .int .i64 L ∧ Hid (Below w.heap.size w u)) (fun ll _ => M - (intOf ll).toNat)
  case atStart => exact ⟨0, by omega, rfl, hide (Below.refl _ _)⟩
  case round =>
    rename World => u
    obtain ⟨L, hL, rfl, hB⟩ := hrel
    go_wp2_with fail
    refine (HROWS.out L (by omega) u (HR.out.below hB.out)).mono ?_
    rintro e u1 ⟨v1, rfl, ho1, hb1⟩
    obtain ⟨ad1, cp1, rfl, hrow1⟩ := ho1.row
    rw [u64L_length, HRL.out, HN.out]
    have HQ := hide (solvable_any ad1 cp1 (rowsL xs L) L (by omega) (HBD.out L) (by rw [HRL.out, HN.out]; omega) u1 hrow1)
    rw [HRL.out, HN.out] at HQ
    have HB1 := hide (below_then hB.out hb1)
    clear ho1 hb1 hrow1
    go_wp2_with fail
    refine HQ.out.mono ?_
    rintro e u2 ⟨b, rfl, hb, hb2⟩
    have HB2 := hide (below_then HB1.out hb2)
    have HBV := hide hb
    clear hb hb2
    cases b
    · have hlt : L < M := by
        rcases Nat.lt_or_ge L M with h | h
        · exact h
        · exact absurd (HBV.out.2 ((HSV.out L (by omega)).2 (by omega))) (by simp)
      go_wp2_with fail
      go_roundw
      case rel => exact ⟨L + 1, by omega, by simp, HB2⟩
      case measure => simp [intOf]; omega
    · have hS := HBV.out.1 rfl
      obtain rfl : L = M := by have := (HSV.out L (by omega)).1 hS; omega
      have HS := hide hS
      clear hS HBV HQ HB1
      go_wp2_with fail
      refine (HROWS.out L (by omega) u2 (HR.out.below HB2.out)).mono ?_
      rintro e u3 ⟨v3, rfl, ho3, hb3⟩
      have HB3 := hide (below_then HB2.out hb3)
      have HO3 := hide (ho3.mono (B' := w.heap.size) HB2.out.size)
      have HG := hide (Grd.start HS.out (HBD.out L))
      have hrl : (rowsL xs L).length ≤ 63 := by rw [HRL.out, HN.out]; omega
      clear ho3 hb3
      go_wp2_with fail
      go_loopw [6, 7, 8] (fun vv cc ii u => ∃ (i c : Nat) (l : List Nat) (v : Value), i ≤ L ∧ l.length + i ≤ 63 + L ∧ v = vv ∧ cc = .int .u64 c ∧ ii = .int .i64 i ∧ Hid (Grd L (rowsL xs L) l c i) ∧ Hid (OwnV 22 u w.heap.size v (u64L l)) ∧ Hid (Below w.heap.size w u)) (fun _ _ ii _ => (intOf ii).toNat)
      case atStart => exact ⟨L, 1, rowsL xs L, v3, Nat.le_refl _, by omega, rfl, rfl, rfl, HG, HO3, HB3⟩
      case round =>
        clear HG HO3 HB3 HB2 hB
        rename World => u
        obtain ⟨i, c, l, v, hi, hll, rfl, rfl, rfl, hG, hO, hB⟩ := hrel
        rcases i with _ | i
        · have HE := hide (HDONE.out L l c (by omega) rfl hG.out)
          go_wp2_with fail
          go_ret3
          exact ⟨by rw [← HE.out]; rfl, hB.out⟩
        · obtain ⟨i1, hi1⟩ : ∃ i1, i1 = i + 1 := ⟨_, rfl⟩
          have hG2 := hG.out
          rw [← hi1] at hG2 hi hll ⊢
          have HG2 := hide hG2
          have hi1L : i1 ≤ 63 := by omega
          have hi1I : (1 : Int) ≤ (i1 : Int) := by omega
          have hmin : min i1 64 = i1 := by omega
          have hc64 : c ≤ 18446744073709551615 := by
            have := hG.out.lt
            have h2 : 2 ^ (L + 1) ≤ 2 ^ 64 := Nat.pow_le_pow_right (by omega) (by omega)
            omega
          have hp64 : 2 ^ i1 ≤ 9223372036854775808 := by
            have h2 : 2 ^ i1 ≤ 2 ^ 63 := Nat.pow_le_pow_right (by omega) (by omega)
            simpa using h2
          obtain ⟨P, hP⟩ : ∃ P, P = 2 ^ i1 := ⟨_, rfl⟩
          rw [← hP] at hp64
          have hpe : ((2 : Int) ^ i1) = (P : Int) := by rw [hP]; simp
          have hpw : IntKind.u64.wrap ((2 : Int) ^ i1) = (P : Int) := by rw [hpe]; exact IntWalk.u64_in _ ⟨by omega, by omega⟩
          have hor1 : bits .or .u64 (P : Int) 1 = ((P ||| 1 : Nat) : Int) := or64 (a := P) (b := 1) (by omega) (by omega)
          have hor2 := or64 (a := c) (b := P) (by omega) (by omega)
          have HPP := hide hP
          have HI1 := hide hi1
          have HLL := hide (u64L_length l)
          clear hP hi1 hG hG2
          have H0 := hide (show OwnV 22 (u.alloc (.cells #[] 22)) u.heap.size (.slice (some ⟨u.heap.size, 0, none⟩) 0 0) [] from World.ownsRow_lit u #[] 0 (Nat.le_refl _) (by unfold maxLen; omega) rfl)
          obtain ⟨adl, cpl, hvl, hrowl⟩ := hO.out.row
          rw [HLL.out] at hvl
          subst hvl
          have HROWL := hide hrowl
          clear hrowl
          go_wp2_with (first
            | (at_builtin; refine wpList_appV elem_u64 rfl (.tmp 32) (.tmp 33) rfl u.heap.size _ [] rfl H0.out adl l.length cpl (u64L l) rfl (HROWL.out.alloc _) u64L_one HLL.out.symm ?c1 ?c2 ?c3 ?_)
            | go_in)
          case c1 => rw [HLL.out]; (try simp); omega
          case c2 => rw [HLL.out]; (try simp); omega
          case c3 => simp
          intro va wa hoa hgra _
          have HBA := hide (((Below.refl u.heap.size u).alloc (Nat.le_refl _) (.cells #[] 22)).grown hgra (by simp) (fun k e => by simp [Value.ownBlock] at e; omega))
          have hza := HBA.out.size
          have HOA := hide (OwnV.alloc hoa (.cells #[.int .u64 P] 22))
          have HLT := hide (fun g (e : va.ownBlock = some g) => OwnV.lt hoa e)
          clear hoa hgra
          go_wp2_with (first
            | (at_builtin; refine wpList_appV elem_u64 rfl (.tmp 34) (.tmp 38) rfl u.heap.size va (u64L l) rfl HOA.out (some ⟨wa.heap.size, 0, none⟩) 1 1 [.int .u64 P] rfl ?d0 ?d4 rfl ?d1 ?d2 ?d3 ?_)
            | go_in)
          case d0 => exact RowV.one (by simp [go_sem]) (by simp)
          case d4 => first | rfl | (intro z hz; simp at hz; subst hz; rfl)
          case d1 => rw [HLL.out]; (try simp); omega
          case d2 => rw [HLL.out]; (try simp); omega
          case d3 => (try simp); omega
          intro vb wb hob hgrb _
          have HBB := hide ((HBA.out.alloc HBA.out.size (.cells #[.int .u64 P] 22)).grown hgrb (by simp; omega) (fun g e => (HLT.out g e).1))
          have hob2 : OwnV 22 wb u.heap.size vb (u64L (l ++ [P])) := by rw [u64L_app]; exact hob
          obtain ⟨adb, cpb, rfl, hrowb⟩ := hob2.row
          have HOB := hide hob2
          have hlenb : (l ++ [P]).length = l.length + 1 := by simp
          have HQ := hide (solvable_any adb cpb (l ++ [P]) L (by omega) (bnd_app HG2.out.bnd (by rw [HPP.out]; exact Nat.pow_lt_pow_right (by omega) (by omega))) (by rw [hlenb]; omega) wb hrowb)
          have HLB := hide (u64L_length (l ++ [P]))
          rw [HLB.out]
          rw [HLB.out] at HOB
          rw [hlenb] at HQ HOB ⊢
          clear hob hgrb hob2 hrowb hlenb
          go_wp2_with fail
          refine HQ.out.mono ?_
          rintro e wc ⟨b, rfl, hb, hbc⟩
          have HBC := hide (Below.trans HBB.out (hbc.mono HBB.out.size))
          have HBV := hide hb
          have HBCC := hide hbc
          clear hb hbc
          have HBW := hide (below_then hB.out HBC.out)
          cases b
          · have hns : ¬ Sv L (l ++ [P]) := fun h => absurd (HBV.out.2 h) (by simp)
            have HGR := hide (show Grd L (rowsL xs L) (l ++ [P ||| 1]) (c ||| P) i by
              have h1 := HG2.out
              rw [HI1.out] at h1
              have h2 := h1.one (by have := HI1.out; omega) (by omega) (by rw [← HI1.out, ← HPP.out]; exact hns)
              rw [← HI1.out, ← HPP.out] at h2
              exact h2)
            generalize hP1 : P ||| 1 = P1 at *
            generalize hcP : c ||| P = cP at *
            have HOC := hide ((OwnV.below hO.out HBC.out).alloc (.cells #[.int .u64 P1] 22))
            have HLC := hide (fun g (e : (Value.slice adl l.length cpl).ownBlock = some g) => OwnV.lt hO.out e)
            have hzc := HBW.out.size
            clear hns hP1 hcP
            go_wp2_with (first
              | (at_builtin; refine wpList_appV elem_u64 rfl (.tmp 44) (.tmp 49) rfl w.heap.size _ (u64L l) rfl HOC.out (some ⟨wc.heap.size, 0, none⟩) 1 1 [.int .u64 P1] rfl ?e0 ?e4 rfl ?e1 ?e2 ?e3 ?_)
              | go_in)
            case e0 => exact RowV.one (by simp [go_sem]) (by simp)
            case e4 => first | rfl | (intro z hz; simp at hz; subst hz; rfl)
            case e1 => rw [HLL.out]; (try simp); omega
            case e2 => rw [HLL.out]; (try simp); omega
            case e3 => (try simp); omega
            intro vd wd hod hgrd _
            have HOD := hide (show OwnV 22 wd w.heap.size vd (u64L (l ++ [P1])) by rw [u64L_app]; exact hod)
            have HBD2 := hide ((HBW.out.alloc HBW.out.size (.cells #[.int .u64 P1] 22)).grown hgrd (by simp; omega) (fun g e => (HLC.out g e).1))
            clear hod hgrd
            go_wp2_with fail
            go_roundw
            case rel => exact ⟨i, cP, _, vd, by have := HI1.out; omega, by rw [List.length_append, List.length_singleton]; have := HI1.out; omega, rfl, by rfl, by congr 1; have := HI1.out; omega, HGR, HOD, HBD2⟩
            case measure => simp [intOf]; have := HI1.out; omega
          · have hns := HBV.out.1 rfl
            have HGR := hide (show Grd L (rowsL xs L) (l ++ [P]) c i by
              have h1 := HG2.out
              rw [HI1.out] at h1
              have h2 := h1.zero (by have := HI1.out; omega) (by omega) (by rw [← HI1.out, ← HPP.out]; exact hns)
              rw [← HI1.out, ← HPP.out] at h2
              exact h2)
            have HOD := hide ((OwnV.below HOB.out HBCC.out).mono (B' := w.heap.size) hB.out.size)
            clear hns
            go_wp2_with fail
            go_roundw
            case rel => exact ⟨i, c, _, _, by have := HI1.out; omega, by rw [List.length_append, List.length_singleton]; have := HI1.out; omega, rfl, rfl, by congr 1; have := HI1.out; omega, HGR, HOD, HBW⟩
            case measure => simp [intOf]; have := HI1.out; omega
end Go.Proofs.YtknkkoemghceeaaDoor
