/- outpostref01.Order, Shuffle, Unshuffle, walked. -/
import Derived.Test.YtlbfndibgojbiaaRows
import Derived.Test.YtlbfndibgojbiaaShuf
import Derived.Test.YtlbfndibgojbiaaOrdM
import Derived.Test.YtlbfndibgojbiaaInts
import Derived.Deep.RegionHeld3
namespace Go.Proofs.Ytlbfndibgojbiaa
open Go.RowKit

def castL (xs : List Nat) : List Int := xs.map fun (x : Nat) => (x : Int)
theorem castL_length (xs : List Nat) : (castL xs).length = xs.length := by simp [castL]
theorem castL_at (xs : List Nat) (i : Nat) : (castL xs).getD i 0 = ((xs.getD i 0 : Nat) : Int) := by
  unfold castL
  simp only [List.getD, List.getElem?_map]
  cases xs[i]? <;> rfl
theorem castL_snoc (xs : List Nat) (x : Nat) : castL xs ++ [(x : Int)] = castL (xs ++ [x]) := by simp [castL]
set_option maxRecDepth 100000 in
set_option maxHeartbeats 2000000 in
theorem rorder_any (n r : Nat) (hn : n ≤ 5864062014800) (hr : 1 ≤ r ∧ r ≤ 64) (w : World) :
    Calls Try.prog 87 #[.int .i64 n, .int .i64 r] w fun e w' => ∃ v, e = .returned v ∧ OwnI w' w.heap.size v (castL (ordL n (colC n r) n)) ∧ Below w.heap.size w w' := by
  have hd := colC_int n r (.inr hr.1)
  have hP : colC n r ≤ n ∧ (0 < n → 0 < colC n r) := by
    rcases Nat.eq_zero_or_pos n with h | h
    · rw [h]
      unfold colC
      rw [Nat.div_eq_of_lt (by omega)]
      omega
    · exact ⟨(colC_pos h hr.1).2, fun _ => (colC_pos h hr.1).1⟩
  obtain ⟨r1, r64⟩ := hr
  generalize colC n r = c at *
  obtain ⟨hcn, hc0⟩ := hP
  have HC0 := hide hc0
  clear hc0
  go_enter Try.func87, Try.ntmps87
  go_wp2_with fail
  go_loopw [6, 7, 8] (fun v j x u => ∃ k : Nat, k ≤ c ∧ j = .int .i64 k ∧ Hid (OwnI u w.heap.size v (castL (ordL n c (colA n c k)))) ∧ Hid (Below w.heap.size w u)) (fun _ j _ _ => c - (intOf j).toNat)
  case atStart => exact ⟨0, Nat.zero_le _, rfl, hide (by rw [colA_zero]; exact OwnI.nil _ _), hide (Below.refl _ _)⟩
  case round =>
    rename World => wr
    obtain ⟨k, hk, rfl, ho, hb⟩ := hrel
    by_cases hlt : k < c
    · have hc : 0 < c := by omega
      go_wp2_with fail
      go_loopw [6, 8] (fun v x u => ∃ i : Nat, x = .int .i64 ((k + i * c : Nat) : Int) ∧ Hid (OwnI u w.heap.size v (castL (ordL n c (colA n c k + i)))) ∧ Hid (Below w.heap.size w u) ∧ Hid (i ≤ colH n c k)) (fun _ x _ => n - (intOf x).toNat)
      case atStart => exact ⟨0, by simp, ho, hb, hide (Nat.zero_le _)⟩
      case round =>
        rename World => wi
        obtain ⟨i, rfl, hoi, hbi, hih⟩ := hrel
        have HIN := hide (col_in (n := n) hc (i := i) hlt)
        have hnx := fun h => ord_next (n := n) hc hcn (i := i) hlt h
        have HNX := hide hnx
        clear hnx ho hb
        have hsucc : k + (i + 1) * c = k + i * c + c := by rw [Nat.succ_mul, Nat.add_assoc]
        have HSU := hide hsucc
        clear hsucc
        generalize hpe : k + i * c = p at *
        have HPE := hide hpe
        clear hpe
        by_cases hpn : p < n
        · obtain ⟨ho1, ho2⟩ := HNX.out hpn
          have HO1 := hide ho1
          have HO2 := hide ho2
          have HI2 := hide (HIN.out.1 hpn)
          clear ho1 ho2
          go_wp2_with (first
            | (at_builtin; refine wpList_appI rfl _ _ rfl w.heap.size _ _ rfl (hoi.out.alloc _) wi.heap.size 1 p rfl ?c1 ?c2 ?c3 ?_)
            | go_in)
          case c1 => simp [go_sem]
          case c2 => rw [castL_length, ordL_length]; have := HO2.out; omega
          case c3 => have := hbi.out.size; simp; omega
          intro v2 w2 hown2 hgrow2 _
          rw [castL_snoc, ← HO1.out, ← ordL_succ, Nat.add_assoc] at hown2
          have HN1 := hide hown2
          have HN2 := hide ((hbi.out.alloc hbi.out.size (.cells #[.int .i64 (p : Nat)] 3)).grown hgrow2 (by have := hbi.out.size; simp; omega) (fun g e => (hoi.out.lt e).1))
          clear hown2 hgrow2
          go_wp2_with fail
          go_roundw
          case rel => exact ⟨i + 1, by rw [HSU.out]; simp, HN1, HN2, hide HI2.out⟩
          case measure => simp [intOf]; omega
        · have HI2 := hide (show ¬ (i < colH n c k) from fun e => hpn (HIN.out.2 e))
          go_wp2_with fail
          go_roundw
          case rel =>
            refine ⟨k + 1, by omega, by simp, hide ?_, hbi⟩
            rw [colA_succ]
            have : i = colH n c k := by have := hih.out; have := HI2.out; omega
            rw [← this]; exact hoi.out
          case measure => simp [intOf]; omega
    · obtain rfl : k = c := by omega
      go_wp2_with fail
      go_ret
      refine ⟨_, rfl, ?_, hb.out⟩
      have h1 := ho.out
      rcases Nat.eq_zero_or_pos n with h0 | h0
      · have e1 : colA n k k = n := by subst h0; unfold colA; simp
        rw [e1] at h1; exact h1
      · rw [colA_full (HC0.out h0)] at h1; exact h1
set_option maxRecDepth 100000 in
set_option maxHeartbeats 2000000 in
theorem rshuf_ok (r : Nat) (hr : 1 ≤ r ∧ r ≤ 64) (ad : Option Addr) (cap : Nat) (xs : List Nat) (hl : xs.length ≤ 5864062014800) (w : World) (hx : RowA w ad xs) :
    Calls Try.prog 69 #[.slice ad xs.length cap, .int .i64 r] w fun e w' => ∃ v, e = .returned (.tuple #[v, .int .i64 0]) ∧ OwnB w' w.heap.size v (shufL r xs) ∧ Below w.heap.size w w' := by
  have HC := hide (rorder_any xs.length r hl hr)
  have HP := hide fun (h : 0 < xs.length) => colC_pos h hr.1
  have HR := hide hx
  obtain ⟨r1, r64⟩ := hr
  have dl : decide ((r : Int) < 1) = false := decide_eq_false (by omega)
  have dh : decide ((64 : Int) < r) = false := decide_eq_false (by omega)
  unfold shufL
  generalize colC xs.length r = c at *
  clear hx
  go_enter Try.func69, Try.ntmps69
  go_wp2_with fail
  refine (HC.out _).mono ?_
  rintro e w1 ⟨vo, rfl, ho1, hb1⟩
  obtain ⟨ao, co, rfl, hro, hgo⟩ := ho1.rowg
  rw [castL_length, ordL_length]
  have HB1 := hide hb1
  have HRO := hide hro
  have hz1 := hb1.size
  clear ho1 hb1 hro
  go_wp2_with (first
    | (at_make; refine wpList_makeB rfl _ _ rfl w1.heap.size _ _ xs.length rfl rfl ?c1 ?c2 ?c3 ?c4 ?_)
    | go_in)
  case c1 => rfl
  case c2 => rfl
  case c3 => omega
  case c4 => exact Nat.le_refl _
  intro w2 hown2 hgrow2 hz2
  have HO2 := hide (show OwnB w2 w1.heap.size (.slice (some ⟨w1.heap.size, 0, none⟩) xs.length xs.length) (fillK (fun k => xs.getD (ord xs.length c k) 0) xs.length 0) by rw [fillK_zero]; exact hown2)
  have HB2 := hide (HB1.out.grown hgrow2 HB1.out.size (fun k e => by cases e))
  have HRO2 := hide (show RowI w2 ao (castL (ordL xs.length c xs.length)) from HRO.out.keep hgrow2.size (fun b off _ hlt => hgrow2.block b hlt (by simp)))
  have HGO := hide hgo
  clear hown2 hgrow2 hgo
  go_wp2_with fail
  go_loopw [8] (fun i u => ∃ k : Nat, k ≤ xs.length ∧ i = .int .i64 k ∧ Hid (OwnB u w1.heap.size (.slice (some ⟨w1.heap.size, 0, none⟩) xs.length xs.length) (fillK (fun k => xs.getD (ord xs.length c k) 0) xs.length k)) ∧ Hid (RowI u ao (castL (ordL xs.length c xs.length))) ∧ Hid (Below w.heap.size w u)) (fun i _ => xs.length - (intOf i).toNat)
  case atStart => exact ⟨0, by omega, rfl, HO2, HRO2, HB2⟩
  case round =>
    rename World => wr
    obtain ⟨k, hk, rfl, ho, hs, hb⟩ := hrel
    clear HO2 HRO2 HB2
    by_cases hlt : k < xs.length
    · obtain ⟨hc0, hcn⟩ := HP.out (by omega)
      have hol := ord_lt hc0 hcn hlt
      have HF := hide (fillK_set (f := fun k => xs.getD (ord xs.length c k) 0) hlt)
      have hat : (castL (ordL xs.length c xs.length)).getD k 0 = ((ord xs.length c k : Nat) : Int) := by rw [castL_at, ordL_at hlt]
      obtain ⟨bo, oo, rfl, hbo, hco⟩ := hs.out.at_ (i := k) (by rw [castL_length, ordL_length]; exact hlt)
      rw [hat] at hco
      clear hat
      generalize hoe : ord xs.length c k = o at *
      have HOE := hide hoe
      clear hoe
      obtain ⟨b, off, rfl, hbb, hc⟩ := (HR.out.below hb.out).at_ hol
      have hcg := ho.out.cell (fillK_length hk).symm hlt
      have hfz := ho.out.frz (fillK_length hk).symm k
      have hset := (ho.out.set (fillK_length hk).symm k (xs.getD o 0)).1
      have hF := HF.out
      rw [hF] at hset
      have HO4 := hide hset
      have hne : bo ≠ w1.heap.size := by have := (HGO.out bo oo rfl).2; omega
      have HS4 := hide (hs.out.keep (w' := wr.setCell ⟨w1.heap.size, k, none⟩ (.int .u8 (xs.getD o 0 : Nat))) (by simp) (fun b' o' e _ => Below.heap_setCell _ _ _ _ (by cases e; exact hne)))
      have HB4 := hide (hb.out.setCell (p := ⟨w1.heap.size, k, none⟩) HB1.out.size (.int .u8 (xs.getD o 0 : Nat)))
      have hin : (0 : Int) ≤ k := by omega
      have hin2 : (k : Int) < xs.length := by omega
      have hin3 : (o : Int) < xs.length := by omega
      have hin4 : (0 : Int) ≤ o := by omega
      clear hset hF hne hbo hbb
      generalize xs.getD o 0 = y at *
      go_wp2_with fail
      go_roundw
      case rel => exact ⟨k + 1, by omega, by simp, HO4, HS4, HB4⟩
      case measure => simp [intOf]; omega
    · obtain rfl : k = xs.length := by omega
      go_wp2_with fail
      go_ret2
      exact ⟨_, rfl, by have := ho.out; rw [fillK_full] at this; exact OwnB.mono this HB1.out.size, hb.out⟩
set_option maxRecDepth 100000 in
set_option maxHeartbeats 2000000 in
theorem runsh_ok (r : Nat) (hr : 1 ≤ r ∧ r ≤ 64) (ad : Option Addr) (cap : Nat) (xs : List Nat) (hl : xs.length ≤ 5864062014800) (w : World) (hx : RowA w ad xs) :
    Calls Try.prog 76 #[.slice ad xs.length cap, .int .i64 r] w fun e w' => ∃ v, e = .returned (.tuple #[v, .int .i64 0]) ∧ OwnB w' w.heap.size v (unshL r xs) ∧ Below w.heap.size w w' := by
  have HC := hide (rorder_any xs.length r hl hr)
  have HP := hide fun (h : 0 < xs.length) => colC_pos h hr.1
  have HR := hide hx
  obtain ⟨r1, r64⟩ := hr
  have dl : decide ((r : Int) < 1) = false := decide_eq_false (by omega)
  have dh : decide ((64 : Int) < r) = false := decide_eq_false (by omega)
  unfold unshL
  generalize colC xs.length r = c at *
  clear hx
  go_enter Try.func76, Try.ntmps76
  go_wp2_with fail
  refine (HC.out _).mono ?_
  rintro e w1 ⟨vo, rfl, ho1, hb1⟩
  obtain ⟨ao, co, rfl, hro, hgo⟩ := ho1.rowg
  rw [castL_length, ordL_length]
  have HB1 := hide hb1
  have HRO := hide hro
  have hz1 := hb1.size
  clear ho1 hb1 hro
  go_wp2_with (first
    | (at_make; refine wpList_makeB rfl _ _ rfl w1.heap.size _ _ xs.length rfl rfl ?c1 ?c2 ?c3 ?c4 ?_)
    | go_in)
  case c1 => rfl
  case c2 => rfl
  case c3 => omega
  case c4 => exact Nat.le_refl _
  intro w2 hown2 hgrow2 hz2
  have HO2 := hide (show OwnB w2 w1.heap.size (.slice (some ⟨w1.heap.size, 0, none⟩) xs.length xs.length) (unshK xs.length c xs 0) by rw [unshK_zero]; exact hown2)
  have HB2 := hide (HB1.out.grown hgrow2 HB1.out.size (fun k e => by cases e))
  have HRO2 := hide (show RowI w2 ao (castL (ordL xs.length c xs.length)) from HRO.out.keep hgrow2.size (fun b off _ hlt => hgrow2.block b hlt (by simp)))
  have HGO := hide hgo
  clear hown2 hgrow2 hgo
  go_wp2_with fail
  go_loopw [8] (fun i u => ∃ k : Nat, k ≤ xs.length ∧ i = .int .i64 k ∧ Hid (OwnB u w1.heap.size (.slice (some ⟨w1.heap.size, 0, none⟩) xs.length xs.length) (unshK xs.length c xs k)) ∧ Hid (RowI u ao (castL (ordL xs.length c xs.length))) ∧ Hid (Below w.heap.size w u)) (fun i _ => xs.length - (intOf i).toNat)
  case atStart => exact ⟨0, by omega, rfl, HO2, HRO2, HB2⟩
  case round =>
    rename World => wr
    obtain ⟨k, hk, rfl, ho, hs, hb⟩ := hrel
    clear HO2 HRO2 HB2
    by_cases hlt : k < xs.length
    · obtain ⟨hc0, hcn⟩ := HP.out (by omega)
      have hol := ord_lt hc0 hcn hlt
      have HF := hide (unshK_set hc0 hcn hlt xs)
      have hat : (castL (ordL xs.length c xs.length)).getD k 0 = ((ord xs.length c k : Nat) : Int) := by rw [castL_at, ordL_at hlt]
      obtain ⟨bo, oo, rfl, hbo, hco⟩ := hs.out.at_ (i := k) (by rw [castL_length, ordL_length]; exact hlt)
      rw [hat] at hco
      clear hat
      generalize hoe : ord xs.length c k = o at *
      clear hoe
      obtain ⟨b, off, rfl, hbb, hc⟩ := (HR.out.below hb.out).at_ hlt
      obtain ⟨b', off', e', hb0, _⟩ := HR.out.at_ hlt
      cases e'
      have hlen : xs.length = (unshK xs.length c xs k).length := (unshK_length _ _ _ _).symm
      have hcg := ho.out.cell hlen hol
      have hfz := ho.out.frz hlen o
      have hset := (ho.out.set hlen o (xs.getD k 0)).1
      rw [HF.out] at hset
      have HO4 := hide hset
      have hne : bo ≠ w1.heap.size := by have := (HGO.out bo oo rfl).2; omega
      have HS4 := hide (hs.out.keep (w' := wr.setCell ⟨w1.heap.size, o, none⟩ (.int .u8 (xs.getD k 0 : Nat))) (by simp) (fun b' o' e _ => Below.heap_setCell _ _ _ _ (by cases e; exact hne)))
      have HA1 := hide (show (wr.setCell ⟨w1.heap.size, o, none⟩ (.int .u8 (xs.getD k 0 : Nat))).cell? ⟨bo, oo + k, none⟩ = some (.int .i64 (o : Nat)) by rw [World.cell?_setCell_other _ _ _ _ (by intro e; cases e; omega)]; exact hco)
      have HA2 := hide (show (wr.setCell ⟨w1.heap.size, o, none⟩ (.int .u8 (xs.getD k 0 : Nat))).cell? ⟨b, off + k, none⟩ = some (.int .u8 (xs.getD k 0 : Nat)) by rw [World.cell?_setCell_other _ _ _ _ (by intro e; cases e; omega)]; exact hc)
      have HB4 := hide (hb.out.setCell (p := ⟨w1.heap.size, o, none⟩) HB1.out.size (.int .u8 (xs.getD k 0 : Nat)))
      have hin : (0 : Int) ≤ k := by omega
      have hin2 : (k : Int) < xs.length := by omega
      have hin3 : (o : Int) < xs.length := by omega
      have hin4 : (0 : Int) ≤ o := by omega
      clear hset hlen hne hbo hbb
      generalize xs.getD k 0 = y at *
      go_wp2_with fail
      go_region_held3 (fun u => u.cell? ⟨bo, oo + k, none⟩ = some (.int .i64 (o : Nat)) ∧ u.cell? ⟨b, off + k, none⟩ = some (.int .u8 (y : Nat))) (first | exact ⟨HA1.out, HA2.out⟩ | exact ⟨hco, hc⟩) (fail)
      go_wp2_with fail
      go_roundw
      case rel => exact ⟨k + 1, by omega, by simp, hide (OwnB.drew HO4.out), hide HS4.out, hide HB4.out.drew⟩
      case measure => simp [intOf]; omega
    · obtain rfl : k = xs.length := by omega
      go_wp2_with fail
      go_ret2
      refine ⟨_, rfl, ?_, hb.out⟩
      rcases Nat.eq_zero_or_pos xs.length with h0 | h0
      · have := ho.out
        have e1 : unshK xs.length c xs xs.length = (List.range xs.length).map fun p => xs.getD (pos xs.length c p) 0 := by
          rw [h0]; rfl
        rw [e1] at this
        exact OwnB.mono this HB1.out.size
      · have := ho.out
        rw [unshK_full (HP.out h0).1] at this
        exact OwnB.mono this HB1.out.size
end Go.Proofs.Ytlbfndibgojbiaa
