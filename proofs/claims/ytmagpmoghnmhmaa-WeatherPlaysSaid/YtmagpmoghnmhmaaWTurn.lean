/- (*Weather).Turn, At, Bad, Skip, many, walked. -/
import Derived.Test.YtmagpmoghnmhmaaRows
import Derived.Test.YtmagpmoghnmhmaaWNew
namespace Go.Proofs.Ytmagpmoghnmhmaa
open Go.RowKit

section
variable {x bn g S0 n : Nat} {p : Gf2.Wp} {s : Nat × Bool}
set_option maxHeartbeats 400000 in
theorem wat_any (w : World) (h : WSt w x bn g p S0 s n) :
    Calls Try.prog 19 #[.pointer (some ⟨x, 0, none⟩)] w fun e w' => e = .returned (.int .u64 n) ∧ w = w' := by
  have HG := hide (wgood_any w h)
  obtain ⟨q3, q4, q5, q6, q7, q8, q9, f8, f9⟩ := h.wea.cells
  clear h
  go_enter Try.func19, Try.ntmps19
  go_wp2_with fail
  refine HG.out.mono ?_
  rintro e w' ⟨rfl, rfl⟩
  go_wp2_with fail
  go_ret
  exact ⟨rfl, rfl⟩
set_option maxHeartbeats 400000 in
theorem wbad_any (w : World) (h : WSt w x bn g p S0 s n) :
    Calls Try.prog 20 #[.pointer (some ⟨x, 0, none⟩)] w fun e w' => e = .returned (.bool s.2) ∧ w = w' := by
  have HG := hide (wgood_any w h)
  obtain ⟨q3, q4, q5, q6, q7, q8, q9, f8, f9⟩ := h.wea.cells
  generalize s.2 = bad at *
  clear h
  go_enter Try.func20, Try.ntmps20
  go_wp2_with fail
  refine HG.out.mono ?_
  rintro e w' ⟨rfl, rfl⟩
  go_wp2_with fail
  go_ret
  exact ⟨rfl, rfl⟩
/-- the error of a number of symbols -/
def manyF (m : Int) : Int := if m < 0 then 1 else if 1048576 < m then 6 else 0
set_option maxHeartbeats 400000 in
theorem many_any (m : Int) (w : World) :
    Calls Try.prog 39 #[.int .i64 m] w fun e w' => e = .returned (.int .i64 (manyF m)) ∧ w = w' := by
  unfold manyF
  by_cases h1 : m < 0
  · rw [if_pos h1]
    go_enter Try.func39, Try.ntmps39
    go_wp2_with fail
    go_ret
    exact ⟨rfl, rfl⟩
  · rw [if_neg h1]
    by_cases h2 : 1048576 < m
    · rw [if_pos h2]
      go_enter Try.func39, Try.ntmps39
      go_wp2_with fail
      go_ret
      exact ⟨rfl, rfl⟩
    · rw [if_neg h2]
      go_enter Try.func39, Try.ntmps39
      go_wp2_with fail
      go_ret
      exact ⟨rfl, rfl⟩
set_option maxHeartbeats 1000000 in
theorem skip_ok (m : Nat) (hm : m ≤ 1048576) (w : World) (h : WSt w x bn g p S0 s n) (hn : n + m ≤ 4611686018427387904) :
    Calls Try.prog 21 #[.pointer (some ⟨x, 0, none⟩), .int .i64 m] w fun e w' => e = .returned (.int .i64 0) ∧ WSt w' x bn g p S0 (Gf2.wat p m s) (n + m) ∧ Two w w' x g := by
  have HG := hide (wgood_any w h)
  have HM := hide (many_any m)
  rw [show manyF m = 0 by unfold manyF; rw [if_neg (by omega), if_neg (by omega)]] at HM
  have H := hide h
  clear h
  go_enter Try.func21, Try.ntmps21
  go_wp2_with fail
  refine HG.out.mono ?_
  rintro e w' ⟨rfl, rfl⟩
  go_wp2_with fail
  refine (HM.out _).mono ?_
  rintro e w' ⟨rfl, rfl⟩
  go_wp2_with fail
  go_loopw [15] (fun i u => ∃ k : Nat, k ≤ m ∧ i = .int .i64 k ∧ Hid (WSt u x bn g p S0 (Gf2.wat p k s) (n + k)) ∧ Hid (Two w u x g)) (fun i _ => m - (intOf i).toNat)
  case atStart => exact ⟨0, by omega, rfl, H, hide (Two.refl _ _ _)⟩
  case round =>
    obtain ⟨k, hk, rfl, hs, ht⟩ := hrel
    by_cases hlt : k < m
    · have HP := hide (pass_any _ hs.out (by omega))
      go_wp2_with fail
      refine HP.out.mono ?_
      rintro e w2 ⟨rfl, hs2, ht2⟩
      have HS2 := hide hs2
      have HT2 := hide (ht.out.trans ht2)
      clear hs2 ht2
      go_wp2_with fail
      go_roundw
      case rel => exact ⟨k + 1, by omega, by simp, HS2, HT2⟩
      case measure => simp [intOf]; omega
    · obtain rfl : k = m := by omega
      go_wp2_with fail
      go_ret
      exact ⟨rfl, hs.out, ht.out⟩
end
theorem two_far {w u : World} {x g : Nat} (h : Two w u x g) (j : Nat) (z : Value) : Two w (u.setCell ⟨w.heap.size, j, none⟩ z) x g :=
  ⟨h.os, h.tape, h.output, by simpa using h.size, fun k hk h3 h4 => (Below.heap_setCell u _ _ k (by simp; omega)).trans (h.block k hk h3 h4)⟩
set_option maxHeartbeats 2000000 in
theorem turn_ok {x bn g S0 n : Nat} {p : Gf2.Wp} {s : Nat × Bool} (lv : Nat) (hlv : 2 ≤ lv ∧ lv ≤ 16) (ad : Option Addr) (cap : Nat) (xs : List Nat) (hl : xs.length ≤ 140737488351232) (hx : ∀ i, i < xs.length → xs.getD i 0 < lv) (w : World)
    (h : WSt w x bn g p S0 s n) (hn : n + xs.length ≤ 4611686018427387904) (hr : RowA w ad xs) (hne : ∀ b off, ad = some ⟨b, off, none⟩ → b ≠ x ∧ b ≠ g) :
    Calls Try.prog 18 #[.pointer (some ⟨x, 0, none⟩), .int .i64 lv, .slice ad xs.length cap] w fun e w' => ∃ v, e = .returned (.tuple #[v, .int .i64 0]) ∧ OwnB w' w.heap.size v (Gf2.wturn p lv s xs) ∧ WSt w' x bn g p S0 (Gf2.wat p xs.length s) (n + xs.length) ∧ Two w w' x g := by
  have HG := hide (wgood_any w h)
  have H := hide h
  have HX := hide hx
  have HR := hide hr
  have HNE := hide hne
  clear h hx hr hne
  obtain ⟨l2, l16⟩ := hlv
  have dl : decide ((lv : Int) < 2) = false := by simp; omega
  have dh : decide ((16 : Int) < lv) = false := by simp; omega
  go_enter Try.func18, Try.ntmps18
  go_wp2_with fail
  refine HG.out.mono ?_
  rintro e w' ⟨rfl, rfl⟩
  go_wp2_with fail
  go_loop [26] (fun i => ∃ k : Nat, k ≤ xs.length ∧ i = .int .i64 k) (fun i => xs.length - (intOf i).toNat)
  case atStart => exact ⟨0, by omega, rfl⟩
  case round =>
    obtain ⟨k, hk, rfl⟩ := hrel
    by_cases hlt : k < xs.length
    · obtain ⟨b, off, rfl, _, hc⟩ := HR.out.at_ hlt
      have h1 := HX.out k hlt
      generalize xs.getD k 0 = y at *
      go_wp2_with fail
      go_round
      case rel => exact ⟨k + 1, by omega, by simp⟩
      case measure => simp [intOf]; omega
    · obtain rfl : k = xs.length := by omega
      go_wp2_with (first
        | (at_make; refine wpList_makeB rfl _ _ rfl w.heap.size _ _ xs.length rfl rfl ?c1 ?c2 ?c3 ?c4 ?_)
        | go_in)
      case c1 => rfl
      case c2 => rfl
      case c3 => omega
      intro w1 hown1 hgrow1 hz1
      have HL := hide H.out.lt
      have HO1 := hide (show OwnB w1 w.heap.size (.slice (some ⟨w.heap.size, 0, none⟩) xs.length xs.length) (fillK (fun i => Gf2.wone p lv (Gf2.wat p i s) (xs.getD i 0)) xs.length 0) by rw [fillK_zero]; exact hown1)
      have HS1 := hide (H.out.grown hgrow1 ⟨by simp, by simp, by simp⟩)
      have HT1 := hide (show Two w w1 x g from ⟨hgrow1.os, hgrow1.tape, hgrow1.output, hgrow1.size, fun k hk _ _ => hgrow1.block k hk (by simp)⟩)
      clear hown1 hgrow1
      go_wp2_with fail
      go_loopw [40] (fun i u => ∃ k : Nat, k ≤ xs.length ∧ i = .int .i64 k ∧ Hid (OwnB u w.heap.size (.slice (some ⟨w.heap.size, 0, none⟩) xs.length xs.length) (fillK (fun i => Gf2.wone p lv (Gf2.wat p i s) (xs.getD i 0)) xs.length k)) ∧ Hid (WSt u x bn g p S0 (Gf2.wat p k s) (n + k)) ∧ Hid (Two w u x g)) (fun i _ => xs.length - (intOf i).toNat)
      case atStart => exact ⟨0, by omega, rfl, HO1, HS1, HT1⟩
      case round =>
        obtain ⟨k, hk, rfl, ho, hs, ht⟩ := hrel
        by_cases hlt : k < xs.length
        · obtain ⟨b, off, rfl, _, hc⟩ := (HR.out.two ht.out HNE.out).at_ hlt
          have h1 := HX.out k hlt
          have hcg := ho.out.cell (fillK_length hk).symm hlt
          have hfz := ho.out.frz (fillK_length hk).symm k
          have hset := (ho.out.set (fillK_length hk).symm k (xs.getD k 0)).1
          have HO2 := hide hset
          have HS2 := hide (show WSt (World.setCell _ ⟨w.heap.size, k, none⟩ (.int .u8 (xs.getD k 0 : Nat))) x bn g p S0 (Gf2.wat p k s) (n + k) from
            ⟨hs.out.wea.keep (Below.heap_setCell _ _ _ _ (by have := HL.out; simp; omega)), hs.out.nxt.keep (Below.heap_setCell _ _ _ _ (by have := HL.out; simp; omega)), hs.out.reg.keep (Below.heap_setCell _ _ _ _ (by have := HL.out; simp; omega)), hs.out.good, hs.out.ne⟩)
          have HT2 := hide (two_far ht.out k (.int .u8 (xs.getD k 0 : Nat)))
          clear hset
          have hin : (0 : Int) ≤ k := by omega
          have hin2 : (k : Int) < xs.length := by omega
          have HE := hide (show Gf2.wat p (k + 1) s = Gf2.wnx p (Gf2.wat p k s) from rfl)
          have HF := hide (fillK_set (f := fun i => Gf2.wone p lv (Gf2.wat p i s) (xs.getD i 0)) hlt)
          have hfk : Gf2.wone p lv (Gf2.wat p k s) (xs.getD k 0) = if Gf2.whit p (Gf2.wat p k s) then lv - 1 - xs.getD k 0 else xs.getD k 0 := rfl
          have HFK := hide hfk
          have hlen := hide (show xs.length = ((fillK (fun i => Gf2.wone p lv (Gf2.wat p i s) (xs.getD i 0)) xs.length k).set k (xs.getD k 0)).length by rw [List.length_set, fillK_length hk])
          clear hfk
          generalize hy : xs.getD k 0 = y at *
          have HY := hide hy
          clear hy
          go_wp2_with fail
          refine (pass_any _ HS2.out (by omega)).mono ?_
          rintro e w2 ⟨rfl, hs3, ht3⟩
          have ho3 := OwnB.two HO2.out ht3 (fun b e => by simp [Value.ownBlock] at e; have := HL.out; omega)
          have HO3 := hide ho3
          have HS3 := hide hs3
          have HT3 := hide (HT2.out.trans ht3)
          have hcg3 := ho3.cell hlen.out hlt
          have hfz3 := ho3.frz hlen.out k
          clear hs3 ht3 ho3 hcg hfz hc
          by_cases hh : Gf2.whit p (Gf2.wat p k s) = true
          · rw [hh, if_pos rfl] at HFK
            have hv : (lv : Int) - 1 - y = ((lv - 1 - y : Nat) : Int) := by omega
            have HV := hide hv
            have hset := (OwnB.set HO3.out hlen.out k (lv - 1 - y)).1
            have hF := HF.out
            rw [HFK.out] at hF
            rw [List.set_set, hF] at hset
            clear hF
            have HO4 := hide hset
            have HS4 := hide (show WSt (World.setCell _ ⟨w.heap.size, k, none⟩ (.int .u8 (lv - 1 - y : Nat))) x bn g p S0 (Gf2.wnx p (Gf2.wat p k s)) (n + k + 1) from
              ⟨HS3.out.wea.keep (Below.heap_setCell _ _ _ _ (by have := HL.out; simp; omega)), HS3.out.nxt.keep (Below.heap_setCell _ _ _ _ (by have := HL.out; simp; omega)), HS3.out.reg.keep (Below.heap_setCell _ _ _ _ (by have := HL.out; simp; omega)), HS3.out.good, HS3.out.ne⟩)
            have HT4 := hide (two_far HT3.out k (.int .u8 (lv - 1 - y : Nat)))
            clear hset hv
            go_wp2_with fail
            rw [HV.out]
            go_roundw
            case rel => exact ⟨k + 1, by omega, by simp, HO4, HS4, HT4⟩
            case measure => simp [intOf]; omega
          · simp only [Bool.not_eq_true] at hh
            rw [hh, if_neg (by decide)] at HFK
            have ho4 := HO3.out
            have hF := HF.out
            rw [HFK.out] at hF
            rw [hF] at ho4
            clear hF
            have HO4 := hide ho4
            clear ho4
            go_wp2_with fail
            go_roundw
            case rel => exact ⟨k + 1, by omega, by simp, HO4, HS3, HT3⟩
            case measure => simp [intOf]; omega
        · obtain rfl : k = xs.length := by omega
          go_wp2_with fail
          go_ret2
          exact ⟨_, rfl, by have := ho.out; rw [fillK_full] at this; exact this, hs.out, ht.out⟩
end Go.Proofs.Ytmagpmoghnmhmaa
