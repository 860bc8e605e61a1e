/- weather.Spell, walked. -/
import Derived.Test.YtmagpmoghnmhmaaRows
import Derived.Test.YtmagpmoghnmhmaaWKnows
namespace Go.Proofs.Ytmagpmoghnmhmaa
open Go.RowKit

theorem fillK_skip {f : Nat → Nat} {n k : Nat} (hk : k < n) (h0 : f k = 0) : fillK f n k = fillK f n (k + 1) := by
  unfold fillK
  rw [show n - k = (n - (k + 1)) + 1 by omega, List.replicate_succ, List.range_succ, List.map_append, List.append_assoc]
  simp [h0]
def dayN (b : Bool) : Nat := if b then 1 else 0
set_option maxHeartbeats 1000000 in
theorem spell_bad (D : Int) (T S : Nat) (W B C M : Int) (m : Int) (hT : T ≤ 18446744073709551615) (hS : S ≤ 18446744073709551615) (hne : wchk D T S W B C M ≠ 0) (w : World) :
    Calls Try.prog 22 #[.agg #[.int .i64 D, .int .u64 T, .int .u64 S, .int .i64 W, .int .i64 B, .int .i64 C, .int .i64 M], .int .i64 m] w fun e w' => e = .returned (.tuple #[.slice none 0 0, .int .i64 (wchk D T S W B C M)]) ∧ Below w.heap.size w w' := by
  have HN := hide (wnew_bad D T S W B C M hT hS hne)
  have hb := nzBne hne
  generalize wchk D T S W B C M = cf at *
  clear hne
  go_enter Try.func22, Try.ntmps22
  go_wp2_with fail
  refine (HN.out _).mono ?_
  rintro e w1 ⟨rfl, hb1⟩
  go_wp2_with fail
  go_ret2
  exact ⟨rfl, below_one hb1⟩
set_option maxHeartbeats 1000000 in
theorem spell_many (p : Gf2.Wp) (S : Nat) (hg : GoodL p.D p.T S) (h0 : wchk p.D p.T S p.W p.B p.C p.M = 0) (m : Int) (hm : manyF m ≠ 0) (w : World) :
    Calls Try.prog 22 #[.agg #[.int .i64 p.D, .int .u64 p.T, .int .u64 S, .int .i64 p.W, .int .i64 p.B, .int .i64 p.C, .int .i64 p.M], .int .i64 m] w fun e w' => e = .returned (.tuple #[.slice none 0 0, .int .i64 (manyF m)]) ∧ Below w.heap.size w w' := by
  have HN := hide (wnew_good p S hg h0)
  have HM := hide (many_any m)
  have hb := nzBne hm
  generalize manyF m = cf at *
  clear hm hg h0
  go_enter Try.func22, Try.ntmps22
  go_wp2_with fail
  refine (HN.out _).mono ?_
  rintro e w1 ⟨x, bn, g, rfl, _, _, hb1⟩
  go_wp2_with fail
  refine (HM.out _).mono ?_
  rintro e w' ⟨rfl, rfl⟩
  go_wp2_with fail
  go_ret2
  exact ⟨rfl, below_one hb1⟩
set_option maxHeartbeats 1000000 in
theorem spell_ok (p : Gf2.Wp) (S : Nat) (hg : GoodL p.D p.T S) (h0 : wchk p.D p.T S p.W p.B p.C p.M = 0) (m : Nat) (hm : m ≤ 1048576) (w : World) :
    Calls Try.prog 22 #[.agg #[.int .i64 p.D, .int .u64 p.T, .int .u64 S, .int .i64 p.W, .int .i64 p.B, .int .i64 p.C, .int .i64 p.M], .int .i64 m] w fun e w' => ∃ v, e = .returned (.tuple #[v, .int .i64 0]) ∧ OwnB w' w.heap.size v (Gf2.wspell p (S, false) m) ∧ Below w.heap.size w w' := by
  have HN := hide (wnew_good p S hg h0)
  have HM := hide (many_any m)
  rw [show manyF m = 0 by unfold manyF; rw [if_neg (by omega), if_neg (by omega)]] at HM
  clear hg h0
  go_enter Try.func22, Try.ntmps22
  go_wp2_with fail
  refine (HN.out _).mono ?_
  rintro e w1 ⟨x, bn, g, rfl, hs1, ⟨a1, a2, a3⟩, hb1⟩
  have HL := hide hs1.lt
  have HS1 := hide hs1
  have HB1 := hide (below_one hb1)
  have hz1 := hb1.size
  simp at hz1 a1 a2 a3
  clear hs1 hb1
  go_wp2_with fail
  refine (HM.out _).mono ?_
  rintro e w' ⟨rfl, rfl⟩
  go_wp2_with (first
    | (at_make; refine wpList_makeB rfl _ _ rfl w.heap.size _ _ m rfl rfl ?c1 ?c2 ?c3 ?c4 ?_)
    | go_in)
  case c1 => rfl
  case c2 => rfl
  case c3 => omega
  case c4 => omega
  intro w2 hown2 hgrow2 hz2
  have HO2 := hide (show OwnB w2 w.heap.size (.slice (some ⟨w1.heap.size, 0, none⟩) m m) (fillK (fun i => dayN (Gf2.wat p (i + 1) (S, false)).2) m 0) by rw [fillK_zero]; exact hown2)
  have HS2 := hide (HS1.out.grown hgrow2 ⟨by simp, by simp, by simp⟩)
  have HB2 := hide (HB1.out.grown hgrow2 HB1.out.size (fun k e => by cases e))
  clear hown2 hgrow2
  go_wp2_with fail
  go_loopw [28] (fun i u => ∃ k : Nat, k ≤ m ∧ i = .int .i64 k ∧ Hid (OwnB u w.heap.size (.slice (some ⟨w1.heap.size, 0, none⟩) m m) (fillK (fun i => dayN (Gf2.wat p (i + 1) (S, false)).2) m k)) ∧ Hid (WSt u x bn g p S (Gf2.wat p k (S, false)) (0 + k)) ∧ Hid (Below w.heap.size w u) ∧ w1.heap.size < u.heap.size) (fun i _ => m - (intOf i).toNat)
  case atStart => exact ⟨0, by omega, rfl, HO2, HS2, HB2, hz2⟩
  case round =>
    obtain ⟨k, hk, rfl, ho, hs, ht, hzu⟩ := hrel
    by_cases hlt : k < m
    · have HP := hide (pass_any _ hs.out (by omega))
      have HE := hide (show Gf2.wat p (k + 1) (S, false) = Gf2.wnx p (Gf2.wat p k (S, false)) from rfl)
      have HF := hide (fillK_set (f := fun i => dayN (Gf2.wat p (i + 1) (S, false)).2) hlt)
      have HF0 := hide (fillK_skip (f := fun i => dayN (Gf2.wat p (i + 1) (S, false)).2) hlt)
      have hin : (0 : Int) ≤ k := by omega
      have hin2 : (k : Int) < m := by omega
      go_wp2_with fail
      refine HP.out.mono ?_
      rintro e w3 ⟨rfl, hs3, ht3⟩
      have HS3 := hide hs3
      have ho3 := OwnB.two ho.out ht3 (fun b e => by simp [Value.ownBlock] at e; have := HL.out; omega)
      have HO3 := hide ho3
      have HT3 := hide (Two.then_ ht.out ht3 (by omega) (by omega) ht.out.size)
      have hcg := ho3.cell (fillK_length hk).symm hlt
      have hfz := ho3.frz (fillK_length hk).symm k
      have hz3 := ht3.size
      have hz4 : w1.heap.size < w3.heap.size := by omega
      obtain ⟨q3, q4, q5, q6, q7, q8, q9, f8, f9⟩ := hs3.wea.cells
      rw [← HE.out] at q8
      clear hs3 ht3 ho3 q3 q4 q5 q6 q7 q9 f8 f9
      by_cases hd : (Gf2.wat p (k + 1) (S, false)).2 = true
      · have hset := (OwnB.set HO3.out (fillK_length hk).symm k 1).1
        have hF := HF.out
        simp only [hd, dayN, if_true] at hF
        rw [hd] at q8
        have HO4 := hide (show OwnB (w3.setCell ⟨w1.heap.size, k, none⟩ (.int .u8 1)) w.heap.size (.slice (some ⟨w1.heap.size, 0, none⟩) m m) (fillK (fun i => dayN (Gf2.wat p (i + 1) (S, false)).2) m (k + 1)) from by rw [← HF.out]; simpa [hd, dayN] using hset)
        have HS4 := hide (show WSt (w3.setCell ⟨w1.heap.size, k, none⟩ (.int .u8 1)) x bn g p S (Gf2.wnx p (Gf2.wat p k (S, false))) (0 + k + 1) from
          ⟨HS3.out.wea.keep (Below.heap_setCell _ _ _ _ (by have := HL.out; simp; omega)), HS3.out.nxt.keep (Below.heap_setCell _ _ _ _ (by have := HL.out; simp; omega)), HS3.out.reg.keep (Below.heap_setCell _ _ _ _ (by have := HL.out; simp; omega)), HS3.out.good, HS3.out.ne⟩)
        have HT4 := hide (HT3.out.setCell (p := ⟨w1.heap.size, k, none⟩) (by simp; omega) (.int .u8 1))
        clear hset hF hd
        go_wp2_with fail
        go_roundw
        case rel => exact ⟨k + 1, by omega, by simp, HO4, HS4, HT4, by simpa using hz4⟩
        case measure => simp [intOf]; omega
      · simp only [Bool.not_eq_true] at hd
        rw [hd] at q8
        have ho4 := HO3.out
        rw [HF0.out (by simp only [hd]; rfl)] at ho4
        have HO4 := hide ho4
        clear hd ho4
        go_wp2_with fail
        go_roundw
        case rel => exact ⟨k + 1, by omega, by simp, HO4, HS3, HT3, hz4⟩
        case measure => simp [intOf]; omega
    · obtain rfl : k = m := by omega
      go_wp2_with fail
      go_ret2
      exact ⟨_, rfl, by have := ho.out; rw [fillK_full] at this; exact this, ht.out⟩
end Go.Proofs.Ytmagpmoghnmhmaa
