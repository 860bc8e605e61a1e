/- outpostref37: draw, by, New, Spell, walked. -/
import Derived.Test.YtmagpmoghnmhmaaRows
import Derived.Test.YtmagpmoghnmhmaaR4Step
import Derived.Test.YtmagpmoghnmhmaaWSpell
import Derived.Test.YtmagpmoghnmhmaaApS
import Derived.Test.YtmagpmoghnmhmaaLvOf
namespace Go.Proofs.Ytmagpmoghnmhmaa
open Go.RowKit

/-- the document's weather in its block -/
def RWB (u : World) (x : Nat) (p : Gf2.Wp) (S : Nat) (day : Bool) (n : Nat) : Prop :=
  ∃ ty, u.heap[x]? = some (.cells #[.int .i64 p.D, .int .u64 p.T, .int .u64 S, .int .i64 p.W, .int .i64 p.B, .int .i64 p.C, .int .i64 p.M, .bool day, .int .u64 n] ty (0, 0))
section
variable {u u' : World} {x S n : Nat} {p : Gf2.Wp} {day : Bool}
theorem RWB.lt (h : RWB u x p S day n) : x < u.heap.size := by
  obtain ⟨ty, h⟩ := h
  exact (Array.getElem?_eq_some_iff.1 h).1
theorem RWB.reg (h : RWB u x p S day n) : u.cell? ⟨x, 0, none⟩ = some (.int .i64 p.D) ∧ u.cell? ⟨x, 1, none⟩ = some (.int .u64 p.T) ∧ u.cell? ⟨x, 2, none⟩ = some (.int .u64 S) ∧ u.frozen? ⟨x, 0, none⟩ = false ∧ u.frozen? ⟨x, 1, none⟩ = false ∧ u.frozen? ⟨x, 2, none⟩ = false := by
  obtain ⟨ty, h⟩ := h
  exact ⟨cell_of_row u x 0 _ ty (0, 0) h, cell_of_row u x 1 _ ty (0, 0) h, cell_of_row u x 2 _ ty (0, 0) h, frozen_of_row u x 0 _ ty h, frozen_of_row u x 1 _ ty h, frozen_of_row u x 2 _ ty h⟩
theorem RWB.cells (h : RWB u x p S day n) : u.cell? ⟨x, 3, none⟩ = some (.int .i64 p.W) ∧ u.cell? ⟨x, 4, none⟩ = some (.int .i64 p.B) ∧ u.cell? ⟨x, 5, none⟩ = some (.int .i64 p.C) ∧ u.cell? ⟨x, 6, none⟩ = some (.int .i64 p.M) ∧ u.cell? ⟨x, 7, none⟩ = some (.bool day) ∧ u.cell? ⟨x, 8, none⟩ = some (.int .u64 n) ∧
    u.frozen? ⟨x, 7, none⟩ = false ∧ u.frozen? ⟨x, 8, none⟩ = false := by
  obtain ⟨ty, h⟩ := h
  exact ⟨cell_of_row u x 3 _ ty (0, 0) h, cell_of_row u x 4 _ ty (0, 0) h, cell_of_row u x 5 _ ty (0, 0) h, cell_of_row u x 6 _ ty (0, 0) h, cell_of_row u x 7 _ ty (0, 0) h, cell_of_row u x 8 _ ty (0, 0) h, frozen_of_row u x 7 _ ty h, frozen_of_row u x 8 _ ty h⟩
theorem RWB.keep (h : RWB u x p S day n) (hk : u'.heap[x]? = u.heap[x]?) : RWB u' x p S day n := by
  obtain ⟨ty, h⟩ := h
  exact ⟨ty, hk.trans h⟩
theorem RWB.below {B : Nat} (h : RWB u x p S day n) (hb : Below B u u') (hx : x < B) : RWB u' x p S day n := h.keep (hb.block x hx)
theorem RWB.grown {row : Option Nat} (h : RWB u x p S day n) (hg : u.grownBy u' row) (hne : some x ≠ row) : RWB u' x p S day n := h.keep (hg.block x h.lt hne)
theorem RWB.alloc (h : RWB u x p S day n) (o : Obj) : RWB (u.alloc o) x p S day n := h.keep (Below.heap_alloc _ _ _ h.lt)
theorem RWB.set3 (h : RWB u x p S day n) (t : Nat) : RWB (((u.setCell ⟨x, 0, none⟩ (.int .i64 p.D)).setCell ⟨x, 1, none⟩ (.int .u64 p.T)).setCell ⟨x, 2, none⟩ (.int .u64 (t : Nat))) x p t day n := by
  obtain ⟨ty, h⟩ := h
  exact ⟨ty, heap_setCell_same _ x 2 _ ty _ (heap_setCell_same _ x 1 _ ty _ (heap_setCell_same u x 0 _ ty _ h))⟩
theorem RWB.setDay (h : RWB u x p S day n) (b : Bool) : RWB (u.setCell ⟨x, 7, none⟩ (.bool b)) x p S b n := by
  obtain ⟨ty, h⟩ := h
  exact ⟨ty, heap_setCell_same u x 7 _ ty _ h⟩
theorem RWB.setGone (h : RWB u x p S day n) (m : Nat) : RWB (u.setCell ⟨x, 8, none⟩ (.int .u64 (m : Nat))) x p S day m := by
  obtain ⟨ty, h⟩ := h
  exact ⟨ty, heap_setCell_same u x 8 _ ty _ h⟩
end
set_option maxRecDepth 100000 in
set_option maxHeartbeats 1000000 in
theorem rdraw_any (p : Gf2.Wp) (S x n : Nat) (day : Bool) (hg : GoodL p.D p.T S) (w : World) (hr : RWB w x p S day n) :
    Calls Try.prog 46 #[.pointer (some ⟨x, 0, none⟩)] w fun e w' => e = .returned (.int .i64 (Gf2.drw p.D p.T 8 S : Nat)) ∧ RWB w' x p (Gf2.stpN p.D p.T 8 S) day n ∧ w.grownBy w' (some x) := by
  have HST := hide fun (k : Nat) (W : World) => rstep_any p.D p.T (Gf2.stpN p.D p.T k S) (hg.stpN k) W
  have HR := hide (show RWB w x p (Gf2.stpN p.D p.T 0 S) day n from hr)
  clear hr hg
  go_enter Try.func46, Try.ntmps46
  go_wp2_with fail
  go_loopw [3, 4] (fun v i u => ∃ k : Nat, k ≤ 8 ∧ i = .int .i64 k ∧ v = .int .i64 (Gf2.drw p.D p.T k S : Nat) ∧ Hid (RWB u x p (Gf2.stpN p.D p.T k S) day n) ∧ Hid (w.grownBy u (some x))) (fun _ i _ => 8 - (intOf i).toNat)
  case atStart => exact ⟨0, by omega, rfl, rfl, HR, hide (World.grownBy.refl w _)⟩
  case round =>
    rename World => wr
    obtain ⟨k, hk, rfl, rfl, hr, hw⟩ := hrel
    by_cases hlt : k < 8
    · obtain ⟨q0, q1, q2, f0, f1, f2⟩ := hr.out.reg
      have hlx := hr.out.lt
      have hd := Gf2.drw_lt p.D p.T k S
      have hp : 2 ^ k ≤ 2 ^ 8 := Nat.pow_le_pow_right (by omega) (by omega)
      have hd2 : Gf2.drw p.D p.T k S ≤ 255 := by omega
      have e1 : Gf2.drw p.D p.T (k + 1) S = 2 * Gf2.drw p.D p.T k S + Gf2.stpN p.D p.T k S % 2 := rfl
      have hm : Gf2.stpN p.D p.T k S % 2 ≤ 1 := by omega
      have hmod : ((Gf2.stpN p.D p.T k S : Nat) : Int).tmod 2 = ((Gf2.stpN p.D p.T k S % 2 : Nat) : Int) := by rw [Int.tmod_eq_emod_of_nonneg (by omega)]; omega
      have E1 := hide e1
      have HSk := hide (HST.out k)
      rw [← Gf2.stpN_succ] at HSk
      clear hd hp e1
      generalize hq : Gf2.stpN p.D p.T k S % 2 = q at *
      have HQ := hide hq
      clear hq
      generalize hdr : Gf2.drw p.D p.T k S = dv at *
      clear hdr
      go_wp2_with fail
      refine (HSk.out _).mono ?_
      rintro e w1 ⟨rfl, hb1⟩
      have hr1 := hr.out.below hb1 hlx
      obtain ⟨p0, p1, p2, g0, g1, g2⟩ := hr1.reg
      have HR1 := hide (hr1.set3 (Gf2.stpN p.D p.T (k + 1) S))
      have HG1 := hide (grownBy_set (grownBy_set (grownBy_set (grownBy_below hw.out hb1) ⟨x, 0, none⟩ (.int .i64 p.D) (.inl rfl)) ⟨x, 1, none⟩ (.int .u64 p.T) (.inl rfl)) ⟨x, 2, none⟩ (.int .u64 (Gf2.stpN p.D p.T (k + 1) S : Nat)) (.inl rfl))
      clear hb1 hr1
      generalize hq2 : Gf2.stpN p.D p.T (k + 1) S = q' at *
      have HQ2 := hide hq2
      clear hq2
      go_wp2_with fail
      go_roundw
      case rel => exact ⟨k + 1, by omega, by simp, by rw [E1.out]; simp, by rw [HQ2.out]; exact HR1, HG1⟩
      case measure => simp [intOf]; omega
    · obtain rfl : k = 8 := by omega
      go_wp2_with fail
      go_ret
      exact ⟨rfl, hr.out, hw.out⟩
set_option maxRecDepth 100000 in
set_option maxHeartbeats 1000000 in
theorem rby_any (p : Gf2.Wp) (S x n : Nat) (day : Bool) (hg : GoodL p.D p.T S) (hn : n ≤ 4611686018427387904) (w : World) (hr : RWB w x p S day n) :
    Calls Try.prog 40 #[.pointer (some ⟨x, 0, none⟩)] w fun e w' => e = .returned (.bool (Gf2.whit p (S, day))) ∧ RWB w' x p (Gf2.wnx p (S, day)).1 (Gf2.wnx p (S, day)).2 (n + 1) ∧ w.grownBy w' (some x) := by
  have HD1 := hide (rdraw_any p S x n day hg w hr)
  have HD2 := hide fun (b : Bool) (m : Nat) (u : World) (h : RWB u x p (Gf2.stpN p.D p.T 8 S) b m) => rdraw_any p (Gf2.stpN p.D p.T 8 S) x m b (hg.stpN 8) u h
  have hlx := hr.lt
  clear hr hg
  have d1 : Gf2.drw p.D p.T 8 S ≤ 255 := by have := Gf2.drw_lt p.D p.T 8 S; omega
  have d2 : Gf2.drw p.D p.T 8 (Gf2.stpN p.D p.T 8 S) ≤ 255 := by have := Gf2.drw_lt p.D p.T 8 (Gf2.stpN p.D p.T 8 S); omega
  have HX := hide (show Gf2.wnx p (S, day) = (Gf2.stpN p.D p.T 8 (Gf2.stpN p.D p.T 8 S), Gf2.wday p (S, day)) from congrArg (·, _) (Gf2.stpN_add 8 8 S))
  have HH := hide (show Gf2.whit p (S, day) = decide ((Gf2.drw p.D p.T 8 (Gf2.stpN p.D p.T 8 S) : Int) < if Gf2.wday p (S, day) then p.M else p.C) from rfl)
  have hday : Gf2.wday p (S, day) = if day then decide (p.B ≤ (Gf2.drw p.D p.T 8 S : Int)) else decide ((Gf2.drw p.D p.T 8 S : Int) < p.W) := rfl
  generalize Gf2.wday p (S, day) = dd at *
  generalize Gf2.whit p (S, day) = hit at *
  generalize Gf2.wnx p (S, day) = nx at *
  generalize Gf2.drw p.D p.T 8 (Gf2.stpN p.D p.T 8 S) = v2 at *
  generalize Gf2.drw p.D p.T 8 S = v1 at *
  have ew : IntKind.u64.wrap ((n : Int) + 1) = ((n + 1 : Nat) : Int) := IntWalk.u64_in ((n : Int) + 1) (by omega)
  go_enter Try.func40, Try.ntmps40
  go_wp2_with fail
  refine HD1.out.mono ?_
  rintro e w1 ⟨rfl, hr1, hg1⟩
  obtain ⟨q3, q4, q5, q6, q7, q8, f7, f8⟩ := hr1.cells
  have hl1 := hr1.lt
  have HR2 := hide ((hr1.setDay dd).setGone (n + 1))
  have HG2 := hide (grownBy_set (grownBy_set hg1 ⟨x, 7, none⟩ (.bool dd) (.inl rfl)) ⟨x, 8, none⟩ (.int .u64 ((n + 1 : Nat) : Int)) (.inl rfl))
  clear hr1 hg1
  cases day
  · have hdd : decide ((v1 : Int) < p.W) = dd := by simpa using hday.symm
    clear hday
    go_wp2_with fail
    refine (HD2.out dd (n + 1) _ HR2.out).mono ?_
    rintro e w2 ⟨rfl, hr2, hg2⟩
    obtain ⟨p3, p4, p5, p6, p7, p8, -, -⟩ := hr2.cells
    have HR3 := hide (show RWB w2 x p nx.1 nx.2 (n + 1) by rw [HX.out]; exact hr2)
    have HG3 := hide (grownBy_trans HG2.out hg2)
    clear hr2 hg2
    cases dd
    · have hh : decide ((v2 : Int) < p.C) = hit := by simpa using HH.out.symm
      clear hdd
      go_wp2_with fail
      go_ret
      exact ⟨rfl, HR3.out, HG3.out⟩
    · have hh : decide ((v2 : Int) < p.M) = hit := by simpa using HH.out.symm
      clear hdd
      go_wp2_with fail
      go_ret
      exact ⟨rfl, HR3.out, HG3.out⟩
  · have hdd : decide (p.B ≤ (v1 : Int)) = dd := by simpa using hday.symm
    clear hday
    go_wp2_with fail
    refine (HD2.out dd (n + 1) _ HR2.out).mono ?_
    rintro e w2 ⟨rfl, hr2, hg2⟩
    obtain ⟨p3, p4, p5, p6, p7, p8, -, -⟩ := hr2.cells
    have HR3 := hide (show RWB w2 x p nx.1 nx.2 (n + 1) by rw [HX.out]; exact hr2)
    have HG3 := hide (grownBy_trans HG2.out hg2)
    clear hr2 hg2
    cases dd
    · have hh : decide ((v2 : Int) < p.C) = hit := by simpa using HH.out.symm
      clear hdd
      go_wp2_with fail
      go_ret
      exact ⟨rfl, HR3.out, HG3.out⟩
    · have hh : decide ((v2 : Int) < p.M) = hit := by simpa using HH.out.symm
      clear hdd
      go_wp2_with fail
      go_ret
      exact ⟨rfl, HR3.out, HG3.out⟩
theorem rwat_good (p : Gf2.Wp) (S : Nat) (hg : GoodL p.D p.T S) (k : Nat) : GoodL p.D p.T (Gf2.wat p k (S, false)).1 := by
  induction k with
  | zero => exact hg
  | succ k ih => exact ih.stpN 16
theorem wspell_succ (p : Gf2.Wp) (s : Nat × Bool) (k : Nat) : Gf2.wspell p s (k + 1) = Gf2.wspell p s k ++ [if (Gf2.wat p (k + 1) s).2 then 1 else 0] := by
  unfold Gf2.wspell
  rw [List.range_succ, List.map_append]
  rfl
theorem wspell_length (p : Gf2.Wp) (s : Nat × Bool) (k : Nat) : (Gf2.wspell p s k).length = k := by simp [Gf2.wspell]
set_option maxHeartbeats 400000 in
theorem rnew_bad (D : Int) (T S : Nat) (W B C M : Int) (hT : T ≤ 18446744073709551615) (hS : S ≤ 18446744073709551615) (hne : wchk D T S W B C M ≠ 0) (w : World) :
    Calls Try.prog 10 #[.agg #[.int .i64 D, .int .u64 T, .int .u64 S, .int .i64 W, .int .i64 B, .int .i64 C, .int .i64 M]] w fun e w' => e = .returned (.tuple #[.pointer none, .int .i64 (wchk D T S W B C M)]) ∧ Below w.heap.size w w' := by
  have HC := hide (r37check_any D T S W B C M hT hS)
  have hb := nzBne hne
  generalize wchk D T S W B C M = cf at *
  clear hne
  go_enter Try.func10, Try.ntmps10
  go_wp2_with fail
  refine (HC.out _).mono ?_
  rintro e w1 ⟨rfl, hb1⟩
  go_wp2_with fail
  go_ret2
  exact ⟨rfl, below_one hb1⟩
set_option maxHeartbeats 400000 in
theorem rnew_good (p : Gf2.Wp) (S : Nat) (hg : GoodL p.D p.T S) (h0 : wchk p.D p.T S p.W p.B p.C p.M = 0) (w : World) :
    Calls Try.prog 10 #[.agg #[.int .i64 p.D, .int .u64 p.T, .int .u64 S, .int .i64 p.W, .int .i64 p.B, .int .i64 p.C, .int .i64 p.M]] w fun e w' => ∃ x, e = .returned (.tuple #[.pointer (some ⟨x, 0, none⟩), .int .i64 0]) ∧ RWB w' x p S false 0 ∧ w.heap.size ≤ x ∧ Below w.heap.size w w' := by
  have HC := hide (r37check_any p.D p.T S p.W p.B p.C p.M (by have := hg.small; omega) (by have := hg.small; omega))
  rw [h0] at HC
  clear hg h0
  go_enter Try.func10, Try.ntmps10
  go_wp2_with fail
  refine (HC.out _).mono ?_
  rintro e w1 ⟨rfl, hb1⟩
  have hx1 := boxW w w1 p S _ (by simpa using hb1)
  obtain ⟨q0, q1, q2, q3, q4, q5, q6⟩ := boxW_cells hx1
  have HB1 := hide (below_one hb1)
  have hz := hb1.size
  simp at hz
  clear hb1 hx1
  go_wp2_with fail
  go_ret2
  exact ⟨w1.heap.size, rfl, ⟨_, heap_alloc_new w1 _⟩, by omega, HB1.out.alloc HB1.out.size _⟩
set_option maxHeartbeats 400000 in
theorem rspell_bad (D : Int) (T S : Nat) (W B C M : Int) (m : Int) (hT : T ≤ 18446744073709551615) (hS : S ≤ 18446744073709551615) (hne : wchk D T S W B C M ≠ 0) (w : World) :
    Calls Try.prog 23 #[.agg #[.int .i64 D, .int .u64 T, .int .u64 S, .int .i64 W, .int .i64 B, .int .i64 C, .int .i64 M], .int .i64 m] w fun e w' => e = .returned (.tuple #[.slice none 0 0, .int .i64 (wchk D T S W B C M)]) ∧ Below w.heap.size w w' := by
  have HN := hide (rnew_bad D T S W B C M hT hS hne)
  have hb := nzBne hne
  generalize wchk D T S W B C M = cf at *
  clear hne
  go_enter Try.func23, Try.ntmps23
  go_wp2_with fail
  refine (HN.out _).mono ?_
  rintro e w1 ⟨rfl, hb1⟩
  go_wp2_with fail
  go_ret2
  exact ⟨rfl, below_one hb1⟩
set_option maxHeartbeats 400000 in
theorem rspell_many (p : Gf2.Wp) (S : Nat) (hg : GoodL p.D p.T S) (h0 : wchk p.D p.T S p.W p.B p.C p.M = 0) (m : Int) (hm : manyF m ≠ 0) (w : World) :
    Calls Try.prog 23 #[.agg #[.int .i64 p.D, .int .u64 p.T, .int .u64 S, .int .i64 p.W, .int .i64 p.B, .int .i64 p.C, .int .i64 p.M], .int .i64 m] w fun e w' => e = .returned (.tuple #[.slice none 0 0, .int .i64 (manyF m)]) ∧ Below w.heap.size w w' := by
  have HN := hide (rnew_good p S hg h0)
  clear hg h0
  by_cases h1 : m < 0
  · rw [show manyF m = 1 from if_pos h1]
    clear hm
    go_enter Try.func23, Try.ntmps23
    go_wp2_with fail
    refine (HN.out _).mono ?_
    rintro e w1 ⟨x, rfl, -, -, hb1⟩
    go_wp2_with fail
    go_ret2
    exact ⟨rfl, below_one hb1⟩
  · by_cases h2 : 1048576 < m
    · rw [show manyF m = 6 by unfold manyF; rw [if_neg h1, if_pos h2]]
      clear hm
      go_enter Try.func23, Try.ntmps23
      go_wp2_with fail
      refine (HN.out _).mono ?_
      rintro e w1 ⟨x, rfl, -, -, hb1⟩
      go_wp2_with fail
      go_ret2
      exact ⟨rfl, below_one hb1⟩
    · exact absurd (by unfold manyF; rw [if_neg h1, if_neg h2]) hm
set_option maxRecDepth 100000 in
set_option maxHeartbeats 2000000 in
theorem rspell_ok (p : Gf2.Wp) (S : Nat) (hg : GoodL p.D p.T S) (h0 : wchk p.D p.T S p.W p.B p.C p.M = 0) (m : Nat) (hm : m ≤ 1048576) (w : World) :
    Calls Try.prog 23 #[.agg #[.int .i64 p.D, .int .u64 p.T, .int .u64 S, .int .i64 p.W, .int .i64 p.B, .int .i64 p.C, .int .i64 p.M], .int .i64 m] w fun e w' => ∃ v, e = .returned (.tuple #[v, .int .i64 0]) ∧ OwnB w' w.heap.size v (Gf2.wspell p (S, false) m) ∧ Below w.heap.size w w' := by
  have HN := hide (rnew_good p S hg h0)
  have HG := hide fun (k : Nat) => (show GoodL p.D p.T (Gf2.wat p k (S, false)).1 from rwat_good p S hg k)
  clear hg h0
  go_enter Try.func23, Try.ntmps23
  go_wp2_with fail
  refine (HN.out _).mono ?_
  rintro e w1 ⟨x, rfl, hr1, hx1, hb1⟩
  have HB1 := hide (below_one hb1)
  have HR1 := hide (show RWB w1 x p (Gf2.wat p 0 (S, false)).1 (Gf2.wat p 0 (S, false)).2 0 from hr1)
  have HO1 := hide (show OwnB w1 (x + 1) (.slice none 0 0) (Gf2.wspell p (S, false) 0) from OwnB.nil _ _)
  simp at hx1
  clear hr1 hb1
  go_wp2_with fail
  go_loopw [8, 9] (fun v i u => ∃ k : Nat, k ≤ m ∧ i = .int .i64 k ∧ Hid (OwnB u (x + 1) v (Gf2.wspell p (S, false) k)) ∧ Hid (RWB u x p (Gf2.wat p k (S, false)).1 (Gf2.wat p k (S, false)).2 k) ∧ Hid (Below w.heap.size w u)) (fun _ i _ => m - (intOf i).toNat)
  case atStart => exact ⟨0, by omega, rfl, HO1, HR1, HB1⟩
  case round =>
    rename World => w3
    obtain ⟨k, hk, rfl, hO, hR, hB⟩ := hrel
    by_cases hlt : k < m
    · have HBY := hide (rby_any p _ x k _ (HG.out k) (by omega) w3 hR.out)
      go_wp2_with fail
      refine HBY.out.mono ?_
      rintro e w4 ⟨rfl, hr4, hg4⟩
      have hr4' : RWB w4 x p (Gf2.wat p (k + 1) (S, false)).1 (Gf2.wat p (k + 1) (S, false)).2 (k + 1) := hr4
      have HO2 := hide (hO.out.grown hg4 (fun g e e2 => by have := (hO.out.lt e).1; have := Option.some.inj e2; omega))
      have HB2 := hide (hB.out.grown hg4 hB.out.size (fun g e => by have := Option.some.inj e; omega))
      have hlx := hr4'.lt
      have HSP := hide (wspell_succ p (S, false) k)
      have hspl := wspell_length p (S, false) k
      generalize hdd : (Gf2.wat p (k + 1) (S, false)).2 = dd at *
      generalize hsn : (Gf2.wat p (k + 1) (S, false)).1 = sn at *
      have HDD := hide hdd
      have HSN := hide hsn
      clear hdd hsn
      obtain ⟨-, -, -, -, q7, -, -, -⟩ := hr4'.cells
      have HR2 := hide hr4'
      clear hr4 hr4' hg4 HBY hO hR hB
      cases dd
      · go_wp2_with (first
          | (at_builtin; refine wpList_appB rfl (.tmp 34) (.tmp 36) rfl (x + 1) _ (Gf2.wspell p (S, false) k) rfl (HO2.out.alloc _) (some ⟨w4.heap.size, 0, none⟩) 1 1 [0] rfl ?d1 rfl ?d2 ?d3 ?_)
          | go_in)
        case d1 => exact fun _ => ⟨w4.heap.size, 0, rfl, by simp, fun i hi => by
          obtain rfl : i = 0 := by simpa using hi
          simp [go_sem]⟩
        case d2 => simp; omega
        case d3 => simp; omega
        intro v5 w5 ho5 hg5 _
        have HO5 := hide (show OwnB w5 (x + 1) v5 (Gf2.wspell p (S, false) (k + 1)) by rw [HSP.out]; exact ho5)
        have HR5 := hide ((HR2.out.alloc _).grown hg5 (fun e => by have := (HO2.out.lt e.symm).1; omega))
        have HB5 := hide ((HB2.out.alloc HB2.out.size _).grown hg5 (by have := HB2.out.size; simp; omega) (fun g e => by have := (HO2.out.lt e).1; omega))
        clear ho5 hg5
        go_wp2_with fail
        go_roundw
        case rel => exact ⟨k + 1, by omega, by simp, HO5, by rw [HSN.out, HDD.out]; exact HR5, HB5⟩
        case measure => simp [intOf]; omega
      · go_wp2_with (first
          | (at_builtin; refine wpList_appB rfl (.tmp 34) (.tmp 36) rfl (x + 1) _ (Gf2.wspell p (S, false) k) rfl (HO2.out.alloc _) (some ⟨w4.heap.size, 0, none⟩) 1 1 [1] rfl ?d1 rfl ?d2 ?d3 ?_)
          | go_in)
        case d1 => exact fun _ => ⟨w4.heap.size, 0, rfl, by simp, fun i hi => by
          obtain rfl : i = 0 := by simpa using hi
          simp [go_sem]⟩
        case d2 => simp; omega
        case d3 => simp; omega
        intro v5 w5 ho5 hg5 _
        have HO5 := hide (show OwnB w5 (x + 1) v5 (Gf2.wspell p (S, false) (k + 1)) by rw [HSP.out]; exact ho5)
        have HR5 := hide ((HR2.out.alloc _).grown hg5 (fun e => by have := (HO2.out.lt e.symm).1; omega))
        have HB5 := hide ((HB2.out.alloc HB2.out.size _).grown hg5 (by have := HB2.out.size; simp; omega) (fun g e => by have := (HO2.out.lt e).1; omega))
        clear ho5 hg5
        go_wp2_with fail
        go_roundw
        case rel => exact ⟨k + 1, by omega, by simp, HO5, by rw [HSN.out, HDD.out]; exact HR5, HB5⟩
        case measure => simp [intOf]; omega
    · obtain rfl : k = m := by omega
      go_wp2_with fail
      go_ret2
      exact ⟨_, rfl, OwnB.base hO.out (by omega), hB.out⟩
end Go.Proofs.Ytmagpmoghnmhmaa
