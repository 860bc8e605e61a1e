/- The law WeatherSpells, walked: it returns true. -/
import Derived.Test.YtmagpmoghnmhmaaRows
import Derived.Test.YtmagpmoghnmhmaaR37
import Derived.Test.YtmagpmoghnmhmaaWKnows
import Derived.Test.YtmagpmoghnmhmaaStr
namespace Go.Proofs.Ytmagpmoghnmhmaa
open Go.RowKit

/-- seven numbers in a box -/
def Box7 (u : World) (g : Nat) (D : Int) (T S : Nat) (W B C M : Int) : Prop := ∃ ty, u.heap[g]? = some (.cells #[.int .i64 D, .int .u64 T, .int .u64 S, .int .i64 W, .int .i64 B, .int .i64 C, .int .i64 M] ty (0, 0))
theorem Box7.below {u u' : World} {g K : Nat} {D : Int} {T S : Nat} {W B C M : Int} (h : Box7 u g D T S W B C M) (hb : Below K u u') (hg : g < K) : Box7 u' g D T S W B C M := by
  obtain ⟨ty, h⟩ := h
  exact ⟨ty, (hb.block g hg).trans h⟩
theorem Box7.cells {w : World} {g : Nat} {D : Int} {T S : Nat} {W B C M : Int} (h : Box7 w g D T S W B C M) :
    g < w.heap.size ∧ w.cell? ⟨g, 0, none⟩ = some (.int .i64 D) ∧ w.cell? ⟨g, 1, none⟩ = some (.int .u64 T) ∧ w.cell? ⟨g, 2, none⟩ = some (.int .u64 S) ∧ w.cell? ⟨g, 3, none⟩ = some (.int .i64 W) ∧ w.cell? ⟨g, 4, none⟩ = some (.int .i64 B) ∧ w.cell? ⟨g, 5, none⟩ = some (.int .i64 C) ∧ w.cell? ⟨g, 6, none⟩ = some (.int .i64 M) := by
  obtain ⟨ty, h⟩ := h
  exact ⟨(Array.getElem?_eq_some_iff.1 h).1, cell_of_row w g 0 _ ty (0, 0) h, cell_of_row w g 1 _ ty (0, 0) h, cell_of_row w g 2 _ ty (0, 0) h, cell_of_row w g 3 _ ty (0, 0) h, cell_of_row w g 4 _ ty (0, 0) h, cell_of_row w g 5 _ ty (0, 0) h, cell_of_row w g 6 _ ty (0, 0) h⟩
set_option maxRecDepth 100000 in
set_option maxHeartbeats 4000000 in
theorem spells_core (D : Int) (T S : Nat) (W B C M m : Int) (hT : T ≤ 18446744073709551615) (hS : S ≤ 18446744073709551615) (c f : Int) (R : List Nat) (hc : wchk D T S W B C M = c)
    (hN : ∀ w, Calls Try.prog 9 #[.agg #[.int .i64 D, .int .u64 T, .int .u64 S, .int .i64 W, .int .i64 B, .int .i64 C, .int .i64 M]] w fun e w' => ∃ p, e = .returned (.tuple #[.pointer p, .int .i64 c]) ∧ ((p = none ∧ c ≠ 0) ∨ (∃ g, p = some ⟨g, 0, none⟩ ∧ c = 0)) ∧ Below w.heap.size w w')
    (h1 : ∀ w, Calls Try.prog 22 #[.agg #[.int .i64 D, .int .u64 T, .int .u64 S, .int .i64 W, .int .i64 B, .int .i64 C, .int .i64 M], .int .i64 m] w fun e w' => ∃ v, e = .returned (.tuple #[v, .int .i64 f]) ∧ OwnB w' w.heap.size v R ∧ Below w.heap.size w w')
    (h2 : ∀ w, Calls Try.prog 23 #[.agg #[.int .i64 D, .int .u64 T, .int .u64 S, .int .i64 W, .int .i64 B, .int .i64 C, .int .i64 M], .int .i64 m] w fun e w' => ∃ v, e = .returned (.tuple #[v, .int .i64 f]) ∧ OwnB w' w.heap.size v R ∧ Below w.heap.size w w')
    (w : World) :
    Calls Try.prog 6 #[.agg #[.int .i64 D, .int .u64 T, .int .u64 S, .int .i64 W, .int .i64 B, .int .i64 C, .int .i64 M], .int .i64 m] w fun e w' => e = .returned (.bool true) ∧ Below w.heap.size w w' := by
  have HC1 := hide (wcheck_any D T S W B C M hT hS)
  have HC2 := hide (r37check_any D T S W B C M hT hS)
  rw [hc] at HC1 HC2
  have HN := hide hN
  have H1 := hide h1
  have H2 := hide h2
  clear hN h1 h2 hc
  go_enter Try.func6, Try.ntmps6
  go_wp2_with fail
  refine (HN.out _).mono ?_
  rintro e w1 ⟨pu, rfl, hpu, hb1⟩
  have HX1 := hide (show Box7 w1 w.heap.size D T S W B C M from ⟨_, (hb1.block w.heap.size (by simp)).trans (heap_alloc_new w _)⟩)
  have HB1 := hide (below_one hb1)
  obtain ⟨l1, q0, q1, q2, q3, q4, q5, q6⟩ := HX1.out.cells
  clear hb1
  go_wp2_with fail
  refine (H1.out _).mono ?_
  rintro e w2 ⟨v1, rfl, ho2, hb2⟩
  have HX2 := hide (HX1.out.below hb2 l1)
  have HB2 := hide (below_then HB1.out hb2)
  obtain ⟨a1, c1, rfl, r1⟩ := ho2.row
  have HR2 := hide r1
  clear ho2 hb2 r1 q0 q1 q2 q3 q4 q5 q6
  obtain ⟨l2, q0, q1, q2, q3, q4, q5, q6⟩ := HX2.out.cells
  go_wp2_with fail
  refine (H2.out _).mono ?_
  rintro e w3 ⟨v2, rfl, ho3, hb3⟩
  have HX3 := hide (HX2.out.below hb3 l2)
  have HB3 := hide (below_then HB2.out hb3)
  have HR3 := hide (HR2.out.below hb3)
  obtain ⟨a2, c2, rfl, r2⟩ := ho3.row
  have HQ3 := hide r2
  clear ho3 hb3 r2 q0 q1 q2 q3 q4 q5 q6
  obtain ⟨l3, q0, q1, q2, q3, q4, q5, q6⟩ := HX3.out.cells
  go_wp2_with fail
  refine (HC2.out _).mono ?_
  rintro e w4 ⟨rfl, hb4⟩
  have HX4 := hide (HX3.out.below hb4 l3)
  have HB4 := hide (below_then HB3.out hb4)
  have HR4 := hide (HR3.out.below hb4)
  have HQ4 := hide (HQ3.out.below hb4)
  clear hb4 q0 q1 q2 q3 q4 q5 q6
  obtain ⟨l4, q0, q1, q2, q3, q4, q5, q6⟩ := HX4.out.cells
  go_wp2_with fail
  refine (HC1.out _).mono ?_
  rintro e w5 ⟨rfl, hb5⟩
  have HB5 := hide (below_then HB4.out hb5)
  have cv1 := (HR4.out.below hb5).conv c1
  have cv2 := (HQ4.out.below hb5).conv c2
  clear hb5 q0 q1 q2 q3 q4 q5 q6
  go_wp2_with fail
  refine (num_any _ _).mono ?_
  rintro e w' ⟨rfl, rfl⟩
  rcases hpu with ⟨rfl, hne⟩ | ⟨g, rfl, rfl⟩
  · have hq := nzBeq hne
    go_wp2_with fail
    refine (num_any _ _).mono ?_
    rintro e w' ⟨rfl, rfl⟩
    go_wp2_with fail
    refine (num_any _ _).mono ?_
    rintro e w' ⟨rfl, rfl⟩
    go_wp2_with fail
    refine (knows_any _).mono ?_
    rintro e w6 ⟨rfl, hb6⟩
    go_wp2_with fail
    go_ret
    exact ⟨rfl, below_then HB5.out hb6⟩
  · go_wp2_with fail
    refine (num_any _ _).mono ?_
    rintro e w' ⟨rfl, rfl⟩
    go_wp2_with fail
    refine (num_any _ _).mono ?_
    rintro e w' ⟨rfl, rfl⟩
    go_wp2_with fail
    refine (knows_any _).mono ?_
    rintro e w6 ⟨rfl, hb6⟩
    go_wp2_with fail
    go_ret
    exact ⟨rfl, below_then HB5.out hb6⟩
theorem law_spells (D : Int) (T S : Nat) (W B C M m : Int) (hT : T ≤ 18446744073709551615) (hS : S ≤ 18446744073709551615) (w : World) :
    Calls Try.prog 6 #[.agg #[.int .i64 D, .int .u64 T, .int .u64 S, .int .i64 W, .int .i64 B, .int .i64 C, .int .i64 M], .int .i64 m] w fun e w' => e = .returned (.bool true) ∧ Below w.heap.size w w' := by
  by_cases h0 : wchk D T S W B C M = 0
  · obtain ⟨⟨n, rfl, hg⟩, _⟩ := wchk_zero h0
    have hN : ∀ w, Calls Try.prog 9 #[.agg #[.int .i64 n, .int .u64 T, .int .u64 S, .int .i64 W, .int .i64 B, .int .i64 C, .int .i64 M]] w fun e w' => ∃ p, e = .returned (.tuple #[.pointer p, .int .i64 0]) ∧ ((p = none ∧ (0 : Int) ≠ 0) ∨ (∃ g, p = some ⟨g, 0, none⟩ ∧ (0 : Int) = 0)) ∧ Below w.heap.size w w' := fun w => by
      refine (wnew_good ⟨n, T, W, B, C, M⟩ S hg h0 w).mono ?_
      rintro e w' ⟨x, bn, g, rfl, -, -, hb⟩
      exact ⟨_, rfl, .inr ⟨x, rfl, rfl⟩, hb⟩
    by_cases hm : manyF m = 0
    · obtain ⟨k, rfl, hk⟩ : ∃ k : Nat, m = k ∧ k ≤ 1048576 := by
        unfold manyF at hm
        split at hm
        · exact absurd hm (by decide)
        · split at hm
          · exact absurd hm (by decide)
          · exact ⟨m.toNat, by omega, by omega⟩
      exact spells_core n T S W B C M k hT hS 0 0 _ h0 hN (spell_ok ⟨n, T, W, B, C, M⟩ S hg h0 k hk) (rspell_ok ⟨n, T, W, B, C, M⟩ S hg h0 k hk) w
    · refine spells_core n T S W B C M m hT hS 0 (manyF m) [] h0 hN (fun u => (spell_many ⟨n, T, W, B, C, M⟩ S hg h0 m hm u).mono ?_) (fun u => (rspell_many ⟨n, T, W, B, C, M⟩ S hg h0 m hm u).mono ?_) w <;>
        (rintro e u' ⟨rfl, hb⟩; exact ⟨_, rfl, OwnB.nil _ _, hb⟩)
  · refine spells_core D T S W B C M m hT hS (wchk D T S W B C M) (wchk D T S W B C M) [] rfl (fun u => (wnew_bad D T S W B C M hT hS h0 u).mono ?_) (fun u => (spell_bad D T S W B C M m hT hS h0 u).mono ?_) (fun u => (rspell_bad D T S W B C M m hT hS h0 u).mono ?_) w
    · rintro e u' ⟨rfl, hb⟩; exact ⟨_, rfl, .inl ⟨rfl, h0⟩, hb⟩
    · rintro e u' ⟨rfl, hb⟩; exact ⟨_, rfl, OwnB.nil _ _, hb⟩
    · rintro e u' ⟨rfl, hb⟩; exact ⟨_, rfl, OwnB.nil _ _, hb⟩
end Go.Proofs.Ytmagpmoghnmhmaa
