/- lfsr.Bits, walked. -/
import Derived.Test.YtknkkoemghceeaaDoorRows
import Derived.Test.YtknkkoemghceeaaDoorLfEach
namespace Go.Proofs.YtknkkoemghceeaaDoor
open Go.RowKit

/-- the first bits of a sequence -/
def firstL (n T S m : Nat) : List Nat := (List.range m).map fun i => Gf2.stpN n T i S % 2
theorem firstL_length (n T S m : Nat) : (firstL n T S m).length = m := by simp [firstL]
theorem firstL_at (n T S : Nat) {m i : Nat} (h : i < m) : (firstL n T S m).getD i 0 = Gf2.stpN n T i S % 2 := by simp [firstL, List.getD, h]
/-- what a closure that fills a row holds -/
structure FillSt (w u : World) (bo g1 m : Nat) (f : Nat → Nat) (k : Nat) : Prop where
  own : OwnB u w.heap.size (.slice (some ⟨g1, 0, none⟩) m m) (fillK f m k)
  box : ∃ ty, u.heap[bo]? = some (.cells #[.slice (some ⟨g1, 0, none⟩) m m] ty (0, 0))
  below : Below w.heap.size w u
section
variable {w u u1 : World} {bo g1 m k : Nat} {f : Nat → Nat}
theorem FillSt.cell (h : FillSt w u bo g1 m f k) : u.cell? ⟨bo, 0, none⟩ = some (.slice (some ⟨g1, 0, none⟩) m m) := by
  obtain ⟨ty, h⟩ := h.box
  exact cell_of_row u bo 0 _ ty (0, 0) h
theorem FillSt.lt (h : FillSt w u bo g1 m f k) : bo < u.heap.size := by
  obtain ⟨ty, h⟩ := h.box
  exact (Array.getElem?_eq_some_iff.1 h).1
theorem FillSt.grown {q : Nat} (h : FillSt w u bo g1 m f k) (hg : u.grownBy u1 (some q)) (h1 : g1 ≠ q) (h2 : bo ≠ q) (hq : w.heap.size ≤ q) : FillSt w u1 bo g1 m f k := by
  refine ⟨h.own.grown hg (fun b e => by simp [Value.ownBlock] at e; simp; omega), ?_, h.below.grown hg h.below.size (fun b e => by simp at e; omega)⟩
  obtain ⟨ty, hb⟩ := h.box
  exact ⟨ty, (hg.block bo (Array.getElem?_eq_some_iff.1 hb).1 (by simpa using h2)).trans hb⟩
theorem FillSt.set (h : FillSt w u bo g1 m f k) (hk : k < m) (hne : bo ≠ g1) (hg : w.heap.size ≤ g1) : FillSt w (u.setCell ⟨g1, k, none⟩ (.int .u8 (f k : Nat))) bo g1 m f (k + 1) := by
  refine ⟨?_, ?_, h.below.setCell hg _⟩
  · have := (h.own.set (fillK_length (Nat.le_of_lt hk)).symm k (f k)).1
    rwa [fillK_set hk] at this
  · obtain ⟨ty, hb⟩ := h.box
    exact ⟨ty, (Below.heap_setCell _ _ _ _ hne).trans hb⟩
theorem FillSt.out (h : FillSt w u bo g1 m f k) (hk : k < m) : u.cell? ⟨g1, k, none⟩ = some (.int .u8 ((fillK f m k).getD k 0 : Nat)) ∧ u.frozen? ⟨g1, k, none⟩ = false :=
  ⟨h.own.cell (fillK_length (Nat.le_of_lt hk)).symm hk, h.own.frz (fillK_length (Nat.le_of_lt hk)).symm k⟩
end
set_option maxHeartbeats 400000 in
theorem bits_one {w u1 : World} {bo g1 gr m k n T S' : Nat} {f : Nat → Nat} {D : Int} (hS : FillSt w u1 bo g1 m f k) (hr : RegL u1 gr D T S') (hk : k < m) (hne : bo ≠ g1 ∧ gr ≠ g1) (hg : w.heap.size ≤ g1) (hq : f k = n) :
    Calls Tryd.prog 56 #[.int .i64 k, .int .u8 n, .pointer (some ⟨bo, 0, none⟩)] u1 fun e u2 => e = .returned (.tuple #[]) ∧ RegL u2 gr D T S' ∧ FillSt w u2 bo g1 m f (k + 1) := by
  have hc := hS.cell
  obtain ⟨ho, hf⟩ := hS.out hk
  have HS := hide (hS.set hk hne.1 hg)
  rw [hq] at HS
  have HR := hide (hr.far (p := ⟨g1, k, none⟩) hne.2 (.int .u8 (n : Nat)))
  have hin : (0 : Int) ≤ k := by omega
  have hin2 : (k : Int) < m := by omega
  clear hS hr hq
  go_enter Tryd.func56, Tryd.ntmps56
  go_wp2_with fail
  go_end0
  exact ⟨rfl, HR.out, HS.out⟩
set_option maxHeartbeats 400000 in
theorem lbits_bad (D : Int) (T S : Nat) (hT : T ≤ 18446744073709551615) (hS : S ≤ 18446744073709551615) (hne : lchk D T S ≠ 0) (m : Value) (w : World) :
    Calls Tryd.prog 17 #[.agg #[.int .i64 D, .int .u64 T, .int .u64 S], m] w fun e w' => e = .returned (.tuple #[.slice none 0 0, .int .i64 (lchk D T S)]) ∧ Below w.heap.size w w' := by
  have HC := hide (lseries_bad D T S hT hS hne)
  have hb := nzBne hne
  generalize lchk D T S = cf at *
  clear hne
  go_enter Tryd.func17, Tryd.ntmps17
  go_wp2_with fail
  refine (HC.out _).mono ?_
  rintro e w1 ⟨rfl, hb1⟩
  go_wp2_with fail
  go_ret2
  exact ⟨rfl, below_one hb1⟩
/-- the error of a number of bits -/
def sizeF (m : Int) : Int := if m < 0 then 1 else if 1048576 < m then 6 else 0
set_option maxHeartbeats 400000 in
theorem lbits_size (n T S : Nat) (hg : GoodL n T S) (m : Int) (hm : sizeF m ≠ 0) (w : World) :
    Calls Tryd.prog 17 #[.agg #[.int .i64 n, .int .u64 T, .int .u64 S], .int .i64 m] w fun e w' => e = .returned (.tuple #[.slice none 0 0, .int .i64 (sizeF m)]) ∧ Below w.heap.size w w' := by
  have HC := hide (lseries_good n T S hg)
  by_cases h1 : m < 0
  · rw [show sizeF m = 1 from if_pos h1]
    clear hm hg
    go_enter Tryd.func17, Tryd.ntmps17
    go_wp2_with fail
    refine (HC.out _).mono ?_
    rintro e w1 ⟨g, rfl, _, _, hb1⟩
    go_wp2_with fail
    go_ret2
    exact ⟨rfl, below_one hb1⟩
  · by_cases h2 : 1048576 < m
    · rw [show sizeF m = 6 by unfold sizeF; rw [if_neg h1, if_pos h2]]
      clear hm hg
      go_enter Tryd.func17, Tryd.ntmps17
      go_wp2_with fail
      refine (HC.out _).mono ?_
      rintro e w1 ⟨g, rfl, _, _, hb1⟩
      go_wp2_with fail
      go_ret2
      exact ⟨rfl, below_one hb1⟩
    · exact absurd (by unfold sizeF; rw [if_neg h1, if_neg h2]) hm
set_option maxHeartbeats 1000000 in
theorem lbits_ok (n T S : Nat) (hg : GoodL n T S) (m : Nat) (hm : m ≤ 1048576) (w : World) :
    Calls Tryd.prog 17 #[.agg #[.int .i64 n, .int .u64 T, .int .u64 S], .int .i64 m] w fun e w' => ∃ v, e = .returned (.tuple #[v, .int .i64 0]) ∧ OwnB w' w.heap.size v (firstL n T S m) ∧ Below w.heap.size w w' := by
  have HC := hide (lseries_good n T S hg)
  have HE := hide fun (g : Nat) => each_bits n T S g m hg (by omega)
  have hmf : ∀ (fn : Fn) (first cap : Array Value) (w : World), (Instr.makeFunc fn first cap).run Tryd.prog w = .ok (.func fn first cap) w := fun _ _ _ _ => rfl
  clear hg
  go_enter Tryd.func17, Tryd.ntmps17
  go_wp2_with fail
  refine (HC.out _).mono ?_
  rintro e w1 ⟨g, rfl, hr1, hg1, hb1⟩
  have HR1 := hide hr1
  have HB1 := hide (below_one hb1)
  have hgl := hr1.lt
  have hz1 := hb1.size
  simp at hz1 hg1
  clear hr1 hb1
  go_wp2_with (first
    | (at_make; refine wpList_makeB rfl _ _ rfl w.heap.size _ _ m rfl rfl ?c1 ?c2 ?c3 ?c4 ?_)
    | go_in)
  case c1 => rfl
  case c2 => rfl
  case c3 => omega
  case c4 => omega
  intro w2 hown2 hgrow2 hz2
  have HS0 := hide (show FillSt w (w2.alloc (.cells #[.slice (some ⟨w1.heap.size, 0, none⟩) m m] 25)) w2.heap.size w1.heap.size m (fun i => Gf2.stpN n T i S % 2) 0 from
    ⟨by rw [fillK_zero]; exact hown2.alloc _, ⟨_, heap_alloc_new w2 _⟩, (HB1.out.grown hgrow2 HB1.out.size (fun k e => by cases e)).alloc (by have := HB1.out.size; omega) _⟩)
  have HR2 := hide ((HR1.out.grown hgrow2 (by simp)).alloc (.cells #[.slice (some ⟨w1.heap.size, 0, none⟩) m m] 25))
  clear hown2 hgrow2
  go_wp2_with fail
  refine (HE.out g (.pointer (some ⟨w2.heap.size, 0, none⟩)) (fun k u => FillSt w u w2.heap.size w1.heap.size m (fun i => Gf2.stpN n T i S % 2) k) ?hI _ HR2.out HS0.out).mono ?_
  case hI =>
    intro k u u1 hk hS hgr hr
    exact bits_one (hS.grown hgr (by omega) (by omega) (by omega)) hr hk ⟨by omega, by omega⟩ (by omega) rfl
  rintro e w3 ⟨rfl, hr3, hs3⟩
  have hc3 := hs3.cell
  have HS3 := hide hs3
  clear hr3 hs3
  go_wp2_with fail
  go_ret2
  exact ⟨_, rfl, by have := HS3.out.own; rw [fillK_full] at this; exact this, HS3.out.below⟩
end Go.Proofs.YtknkkoemghceeaaDoor
