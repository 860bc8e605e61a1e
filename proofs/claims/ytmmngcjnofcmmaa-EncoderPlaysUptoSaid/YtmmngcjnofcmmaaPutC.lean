/- The closure of encoder.Encode that puts a bit, walked. -/
import Derived.Test.YtmmngcjnofcmmaaRows
import Derived.Test.YtmmngcjnofcmmaaPush
import Derived.Test.YtmmngcjnofcmmaaSyms
import Derived.Deep.RegionLaw
import Derived.Deep.DeepCutAuto
namespace Go.Proofs.Ytmmngcjnofcmmaa
open Go.RowKit

theorem push_any (n a b c s x g : Nat) (R : Int) (hR : R = 2 ∨ R = 3) (hn : 2 ≤ n ∧ n ≤ 31) (hA : a ≤ 4294967295) (hB : b ≤ 4294967295) (hC : c ≤ 4294967295) (hs : s ≤ 2147483647) (hx : x ≤ 1) (w : World) (hr : RegB w g (n + 1) R a b c s) :
    Calls Try.prog 42 #[.pointer (some ⟨g, 0, none⟩), .int .u8 x] w fun e w' => e = .returned (.agg #[.int .u8 (outF (2 * s + x) a), .int .u8 (outF (2 * s + x) b), .int .u8 (third R (outF (2 * s + x) c))]) ∧ RegB w' g (n + 1) R a b c ((2 * s + x) % 2 ^ n) ∧ w.grownBy w' (some g) := by
  rcases hR with rfl | rfl
  · exact push_two n a b c s x g hn hA hB hC hs hx w hr
  · exact push_three n a b c s x g hn hA hB hC hs hx w hr
/-- what Encode holds while it runs: x's box, out's box, c's box, the register -/
structure PutSt (w : World) (B bx bo bc g : Nat) (K R : Int) (a b c s : Nat) (v : Value) (ys : List Nat) : Prop where
  x : w.cell? ⟨bx, 0, none⟩ = some (.pointer (some ⟨g, 0, none⟩))
  o : w.cell? ⟨bo, 0, none⟩ = some v
  f : w.frozen? ⟨bo, 0, none⟩ = false
  k : w.cell? ⟨bc, 0, none⟩ = some (.int .i64 K)
  r : w.cell? ⟨bc, 1, none⟩ = some (.int .i64 R)
  reg : RegB w g K R a b c s
  own : OwnB w B v ys
  apart : ∀ k, v.ownBlock = some k → k ≠ bx ∧ k ≠ bo ∧ k ≠ bc ∧ k ≠ g
  ne : bx ≠ bo ∧ bx ≠ bc ∧ bx ≠ g ∧ bo ≠ bc ∧ bo ≠ g ∧ bc ≠ g
  above : B ≤ bx ∧ B ≤ bo ∧ B ≤ bc ∧ B ≤ g
  lt : bx < w.heap.size ∧ bo < w.heap.size ∧ bc < w.heap.size ∧ g < w.heap.size
def symW (R : Int) (a b c m : Nat) : List Nat := symK R a b c m
/-- what the closure leaves -/
theorem put_done {w w1 w2 : World} {B bx bo bc g : Nat} {K R : Int} {a b c s s' : Nat} {v v2 : Value} {ys zs : List Nat} {o : Obj} (hS : PutSt w B bx bo bc g K R a b c s v ys) (hG1 : w.grownBy w1 (some g)) (hR1 : RegB w1 g K R a b c s')
    (hG2 : ((w1.alloc o).drew).grownBy w2 v.ownBlock) (hO : OwnB w2 B v2 zs) (hA2 : v2.ownBlock = v.ownBlock ∨ v2.ownBlock = some ((w1.alloc o).drew).heap.size) :
    PutSt (w2.setCell ⟨bo, 0, none⟩ v2) B bx bo bc g K R a b c s' v2 zs ∧ Below B w (w2.setCell ⟨bo, 0, none⟩ v2) := by
  obtain ⟨l1, l2, l3, l4⟩ := hS.lt
  obtain ⟨a1, a2, a3, a4⟩ := hS.above
  obtain ⟨n1, n2, n3, n4, n5, n6⟩ := hS.ne
  have z1 := hG1.size
  have z2 : w1.heap.size + 1 ≤ w2.heap.size := by have := hG2.size; simpa using this
  have hap := hS.apart
  have hk2 : ∀ q, q < w1.heap.size → some q ≠ v.ownBlock → w2.heap[q]? = w1.heap[q]? := fun q hq hne => (hG2.block q (by show q < (w1.alloc o).heap.size; simp; omega) hne).trans (Below.heap_alloc w1 o q hq)
  have hk : ∀ q, q < w1.heap.size → some q ≠ v.ownBlock → q ≠ bo → (w2.setCell ⟨bo, 0, none⟩ v2).heap[q]? = w1.heap[q]? := fun q hq hne hb => (Below.heap_setCell w2 _ _ q hb).trans (hk2 q hq hne)
  have hx : ∀ q, q < w.heap.size → q ≠ g → some q ≠ v.ownBlock → q ≠ bo → (w2.setCell ⟨bo, 0, none⟩ v2).heap[q]? = w.heap[q]? := fun q hq hg hne hb => (hk q (by omega) hne hb).trans (hG1.block q hq (by simpa using hg))
  have ox : some bx ≠ v.ownBlock := fun e => (hap bx e.symm).1 rfl
  have oo : some bo ≠ v.ownBlock := fun e => (hap bo e.symm).2.1 rfl
  have oc : some bc ≠ v.ownBlock := fun e => (hap bc e.symm).2.2.1 rfl
  have og : some g ≠ v.ownBlock := fun e => (hap g e.symm).2.2.2 rfl
  have hap2 : ∀ k, v2.ownBlock = some k → k ≠ bx ∧ k ≠ bo ∧ k ≠ bc ∧ k ≠ g := fun k e => by
    rcases hA2 with h | h
    · exact hap k (h ▸ e)
    · rw [h] at e
      have e2 : (w1.alloc o).heap.size = k := Option.some.inj e
      simp at e2
      omega
  refine ⟨⟨?_, ?_, ?_, ?_, ?_, ?_, ?_, hap2, hS.ne, hS.above, ?_⟩, ?_⟩
  · exact (World.cell?_of_block (a := ⟨bx, 0, none⟩) (hx bx l1 n3 ox n1)).trans hS.x
  · have : w2.cell? ⟨bo, 0, none⟩ = some v := (World.cell?_of_block (a := ⟨bo, 0, none⟩) ((hk2 bo (by omega) oo).trans (hG1.block bo l2 (by simpa using n5)))).trans hS.o
    exact World.cell?_setCell_same _ _ _ this
  · rw [World.frozen?_setCell]
    exact (World.frozen?_of_block (a := ⟨bo, 0, none⟩) ((hk2 bo (by omega) oo).trans (hG1.block bo l2 (by simpa using n5)))).trans hS.f
  · exact (World.cell?_of_block (a := ⟨bc, 0, none⟩) (hx bc l3 n6 oc (Ne.symm n4))).trans hS.k
  · exact (World.cell?_of_block (a := ⟨bc, 1, none⟩) (hx bc l3 n6 oc (Ne.symm n4))).trans hS.r
  · exact hR1.keep (hk g (by omega) og (Ne.symm n5))
  · exact hO.far (fun q e => (hap2 q e).2.1) _
  · have : w2.heap.size ≤ (w2.setCell ⟨bo, 0, none⟩ v2).heap.size := by simp
    omega
  · exact (((((Below.refl B w).grown hG1 (by omega) (fun k e => by simp at e; omega)).alloc (by omega) o).drew).grown hG2 (by show B ≤ (w1.alloc o).heap.size; simp; omega) (fun k e => (hS.own.lt e).1)).setCell (by simpa using a2) _
set_option maxHeartbeats 2000000 in
theorem putc_any (n a b c s x B bx bo bc g : Nat) (R : Int) (hR : R = 2 ∨ R = 3) (hn : 2 ≤ n ∧ n ≤ 31) (hA : a ≤ 4294967295) (hB : b ≤ 4294967295) (hC : c ≤ 4294967295) (hs : s ≤ 2147483647) (hx : x ≤ 1) (v : Value) (ys : List Nat) (hl : ys.length ≤ 140737488355000) (w : World) (hst : PutSt w B bx bo bc g (n + 1) R a b c s v ys) :
    Calls Try.prog 41 #[.int .u8 x, .pointer (some ⟨bx, 0, none⟩), .pointer (some ⟨bo, 0, none⟩), .pointer (some ⟨bc, 0, none⟩)] w fun e w' => ∃ v', e = .returned (.tuple #[]) ∧ PutSt w' B bx bo bc g (n + 1) R a b c ((2 * s + x) % 2 ^ n) v' (ys ++ symK R a b c (2 * s + x)) ∧ Below B w w' := by
  have HP := hide (push_any n a b c s x g R hR hn hA hB hC hs hx w hst.reg)
  have HS := hide hst
  have hcx := hst.x
  have hlt := hst.lt
  obtain ⟨l1, l2, l3, l4⟩ := hlt
  clear hst
  go_enter Try.func41, Try.ntmps41
  go_wp2_with fail
  refine HP.out.mono ?_
  rintro e w1 ⟨rfl, hr1, hg1⟩
  have hz := hg1.size
  have ho1 := hg1.cell HS.out.o (fun e => by have := HS.out.ne; simp at e; omega)
  have hrr1 := hg1.cell HS.out.r (fun e => by have := HS.out.ne; simp at e; omega)
  have HG1 := hide hg1
  have HR1 := hide hr1
  have hm1 : bo < w1.heap.size := by omega
  have hm2 : bc < w1.heap.size := by omega
  clear hg1 hr1
  have hfr1 : w1.frozen? ⟨bo, 0, none⟩ = false := (HG1.out.frozen_far ⟨bo, 0, none⟩ (by simp; omega) (fun e => by have := HS.out.ne; simp at e; omega)).trans HS.out.f
  have hown0 : OwnB w1 B v ys := HS.out.own.grown HG1.out (fun k e h => by have := HS.out.apart k e; simp at h; omega)
  have HO1 := hide (hown0.alloc (.cells #[.int .u8 (outF (2 * s + x) a), .int .u8 (outF (2 * s + x) b), .int .u8 (third R (outF (2 * s + x) c))] 76)).drew
  have hB1 : B ≤ ((w1.alloc (.cells #[.int .u8 (outF (2 * s + x) a), .int .u8 (outF (2 * s + x) b), .int .u8 (third R (outF (2 * s + x) c))] 76)).drew).heap.size := by have := HS.out.above; show _ ≤ (w1.alloc _).heap.size; simp; omega
  have hne : some bo ≠ v.ownBlock := fun e => (HS.out.apart bo e.symm).2.1 rfl
  clear hown0
  rcases hR with rfl | rfl
  · have hsy : symK 2 a b c (2 * s + x) = [outF (2 * s + x) a, outF (2 * s + x) b] := rfl
    generalize outF (2 * s + x) a = y0 at *
    generalize outF (2 * s + x) b = y1 at *
    generalize third 2 (outF (2 * s + x) c) = y2 at *
    
    
    
    have HSY := hide hsy
    clear hsy
    have hrow : RowA ((w1.alloc (.cells #[.int .u8 y0, .int .u8 y1, .int .u8 y2] 76)).drew) (some ⟨w1.heap.size, 0, none⟩) [y0, y1] := fun _ => ⟨w1.heap.size, 0, rfl, by simp, fun i hi => by
      have : i = 0 ∨ i = 1 := by simp at hi; omega
      rcases this with rfl | rfl <;> simp [go_sem]⟩
    have HROW := hide hrow
    clear hrow
    go_wp2_with fail
    go_region_law ((refine step_appB rfl (.tmp 11) (.tmp 14) rfl B v ys rfl HO1.out (some ⟨w1.heap.size, 0, none⟩) 2 3 [y0, y1] rfl HROW.out rfl (by simp; omega) hB1 ?_; intro v2 w2 hown2 hgrow2 hat2; obtain ⟨g2, cap2, rfl, hg21, hg22, _, _⟩ := hown2.full (by simp); have ho2 := hgrow2.frozen_far ⟨bo, 0, none⟩ (by simp; omega) hne; have ho3 := hgrow2.cell_far ⟨bo, 0, none⟩ (by simp; omega) hne))
    all_goals
      go_wp2_with fail
      go_end0
      have hd := put_done HS.out HG1.out HR1.out hgrow2 hown2 hat2
      exact ⟨_, rfl, by rw [HSY.out]; simpa using hd.1, by simpa using hd.2⟩
  · have hsy : symK 3 a b c (2 * s + x) = [outF (2 * s + x) a, outF (2 * s + x) b, outF (2 * s + x) c] := rfl
    generalize outF (2 * s + x) a = y0 at *
    generalize outF (2 * s + x) b = y1 at *
    have ht : third 3 (outF (2 * s + x) c) = outF (2 * s + x) c := rfl
    rw [ht] at *
    clear ht
    generalize outF (2 * s + x) c = y2 at *
    have HSY := hide hsy
    clear hsy
    have hrow : RowA ((w1.alloc (.cells #[.int .u8 y0, .int .u8 y1, .int .u8 y2] 76)).drew) (some ⟨w1.heap.size, 0, none⟩) [y0, y1, y2] := fun _ => ⟨w1.heap.size, 0, rfl, by simp, fun i hi => by
      have : i = 0 ∨ i = 1 ∨ i = 2 := by simp at hi; omega
      rcases this with rfl | rfl | rfl <;> simp [go_sem]⟩
    have HROW := hide hrow
    clear hrow
    go_wp2_with fail
    go_region_law ((refine step_appB rfl (.tmp 11) (.tmp 14) rfl B v ys rfl HO1.out (some ⟨w1.heap.size, 0, none⟩) 3 3 [y0, y1, y2] rfl HROW.out rfl (by simp; omega) hB1 ?_; intro v2 w2 hown2 hgrow2 hat2; obtain ⟨g2, cap2, rfl, hg21, hg22, _, _⟩ := hown2.full (by simp); have ho2 := hgrow2.frozen_far ⟨bo, 0, none⟩ (by simp; omega) hne; have ho3 := hgrow2.cell_far ⟨bo, 0, none⟩ (by simp; omega) hne))
    all_goals
      go_wp2_with fail
      go_end0
      have hd := put_done HS.out HG1.out HR1.out hgrow2 hown2 hat2
      exact ⟨_, rfl, by rw [HSY.out]; simpa using hd.1, by simpa using hd.2⟩
end Go.Proofs.Ytmmngcjnofcmmaa
