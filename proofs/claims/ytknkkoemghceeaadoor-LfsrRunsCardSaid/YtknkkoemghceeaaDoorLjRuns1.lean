/- The law LfsrRuns, its first loop's state. -/
import Derived.Test.YtknkkoemghceeaaDoorRows
import Derived.Test.YtknkkoemghceeaaDoorRunSt
import Derived.Test.YtknkkoemghceeaaDoorOpenRuns
import Derived.Test.YtknkkoemghceeaaDoorR4Check
import Derived.Deep.RegionHeld3
namespace Go.Proofs.YtknkkoemghceeaaDoor
open Go.RowKit

section
variable {w u : World} {va vb : Value} {m : Nat} {G F N T Sa Sb lab : Nat → Nat}
theorem RunSt.start (w : World) : RunSt w w (.slice none 0 0) (.slice none 0 0) 0 G F N T Sa Sb lab :=
  ⟨OwnP.nil _ _ _, OwnP.nil _ _ _, fun i hi => absurd hi (by omega), fun i hi => absurd hi (by omega), fun i hi => absurd hi (by omega), fun i hi => absurd hi (by omega), fun i hi => absurd hi (by omega), (fun g e => by cases e), (fun g e => by cases e), fun i hi => absurd hi (by omega), Below.refl _ _⟩
/-- the state between the two appends: a has a runner more than b -/
structure RunMid (w u : World) (va vb : Value) (m : Nat) (G F N T S : Nat → Nat) (lab : Nat → Nat) (n t s : Nat) : Prop where
  la : OwnP 51 u w.heap.size va (ptrs G (m + 1))
  lb : OwnP 60 u w.heap.size vb (ptrs F m)
  ra : ∀ i, i < m → RegL u (G i) (N i) (T i) (S i)
  rm : RegL u (G m) n t s
  rb : ∀ i, i < m → RegL u (F i) (N i) (T i) (S i)
  gd : ∀ i, i < m → GoodL (N i) (T i) (S i)
  gm : GoodL n t s
  lg : ∀ i, i < m → lab (G i) = 2 * i + 2 ∧ lab (F i) = 2 * i + 3
  lm : lab (G m) = 2 * m + 2
  lva : ∀ g, va.ownBlock = some g → lab g = 0
  lvb : ∀ g, vb.ownBlock = some g → lab g = 1
  ge : ∀ i, i < m → w.heap.size ≤ G i ∧ w.heap.size ≤ F i
  gem : w.heap.size ≤ G m
  below : Below w.heap.size w u
/-- the first append -/
theorem RunSt.pushA {u1 u2 : World} {g n t s : Nat} {va' : Value} (h : RunSt w u va vb m G F N T Sa Sa lab) (hr : RegL u1 g n t s) (hgd : GoodL n t s) (hg : u.heap.size ≤ g) (hb : Below u.heap.size u u1) (o : Obj)
    (ho : OwnP 51 u2 w.heap.size va' (ptrs G m ++ [.pointer (some ⟨g, 0, none⟩)])) (hgr : (u1.alloc o).grownBy u2 va.ownBlock) (hd : va'.ownBlock = va.ownBlock ∨ va'.ownBlock = some (u1.alloc o).heap.size) :
    RunMid w u2 va' vb m (updF G m g) F N T Sa (fun x => if x = g then 2 * m + 2 else if x = (u1.alloc o).heap.size then 0 else lab x) n t s := by
  have h1 := h.next hb
  have hz := hb.size
  have hgl := hr.lt
  have hz1 : (u1.alloc o).heap.size = u1.heap.size + 1 := by simp
  have ltA := fun q (e : va.ownBlock = some q) => (h.la.lt e).2
  have ltB := fun q (e : vb.ownBlock = some q) => (h.lb.lt e).2
  have ltG := fun i hi => (h.ra i hi).lt
  have ltF := fun i hi => (h.rb i hi).lt
  have hwu := h.below.size
  have hG : ∀ i, i < m → updF G m g i = G i := fun i hi => by unfold updF; rw [if_neg (by omega)]
  have hGm : updF G m g m = g := by unfold updF; rw [if_pos rfl]
  have nl : ∀ x, x < u.heap.size → (if x = g then 2 * m + 2 else if x = (u1.alloc o).heap.size then 0 else lab x) = lab x := fun x hx => by rw [if_neg (by omega), if_neg (by omega)]
  refine ⟨by rw [ptrs_push]; exact ho, ?_, fun i hi => ?_, ?_, fun i hi => ?_, h.ga, hgd, fun i hi => ?_, ?_, fun q e => ?_, fun q e => ?_, fun i hi => by rw [hG i hi]; exact h.ge i hi, by rw [hGm]; omega, ?_⟩
  · refine h1.lb.keep fun q e => ?_
    have hq := ltB q e
    refine (hgr.block q (by omega) (fun e2 => ?_)).trans (Below.heap_alloc _ _ _ (by omega))
    have := h.lva q e2.symm; have := h.lvb q e; omega
  · rw [hG i hi]
    refine ((h1.ra i hi).alloc o).grown hgr (fun e2 => ?_)
    have := h.lva _ e2.symm; have := (h.lg i hi).1; omega
  · rw [hGm]
    refine (hr.alloc o).grown hgr (fun e2 => ?_)
    have := ltA _ e2.symm; omega
  · refine ((h1.rb i hi).alloc o).grown hgr (fun e2 => ?_)
    have := h.lva _ e2.symm; have := (h.lg i hi).2; omega
  · rw [hG i hi, nl _ (ltG i hi), nl _ (ltF i hi)]; exact h.lg i hi
  · rw [hGm, if_pos rfl]
  · rcases hd with hd | hd
    · rw [hd] at e
      rw [nl _ (ltA q e)]; exact h.lva q e
    · rw [hd] at e
      obtain rfl := Option.some.inj e
      rw [if_neg (by omega), if_pos rfl]
  · rw [nl _ (ltB q e)]; exact h.lvb q e
  · exact (h1.below.alloc h1.below.size o).grown hgr (by omega) (fun q e => (h.la.lt e).1)
/-- the second append -/
theorem RunMid.pushB {u2 : World} {S : Nat → Nat} {n t s g : Nat} {vb' : Value} {R : World} (h : RunMid w u va vb m G F N T S lab n t s) (hr : RegL R g n t s) (hg : u.heap.size ≤ g) (hb : Below u.heap.size u R) (o : Obj)
    (ho : OwnP 60 u2 w.heap.size vb' (ptrs F m ++ [.pointer (some ⟨g, 0, none⟩)])) (hgr : (R.alloc o).grownBy u2 vb.ownBlock) (hd : vb'.ownBlock = vb.ownBlock ∨ vb'.ownBlock = some (R.alloc o).heap.size) :
    RunSt w u2 va vb' (m + 1) G (updF F m g) (updF N m n) (updF T m t) (updF S m s) (updF S m s) (fun x => if x = g then 2 * m + 3 else if x = (R.alloc o).heap.size then 1 else lab x) := by
  have hz := hb.size
  have hgl := hr.lt
  have hz1 : (R.alloc o).heap.size = R.heap.size + 1 := by simp
  have ltA := fun q (e : va.ownBlock = some q) => (h.la.lt e).2
  have ltB := fun q (e : vb.ownBlock = some q) => (h.lb.lt e).2
  have ltG := fun i hi => (h.ra i hi).lt
  have ltF := fun i hi => (h.rb i hi).lt
  have ltM := h.rm.lt
  have hwu := h.below.size
  have hU : ∀ (f : Nat → Nat) (x i : Nat), i < m → updF f m x i = f i := fun f x i hi => by unfold updF; rw [if_neg (by omega)]
  have hUm : ∀ (f : Nat → Nat) (x : Nat), updF f m x m = x := fun f x => by unfold updF; rw [if_pos rfl]
  have nl : ∀ x, x < u.heap.size → (if x = g then 2 * m + 3 else if x = (R.alloc o).heap.size then 1 else lab x) = lab x := fun x hx => by rw [if_neg (by omega), if_neg (by omega)]
  have hcase : ∀ i, i < m + 1 → i < m ∨ i = m := fun i hi => by omega
  refine ⟨?_, by rw [ptrs_push]; exact ho, fun i hi => ?_, fun i hi => ?_, fun i hi => ?_, fun i hi => ?_, fun i hi => ?_, fun q e => ?_, fun q e => ?_, fun i hi => ?_, ?_⟩
  · refine h.la.keep fun q e => ?_
    have hq := ltA q e
    refine (hgr.block q (by omega) (fun e2 => ?_)).trans ((Below.heap_alloc _ _ _ (by omega)).trans (hb.block q hq))
    have := h.lvb q e2.symm; have := h.lva q e; omega
  · rcases hcase i hi with hi | rfl
    · rw [hU N n i hi, hU T t i hi, hU S s i hi]
      refine (((h.ra i hi).below hb (ltG i hi)).alloc o).grown hgr (fun e2 => ?_)
      have := h.lvb _ e2.symm; have := (h.lg i hi).1; omega
    · rw [hUm, hUm, hUm]
      refine ((h.rm.below hb ltM).alloc o).grown hgr (fun e2 => ?_)
      have := h.lvb _ e2.symm; have := h.lm; omega
  · rcases hcase i hi with hi | rfl
    · rw [hU F g i hi, hU N n i hi, hU T t i hi, hU S s i hi]
      refine (((h.rb i hi).below hb (ltF i hi)).alloc o).grown hgr (fun e2 => ?_)
      have := h.lvb _ e2.symm; have := (h.lg i hi).2; omega
    · rw [hUm, hUm, hUm, hUm]
      refine (hr.alloc o).grown hgr (fun e2 => ?_)
      have := ltB _ e2.symm; omega
  · rcases hcase i hi with hi | rfl
    · rw [hU N n i hi, hU T t i hi, hU S s i hi]; exact h.gd i hi
    · rw [hUm, hUm, hUm]; exact h.gm
  · rcases hcase i hi with hi | rfl
    · rw [hU N n i hi, hU T t i hi, hU S s i hi]; exact h.gd i hi
    · rw [hUm, hUm, hUm]; exact h.gm
  · rcases hcase i hi with hi | rfl
    · rw [hU F g i hi, nl _ (ltG i hi), nl _ (ltF i hi)]; exact h.lg i hi
    · rw [hUm, nl _ ltM, if_pos rfl]; exact ⟨h.lm, rfl⟩
  · rw [nl _ (ltA q e)]; exact h.lva q e
  · rcases hd with hd | hd
    · rw [hd] at e
      rw [nl _ (ltB q e)]; exact h.lvb q e
    · rw [hd] at e
      obtain rfl := Option.some.inj e
      rw [if_neg (by omega), if_pos rfl]
  · rcases hcase i hi with hi | rfl
    · rw [hU F g i hi]; exact h.ge i hi
    · rw [hUm]; exact ⟨h.gem, by omega⟩
  · exact ((below_then h.below hb).alloc (below_then h.below hb).size o).grown hgr (by omega) (fun q e => (h.lb.lt e).1)
end
end Go.Proofs.YtknkkoemghceeaaDoor
