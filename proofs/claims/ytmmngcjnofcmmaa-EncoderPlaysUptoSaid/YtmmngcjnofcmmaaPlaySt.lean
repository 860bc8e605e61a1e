/- Several encoders and the reference's, the rows that were told: what stays while they go on. -/
import Derived.Test.YtmmngcjnofcmmaaRows
import Derived.Test.YtmmngcjnofcmmaaOwnVe
import Derived.Test.YtmmngcjnofcmmaaR6Put
import Derived.Test.YtmmngcjnofcmmaaEncR
import Derived.Test.YtmmngcjnofcmmaaApSe
namespace Go.Proofs.Ytmmngcjnofcmmaa
open Go.RowKit

theorem elem_enc : ElemI 56 40 (.pointer none) 8 := ⟨Try.underlying56, ⟨Try.t40, by kernel_rfl, by kernel_rfl, by kernel_rfl, by kernel_rfl⟩, rfl⟩
theorem elem_row : ElemI 60 26 (.slice none 0 0) 24 := ⟨Try.underlying60, ⟨Try.t26, by kernel_rfl, by kernel_rfl, by kernel_rfl, by kernel_rfl⟩, rfl⟩
/-- a list by its entries -/
def lst (f : Nat → Value) (m : Nat) : List Value := (List.range m).map f
theorem lst_length (f : Nat → Value) (m : Nat) : (lst f m).length = m := by simp [lst]
theorem lst_at {f : Nat → Value} {m i : Nat} (h : i < m) : (lst f m)[i]? = some (f i) := by simp [lst, h]
def updV {α : Type} (f : Nat → α) (i : Nat) (x : α) (j : Nat) : α := if j = i then x else f j
theorem updV_same {α : Type} (f : Nat → α) (i : Nat) (x : α) : updV f i x i = x := if_pos rfl
theorem updV_ne {α : Type} {f : Nat → α} {i j : Nat} {x : α} (h : j ≠ i) : updV f i x j = f j := if_neg h
theorem lst_push (f : Nat → Value) (m : Nat) (x : Value) : lst (updV f m x) (m + 1) = lst f m ++ [x] := by
  unfold lst
  rw [List.range_succ, List.map_append]
  congr 1
  · refine List.map_congr_left fun j hj => ?_
    have := List.mem_range.1 hj
    exact updV_ne (by omega)
  · simp [updV]
theorem lst_set (f : Nat → Value) (m k : Nat) (x : Value) : (lst f m).set k x = lst (updV f k x) m := by
  refine List.ext_getElem (by simp [lst]) fun j h1 h2 => ?_
  simp only [lst, List.getElem_set, List.getElem_map, List.getElem_range]
  unfold updV
  by_cases e : k = j
  · rw [if_pos e, if_pos e.symm]
  · rw [if_neg e, if_neg (fun e2 => e e2.symm)]
/-- the encoders, the reference's, the rows: what only the proof sees -/
structure Gh where
  m : Nat
  mb : Nat
  p : Nat
  q : Nat
  G : Nat → Nat
  S : Nat → Nat
  X : Nat → List Nat
  V : Nat → Value
  vs : Nat → Value
  cs : Nat → List Nat
  lab : Nat → Nat
def Gh.ptr (d : Gh) (i : Nat) : Value := .pointer (some ⟨d.G i, 0, none⟩)
/-- the state -/
structure PlaySt (n r a b c : Nat) (w u : World) (va vb vl : Value) (d : Gh) : Prop where
  la : OwnV 40 u w.heap.size va (lst d.ptr d.m)
  lb : OwnE u w.heap.size vb (n + 1) r a b c (lst d.V d.mb)
  ll : OwnV 26 u w.heap.size vl (lst d.vs d.p)
  ra : ∀ i, i < d.m → RegB u (d.G i) (n + 1) r a b c (d.S i)
  rx : ∀ i, i < d.mb → OwnB u w.heap.size (d.V i) (d.X i)
  bx : ∀ i, i < d.mb → Bits (d.X i)
  ro : ∀ i, i < d.q → OwnB u w.heap.size (d.vs i) (d.cs i)
  cl : ∀ i, i < d.q → (d.cs i).length ≤ 3
  sl : ∀ i, i < d.m → d.S i < 2 ^ n
  xa : ∀ g, va.ownBlock = some g → d.lab g = 0
  xb : ∀ g, vb.ownBlock = some g → d.lab g = 1
  xl : ∀ g, vl.ownBlock = some g → d.lab g = 2
  xg : ∀ i, i < d.m → d.lab (d.G i) = 3 * i + 3
  xo : ∀ i g, i < d.q → (d.vs i).ownBlock = some g → d.lab g = 3 * i + 4
  xv : ∀ i g, i < d.mb → (d.V i).ownBlock = some g → d.lab g = 5
  ge : ∀ i, i < d.m → w.heap.size ≤ d.G i
  pq : d.p ≤ d.q
  below : Below w.heap.size w u
section
variable {n r a b c : Nat} {w u u' : World} {va vb vl : Value} {d : Gh}
theorem PlaySt.next (h : PlaySt n r a b c w u va vb vl d) (hb : Below u.heap.size u u') : PlaySt n r a b c w u' va vb vl d :=
  { h with
    la := h.la.below hb, lb := h.lb.below hb, ll := h.ll.below hb
    ra := fun i hi => (h.ra i hi).below hb (h.ra i hi).lt
    rx := fun i hi => (h.rx i hi).below hb
    ro := fun i hi => (h.ro i hi).below hb
    below := below_then h.below hb }
/-- an encoder goes on; what it answers is a row more -/
theorem PlaySt.setA (h : PlaySt n r a b c w u va vb vl d) {k s : Nat} {y : Value} {ys : List Nat} (hk : k < d.m) (hr : RegB u' (d.G k) (n + 1) r a b c s) (hs : s < 2 ^ n) (hg : u.grownBy u' (some (d.G k))) (hy : OwnB u' u.heap.size y ys) (hyl : ys.length ≤ 3) :
    PlaySt n r a b c w u' va vb vl { d with S := updV d.S k s, q := d.q + 1, vs := updV d.vs d.q y, cs := updV d.cs d.q ys, lab := fun g => if y.ownBlock = some g then 3 * d.q + 4 else d.lab g } := by
  have hl := h.xg k hk
  have hwu := h.below.size
  have nl : ∀ g, g < u.heap.size → (if y.ownBlock = some g then 3 * d.q + 4 else d.lab g) = d.lab g := fun g hg => if_neg (fun e => by have := (hy.lt e).1; omega)
  refine { la := ?_, lb := ?_, ll := ?_, ra := fun i hi => ?_, rx := fun i hi => ?_, bx := h.bx, ro := fun i hi => ?_, cl := fun i hi => ?_, sl := fun i hi => ?_, xa := fun g e => ?_, xb := fun g e => ?_, xl := fun g e => ?_, xg := fun i hi => ?_, xo := fun i g hi e => ?_, xv := fun i g hi e => ?_, ge := h.ge, pq := by have := h.pq; show d.p ≤ d.q + 1; omega, below := h.below.grown hg h.below.size (fun g e => by have := Option.some.inj e; have := h.ge k hk; omega) }
  · exact h.la.grown hg (fun g e e2 => by have e3 := Option.some.inj e2; have := h.xa g e; rw [e3] at this; omega)
  · exact h.lb.grown hg (fun g e e2 => by have e3 := Option.some.inj e2; have := h.xb g e; rw [e3] at this; omega)
  · have e : lst (updV d.vs d.q y) d.p = lst d.vs d.p := by
      unfold lst
      refine List.map_congr_left fun j hj => updV_ne ?_
      have := List.mem_range.1 hj; have := h.pq; omega
    show OwnV _ u' _ vl (lst (updV d.vs d.q y) d.p)
    rw [e]
    exact h.ll.grown hg (fun g e e2 => by have e3 := Option.some.inj e2; have := h.xl g e; rw [e3] at this; omega)
  · show RegB u' (d.G i) _ _ _ _ _ (updV d.S k s i)
    by_cases e : i = k
    · subst e; rw [updV_same]; exact hr
    · rw [updV_ne e]
      refine (h.ra i hi).grown hg (fun e2 => ?_)
      have e3 := Option.some.inj e2
      have := h.xg i hi; rw [e3] at this; omega
  · exact (h.rx i hi).grown hg (fun g e e2 => by have e3 := Option.some.inj e2; have := h.xv i g hi e; rw [e3] at this; omega)
  · show OwnB u' _ (updV d.vs d.q y i) (updV d.cs d.q ys i)
    have hi : i < d.q + 1 := hi
    by_cases e : i = d.q
    · subst e; rw [updV_same, updV_same]; exact hy.mono hwu
    · rw [updV_ne e, updV_ne e]
      exact (h.ro i (by omega)).grown hg (fun g e e2 => by have e3 := Option.some.inj e2; have := h.xo i g (by omega) e; rw [e3] at this; omega)
  · show (updV d.cs d.q ys i).length ≤ 3
    have hi : i < d.q + 1 := hi
    by_cases e : i = d.q
    · subst e; rw [updV_same]; exact hyl
    · rw [updV_ne e]; exact h.cl i (by omega)
  · show updV d.S k s i < 2 ^ n
    by_cases e : i = k
    · subst e; rw [updV_same]; exact hs
    · rw [updV_ne e]; exact h.sl i hi
  · show (if y.ownBlock = some g then 3 * d.q + 4 else d.lab g) = 0
    rw [nl g (h.la.lt e).2]; exact h.xa g e
  · show (if y.ownBlock = some g then 3 * d.q + 4 else d.lab g) = 1
    rw [nl g (h.lb.lt e).2]; exact h.xb g e
  · show (if y.ownBlock = some g then 3 * d.q + 4 else d.lab g) = 2
    rw [nl g (h.ll.lt e).2]; exact h.xl g e
  · show (if y.ownBlock = some (d.G i) then 3 * d.q + 4 else d.lab (d.G i)) = _
    rw [nl _ (h.ra i hi).lt]; exact h.xg i hi
  · show (if y.ownBlock = some g then 3 * d.q + 4 else d.lab g) = _
    have hi : i < d.q + 1 := hi
    have e : (updV d.vs d.q y i).ownBlock = some g := e
    by_cases e2 : i = d.q
    · subst e2; rw [updV_same] at e; rw [if_pos e]
    · rw [updV_ne e2] at e
      rw [nl g ((h.ro i (by omega)).lt e).2]; exact h.xo i g (by omega) e
  · show (if y.ownBlock = some g then 3 * d.q + 4 else d.lab g) = 5
    rw [nl g ((h.rx i hi).lt e).2]; exact h.xv i g hi e
/-- the reference's goes on -/
theorem PlaySt.setB (h : PlaySt n r a b c w u va vb vl d) {k gb : Nat} {v' : Value} {X' : List Nat} (hgb : vb.ownBlock = some gb) (hlb : OwnE u' w.heap.size vb (n + 1) r a b c ((lst d.V d.mb).set k v')) (hg : u.grownBy u' (some gb)) (hv : OwnB u' w.heap.size v' X') (hnew : ∀ g, v'.ownBlock = some g → u.heap.size ≤ g) (hX : Bits X') :
    PlaySt n r a b c w u' va vb vl { d with X := updV d.X k X', V := updV d.V k v', lab := fun g => if v'.ownBlock = some g then 5 else d.lab g } := by
  have hwu := h.below.size
  have hl := h.xb gb hgb
  have nl : ∀ g, g < u.heap.size → (if v'.ownBlock = some g then 5 else d.lab g) = d.lab g := fun g hg => if_neg (fun e => by have := hnew g e; omega)
  refine { la := ?_, lb := ?_, ll := ?_, ra := fun i hi => ?_, rx := fun i hi => ?_, bx := fun i hi => ?_, ro := fun i hi => ?_, cl := h.cl, sl := h.sl, xa := fun g e => ?_, xb := fun g e => ?_, xl := fun g e => ?_, xg := fun i hi => ?_, xo := fun i g hi e => ?_, xv := fun i g hi e => ?_, ge := h.ge, pq := h.pq, below := h.below.grown hg h.below.size (fun g e => by have := Option.some.inj e; have := (h.lb.lt hgb).1; omega) }
  · exact h.la.grown hg (fun g e e2 => by have e3 := Option.some.inj e2; have := h.xa g e; rw [e3] at this; omega)
  · show OwnE u' _ vb _ _ _ _ _ (lst (updV d.V k v') d.mb)
    rw [← lst_set]; exact hlb
  · exact h.ll.grown hg (fun g e e2 => by have e3 := Option.some.inj e2; have := h.xl g e; rw [e3] at this; omega)
  · exact (h.ra i hi).grown hg (fun e2 => by have e3 := Option.some.inj e2; have := h.xg i hi; rw [e3] at this; omega)
  · show OwnB u' _ (updV d.V k v' i) (updV d.X k X' i)
    by_cases e : i = k
    · subst e; rw [updV_same, updV_same]; exact hv
    · rw [updV_ne e, updV_ne e]
      exact (h.rx i hi).grown hg (fun g e e2 => by have e3 := Option.some.inj e2; have := h.xv i g hi e; rw [e3] at this; omega)
  · show Bits (updV d.X k X' i)
    by_cases e : i = k
    · subst e; rw [updV_same]; exact hX
    · rw [updV_ne e]; exact h.bx i hi
  · exact (h.ro i hi).grown hg (fun g e e2 => by have e3 := Option.some.inj e2; have := h.xo i g hi e; rw [e3] at this; omega)
  · show (if v'.ownBlock = some g then 5 else d.lab g) = 0
    rw [nl g (h.la.lt e).2]; exact h.xa g e
  · show (if v'.ownBlock = some g then 5 else d.lab g) = 1
    rw [nl g (h.lb.lt e).2]; exact h.xb g e
  · show (if v'.ownBlock = some g then 5 else d.lab g) = 2
    rw [nl g (h.ll.lt e).2]; exact h.xl g e
  · show (if v'.ownBlock = some (d.G i) then 5 else d.lab (d.G i)) = _
    rw [nl _ (h.ra i hi).lt]; exact h.xg i hi
  · show (if v'.ownBlock = some g then 5 else d.lab g) = _
    rw [nl g ((h.ro i hi).lt e).2]; exact h.xo i g hi e
  · show (if v'.ownBlock = some g then 5 else d.lab g) = 5
    have e : (updV d.V k v' i).ownBlock = some g := e
    by_cases e2 : i = k
    · subst e2; rw [updV_same] at e; rw [if_pos e]
    · rw [updV_ne e2] at e
      rw [nl g ((h.rx i hi).lt e).2]; exact h.xv i g hi e
/-- a row is laid on the list -/
theorem PlaySt.pushL (h : PlaySt n r a b c w u va vb vl d) (hpq : d.p < d.q) (o : Obj) {vl' : Value} (ho : OwnV 26 u' w.heap.size vl' (lst d.vs d.p ++ [d.vs d.p])) (hgr : (u.alloc o).grownBy u' vl.ownBlock) (hd : vl'.ownBlock = vl.ownBlock ∨ vl'.ownBlock = some (u.heap.size + 1)) :
    PlaySt n r a b c w u' va vb vl' { d with p := d.p + 1, lab := fun g => if g = u.heap.size + 1 then 2 else d.lab g } := by
  have h1 := h.next (u' := u.alloc o) ((Below.refl _ _).alloc (Nat.le_refl _) _)
  have hwu := h.below.size
  have nl : ∀ g, g < u.heap.size → (if g = u.heap.size + 1 then 2 else d.lab g) = d.lab g := fun g hg => if_neg (by omega)
  refine { la := ?_, lb := ?_, ll := ?_, ra := fun i hi => ?_, rx := fun i hi => ?_, bx := h.bx, ro := fun i hi => ?_, cl := h.cl, sl := h.sl, xa := fun g e => ?_, xb := fun g e => ?_, xl := fun g e => ?_, xg := fun i hi => ?_, xo := fun i g hi e => ?_, xv := fun i g hi e => ?_, ge := h.ge, pq := hpq, below := h1.below.grown hgr h1.below.size (fun g e => (h.ll.lt e).1) }
  · exact h1.la.grown hgr (fun g e e2 => by have := h.xa g e; have := h.xl g e2.symm; omega)
  · exact h1.lb.grown hgr (fun g e e2 => by have := h.xb g e; have := h.xl g e2.symm; omega)
  · show OwnV _ u' _ vl' (lst d.vs (d.p + 1))
    have e : lst d.vs (d.p + 1) = lst d.vs d.p ++ [d.vs d.p] := by unfold lst; rw [List.range_succ, List.map_append]; rfl
    rw [e]; exact ho
  · exact (h1.ra i hi).grown hgr (fun e2 => by have := h.xg i hi; have := h.xl _ e2.symm; omega)
  · exact (h1.rx i hi).grown hgr (fun g e e2 => by have := h.xv i g hi e; have := h.xl g e2.symm; omega)
  · exact (h1.ro i hi).grown hgr (fun g e e2 => by have := h.xo i g hi e; have := h.xl g e2.symm; omega)
  · show (if g = u.heap.size + 1 then 2 else d.lab g) = 0
    rw [nl g (h.la.lt e).2]; exact h.xa g e
  · show (if g = u.heap.size + 1 then 2 else d.lab g) = 1
    rw [nl g (h.lb.lt e).2]; exact h.xb g e
  · show (if g = u.heap.size + 1 then 2 else d.lab g) = 2
    rcases hd with hd | hd
    · rw [hd] at e; rw [nl g (h.ll.lt e).2]; exact h.xl g e
    · rw [hd] at e; rw [if_pos (Option.some.inj e).symm]
  · show (if d.G i = u.heap.size + 1 then 2 else d.lab (d.G i)) = _
    rw [nl _ (h.ra i hi).lt]; exact h.xg i hi
  · show (if g = u.heap.size + 1 then 2 else d.lab g) = _
    rw [nl g ((h.ro i hi).lt e).2]; exact h.xo i g hi e
  · show (if g = u.heap.size + 1 then 2 else d.lab g) = 5
    rw [nl g ((h.rx i hi).lt e).2]; exact h.xv i g hi e
/-- a fork, on the list of encoders -/
theorem PlaySt.forkA {u1 : World} (h : PlaySt n r a b c w u va vb vl d) {g s : Nat} (hr : RegB u1 g (n + 1) r a b c s) (hs : s < 2 ^ n) (hg : u.heap.size ≤ g) (hb : Below u.heap.size u u1) (o : Obj) {va' : Value} (ho : OwnV 40 u' w.heap.size va' (lst d.ptr d.m ++ [.pointer (some ⟨g, 0, none⟩)])) (hgr : (u1.alloc o).grownBy u' va.ownBlock) (hd : va'.ownBlock = va.ownBlock ∨ va'.ownBlock = some (u1.heap.size + 1)) :
    PlaySt n r a b c w u' va' vb vl { d with m := d.m + 1, G := updV d.G d.m g, S := updV d.S d.m s, lab := fun x => if x = g then 3 * d.m + 3 else if x = u1.heap.size + 1 then 0 else d.lab x } := by
  have h1 := (h.next hb).next (u' := u1.alloc o) ((Below.refl _ _).alloc (Nat.le_refl _) _)
  have hwu := h.below.size
  have hz := hb.size
  have hgl := hr.lt
  have nl : ∀ x, x < u.heap.size → (if x = g then 3 * d.m + 3 else if x = u1.heap.size + 1 then 0 else d.lab x) = d.lab x := fun x hx => by rw [if_neg (by omega), if_neg (by omega)]
  refine { la := ?_, lb := ?_, ll := ?_, ra := fun i hi => ?_, rx := fun i hi => ?_, bx := h.bx, ro := fun i hi => ?_, cl := h.cl, sl := fun i hi => ?_, xa := fun q e => ?_, xb := fun q e => ?_, xl := fun q e => ?_, xg := fun i hi => ?_, xo := fun i q hi e => ?_, xv := fun i q hi e => ?_, ge := fun i hi => ?_, pq := h.pq, below := h1.below.grown hgr h1.below.size (fun q e => (h.la.lt e).1) }
  · show OwnV _ u' _ va' (lst (Gh.ptr { d with m := d.m + 1, G := updV d.G d.m g, S := updV d.S d.m s, lab := fun x => if x = g then 3 * d.m + 3 else if x = u1.heap.size + 1 then 0 else d.lab x }) (d.m + 1))
    have e : lst (Gh.ptr { d with m := d.m + 1, G := updV d.G d.m g, S := updV d.S d.m s, lab := fun x => if x = g then 3 * d.m + 3 else if x = u1.heap.size + 1 then 0 else d.lab x }) (d.m + 1) = lst d.ptr d.m ++ [.pointer (some ⟨g, 0, none⟩)] := by
      unfold lst
      rw [List.range_succ, List.map_append]
      congr 1
      · refine List.map_congr_left fun j hj => ?_
        have := List.mem_range.1 hj
        show Value.pointer (some ⟨updV d.G d.m g j, 0, none⟩) = _
        rw [updV_ne (by omega)]; rfl
      · show [Value.pointer (some ⟨updV d.G d.m g d.m, 0, none⟩)] = _
        rw [updV_same]
    rw [e]; exact ho
  · exact h1.lb.grown hgr (fun q e e2 => by have := h.xb q e; have := h.xa q e2.symm; omega)
  · exact h1.ll.grown hgr (fun q e e2 => by have := h.xl q e; have := h.xa q e2.symm; omega)
  · show RegB u' (updV d.G d.m g i) _ _ _ _ _ (updV d.S d.m s i)
    have hi : i < d.m + 1 := hi
    by_cases e : i = d.m
    · subst e; rw [updV_same, updV_same]
      exact (hr.alloc o).grown hgr (fun e2 => by have := (h.la.lt e2.symm).2; omega)
    · rw [updV_ne e, updV_ne e]
      exact (h1.ra i (by omega)).grown hgr (fun e2 => by have := h.xg i (by omega); have := h.xa _ e2.symm; omega)
  · exact (h1.rx i hi).grown hgr (fun q e e2 => by have := h.xv i q hi e; have := h.xa q e2.symm; omega)
  · exact (h1.ro i hi).grown hgr (fun q e e2 => by have := h.xo i q hi e; have := h.xa q e2.symm; omega)
  · show updV d.S d.m s i < 2 ^ n
    have hi : i < d.m + 1 := hi
    by_cases e : i = d.m
    · subst e; rw [updV_same]; exact hs
    · rw [updV_ne e]; exact h.sl i (by omega)
  · show (if q = g then 3 * d.m + 3 else if q = u1.heap.size + 1 then 0 else d.lab q) = 0
    rcases hd with hd | hd
    · rw [hd] at e; rw [nl q (h.la.lt e).2]; exact h.xa q e
    · rw [hd] at e
      have := Option.some.inj e
      rw [if_neg (by omega), if_pos this.symm]
  · show (if q = g then 3 * d.m + 3 else if q = u1.heap.size + 1 then 0 else d.lab q) = 1
    rw [nl q (h.lb.lt e).2]; exact h.xb q e
  · show (if q = g then 3 * d.m + 3 else if q = u1.heap.size + 1 then 0 else d.lab q) = 2
    rw [nl q (h.ll.lt e).2]; exact h.xl q e
  · show (if updV d.G d.m g i = g then 3 * d.m + 3 else if updV d.G d.m g i = u1.heap.size + 1 then 0 else d.lab (updV d.G d.m g i)) = _
    have hi : i < d.m + 1 := hi
    by_cases e : i = d.m
    · subst e; rw [updV_same, if_pos rfl]
    · rw [updV_ne e, nl _ (h.ra i (by omega)).lt]; exact h.xg i (by omega)
  · show (if q = g then 3 * d.m + 3 else if q = u1.heap.size + 1 then 0 else d.lab q) = _
    rw [nl q ((h.ro i hi).lt e).2]; exact h.xo i q hi e
  · show (if q = g then 3 * d.m + 3 else if q = u1.heap.size + 1 then 0 else d.lab q) = 5
    rw [nl q ((h.rx i hi).lt e).2]; exact h.xv i q hi e
  · show w.heap.size ≤ updV d.G d.m g i
    have hi : i < d.m + 1 := hi
    by_cases e : i = d.m
    · subst e; rw [updV_same]; omega
    · rw [updV_ne e]; exact h.ge i (by omega)
/-- a fork, on the reference's list -/
theorem PlaySt.forkB (h : PlaySt n r a b c w u va vb vl d) {k : Nat} (hk : k < d.mb) (o : Obj) {vb' : Value} (ho : OwnE u' w.heap.size vb' (n + 1) r a b c (lst d.V d.mb ++ [d.V k])) (hgr : (u.alloc o).grownBy u' vb.ownBlock) (hd : vb'.ownBlock = vb.ownBlock ∨ vb'.ownBlock = some (u.heap.size + 1)) :
    PlaySt n r a b c w u' va vb' vl { d with mb := d.mb + 1, X := updV d.X d.mb (d.X k), V := updV d.V d.mb (d.V k), lab := fun g => if g = u.heap.size + 1 then 1 else d.lab g } := by
  have h1 := h.next (u' := u.alloc o) ((Below.refl _ _).alloc (Nat.le_refl _) _)
  have hwu := h.below.size
  have nl : ∀ g, g < u.heap.size → (if g = u.heap.size + 1 then 1 else d.lab g) = d.lab g := fun g hg => if_neg (by omega)
  refine { la := ?_, lb := ?_, ll := ?_, ra := fun i hi => ?_, rx := fun i hi => ?_, bx := fun i hi => ?_, ro := fun i hi => ?_, cl := h.cl, sl := h.sl, xa := fun g e => ?_, xb := fun g e => ?_, xl := fun g e => ?_, xg := fun i hi => ?_, xo := fun i g hi e => ?_, xv := fun i g hi e => ?_, ge := h.ge, pq := h.pq, below := h1.below.grown hgr h1.below.size (fun g e => (h.lb.lt e).1) }
  · exact h1.la.grown hgr (fun g e e2 => by have := h.xa g e; have := h.xb g e2.symm; omega)
  · show OwnE u' _ vb' _ _ _ _ _ (lst (updV d.V d.mb (d.V k)) (d.mb + 1))
    rw [lst_push]; exact ho
  · exact h1.ll.grown hgr (fun g e e2 => by have := h.xl g e; have := h.xb g e2.symm; omega)
  · exact (h1.ra i hi).grown hgr (fun e2 => by have := h.xg i hi; have := h.xb _ e2.symm; omega)
  · show OwnB u' _ (updV d.V d.mb (d.V k) i) (updV d.X d.mb (d.X k) i)
    have hi : i < d.mb + 1 := hi
    by_cases e : i = d.mb
    · subst e; rw [updV_same, updV_same]
      exact (h1.rx k hk).grown hgr (fun g e e2 => by have := h.xv k g hk e; have := h.xb g e2.symm; omega)
    · rw [updV_ne e, updV_ne e]
      exact (h1.rx i (by omega)).grown hgr (fun g e e2 => by have := h.xv i g (by omega) e; have := h.xb g e2.symm; omega)
  · show Bits (updV d.X d.mb (d.X k) i)
    have hi : i < d.mb + 1 := hi
    by_cases e : i = d.mb
    · subst e; rw [updV_same]; exact h.bx k hk
    · rw [updV_ne e]; exact h.bx i (by omega)
  · exact (h1.ro i hi).grown hgr (fun g e e2 => by have := h.xo i g hi e; have := h.xb g e2.symm; omega)
  · show (if g = u.heap.size + 1 then 1 else d.lab g) = 0
    rw [nl g (h.la.lt e).2]; exact h.xa g e
  · show (if g = u.heap.size + 1 then 1 else d.lab g) = 1
    rcases hd with hd | hd
    · rw [hd] at e; rw [nl g (h.lb.lt e).2]; exact h.xb g e
    · rw [hd] at e; rw [if_pos (Option.some.inj e).symm]
  · show (if g = u.heap.size + 1 then 1 else d.lab g) = 2
    rw [nl g (h.ll.lt e).2]; exact h.xl g e
  · show (if d.G i = u.heap.size + 1 then 1 else d.lab (d.G i)) = _
    rw [nl _ (h.ra i hi).lt]; exact h.xg i hi
  · show (if g = u.heap.size + 1 then 1 else d.lab g) = _
    rw [nl g ((h.ro i hi).lt e).2]; exact h.xo i g hi e
  · show (if g = u.heap.size + 1 then 1 else d.lab g) = 5
    have hi : i < d.mb + 1 := hi
    have e : (updV d.V d.mb (d.V k) i).ownBlock = some g := e
    by_cases e2 : i = d.mb
    · subst e2; rw [updV_same] at e
      rw [nl g ((h.rx k hk).lt e).2]; exact h.xv k g hk e
    · rw [updV_ne e2] at e
      rw [nl g ((h.rx i (by omega)).lt e).2]; exact h.xv i g (by omega) e
/-- the rows lie apart -/
theorem PlaySt.apart (h : PlaySt n r a b c w u va vb vl d) {hb cp : Nat} (hv : vl = .slice (some ⟨hb, 0, none⟩) d.p cp) : ApS u w.heap.size hb d.p d.vs d.cs := by
  subst hv
  have hl := h.ll.lt (g := hb) rfl
  have h2 := h.xl hb rfl
  have hpq := h.pq
  refine ⟨fun i hi => ?_, fun i hi => h.ro i (by omega), fun i j g hi hj hne e e2 => ?_, fun i hi e => ?_, hl.1, hl.2⟩
  · rw [h.ll.cell (lst_length _ _).symm hi]; exact lst_at hi
  · have a1 := h.xo i g (by omega) e; have a2 := h.xo j g (by omega) e2; omega
  · have a1 := h.xo i hb (by omega) e; omega
end
end Go.Proofs.Ytmmngcjnofcmmaa
