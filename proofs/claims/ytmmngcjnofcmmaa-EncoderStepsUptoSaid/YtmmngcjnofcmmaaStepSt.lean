/- An encoder, a fork of it, and what both have answered: what stays while they go on. -/
import Derived.Test.YtmmngcjnofcmmaaRows
import Derived.Test.YtmmngcjnofcmmaaLit
import Derived.Test.YtmmngcjnofcmmaaEncM
import Derived.Test.YtmmngcjnofcmmaaRight1
namespace Go.Proofs.Ytmmngcjnofcmmaa
open Go.RowKit

theorem grow_tail {W w w' : World} {g : Nat} {row : Option Nat} (h : W.grownBy w (some g)) (hb : w.grownBy w' row) (hr : ∀ b, row = some b → W.heap.size ≤ b ∨ b = g) : W.grownBy w' (some g) :=
  ⟨hb.os.trans h.os, hb.tape.trans h.tape, hb.output.trans h.output, Nat.le_trans h.size hb.size, fun k hk hne =>
    (hb.block k (Nat.lt_of_lt_of_le hk h.size) (fun e => by
      rcases hr k e.symm with h | h
      · omega
      · exact hne (by rw [h]))).trans (h.block k hk hne)⟩
section
variable {n : Nat} {R : Int} {a b c : Nat} {xs : List Nat} {g : Nat} {W : World}
/-- the fork: at h, m bits behind it; f: what it answered -/
def Frk (n : Nat) (R : Int) (a b c : Nat) (xs : List Nat) (W : World) (m h : Nat) (v f : Value) (w : World) : Prop :=
  RegB w h (n + 1) R a b c (stAt n 0 xs m) ∧ W.heap.size ≤ h ∧ OwnB w W.heap.size f (symsAt R a b c n 0 xs m) ∧ v.ownBlock ≠ some h ∧ f.ownBlock ≠ some h ∧ ∀ q, v.ownBlock = some q → f.ownBlock ≠ some q
/-- the encoder at g, kr bits behind it; v: what it answered to ko bits -/
structure StSt (n : Nat) (R : Int) (a b c : Nat) (xs : List Nat) (g : Nat) (W : World) (kr ko : Nat) (v : Value) (w : World) : Prop where
  reg : RegB w g (n + 1) R a b c (stAt n 0 xs kr)
  own : OwnB w W.heap.size v (symsAt R a b c n 0 xs ko)
  grow : W.grownBy w (some g)
theorem StSt.below {kr ko : Nat} {v : Value} {w w' : World} (h : StSt n R a b c xs g W kr ko v w) (hb : Below w.heap.size w w') : StSt n R a b c xs g W kr ko v w' :=
  ⟨h.reg.below hb h.reg.lt, h.own.below hb, grow_tail h.grow (row := none) ⟨hb.os, hb.tape, hb.output, hb.size, fun k hk _ => hb.block k hk⟩ (fun _ e => by cases e)⟩
theorem Frk.below {m h : Nat} {v f : Value} {w w' : World} (hf : Frk n R a b c xs W m h v f w) (hb : Below w.heap.size w w') : Frk n R a b c xs W m h v f w' :=
  ⟨hf.1.below hb hf.1.lt, hf.2.1, hf.2.2.1.below hb, hf.2.2.2⟩
/-- x.Put -/
theorem StSt.put {k : Nat} {v : Value} {w w' : World} (hg : g < W.heap.size) (h : StSt n R a b c xs g W k k v w) (hr : RegB w' g (n + 1) R a b c ((2 * stAt n 0 xs k + xs.getD k 0) % 2 ^ n)) (hb : w.grownBy w' (some g)) : StSt n R a b c xs g W (k + 1) k v w' :=
  ⟨hr, h.own.grown hb (fun q e e2 => by have := (h.own.lt e).1; cases e2; omega), grow_tail h.grow hb (fun q e => .inr (by cases e; rfl))⟩
theorem Frk.put {m h : Nat} {v f : Value} {w w' : World} (hg : g < W.heap.size) (hf : Frk n R a b c xs W m h v f w) (hb : w.grownBy w' (some g)) : Frk n R a b c xs W m h v f w' := by
  obtain ⟨h1, h2, h3, h4⟩ := hf
  exact ⟨h1.grown hb (fun e => by cases e; omega), h2, h3.grown hb (fun q e e2 => by have := (h3.lt e).1; cases e2; omega), h4⟩
/-- got = append(got, s...) -/
theorem StSt.app {k : Nat} {v v' : Value} {w w' : World} (hg : g < W.heap.size) (h : StSt n R a b c xs g W (k + 1) k v w) (ho : OwnB w' W.heap.size v' (symsAt R a b c n 0 xs k ++ symK R a b c (2 * stAt n 0 xs k + xs.getD k 0))) (hb : w.grownBy w' v.ownBlock) : StSt n R a b c xs g W (k + 1) (k + 1) v' w' :=
  ⟨h.reg.grown hb (fun e => by have := (h.own.lt e.symm).1; omega), ho, grow_tail h.grow hb (fun q e => .inl (h.own.lt e).1)⟩
theorem Frk.app {m h : Nat} {v v' f : Value} {w w' : World} (hf : Frk n R a b c xs W m h v f w) (hb : w.grownBy w' v.ownBlock) (hn : v'.ownBlock = v.ownBlock ∨ v'.ownBlock = some w.heap.size) : Frk n R a b c xs W m h v' f w' := by
  obtain ⟨h1, h2, h3, h4, h5, h6⟩ := hf
  refine ⟨h1.grown hb (fun e => h4 e.symm), h2, h3.grown hb (fun q e e2 => h6 q e2.symm e), ?_, h5, ?_⟩
  · rcases hn with hn | hn
    · rw [hn]; exact h4
    · rw [hn]; intro e; have := h1.lt; cases e; omega
  · intro q e e2
    rcases hn with hn | hn
    · exact h6 q (hn ▸ e) e2
    · rw [hn] at e; have := (h3.lt e2).2; cases e; omega
/-- y.Put -/
theorem StSt.fput {kr ko m h : Nat} {v f : Value} {w w' : World} (hg : g < W.heap.size) (hs : StSt n R a b c xs g W kr ko v w) (hf : Frk n R a b c xs W m h v f w) (hb : w.grownBy w' (some h)) : StSt n R a b c xs g W kr ko v w' :=
  ⟨hs.reg.grown hb (fun e => by have := hf.2.1; cases e; omega), hs.own.grown hb (fun q e e2 => hf.2.2.2.1 (e.trans e2)), grow_tail hs.grow hb (fun q e => .inl (by cases e; exact hf.2.1))⟩
/-- the fork while its own answer is not yet laid behind f -/
def FrkP (n : Nat) (R : Int) (a b c : Nat) (xs : List Nat) (W : World) (m h : Nat) (v f : Value) (w : World) : Prop :=
  RegB w h (n + 1) R a b c (stAt n 0 xs (m + 1)) ∧ W.heap.size ≤ h ∧ OwnB w W.heap.size f (symsAt R a b c n 0 xs m) ∧ v.ownBlock ≠ some h ∧ f.ownBlock ≠ some h ∧ ∀ q, v.ownBlock = some q → f.ownBlock ≠ some q
theorem Frk.fput {m h : Nat} {v f : Value} {w w' : World} (hf : Frk n R a b c xs W m h v f w) (hr : RegB w' h (n + 1) R a b c ((2 * stAt n 0 xs m + xs.getD m 0) % 2 ^ n)) (hb : w.grownBy w' (some h)) : FrkP n R a b c xs W m h v f w' := by
  obtain ⟨h1, h2, h3, h4, h5, h6⟩ := hf
  exact ⟨hr, h2, h3.grown hb (fun q e e2 => h5 (e.trans e2)), h4, h5, h6⟩
theorem StSt.fapp {kr ko m h : Nat} {v f : Value} {w w' : World} (hg : g < W.heap.size) (hs : StSt n R a b c xs g W kr ko v w) (hf : FrkP n R a b c xs W m h v f w) (hb : w.grownBy w' f.ownBlock) : StSt n R a b c xs g W kr ko v w' := by
  obtain ⟨h1, h2, h3, h4, h5, h6⟩ := hf
  exact ⟨hs.reg.grown hb (fun e => by have := (h3.lt e.symm).1; omega), hs.own.grown hb (fun q e e2 => h6 q e e2.symm), grow_tail hs.grow hb (fun q e => .inl (h3.lt e).1)⟩
theorem FrkP.app {m h : Nat} {v f f' : Value} {B : Nat} {ys : List Nat} {w w' : World} (hv : OwnB w B v ys) (hf : FrkP n R a b c xs W m h v f w) (ho : OwnB w' W.heap.size f' (symsAt R a b c n 0 xs m ++ symK R a b c (2 * stAt n 0 xs m + xs.getD m 0))) (hb : w.grownBy w' f.ownBlock) (hn : f'.ownBlock = f.ownBlock ∨ f'.ownBlock = some w.heap.size) : Frk n R a b c xs W (m + 1) h v f' w' := by
  obtain ⟨h1, h2, h3, h4, h5, h6⟩ := hf
  refine ⟨h1.grown hb (fun e => h5 e.symm), h2, ho, h4, ?_, ?_⟩
  · rcases hn with hn | hn
    · rw [hn]; exact h5
    · rw [hn]; intro e; have := h1.lt; cases e; omega
  · intro q e e2
    rcases hn with hn | hn
    · exact h6 q e (hn ▸ e2)
    · rw [hn] at e2; have := (hv.lt e).2; cases e2; omega
/-- the fork is made -/
theorem Frk.new {k h : Nat} {v f : Value} {w w1 w2 : World} (hs : StSt n R a b c xs g W k k v w) (hr : RegB w1 h (n + 1) R a b c (stAt n 0 xs k)) (hh : w.heap.size ≤ h) (hb : Below w.heap.size w w1) (ho : OwnB w2 w1.heap.size f (symsAt R a b c n 0 xs k)) (hb2 : Below w1.heap.size w1 w2) : Frk n R a b c xs W k h v f w2 := by
  have hz := hs.grow.size
  have hl := hr.lt
  have hb1 := hb.size
  refine ⟨hr.below hb2 hl, by omega, ho.mono (by omega), ?_, ?_, ?_⟩
  · intro e; have := (hs.own.lt e).2; omega
  · intro e; have := (ho.lt e).1; omega
  · intro q e e2
    have h1 := (hs.own.lt e).2
    have h2 := (ho.lt e2).1
    omega
theorem stAt_zeros (hx : ∀ i, xs.length ≤ i → xs.getD i 0 = 0) : ∀ d, stAt n 0 xs (xs.length + d) = stAt n 0 xs xs.length * 2 ^ d % 2 ^ n := by
  intro d
  induction d with
  | zero =>
    have := stAt_lt (n := n) (s := 0) (xs := xs) (Nat.two_pow_pos n) xs.length
    simp [Nat.mod_eq_of_lt this]
  | succ d ih =>
    show (2 * stAt n 0 xs (xs.length + d) + xs.getD (xs.length + d) 0) % 2 ^ n = _
    rw [hx _ (by omega), ih, Nat.add_zero, Nat.mul_mod, Nat.mod_mod, ← Nat.mul_mod, Nat.pow_succ]
    congr 1
    rw [Nat.mul_comm 2, Nat.mul_assoc]
theorem stAt_end : stAt n 0 xs (xs.length + n) = 0 := by
  rw [stAt_zeros (fun i hi => by rw [List.getD_eq_getElem?_getD, List.getElem?_eq_none hi]; rfl), Nat.mul_mod_left]
end
end Go.Proofs.Ytmmngcjnofcmmaa
