/- Outside a stretch of blocks nothing has been written. -/
import Derived.Test.YtlbfndibgojbiaaRows
import Derived.Test.YtlbfndibgojbiaaMB
namespace Go.Proofs.Ytlbfndibgojbiaa
open Go.RowKit

theorem OwnB.rowS {w : World} {B : Nat} {ad : Option Addr} {n c : Nat} {xs : List Nat} (h : OwnB w B (.slice ad n c) xs) : n = xs.length ∧ RowA w ad xs := by
  obtain ⟨a, c', e, r⟩ := h.row
  cases e
  exact ⟨rfl, r⟩
/-- outside a stretch of blocks nothing has been written -/
structure Span (lo hi : Nat) (w u : World) : Prop where
  os : u.os = w.os
  tape : u.tape = w.tape
  output : u.output = w.output
  size : w.heap.size ≤ u.heap.size
  block : ∀ k, k < w.heap.size → (k < lo ∨ hi ≤ k) → u.heap[k]? = w.heap[k]?
section
variable {lo hi : Nat} {w u v : World}
theorem Span.refl (lo hi : Nat) (w : World) : Span lo hi w w := ⟨rfl, rfl, rfl, Nat.le_refl _, fun _ _ _ => rfl⟩
theorem Span.trans (h : Span lo hi w u) (h2 : Span lo hi u v) : Span lo hi w v :=
  ⟨h2.os.trans h.os, h2.tape.trans h.tape, h2.output.trans h.output, Nat.le_trans h.size h2.size, fun k hk h3 => (h2.block k (Nat.lt_of_lt_of_le hk h.size) h3).trans (h.block k hk h3)⟩
theorem Span.below (h : Span lo hi w u) (hb : Below u.heap.size u v) : Span lo hi w v :=
  h.trans ⟨hb.os, hb.tape, hb.output, hb.size, fun k hk _ => hb.block k hk⟩
theorem Span.set (h : Span lo hi w u) {b : Nat} (hb : lo ≤ b ∧ b < hi) (j : Nat) (z : Value) : Span lo hi w (u.setCell ⟨b, j, none⟩ z) :=
  h.trans ⟨rfl, rfl, rfl, by simp, fun k _ h3 => Below.heap_setCell _ _ _ _ (by simp; omega)⟩
theorem Span.toBelow {B : Nat} (h : Span lo hi u v) (h0 : Below B w u) (hB : B ≤ lo) (hs : B ≤ u.heap.size) : Below B w v :=
  ⟨h.os.trans h0.os, h.tape.trans h0.tape, h.output.trans h0.output, Nat.le_trans h0.size h.size, fun k hk => (h.block k (by omega) (.inl (by omega))).trans (h0.block k hk)⟩
theorem Span.cell (h : Span lo hi w u) {b o : Nat} {z : Value} (hb : b < w.heap.size) (hr : b < lo ∨ hi ≤ b) (hc : w.cell? ⟨b, o, none⟩ = some z) : u.cell? ⟨b, o, none⟩ = some z :=
  (World.cell?_of_block (a := ⟨b, o, none⟩) (h.block b hb hr)).trans hc
theorem RowA.span {ad : Option Addr} {xs : List Nat} (h : RowA w ad xs) (hs : Span lo hi w u) (hne : 0 < xs.length → ∀ b off, ad = some ⟨b, off, none⟩ → b < lo ∨ hi ≤ b) : RowA u ad xs := fun h0 =>
  (RowA.keep h hs.size fun b off e hb => hs.block b hb (hne h0 b off e)) h0
theorem OwnB.span {B : Nat} {z : Value} {xs : List Nat} (h : OwnB w B z xs) (hs : Span lo hi w u) (hB : hi ≤ B) : OwnB u B z xs :=
  OwnB.keep h fun g hg => hs.block g (h.lt hg).2 (.inr (by have := (h.lt hg).1; omega))
theorem BoxAt.set {b : Nat} {z : Value} (h : BoxAt u b z) (y : Value) : BoxAt (u.setCell ⟨b, 0, none⟩ y) b y := by
  obtain ⟨ty, h⟩ := h
  exact ⟨ty, heap_setCell_same u b 0 _ ty _ h⟩
theorem BoxAt.frz {b : Nat} {z : Value} (h : BoxAt u b z) : u.frozen? ⟨b, 0, none⟩ = false := by
  obtain ⟨ty, h⟩ := h
  exact frozen_of_row u b 0 _ ty h
theorem BoxAt.new (u : World) (z : Value) (ty : TypeId) : BoxAt (u.alloc (.cells #[z] ty)) u.heap.size z := ⟨ty, heap_alloc_new u _⟩
end
end Go.Proofs.Ytlbfndibgojbiaa
