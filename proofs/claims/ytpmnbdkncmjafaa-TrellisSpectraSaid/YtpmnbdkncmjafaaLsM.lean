/- What lies in memory ahead of each round of outpostref07.loops. -/
import Derived.Test.YtpmnbdkncmjafaaRows
import Derived.Test.YtpmnbdkncmjafaaLsSt
import Derived.Test.YtpmnbdkncmjafaaLpE
namespace Go.Proofs.Ytpmnbdkncmjafaa
open Go.RowKit

structure PreM (w0 w : World) (n : Nat) (R : Int) (a b c N W bc ga gl g0 g1 : Nat) (r : Nat → Nat) (num few : Nat → Nat → Int) (all least : Nat → Int) : Prop where
  box : BoxC w n R a b c bc
  gA : GridP w N W g0 g1 r num few
  rA : RowC w W ga all
  rL : RowC w W gl least
  ba : bc < ga ∧ bc < gl ∧ bc < g0
  al : ga ≠ gl
  fa : g0 ≠ ga ∧ g0 ≠ gl ∧ g1 ≠ ga ∧ g1 ≠ gl ∧ ∀ j, j < 2 * N → r j ≠ ga ∧ r j ≠ gl
  bel : Below bc w0 w
section
variable {w0 v0 w w' : World} {n : Nat} {R : Int} {a b c N W bc ga gl g0 g1 h0 h1 : Nat} {r q : Nat → Nat} {num few num2 few2 : Nat → Nat → Int} {all least : Nat → Int}
theorem PreL.toM (h : PreL v0 w n R a b c N W bc ga gl g0 g1 r num few all least) (hN : 0 < N) (hb : Below bc w0 v0) : PreM w0 w n R a b c N W bc ga gl g0 g1 r num few all least := by
  have e1 := h.order hN
  have e2 := h.al
  have e3 := h.gA.gg
  have e4 := h.bl
  exact ⟨h.box, h.gA, h.rA, h.rL, ⟨by omega, by omega, e4⟩, by omega, ⟨by omega, by omega, by omega, by omega, fun j hj => by have := h.fa j hj; omega⟩, hb.trans (h.bel.mono (by omega))⟩
theorem PreM.lt (h : PreM w0 w n R a b c N W bc ga gl g0 g1 r num few all least) : bc < w.heap.size := by
  have := h.ba.1
  have := h.rA.lt
  omega
theorem PreM.below (h : PreM w0 w n R a b c N W bc ga gl g0 g1 r num few all least) (hb : Below w.heap.size w w') : PreM w0 w' n R a b c N W bc ga gl g0 g1 r num few all least :=
  ⟨h.box.keep (hb.block _ h.lt), h.gA.below hb, h.rA.below hb, h.rL.below hb, h.ba, h.al, h.fa, h.bel.trans (hb.mono (Nat.le_of_lt h.lt))⟩
/-- with two new rows of rows: a round's state -/
theorem PreM.lst (h : PreM w0 w n R a b c N W bc ga gl g0 g1 r num few all least) (hb : Below w.heap.size w w') (hg : GridP w' N W h0 h1 q num2 few2) (hh : w.heap.size ≤ h0) : LSt w' n R a b c N W bc ga gl g0 g1 r h0 h1 q num few num2 few2 all least := by
  have h2 := h.below hb
  obtain ⟨b0, b1, b2, b3, b4⟩ := h2.box
  obtain ⟨d1, d2, d3⟩ := h.ba
  have e1 := h.rA.lt
  have e2 := h.rL.lt
  have e3 := h.gA.gl
  exact ⟨b0, b1, b2, b3, b4, h2.gA, hg, h2.rA, h2.rL, h2.lt, ⟨d1, d2, d3, by omega⟩, h.al, h.fa, ⟨by omega, by omega, by omega, fun j hj => by have := h.gA.lt hj; omega⟩⟩
/-- .. and behind it the new ones take the old ones' place -/
theorem LSt.toM (h : LSt w n R a b c N W bc ga gl g0 g1 r h0 h1 q num few num2 few2 all least) (hb : Below bc w0 w) : PreM w0 w n R a b c N W bc ga gl h0 h1 q num2 few2 all least := by
  obtain ⟨d1, d2, d3, d4⟩ := h.ba
  obtain ⟨e1, e2, e3, e4⟩ := h.ab
  have gg := h.gB.gg
  exact ⟨⟨h.c0, h.c1, h.c2, h.c3, h.c4⟩, h.gB, h.rA, h.rL, ⟨d1, d2, d4⟩, h.al, ⟨by omega, by omega, by omega, by omega, fun j hj => by have := h.gB.gr j hj; omega⟩, hb⟩
theorem LSt.addAll (h : LSt w n R a b c N W bc ga gl g0 g1 r h0 h1 q num few num2 few2 all least) {v : Nat} (hv : v < W) {x m : Int} (hx : x = all v + m) : LSt (w.setCell ⟨ga, v, none⟩ (.int .i64 x)) n R a b c N W bc ga gl g0 g1 r h0 h1 q num few num2 few2 (fun u => if u = v then all u + m else all u) least := by
  have e : (fun u => if u = v then all u + m else all u) = fun u => if u = v then x else all u := by
    funext u
    by_cases e : u = v
    · rw [if_pos e, if_pos e, hx, e]
    · rw [if_neg e, if_neg e]
  rw [e]; exact h.setAll hv x
theorem LSt.addNum (h : LSt w n R a b c N W bc ga gl g0 g1 r h0 h1 q num few num2 few2 all least) {t v : Nat} (ht : t < N) (hv : v < W) {x m : Int} (hx : x = num2 t v + m) : LSt (w.setCell ⟨q (2 * t), v, none⟩ (.int .i64 x)) n R a b c N W bc ga gl g0 g1 r h0 h1 q num few (fun s u => if s = t ∧ u = v then num2 s u + m else num2 s u) few2 all least := by
  have e : (fun s u => if s = t ∧ u = v then num2 s u + m else num2 s u) = fun s u => if s = t ∧ u = v then x else num2 s u := by
    funext s u
    by_cases e : s = t ∧ u = v
    · rw [if_pos e, if_pos e, hx, e.1, e.2]
    · rw [if_neg e, if_neg e]
  rw [e]; exact h.setNum ht hv x
theorem LSt.sameFew (h : LSt w n R a b c N W bc ga gl g0 g1 r h0 h1 q num few num2 few2 all least) {t v : Nat} {x : Int} (hx : x = few2 t v) : LSt w n R a b c N W bc ga gl g0 g1 r h0 h1 q num few num2 (fun s u => if s = t ∧ u = v then x else few2 s u) all least := by
  have e : (fun s u => if s = t ∧ u = v then x else few2 s u) = few2 := by
    funext s u
    by_cases e : s = t ∧ u = v
    · rw [if_pos e, hx, e.1, e.2]
    · rw [if_neg e]
  rw [e]; exact h
theorem LSt.sameLeast (h : LSt w n R a b c N W bc ga gl g0 g1 r h0 h1 q num few num2 few2 all least) {v : Nat} {x : Int} (hx : x = least v) : LSt w n R a b c N W bc ga gl g0 g1 r h0 h1 q num few num2 few2 all (fun u => if u = v then x else least u) := by
  have e : (fun u => if u = v then x else least u) = least := by
    funext u
    by_cases e : u = v
    · rw [if_pos e, hx, e]
    · rw [if_neg e]
  rw [e]; exact h
theorem LSt.drew (h : LSt w n R a b c N W bc ga gl g0 g1 r h0 h1 q num few num2 few2 all least) : LSt w.drew n R a b c N W bc ga gl g0 g1 r h0 h1 q num few num2 few2 all least := h.below (Below.refl _ _).drew
theorem LSt.blq (h : LSt w n R a b c N W bc ga gl g0 g1 r h0 h1 q num few num2 few2 all least) {j : Nat} (hj : j < 2 * N) : bc ≤ q j := by
  have := h.gB.gr j hj
  have := h.gB.gg
  have := h.ba.2.2.2
  omega
theorem StInv.more {t L : Nat} (hg : GoodN n R a b c) (hi : StInv n a b c t L (befT n a b c (2 ^ n) 0 0) num2 few2 all least true) : L + 1 ≤ (t + 1) * n := by
  rcases Nat.lt_or_ge ((t + 1) * n) (L + 1) with h | h
  · exfalso
    obtain ⟨s, u, h1, h2, h3, h4⟩ := hi.hsome.1 rfl
    have h5 := (hi.next hg).hnum s u h1 h2 h3
    have h6 := aL_end hg (W := t) (L := L + 1) (by omega)
    unfold cN at h5
    rw [h6] at h5
    exact h4 h5
  · exact h
end
end Go.Proofs.Ytpmnbdkncmjafaa
