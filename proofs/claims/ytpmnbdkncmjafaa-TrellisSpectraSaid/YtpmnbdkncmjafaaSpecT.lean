/- Spectrum: the totals hold through every round. -/
import Derived.Test.YtpmnbdkncmjafaaRows
import Derived.Test.YtpmnbdkncmjafaaSpecPut
namespace Go.Proofs.Ytpmnbdkncmjafaa
open Go.RowKit

theorem set_snoc {α : Type} (A : List α) (x z : α) (m k : Nat) (hk : A.length = k) (hm : 0 < m) : (A ++ List.replicate m z).set k x = (A ++ [x]) ++ List.replicate (m - 1) z := by
  obtain ⟨j, rfl⟩ : ∃ j, m = j + 1 := ⟨m - 1, by omega⟩
  rw [List.set_append_right _ _ (by omega), hk, Nat.sub_self, List.replicate_succ, List.set_cons_zero]
  simp
theorem KeptS.below {X : SpecFix} {n : Nat} {R : Int} {a b c most : Nat} {lab : Nat → Nat} {f : Nat → Nat → Option Int} {out : Nat → Int} {w u u' : World} {B : Nat} (h : KeptS X most lab u u') (hs : SpecSt X n R a b c most u lab f out) (hb : Below B w u) (hB : B ≤ X.go) (hB2 : B ≤ X.S0) (hB3 : B ≤ w.heap.size) : Below B w u' :=
  ⟨h.os.trans hb.os, h.tape.trans hb.tape, h.output.trans hb.output, Nat.le_trans hb.size h.size, fun k hk => (h.block k (by have := hb.size; omega) (by omega) (fun v hv => by have := hs.lb v hv; omega)).trans (hb.block k hk)⟩
theorem tot_none {n : Nat} {R : Int} {a b c most : Nat} {f : Nat → Nat → Option Int} {out : Nat → Int} (h : ∀ v, v ≤ most → ∀ s, f v s = none) (v : Nat) : totT n R a b c most f out v = out v := by
  unfold totT
  rw [sumI_zero fun w hw => ?_, Int.add_zero]
  split
  · exact rowT_empty (fun s _ => h w (by omega) s) _
  · rfl
/-- the totals are what the loops are -/
def TotOk (n : Nat) (R : Int) (a b c most : Nat) (f : Nat → Nat → Option Int) (out : Nat → Int) (more : Nat → Int) : Prop := ∀ v, v ≤ most → M64 (totT n R a b c most f out v + more v) (loopsN n R a b c v : Nat)
theorem TotOk.put {n : Nat} {R : Int} {a b c most : Nat} {f : Nat → Nat → Option Int} {out : Nat → Int} {more more' : Nat → Int} (h : TotOk n R a b c most f out more) {s x w : Nat} (q : Int) (hm : ∀ v, v ≤ most → more v = (if w ≤ v then q * (wayT n R a b c s (v - w) x : Nat) else 0) + more' v) :
    TotOk n R a b c most (putF most f (w + wtF R a b c s x) (nxF n s x) q) (putO most out (w + wtF R a b c s x) (nxF n s x) q) more' := fun v hv => by
  have h1 := tot_put (R := R) (a := a) (b := b) (c := c) f out (s := s) (x := x) (w := w) q hv (n := n)
  have h2 := h v hv
  rw [hm v hv] at h2
  refine ((M64.add h1 (M64.refl (more' v))).trans (M64.of_eq ?_)).trans h2
  omega
theorem SpecSt.grow {X : SpecFix} {n : Nat} {R : Int} {a b c most : Nat} {w w' : World} {lab : Nat → Nat} {f : Nat → Nat → Option Int} {out : Nat → Int} {row : Option Nat} (h : SpecSt X n R a b c most w lab f out) (hg : w.grownBy w' row) (hr : ∀ k, row = some k → X.S0 ≤ k ∧ ∀ v, v ≤ most → lab v ≠ k) : SpecSt X n R a b c most w' lab f out := by
  have hS := h.sz
  have hk : ∀ k, k < X.S0 → w'.heap[k]? = w.heap[k]? := fun k hk => hg.block k (by omega) (fun e => by have := (hr k e.symm).1; omega)
  exact ⟨cellK (hk _ X.hc) h.c0, cellK (hk _ X.hc) h.c1, cellK (hk _ X.hc) h.c2, cellK (hk _ X.hc) h.c3, cellK (hk _ X.hc) h.c4, cellK (hk _ X.hm) h.m0, cellK (hk _ X.ho) h.o0, cellK (hk _ X.hp) h.p0,
    fun v hv => cellK (hk _ X.hgo) (h.ov v hv), fun v hv => frzK (hk _ X.hgo) (h.of v hv), fun v hv => cellK (hk _ X.hgp) (h.pv v hv), fun v hv => frzK (hk _ X.hgp) (h.pf v hv),
    fun v hv => (h.mp v hv).grown hg (fun e => (hr _ e.symm).2 v hv rfl), h.lb, h.li, Nat.le_trans hS hg.size, h.dom, h.rng⟩
theorem RangeF.keep {P : Program} {t k e : TypeId} {α β : Type} {M : MapK P t k e α β} {w w' : World} {b r n cnt : Nat} {f : α → Option β} {rem : α → Bool} (h : RangeF M w b r n f rem cnt) (hb : w'.heap[b]? = w.heap[b]?) (hr : w'.heap[r]? = w.heap[r]?) : RangeF M w' b r n f rem cnt := by
  obtain ⟨D, left, ⟨es, clock, since, seen, c0, h1, h2, h3, h4, h5, rest⟩, g⟩ := h
  exact ⟨D, left, ⟨es, clock, since, seen, c0, hb.trans h1, h2, h3, h4, hr.trans h5, rest⟩, g⟩
theorem putF_low {most v t j u : Nat} {f : Nat → Nat → Option Int} {q : Int} (h : u < j) (hv : j ≤ v) (s : Nat) : putF most f v t q u s = f u s := by
  unfold putF
  split
  · rfl
  · exact if_neg (fun e => by omega)
theorem putF_at {most t j s : Nat} {d : Nat} {f : Nat → Nat → Option Int} {q q' : Int} (h : putF most f (j + d) t q j s = some q') : f j s = some q' ∨ (d = 0 ∧ s = t ∧ t ≠ 0) := by
  unfold putF at h
  split at h
  · exact .inl h
  · rename_i hne
    by_cases e : j = j + d ∧ s = t
    · exact .inr ⟨by omega, e.2, fun e0 => hne (.inr e0)⟩
    · exact .inl ((if_neg e).symm.trans h)
theorem TotOk.take {n : Nat} {R : Int} {a b c most : Nat} {f : Nat → Nat → Option Int} {out : Nat → Int} {j : Nat} (h : TotOk n R a b c most f out fun _ => 0) (hj : j ≤ most) :
    TotOk n R a b c most (fun u s => if u = j then none else f u s) out fun v => if j ≤ v then rowT n R a b c (fun s => if (f j s).isSome then f j s else none) (v - j) else 0 := fun v hv => by
  have h1 := h v hv
  rw [Int.add_zero, tot_take f out hj] at h1
  have e : (fun s => if (f j s).isSome then f j s else none) = f j := by
    funext s
    cases f j s <;> simp
  rw [e]
  exact h1
theorem TotOk.two {n : Nat} {R : Int} {a b c most : Nat} (hg : GoodN n R a b c) {f0 : Nat → Option Int} {f : Nat → Nat → Option Int} {out : Nat → Int} {j x : Nat} {q : Int} {rem : Nat → Bool} (hx : x < 2 ^ n) (hx0 : x ≠ 0) (hr : rem x = true) (hf : f0 x = some q)
    (h : TotOk n R a b c most f out fun v => if j ≤ v then rowT n R a b c (fun s => if rem s then f0 s else none) (v - j) else 0) :
    TotOk n R a b c most (putF most (putF most f (j + wtF R a b c x 0) (nxF n x 0) q) (j + wtF R a b c x 1) (nxF n x 1) q) (putO most (putO most out (j + wtF R a b c x 0) (nxF n x 0) q) (j + wtF R a b c x 1) (nxF n x 1) q)
      fun v => if j ≤ v then rowT n R a b c (fun s => if rem s && !decide (s = x) then f0 s else none) (v - j) else 0 := by
  refine TotOk.put (more := fun v => (if j ≤ v then q * (wayT n R a b c x (v - j) 1 : Nat) else 0) + (if j ≤ v then rowT n R a b c (fun s => if rem s && !decide (s = x) then f0 s else none) (v - j) else 0)) ?_ q (fun v _ => rfl)
  refine TotOk.put h q fun v _ => ?_
  by_cases e : j ≤ v
  · simp only [if_pos e]
    rw [rowT_take hx hr hf, ways_rec hg hx hx0, Int.natCast_add, Int.mul_add]
    omega
  · simp only [if_neg e]; rfl
end Go.Proofs.Ytpmnbdkncmjafaa
