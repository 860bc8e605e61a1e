/- Two rows of rows of numbers, made together; what lies in memory while outpostref07.loops works. -/
import Derived.Test.YtpmnbdkncmjafaaRows
import Derived.Test.YtpmnbdkncmjafaaProf
import Derived.Test.YtpmnbdkncmjafaaSpecSt
namespace Go.Proofs.Ytpmnbdkncmjafaa
open Go.RowKit

theorem elemRow : ElemI 96 49 (.slice none 0 0) 24 where
  und := Try.underlying96
  inf := ⟨Try.t49, by kernel_rfl, by kernel_rfl, by kernel_rfl, by kernel_rfl⟩
  one := rfl
theorem cellO {w : World} {a : Addr} {b o : Nat} {v u : Value} (h : w.cell? ⟨b, o, none⟩ = some v) (hne : a.block ≠ b) : (w.setCell a u).cell? ⟨b, o, none⟩ = some v := by
  rw [World.cell?_setCell_other _ _ _ _ (fun e => hne (by rw [e]))]; exact h
theorem cellI {w : World} {b o p : Nat} {v u : Value} (h : w.cell? ⟨b, o, none⟩ = some v) (hne : p ≠ o) : (w.setCell ⟨b, p, none⟩ u).cell? ⟨b, o, none⟩ = some v := by
  rw [World.cell?_setCell_other _ _ _ _ (fun e => hne (by injection e))]; exact h
theorem cellS {w : World} {b o : Nat} {v u : Value} (h : w.cell? ⟨b, o, none⟩ = some v) : (w.setCell ⟨b, o, none⟩ u).cell? ⟨b, o, none⟩ = some u := World.cell?_setCell_same _ _ _ h
theorem frzS {w : World} {a : Addr} {b o : Nat} {u : Value} (h : w.frozen? ⟨b, o, none⟩ = false) : (w.setCell a u).frozen? ⟨b, o, none⟩ = false := by rw [World.frozen?_setCell]; exact h
/-- a row of numbers by its cells -/
structure RowC (w : World) (W g : Nat) (f : Nat → Int) : Prop where
  lt : g < w.heap.size
  cel : ∀ v, v < W → w.cell? ⟨g, v, none⟩ = some (.int .i64 (f v))
  frz : ∀ v, v < W → w.frozen? ⟨g, v, none⟩ = false
section
variable {w w' : World} {W g : Nat} {f : Nat → Int}
theorem RowC.keep (h : RowC w W g f) (hs : w.heap.size ≤ w'.heap.size) (hk : w'.heap[g]? = w.heap[g]?) : RowC w' W g f :=
  ⟨Nat.lt_of_lt_of_le h.lt hs, fun v hv => cellK hk (h.cel v hv), fun v hv => frzK hk (h.frz v hv)⟩
theorem RowC.below (h : RowC w W g f) (hb : Below w.heap.size w w') : RowC w' W g f := h.keep hb.size (hb.block _ h.lt)
theorem RowC.far (h : RowC w W g f) {a : Addr} {u : Value} (hne : a.block ≠ g) : RowC (w.setCell a u) W g f :=
  ⟨by rw [World.size_setCell]; exact h.lt, fun v hv => cellO (h.cel v hv) hne, fun v hv => frzS (h.frz v hv)⟩
theorem RowC.set (h : RowC w W g f) {v : Nat} (hv : v < W) (x : Int) : RowC (w.setCell ⟨g, v, none⟩ (.int .i64 x)) W g (fun u => if u = v then x else f u) :=
  ⟨by rw [World.size_setCell]; exact h.lt, fun u hu => by
    by_cases e : u = v
    · subst e; rw [if_pos rfl]; exact cellS (h.cel u hu)
    · rw [if_neg e]; exact cellI (h.cel u hu) (by omega), fun u hu => frzS (h.frz u hu)⟩
theorem RowC.made {B cap : Nat} (h : IntsV w B (.slice (some ⟨g, 0, none⟩) W cap) (List.replicate W 0)) : RowC w W g fun _ => 0 :=
  ⟨(OwnV.lt h rfl).2, fun v hv => by
    rw [OwnV.cell h (by simp) hv]; simp [hv], fun v _ => OwnV.frz h (by simp) v⟩
theorem RowC.congr {f' : Nat → Int} (h : RowC w W g f) (e : ∀ v, v < W → f v = f' v) : RowC w W g f' := ⟨h.lt, fun v hv => e v hv ▸ h.cel v hv, h.frz⟩
theorem RowC.rowV (h : RowC w W g f) : RowV w (some ⟨g, 0, none⟩) (((List.range W).map f).map (Value.int .i64)) := fun _ => by
  refine ⟨g, 0, rfl, h.lt, fun i u hu => ?_⟩
  have hi : i < W := by
    rcases Nat.lt_or_ge i W with h | h
    · exact h
    · rw [List.getElem?_eq_none (by simpa using h)] at hu; cases hu
  rw [Nat.zero_add, h.cel i hi, ← hu]
  simp [hi]
end
/-- two rows of rows under way: k of N places are filled -/
structure BuildP (w : World) (N W k g0 g1 : Nat) (r : Nat → Nat) : Prop where
  a0 : ∀ s, s < k → w.cell? ⟨g0, s, none⟩ = some (.slice (some ⟨r (2 * s), 0, none⟩) W W)
  a1 : ∀ s, k ≤ s → s < N → w.cell? ⟨g0, s, none⟩ = some (.slice none 0 0)
  az : ∀ s, s < N → w.frozen? ⟨g0, s, none⟩ = false
  b0 : ∀ s, s < k → w.cell? ⟨g1, s, none⟩ = some (.slice (some ⟨r (2 * s + 1), 0, none⟩) W W)
  b1 : ∀ s, k ≤ s → s < N → w.cell? ⟨g1, s, none⟩ = some (.slice none 0 0)
  bz : ∀ s, s < N → w.frozen? ⟨g1, s, none⟩ = false
  rv : ∀ j, j < 2 * k → RowC w W (r j) fun _ => 0
  gg : g0 < g1
  gl : g1 < w.heap.size
  gr : ∀ j, j < 2 * k → g1 < r j
  rr : ∀ i j, i < j → j < 2 * k → r i < r j
theorem build_start {w1 w3 : World} {N W B g0 g1 : Nat} (h0 : OwnV 49 w1 B (.slice (some ⟨g0, 0, none⟩) N N) (List.replicate N (.slice none 0 0))) (h1 : OwnV 49 w3 B (.slice (some ⟨g1, 0, none⟩) N N) (List.replicate N (.slice none 0 0))) (hg : w1.grownBy w3 none) (hlt : g0 < g1) (r : Nat → Nat) : BuildP w3 N W 0 g0 g1 r := by
  have h0' : OwnV 49 w3 B (.slice (some ⟨g0, 0, none⟩) N N) (List.replicate N (.slice none 0 0)) := h0.grown hg (by simp)
  refine ⟨fun s hs => by omega, fun s _ hs => ?_, fun s hs => OwnV.frz h0' (by simp) s, fun s hs => by omega, fun s _ hs => ?_, fun s hs => OwnV.frz h1 (by simp) s, fun j hj => by omega, hlt, (OwnV.lt h1 rfl).2, fun j hj => by omega, fun i j _ hj => by omega⟩
  · rw [OwnV.cell h0' (by simp) hs]; simp [hs]
  · rw [OwnV.cell h1 (by simp) hs]; simp [hs]
theorem build_step {w w1 w3 : World} {N W k g0 g1 B : Nat} {r : Nat → Nat} (h : BuildP w N W k g0 g1 r) (hk : k < N) (hx1 : IntsV w1 B (.slice (some ⟨w.heap.size, 0, none⟩) W W) (List.replicate W 0)) (hg1 : w.grownBy w1 none)
    (hx3 : IntsV w3 B (.slice (some ⟨w1.heap.size, 0, none⟩) W W) (List.replicate W 0)) (hg3 : (w1.setCell ⟨g0, k, none⟩ (.slice (some ⟨w.heap.size, 0, none⟩) W W)).grownBy w3 none) :
    BuildP (w3.setCell ⟨g1, k, none⟩ (.slice (some ⟨w1.heap.size, 0, none⟩) W W)) N W (k + 1) g0 g1 (fun j => if j = 2 * k then w.heap.size else if j = 2 * k + 1 then w1.heap.size else r j) := by
  have l1 : w.heap.size < w1.heap.size := (OwnV.lt hx1 rfl).2
  have l3 : w1.heap.size < w3.heap.size := (OwnV.lt hx3 rfl).2
  have gg := h.gg
  have gl := h.gl
  have k1 : ∀ b, b < w.heap.size → w1.heap[b]? = w.heap[b]? := fun b hb => hg1.block b hb (by simp)
  have k3 : ∀ b, b < w1.heap.size → w3.heap[b]? = (w1.setCell ⟨g0, k, none⟩ (.slice (some ⟨w.heap.size, 0, none⟩) W W)).heap[b]? := fun b hb => hg3.block b (by rw [World.size_setCell]; exact hb) (by simp)
  have c0 : ∀ s, s < N → s ≠ k → ∀ v, w.cell? ⟨g0, s, none⟩ = some v → (w3.setCell ⟨g1, k, none⟩ (.slice (some ⟨w1.heap.size, 0, none⟩) W W)).cell? ⟨g0, s, none⟩ = some v := fun s hs hne v hc =>
    cellO (cellK (k3 g0 (by omega)) (cellI (cellK (k1 g0 (by omega)) hc) (by omega))) (by simp; omega)
  have c1 : ∀ s, s ≠ k → ∀ v, w.cell? ⟨g1, s, none⟩ = some v → (w3.setCell ⟨g1, k, none⟩ (.slice (some ⟨w1.heap.size, 0, none⟩) W W)).cell? ⟨g1, s, none⟩ = some v := fun s hne v hc =>
    cellI (cellK (k3 g1 (by omega)) (cellO (cellK (k1 g1 (by omega)) hc) (by simp; omega))) (by omega)
  refine ⟨fun s hs => ?_, fun s h1 hs => c0 s hs (by omega) _ (h.a1 s (by omega) hs), fun s hs => frzS (frzK (k3 g0 (by omega)) (frzS (frzK (k1 g0 (by omega)) (h.az s hs)))),
    fun s hs => ?_, fun s h1 hs => c1 s (by omega) _ (h.b1 s (by omega) hs), fun s hs => frzS (frzK (k3 g1 (by omega)) (frzS (frzK (k1 g1 (by omega)) (h.bz s hs)))), fun j hj => ?_, gg, by rw [World.size_setCell]; omega, fun j hj => ?_, fun i j hij hj => ?_⟩
  · by_cases e : s = k
    · subst e
      rw [if_pos rfl]
      exact cellO (cellK (k3 g0 (by omega)) (cellS (cellK (k1 g0 (by omega)) (h.a1 s (Nat.le_refl _) hk)))) (by simp; omega)
    · rw [if_neg (by omega), if_neg (by omega)]
      exact c0 s (by omega) e _ (h.a0 s (by omega))
  · by_cases e : s = k
    · subst e
      rw [if_neg (by omega), if_pos rfl]
      exact cellS (cellK (k3 g1 (by omega)) (cellO (cellK (k1 g1 (by omega)) (h.b1 s (Nat.le_refl _) hk)) (by simp; omega)))
    · rw [if_neg (by omega), if_neg (by omega)]
      exact c1 s e _ (h.b0 s (by omega))
  · by_cases e1 : j = 2 * k
    · rw [if_pos e1]
      have := RowC.made hx1
      exact (((this.far (a := ⟨g0, k, none⟩) (u := .slice (some ⟨w.heap.size, 0, none⟩) W W) (by simp; omega))).keep hg3.size (k3 _ l1)).far (by simp; omega)
    · rw [if_neg e1]
      by_cases e2 : j = 2 * k + 1
      · rw [if_pos e2]
        exact (RowC.made hx3).far (by simp; omega)
      · rw [if_neg e2]
        have h2 := h.rv j (by omega)
        have h3 := h.gr j (by omega)
        have h4 := h2.lt
        exact (((h2.keep (Nat.le_of_lt l1) (k1 _ h4)).far (a := ⟨g0, k, none⟩) (u := .slice (some ⟨w.heap.size, 0, none⟩) W W) (by simp; omega)).keep hg3.size (k3 _ (by omega))).far (by simp; omega)
  · by_cases e1 : j = 2 * k
    · rw [if_pos e1]; omega
    · rw [if_neg e1]
      by_cases e2 : j = 2 * k + 1
      · rw [if_pos e2]; omega
      · rw [if_neg e2]; exact h.gr j (by omega)
  · have hlt : ∀ m, m < 2 * k → r m < w.heap.size := fun m hm => (h.rv m hm).lt
    by_cases e1 : j = 2 * k
    · rw [if_pos e1, if_neg (by omega), if_neg (by omega)]; exact hlt i (by omega)
    · rw [if_neg e1]
      by_cases e2 : j = 2 * k + 1
      · rw [if_pos e2]
        by_cases e3 : i = 2 * k
        · rw [if_pos e3]; exact l1
        · rw [if_neg e3, if_neg (by omega)]; have := hlt i (by omega); omega
      · rw [if_neg e2, if_neg (by omega), if_neg (by omega)]
        exact h.rr i j hij (by omega)
/-- two rows of rows -/
structure GridP (w : World) (N W g0 g1 : Nat) (r : Nat → Nat) (f0 f1 : Nat → Nat → Int) : Prop where
  a0 : ∀ s, s < N → w.cell? ⟨g0, s, none⟩ = some (.slice (some ⟨r (2 * s), 0, none⟩) W W)
  b0 : ∀ s, s < N → w.cell? ⟨g1, s, none⟩ = some (.slice (some ⟨r (2 * s + 1), 0, none⟩) W W)
  r0 : ∀ s, s < N → RowC w W (r (2 * s)) (f0 s)
  r1 : ∀ s, s < N → RowC w W (r (2 * s + 1)) (f1 s)
  gg : g0 < g1
  gl : g1 < w.heap.size
  gr : ∀ j, j < 2 * N → g1 < r j
  rr : ∀ i j, i < j → j < 2 * N → r i < r j
theorem BuildP.grid {w : World} {N W g0 g1 : Nat} {r : Nat → Nat} (h : BuildP w N W N g0 g1 r) : GridP w N W g0 g1 r (fun _ _ => 0) (fun _ _ => 0) :=
  ⟨h.a0, h.b0, fun s hs => h.rv _ (by omega), fun s hs => h.rv _ (by omega), h.gg, h.gl, h.gr, h.rr⟩
section
variable {w w' : World} {N W g0 g1 : Nat} {r : Nat → Nat} {f0 f1 : Nat → Nat → Int}
theorem GridP.lt (h : GridP w N W g0 g1 r f0 f1) {j : Nat} (hj : j < 2 * N) : r j < w.heap.size := by
  rcases Nat.mod_two_eq_zero_or_one j with e | e
  · have := (h.r0 (j / 2) (by omega)).lt
    rwa [show 2 * (j / 2) = j by omega] at this
  · have := (h.r1 (j / 2) (by omega)).lt
    rwa [show 2 * (j / 2) + 1 = j by omega] at this
theorem GridP.below (h : GridP w N W g0 g1 r f0 f1) (hb : Below w.heap.size w w') : GridP w' N W g0 g1 r f0 f1 := by
  have gg := h.gg
  have gl := h.gl
  exact ⟨fun s hs => cellK (hb.block _ (by omega)) (h.a0 s hs), fun s hs => cellK (hb.block _ gl) (h.b0 s hs), fun s hs => (h.r0 s hs).below hb, fun s hs => (h.r1 s hs).below hb, gg, Nat.lt_of_lt_of_le gl hb.size, h.gr, h.rr⟩
theorem GridP.far (h : GridP w N W g0 g1 r f0 f1) {a : Addr} {u : Value} (hg0 : a.block ≠ g0) (hg1 : a.block ≠ g1) (hr : ∀ j, j < 2 * N → a.block ≠ r j) : GridP (w.setCell a u) N W g0 g1 r f0 f1 :=
  ⟨fun s hs => cellO (h.a0 s hs) hg0, fun s hs => cellO (h.b0 s hs) hg1, fun s hs => (h.r0 s hs).far (hr _ (by omega)), fun s hs => (h.r1 s hs).far (hr _ (by omega)), h.gg, by rw [World.size_setCell]; exact h.gl, h.gr, h.rr⟩
theorem GridP.ne (h : GridP w N W g0 g1 r f0 f1) {i j : Nat} (hi : i < 2 * N) (hj : j < 2 * N) (hne : i ≠ j) : r i ≠ r j := by
  rcases Nat.lt_or_gt_of_ne hne with e | e
  · have := h.rr i j e hj; omega
  · have := h.rr j i e hi; omega
theorem GridP.set0 (h : GridP w N W g0 g1 r f0 f1) {s v : Nat} (hs : s < N) (hv : v < W) (x : Int) : GridP (w.setCell ⟨r (2 * s), v, none⟩ (.int .i64 x)) N W g0 g1 r (fun t u => if t = s ∧ u = v then x else f0 t u) f1 := by
  have gg := h.gg
  have h1 := h.gr (2 * s) (by omega)
  refine ⟨fun t ht => cellO (h.a0 t ht) (by simp; omega), fun t ht => cellO (h.b0 t ht) (by simp; omega), fun t ht => ?_, fun t ht => (h.r1 t ht).far (by simp; exact h.ne (by omega) (by omega) (by omega)), gg, by rw [World.size_setCell]; exact h.gl, h.gr, h.rr⟩
  by_cases e : t = s
  · subst e
    refine ((h.r0 t ht).set hv x).congr fun u _ => ?_
    simp
  · refine ((h.r0 t ht).far (by simp; exact h.ne (by omega) (by omega) (by omega))).congr fun u _ => ?_
    simp [e]
theorem GridP.set1 (h : GridP w N W g0 g1 r f0 f1) {s v : Nat} (hs : s < N) (hv : v < W) (x : Int) : GridP (w.setCell ⟨r (2 * s + 1), v, none⟩ (.int .i64 x)) N W g0 g1 r f0 (fun t u => if t = s ∧ u = v then x else f1 t u) := by
  have gg := h.gg
  have h1 := h.gr (2 * s + 1) (by omega)
  refine ⟨fun t ht => cellO (h.a0 t ht) (by simp; omega), fun t ht => cellO (h.b0 t ht) (by simp; omega), fun t ht => (h.r0 t ht).far (by simp; exact h.ne (by omega) (by omega) (by omega)), fun t ht => ?_, gg, by rw [World.size_setCell]; exact h.gl, h.gr, h.rr⟩
  by_cases e : t = s
  · subst e
    refine ((h.r1 t ht).set hv x).congr fun u _ => ?_
    simp
  · refine ((h.r1 t ht).far (by simp; exact h.ne (by omega) (by omega) (by omega))).congr fun u _ => ?_
    simp [e]
end
/-- a code's box, by its cells -/
def BoxC (w : World) (n : Nat) (R : Int) (a b c bc : Nat) : Prop :=
  w.cell? ⟨bc, 0, none⟩ = some (.int .i64 (n + 1)) ∧ w.cell? ⟨bc, 1, none⟩ = some (.int .i64 R) ∧ w.cell? ⟨bc, 2, none⟩ = some (.int .u32 a) ∧ w.cell? ⟨bc, 3, none⟩ = some (.int .u32 b) ∧ w.cell? ⟨bc, 4, none⟩ = some (.int .u32 c)
theorem BoxC.keep {w w' : World} {n : Nat} {R : Int} {a b c bc : Nat} (h : BoxC w n R a b c bc) (hk : w'.heap[bc]? = w.heap[bc]?) : BoxC w' n R a b c bc := by
  obtain ⟨h0, h1, h2, h3, h4⟩ := h
  exact ⟨cellK hk h0, cellK hk h1, cellK hk h2, cellK hk h3, cellK hk h4⟩
/-- the first rows, ahead of the rounds -/
structure PreL (v0 w : World) (n : Nat) (R : Int) (a b c N W bc ga gl g0 g1 : Nat) (r : Nat → Nat) (num few : Nat → Nat → Int) (all least : Nat → Int) : Prop where
  box : BoxC w n R a b c bc
  gA : GridP w N W g0 g1 r num few
  rA : RowC w W ga all
  rL : RowC w W gl least
  bl : bc < g0
  fa : ∀ j, j < 2 * N → r j < ga
  al : ga < gl
  bel : Below g0 v0 w
section
variable {v0 w w' : World} {n : Nat} {R : Int} {a b c N W bc ga gl g0 g1 : Nat} {r : Nat → Nat} {num few : Nat → Nat → Int} {all least : Nat → Int}
theorem PreL.below (h : PreL v0 w n R a b c N W bc ga gl g0 g1 r num few all least) (hb : Below w.heap.size w w') : PreL v0 w' n R a b c N W bc ga gl g0 g1 r num few all least := by
  have := h.bl
  have := h.gA.gg
  have := h.gA.gl
  exact ⟨h.box.keep (hb.block _ (by omega)), h.gA.below hb, h.rA.below hb, h.rL.below hb, h.bl, h.fa, h.al, h.bel.trans (hb.mono (by omega))⟩
theorem PreL.drew (h : PreL v0 w n R a b c N W bc ga gl g0 g1 r num few all least) (k : Nat) : PreL v0 (w.drewN k) n R a b c N W bc ga gl g0 g1 r num few all least := h.below (below_drewN (Below.refl _ _) k)
theorem PreL.order (h : PreL v0 w n R a b c N W bc ga gl g0 g1 r num few all least) (hN : 0 < N) : g1 < ga := by
  have h1 := h.gA.gr 0 (by omega)
  have h2 := h.fa 0 (by omega)
  omega
theorem PreL.setL (h : PreL v0 w n R a b c N W bc ga gl g0 g1 r num few all least) (hN : 0 < N) {v : Nat} (hv : v < W) (x : Int) : PreL v0 (w.setCell ⟨gl, v, none⟩ (.int .i64 x)) n R a b c N W bc ga gl g0 g1 r num few all (fun u => if u = v then x else least u) := by
  have e1 := h.order hN
  have e2 := h.al
  have e3 := h.gA.gg
  have e4 := h.bl
  obtain ⟨b0, b1, b2, b3, b4⟩ := h.box
  exact ⟨⟨cellO b0 (by simp; omega), cellO b1 (by simp; omega), cellO b2 (by simp; omega), cellO b3 (by simp; omega), cellO b4 (by simp; omega)⟩, h.gA.far (by simp; omega) (by simp; omega) (fun j hj => by have := h.fa j hj; simp; omega), h.rA.far (by simp; omega), h.rL.set hv x, h.bl, h.fa, h.al, h.bel.setCell (by simp; omega) _⟩
theorem PreL.setN (h : PreL v0 w n R a b c N W bc ga gl g0 g1 r num few all least) {s v : Nat} (hs : s < N) (hv : v < W) (x : Int) : PreL v0 (w.setCell ⟨r (2 * s), v, none⟩ (.int .i64 x)) n R a b c N W bc ga gl g0 g1 r (fun t u => if t = s ∧ u = v then x else num t u) few all least := by
  have e1 := h.gA.gr (2 * s) (by omega)
  have e2 := h.al
  have e3 := h.gA.gg
  have e4 := h.bl
  have e5 := h.fa (2 * s) (by omega)
  obtain ⟨b0, b1, b2, b3, b4⟩ := h.box
  exact ⟨⟨cellO b0 (by simp; omega), cellO b1 (by simp; omega), cellO b2 (by simp; omega), cellO b3 (by simp; omega), cellO b4 (by simp; omega)⟩, h.gA.set0 hs hv x, h.rA.far (by simp; omega), h.rL.far (by simp; omega), h.bl, h.fa, h.al, h.bel.setCell (by simp; omega) _⟩
theorem PreL.setF (h : PreL v0 w n R a b c N W bc ga gl g0 g1 r num few all least) {s v : Nat} (hs : s < N) (hv : v < W) (x : Int) : PreL v0 (w.setCell ⟨r (2 * s + 1), v, none⟩ (.int .i64 x)) n R a b c N W bc ga gl g0 g1 r num (fun t u => if t = s ∧ u = v then x else few t u) all least := by
  have e1 := h.gA.gr (2 * s + 1) (by omega)
  have e2 := h.al
  have e3 := h.gA.gg
  have e4 := h.bl
  have e5 := h.fa (2 * s + 1) (by omega)
  obtain ⟨b0, b1, b2, b3, b4⟩ := h.box
  exact ⟨⟨cellO b0 (by simp; omega), cellO b1 (by simp; omega), cellO b2 (by simp; omega), cellO b3 (by simp; omega), cellO b4 (by simp; omega)⟩, h.gA.set1 hs hv x, h.rA.far (by simp; omega), h.rL.far (by simp; omega), h.bl, h.fa, h.al, h.bel.setCell (by simp; omega) _⟩
end
/-- what lies in memory while a round goes on -/
structure LSt (w : World) (n : Nat) (R : Int) (a b c N W bc ga gl g0 g1 : Nat) (r : Nat → Nat) (h0 h1 : Nat) (q : Nat → Nat) (num few num2 few2 : Nat → Nat → Int) (all least : Nat → Int) : Prop where
  c0 : w.cell? ⟨bc, 0, none⟩ = some (.int .i64 (n + 1))
  c1 : w.cell? ⟨bc, 1, none⟩ = some (.int .i64 R)
  c2 : w.cell? ⟨bc, 2, none⟩ = some (.int .u32 a)
  c3 : w.cell? ⟨bc, 3, none⟩ = some (.int .u32 b)
  c4 : w.cell? ⟨bc, 4, none⟩ = some (.int .u32 c)
  gA : GridP w N W g0 g1 r num few
  gB : GridP w N W h0 h1 q num2 few2
  rA : RowC w W ga all
  rL : RowC w W gl least
  bl : bc < w.heap.size
  ba : bc < ga ∧ bc < gl ∧ bc < g0 ∧ bc < h0
  al : ga ≠ gl
  fa : g0 ≠ ga ∧ g0 ≠ gl ∧ g1 ≠ ga ∧ g1 ≠ gl ∧ ∀ j, j < 2 * N → r j ≠ ga ∧ r j ≠ gl
  ab : ga < h0 ∧ gl < h0 ∧ g1 < h0 ∧ ∀ j, j < 2 * N → r j < h0
section
variable {w w' : World} {n : Nat} {R : Int} {a b c N W bc ga gl g0 g1 : Nat} {r : Nat → Nat} {h0 h1 : Nat} {q : Nat → Nat} {num few num2 few2 : Nat → Nat → Int} {all least : Nat → Int}
theorem LSt.below (h : LSt w n R a b c N W bc ga gl g0 g1 r h0 h1 q num few num2 few2 all least) (hb : Below w.heap.size w w') : LSt w' n R a b c N W bc ga gl g0 g1 r h0 h1 q num few num2 few2 all least :=
  ⟨bcell hb h.bl h.c0, bcell hb h.bl h.c1, bcell hb h.bl h.c2, bcell hb h.bl h.c3, bcell hb h.bl h.c4, h.gA.below hb, h.gB.below hb, h.rA.below hb, h.rL.below hb, Nat.lt_of_lt_of_le h.bl hb.size, h.ba, h.al, h.fa, h.ab⟩
theorem LSt.setNum (h : LSt w n R a b c N W bc ga gl g0 g1 r h0 h1 q num few num2 few2 all least) {t v : Nat} (ht : t < N) (hv : v < W) (x : Int) : LSt (w.setCell ⟨q (2 * t), v, none⟩ (.int .i64 x)) n R a b c N W bc ga gl g0 g1 r h0 h1 q num few (fun s u => if s = t ∧ u = v then x else num2 s u) few2 all least := by
  have e1 := h.gB.gr (2 * t) (by omega)
  have e2 := h.gB.gg
  obtain ⟨b1, b2, b3, b4⟩ := h.ba
  obtain ⟨d1, d2, d3, d4⟩ := h.ab
  have gg := h.gA.gg
  exact ⟨cellO h.c0 (by simp; omega), cellO h.c1 (by simp; omega), cellO h.c2 (by simp; omega), cellO h.c3 (by simp; omega), cellO h.c4 (by simp; omega), h.gA.far (by simp; omega) (by simp; omega) (fun j hj => by have := d4 j hj; simp; omega), h.gB.set0 ht hv x, h.rA.far (by simp; omega), h.rL.far (by simp; omega), by rw [World.size_setCell]; exact h.bl, h.ba, h.al, h.fa, h.ab⟩
theorem LSt.setFew (h : LSt w n R a b c N W bc ga gl g0 g1 r h0 h1 q num few num2 few2 all least) {t v : Nat} (ht : t < N) (hv : v < W) (x : Int) : LSt (w.setCell ⟨q (2 * t + 1), v, none⟩ (.int .i64 x)) n R a b c N W bc ga gl g0 g1 r h0 h1 q num few num2 (fun s u => if s = t ∧ u = v then x else few2 s u) all least := by
  have e1 := h.gB.gr (2 * t + 1) (by omega)
  have e2 := h.gB.gg
  obtain ⟨b1, b2, b3, b4⟩ := h.ba
  obtain ⟨d1, d2, d3, d4⟩ := h.ab
  have gg := h.gA.gg
  exact ⟨cellO h.c0 (by simp; omega), cellO h.c1 (by simp; omega), cellO h.c2 (by simp; omega), cellO h.c3 (by simp; omega), cellO h.c4 (by simp; omega), h.gA.far (by simp; omega) (by simp; omega) (fun j hj => by have := d4 j hj; simp; omega), h.gB.set1 ht hv x, h.rA.far (by simp; omega), h.rL.far (by simp; omega), by rw [World.size_setCell]; exact h.bl, h.ba, h.al, h.fa, h.ab⟩
theorem LSt.setAll (h : LSt w n R a b c N W bc ga gl g0 g1 r h0 h1 q num few num2 few2 all least) {v : Nat} (hv : v < W) (x : Int) : LSt (w.setCell ⟨ga, v, none⟩ (.int .i64 x)) n R a b c N W bc ga gl g0 g1 r h0 h1 q num few num2 few2 (fun u => if u = v then x else all u) least := by
  have e2 := h.gB.gg
  obtain ⟨b1, b2, b3, b4⟩ := h.ba
  obtain ⟨d1, d2, d3, d4⟩ := h.ab
  obtain ⟨f1, f2, f3, f4, f5⟩ := h.fa
  have hal := h.al
  exact ⟨cellO h.c0 (by simp; omega), cellO h.c1 (by simp; omega), cellO h.c2 (by simp; omega), cellO h.c3 (by simp; omega), cellO h.c4 (by simp; omega), h.gA.far (by simp; omega) (by simp; omega) (fun j hj => by have := (f5 j hj).1; simp; omega), h.gB.far (by simp; omega) (by simp; omega) (fun j hj => by have := h.gB.gr j hj; simp; omega), h.rA.set hv x, h.rL.far (by simp; omega), by rw [World.size_setCell]; exact h.bl, h.ba, h.al, h.fa, h.ab⟩
theorem LSt.setLeast (h : LSt w n R a b c N W bc ga gl g0 g1 r h0 h1 q num few num2 few2 all least) {v : Nat} (hv : v < W) (x : Int) : LSt (w.setCell ⟨gl, v, none⟩ (.int .i64 x)) n R a b c N W bc ga gl g0 g1 r h0 h1 q num few num2 few2 all (fun u => if u = v then x else least u) := by
  have e2 := h.gB.gg
  obtain ⟨b1, b2, b3, b4⟩ := h.ba
  obtain ⟨d1, d2, d3, d4⟩ := h.ab
  obtain ⟨f1, f2, f3, f4, f5⟩ := h.fa
  have hal := h.al
  exact ⟨cellO h.c0 (by simp; omega), cellO h.c1 (by simp; omega), cellO h.c2 (by simp; omega), cellO h.c3 (by simp; omega), cellO h.c4 (by simp; omega), h.gA.far (by simp; omega) (by simp; omega) (fun j hj => by have := (f5 j hj).2; simp; omega), h.gB.far (by simp; omega) (by simp; omega) (fun j hj => by have := h.gB.gr j hj; simp; omega), h.rA.far (by simp; omega), h.rL.set hv x, by rw [World.size_setCell]; exact h.bl, h.ba, h.al, h.fa, h.ab⟩
end
end Go.Proofs.Ytpmnbdkncmjafaa
