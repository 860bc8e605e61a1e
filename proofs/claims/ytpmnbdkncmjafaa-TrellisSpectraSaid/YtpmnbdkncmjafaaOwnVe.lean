/- Rows of one-cell values of the call's own, whatever the element's type: made, appended to, read, written. -/
import Derived.Test.YtpmnbdkncmjafaaRows
import Derived.Test.YtpmnbdkncmjafaaCode
import Derived.Test.YtpmnbdkncmjafaaBytes
import Derived.Maps.AppendAt
namespace Go.Proofs.Ytpmnbdkncmjafaa
open Go.RowKit

/-- an element's type and the slice's -/
structure ElemI (lt et : TypeId) (z : Value) (nb : Nat) : Prop where
  und : Try.prog.underlying lt = some (.slice et)
  inf : ∃ i : TypeInfo, Try.prog.info? et = some i ∧ i.zero = some z ∧ i.size = 1 ∧ i.bytes = nb
  one : z.cells.size = 1
def OwnV (t : TypeId) (w : World) (B : Nat) (v : Value) (xs : List Value) : Prop := w.ownsRow B t 1 v xs.length xs
def RowV (w : World) (ad : Option Addr) (xs : List Value) : Prop := 0 < xs.length → ∃ b off, ad = some ⟨b, off, none⟩ ∧ b < w.heap.size ∧ ∀ i u, xs[i]? = some u → w.cell? ⟨b, off + i, none⟩ = some u
section
variable {t : TypeId} {w w' : World} {B : Nat} {v : Value} {xs : List Value} {ad : Option Addr}
theorem RowV.nil (w : World) (ad : Option Addr) : RowV w ad [] := fun h => absurd h (by simp)
theorem RowV.below (h : RowV w ad xs) (hb : Below w.heap.size w w') : RowV w' ad xs := fun h0 => by
  obtain ⟨b, off, e, hl, hc⟩ := h h0
  exact ⟨b, off, e, Nat.lt_of_lt_of_le hl hb.size, fun i u hi => bcell hb hl (hc i u hi)⟩
theorem RowV.alloc (h : RowV w ad xs) (o : Obj) : RowV (w.alloc o) ad xs := h.below ((Below.refl _ _).alloc (Nat.le_refl _) _)
theorem OwnV.nil (t : TypeId) (w : World) (B : Nat) : OwnV t w B (.slice none 0 0) [] := World.ownsRow_nil _ _ _ _
theorem OwnV.lt (h : OwnV t w B v xs) {g : Nat} (hg : v.ownBlock = some g) : B ≤ g ∧ g < w.heap.size := World.ownsRow.lt h g hg
theorem OwnV.keep (h : OwnV t w B v xs) (hk : ∀ g, v.ownBlock = some g → w'.heap[g]? = w.heap[g]?) : OwnV t w' B v xs := by
  obtain ⟨h1, h2⟩ := h
  refine ⟨h1, ?_⟩
  rcases h2 with h2 | ⟨g, cap, cur, rfl, hbg, hg, r⟩
  · exact .inl h2
  · exact .inr ⟨g, cap, cur, rfl, hbg, (hk g rfl).trans hg, r⟩
theorem OwnV.below (h : OwnV t w B v xs) (hb : Below w.heap.size w w') : OwnV t w' B v xs := h.keep fun _ hg => hb.block _ (h.lt hg).2
theorem OwnV.grown {row : Option Nat} (h : OwnV t w B v xs) (hb : w.grownBy w' row) (hne : ∀ g, v.ownBlock = some g → some g ≠ row) : OwnV t w' B v xs :=
  h.keep fun _ hg => hb.block _ (h.lt hg).2 (hne _ hg)
theorem OwnV.alloc (h : OwnV t w B v xs) (o : Obj) : OwnV t (w.alloc o) B v xs := World.ownsRow.alloc h o
theorem OwnV.mono {B' : Nat} (h : OwnV t w B v xs) (hB : B' ≤ B) : OwnV t w B' v xs := by
  obtain ⟨h1, h2⟩ := h
  refine ⟨h1, ?_⟩
  rcases h2 with h2 | ⟨g, cap, cur, hv, hbg, r⟩
  · exact .inl h2
  · exact .inr ⟨g, cap, cur, hv, Nat.le_trans hB hbg, r⟩
theorem OwnV.form (h : OwnV t w B v xs) : (v = .slice none 0 0 ∧ xs = []) ∨ ∃ g cap, v = .slice (some ⟨g, 0, none⟩) xs.length cap ∧ B ≤ g ∧ g < w.heap.size ∧ xs.length ≤ cap ∧ cap ≤ maxLen := by
  rcases h.2 with ⟨h1, h2⟩ | ⟨g, cap, cur, h1, h2, h3, h4, h5, _⟩
  · exact .inl ⟨h1, List.eq_nil_of_length_eq_zero h2⟩
  · exact .inr ⟨g, cap, h1, h2, (Array.getElem?_eq_some_iff.1 h3).1, h4, h5⟩
theorem OwnV.cell {g cap n : Nat} (h : OwnV t w B (.slice (some ⟨g, 0, none⟩) n cap) xs) (hn : n = xs.length) {j : Nat} (hj : j < n) : w.cell? ⟨g, j, none⟩ = xs[j]? := by
  subst hn
  rw [World.ownsRow.cellAt h j (by omega)]
theorem OwnV.frz {g cap n : Nat} (h : OwnV t w B (.slice (some ⟨g, 0, none⟩) n cap) xs) (hn : n = xs.length) (j : Nat) : w.frozen? ⟨g, j, none⟩ = false := by
  subst hn
  exact World.ownsRow.frozenAt h j
theorem OwnV.set {g cap n : Nat} (h : OwnV t w B (.slice (some ⟨g, 0, none⟩) n cap) xs) (hn : n = xs.length) (j : Nat) (y : Value) :
    OwnV t (w.setCell ⟨g, j, none⟩ y) B (.slice (some ⟨g, 0, none⟩) n cap) (xs.set j y) ∧ w.grownBy (w.setCell ⟨g, j, none⟩ y) (some g) := by
  subst hn
  obtain ⟨h1, h2⟩ := World.ownsRow.stored h j y
  refine ⟨?_, h2⟩
  unfold OwnV
  rw [List.length_set]
  exact h1
theorem OwnV.row (h : OwnV t w B v xs) : ∃ ad cap, v = .slice ad xs.length cap ∧ RowV w ad xs := by
  rcases h.form with ⟨h1, h2⟩ | ⟨g, cap, rfl, _, hg, _⟩
  · subst h2; exact ⟨none, 0, h1, RowV.nil _ _⟩
  · refine ⟨_, cap, rfl, fun h0 => ⟨g, 0, rfl, hg, fun i u hi => ?_⟩⟩
    rw [Nat.zero_add, World.ownsRow.cellAt h i (by rcases Nat.lt_or_ge i xs.length with h | h; omega; rw [List.getElem?_eq_none h] at hi; cases hi)]
    exact hi
end
theorem run_appV {lt et : TypeId} {z : Value} {nb : Nat} (he : ElemI lt et z nb) {w : World} {B : Nat} {v : Value} {xs : List Value} (ty : TypeId) (hown : OwnV et w B v xs) (ad : Option Addr) (m c : Nat) (ys : List Value) (hr : RowV w ad ys) (h1 : ∀ u ∈ ys, u.oneCell' = true) (hm : m = ys.length)
    (hb : (xs.length + ys.length) * nb ≤ 140737488355328) (hb2 : xs.length + ys.length ≤ 140737488355328) (hB : B ≤ w.heap.size) :
    ∃ v' w', (Builtin.append_ #[lt, lt] ty #[v, .slice ad m c]).run Try.prog w = .ok v' w' ∧ OwnV et w' B v' (xs ++ ys) ∧ w.grownBy w' v.ownBlock ∧ (v'.ownBlock = v.ownBlock ∨ v'.ownBlock = some w.heap.size) := by
  subst hm
  have hu := he.und
  obtain ⟨i0, hi, hi0, hi1, hi2⟩ := he.inf
  rcases Nat.eq_zero_or_pos ys.length with h0 | h0
  · obtain rfl : ys = [] := List.eq_nil_of_length_eq_zero h0
    refine ⟨v, w, ?_, by simpa using hown, World.grownBy.refl w _, .inl rfl⟩
    cases ad with
    | none =>
      rcases hown.2 with ⟨rfl, _⟩ | ⟨g, cap, cur, rfl, _, _, hnc, _⟩
      · simp [Builtin.append_, run_underlying hu, sizeOf, typeInfo, hi, Builtin.lenOf, Builtin.firstCells]
      · simp [Builtin.append_, run_underlying hu, sizeOf, typeInfo, hi, Builtin.lenOf, Builtin.firstCells, hnc, storeCells]
    | some a =>
      rcases hown.2 with ⟨rfl, _⟩ | ⟨g, cap, cur, rfl, _, _, hnc, _⟩
      · simp [Builtin.append_, run_underlying hu, sizeOf, typeInfo, hi, Builtin.lenOf, Builtin.firstCells, loadCells, loadCellsFrom]
      · simp [Builtin.append_, run_underlying hu, sizeOf, typeInfo, hi, Builtin.lenOf, Builtin.firstCells, hnc, storeCells, loadCells, loadCellsFrom]
  · obtain ⟨b, off, rfl, hb0, hc⟩ := hr h0
    have hnews : ∀ (j : Nat) (u : Value), ys[j]? = some u → w.cell? ((⟨b, off, none⟩ : Addr).add j) = some u := fun j u hj => by
      rw [addr_plain]; exact hc j u hj
    obtain ⟨v', w', g1, g2, g3, _, g5⟩ := run_append_own_at (P := Try.prog) w B lt ty et i0 z 1 nb hu hi hi0 hi1 hi2 he.one (by decide) v xs.length xs hown ⟨b, off, none⟩ ys.length c ys
      (by rw [Nat.mul_one]) hnews h1 (by unfold maxLen; omega) hb hB
    refine ⟨v', w', g1, ?_, g3, g5⟩
    unfold OwnV
    rw [List.length_append]
    exact g2
theorem wpList_appV {lt et : TypeId} {z : Value} {nb : Nat} (he : ElemI lt et z nb) {w : World} {ops : Array Oper} {rest : List Oper} {o : Oper} {a : Act} {Q : Exit → Act → World → Prop} (hgd : o.guard = none) (s x : Operand)
    (ho : o.op = .call { callee := .builtin .append, args := #[s, x], argTypes := #[lt, lt] })
    (B : Nat) (v : Value) (xs : List Value) (hs : a.eval s = v) (hown : OwnV et w B v xs) (ad : Option Addr) (m c : Nat) (ys : List Value) (hx : a.eval x = .slice ad m c) (hr : RowV w ad ys) (h1 : ∀ u ∈ ys, u.oneCell' = true) (hm : m = ys.length)
    (hb : (xs.length + ys.length) * nb ≤ 140737488355328) (hb2 : xs.length + ys.length ≤ 140737488355328) (hB : B ≤ w.heap.size)
    (h : ∀ v' w', OwnV et w' B v' (xs ++ ys) → w.grownBy w' v.ownBlock → (v'.ownBlock = v.ownBlock ∨ v'.ownBlock = some w.heap.size) → wpList Try.prog ops Q rest (a.put o.dst v') w') :
    wpList Try.prog ops Q (o :: rest) a w := by
  obtain ⟨v', w', hrun, h2, h3, h4⟩ := run_appV he o.type hown ad m c ys hr h1 hm hb hb2 hB
  refine wpList_plain hgd fun _ hK => ?_
  unfold Oper.wp execOp
  simp only [ho, resolve, invoke, builtin, Sem.run_bind, Sem.run_pure, Result.andThen_ok, List.map_toArray, List.map_cons, List.map_nil, hs, hx, hrun]
  exact hK _ _ (h v' w' h2 h3 h4)
/-- a row of one cell that has just been laid -/
theorem RowV.one {w : World} {b : Nat} {u : Value} (h : w.cell? ⟨b, 0, none⟩ = some u) (hl : b < w.heap.size) : RowV w (some ⟨b, 0, none⟩) [u] := fun _ => ⟨b, 0, rfl, hl, fun i u' hi => by
  rcases i with _ | i
  · simp at hi; subst hi; exact h
  · simp at hi⟩
theorem wpList_makeV {lt et : TypeId} {z : Value} {nb : Nat} (he : ElemI lt et z nb) (hz : z.cells = #[z]) {w : World} {ops : Array Oper} {rest : List Oper} {o : Oper} {a : Act} {Q : Exit → Act → World → Prop} (hg : o.guard = none) (l c : Operand) (hop : o.op = Op.makeSlice lt l c)
    (B : Nat) (L C : Int) (n : Nat) (hl : a.eval l = .int .i64 L) (hc : a.eval c = .int .i64 C) (hL : L = (n : Int)) (hC : C = (n : Int)) (hn : n * nb ≤ 140737488355328) (hn2 : n ≤ 140737488355328) (hB : B ≤ w.heap.size)
    (hK : ∀ w', OwnV et w' B (.slice (some ⟨w.heap.size, 0, none⟩) n n) (List.replicate n z) → w.grownBy w' none → w.heap.size < w'.heap.size → wpList Try.prog ops Q rest (a.put o.dst (.slice (some ⟨w.heap.size, 0, none⟩) n n)) w') :
    wpList Try.prog ops Q (o :: rest) a w := by
  obtain ⟨i0, hi, hi0, hi1, hi2⟩ := he.inf
  refine wpList_make_full w hg l c lt hop B et i0 z 1 he.und hi hi0 hi1 .i64 .i64 L C n hl hc hL hC (by rw [hi2, Nat.mul_comm]; omega) (by unfold maxLen; omega) hB fun w' h1 h2 => hK w' ?_ h2 (h1.lt w.heap.size rfl).2
  have e : (madeCells z.cells (n * 1)).toList = List.replicate n z := by
    apply List.ext_getElem?
    intro i
    rw [hz]
    simp only [madeCells, Nat.mul_one, List.getElem?_replicate]
    rcases Nat.lt_or_ge i n with h | h
    · simp [h, Nat.mod_one]
    · simp [h]
  unfold OwnV
  rw [List.length_replicate, ← e]
  exact h1
end Go.Proofs.Ytpmnbdkncmjafaa
