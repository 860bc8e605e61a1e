/- Rows of bytes: what a slice of bytes reads as, rows of a call's own, appending to them. -/
import Derived.Test.YtpmnbdkncmjafaaRows
import Derived.Test.YtpmnbdkncmjafaaLong
import Derived.Maps.AppendAt
import Derived.Deep.AppendLies
import Derived.Laws.BytesArg
import Derived.Laws.OwnMore
import Derived.RegionTactic
import Derived.OwnWalk
import Derived.WalkKit
namespace Go.Proofs.Ytpmnbdkncmjafaa
open Go.RowKit

def bytesV (ys : List Nat) : List Value := ys.map fun (y : Nat) => Value.int .u8 (y : Int)
theorem bytesV_append (xs ys : List Nat) : bytesV (xs ++ ys) = bytesV xs ++ bytesV ys := by simp [bytesV]
theorem bytesV_length (xs : List Nat) : (bytesV xs).length = xs.length := by simp [bytesV]
theorem bytesV_at (xs : List Nat) (i : Nat) (h : i < xs.length) : (bytesV xs)[i]? = some (.int .u8 (xs.getD i 0 : Nat)) := by
  simp [bytesV, List.getD, h]
theorem bytesV_set (xs : List Nat) (i y : Nat) : (bytesV xs).set i (.int .u8 (y : Nat)) = bytesV (xs.set i y) := by
  simp [bytesV, List.map_set]
theorem bytesV_one {u : Value} {xs : List Nat} (h : u ∈ bytesV xs) : u.oneCell' = true := by
  simp [bytesV] at h
  obtain ⟨y, _, rfl⟩ := h
  rfl
theorem bytesV_inj {xs ys : List Nat} (h : bytesV xs = bytesV ys) : xs = ys := by
  induction xs generalizing ys with
  | nil => cases ys with
    | nil => rfl
    | cons y ys => simp [bytesV] at h
  | cons x xs ih => cases ys with
    | nil => simp [bytesV] at h
    | cons y ys =>
      simp only [bytesV, List.map_cons, List.cons.injEq, Value.int.injEq, true_and] at h
      rw [ih h.2, Int.ofNat_inj.1 h.1]
/-- the slice that begins at ad and is as long as xs reads as xs -/
def RowA (w : World) (ad : Option Addr) (xs : List Nat) : Prop :=
  0 < xs.length → ∃ b off, ad = some ⟨b, off, none⟩ ∧ b < w.heap.size ∧ ∀ i, i < xs.length → w.cell? ⟨b, off + i, none⟩ = some (.int .u8 (xs.getD i 0 : Nat))
section
variable {w w' : World} {ad : Option Addr} {xs : List Nat}
theorem RowA.nil (w : World) (ad : Option Addr) : RowA w ad [] := fun h => by simp at h
theorem RowA.keep (h : RowA w ad xs) (hs : w.heap.size ≤ w'.heap.size) (hk : ∀ b off, ad = some ⟨b, off, none⟩ → b < w.heap.size → w'.heap[b]? = w.heap[b]?) : RowA w' ad xs := fun h0 => by
  obtain ⟨b, off, rfl, hb, hc⟩ := h h0
  exact ⟨b, off, rfl, Nat.lt_of_lt_of_le hb hs, fun i hi => (World.cell?_of_block (a := ⟨b, off + i, none⟩) (hk b off rfl hb)).trans (hc i hi)⟩
theorem RowA.below (h : RowA w ad xs) (hb : Below w.heap.size w w') : RowA w' ad xs := h.keep hb.size fun b _ _ hlt => hb.block b hlt
theorem RowA.grown {row : Option Nat} (h : RowA w ad xs) (hg : w.grownBy w' row) (hne : ∀ b off, ad = some ⟨b, off, none⟩ → some b ≠ row) : RowA w' ad xs :=
  h.keep hg.size fun b off e hlt => hg.block b hlt (hne b off e)
theorem RowA.alloc (h : RowA w ad xs) (o : Obj) : RowA (w.alloc o) ad xs := h.below ((Below.refl _ _).alloc (Nat.le_refl _) _)
theorem RowA.at_ (h : RowA w ad xs) {i : Nat} (hi : i < xs.length) : ∃ b off, ad = some ⟨b, off, none⟩ ∧ b < w.heap.size ∧ w.cell? ⟨b, off + i, none⟩ = some (.int .u8 (xs.getD i 0 : Nat)) := by
  obtain ⟨b, off, e, hb, hc⟩ := h (by omega)
  exact ⟨b, off, e, hb, hc i hi⟩
theorem RowA.take (h : RowA w ad xs) (n : Nat) : RowA w ad (xs.take n) := fun h0 => by
  rw [List.length_take] at h0
  obtain ⟨b, off, e, hb, hc⟩ := h (by omega)
  refine ⟨b, off, e, hb, fun i hi => ?_⟩
  rw [List.length_take] at hi
  rw [hc i (by omega)]
  simp [List.getD, show i < n by omega]
theorem RowA.drop {b off : Nat} (h : RowA w (some ⟨b, off, none⟩) xs) (n : Nat) : RowA w (some ⟨b, off + n, none⟩) (xs.drop n) := fun h0 => by
  rw [List.length_drop] at h0
  obtain ⟨b', off', e, hb, hc⟩ := h (by omega)
  simp only [Option.some.injEq, Addr.mk.injEq, and_true] at e
  obtain ⟨rfl, rfl⟩ := e
  refine ⟨b, off + n, rfl, hb, fun i hi => ?_⟩
  rw [List.length_drop] at hi
  rw [show off + n + i = off + (n + i) by omega, hc (n + i) (by omega)]
  simp [List.getD, List.getElem?_drop]
theorem addr_plain (b off j : Nat) : (⟨b, off, none⟩ : Addr).add j = ⟨b, off + j, none⟩ := by unfold Addr.add; split <;> simp_all
/-- what a slice of bytes is as a string -/
def strN (xs : List Nat) : ByteArray := strOfNums (xs.map fun (x : Nat) => (x : Int))
theorem getD_cast (xs : List Nat) (i : Nat) : (xs.map fun (x : Nat) => (x : Int)).getD i 0 = ((xs.getD i 0 : Nat) : Int) := by
  simp only [List.getD, List.getElem?_map]
  cases xs[i]? <;> rfl
theorem RowA.conv (h : RowA w ad xs) (c : Nat) : (convert 38 9 (.slice ad xs.length c)).run Try.prog w = .ok (.string (strN xs)) w := by
  rcases Nat.eq_zero_or_pos xs.length with h0 | h0
  · obtain rfl : xs = [] := List.eq_nil_of_length_eq_zero h0
    rw [run_convert_bytes_string w 38 9 5 ad _ c Try.underlying38 Try.underlying5 Try.underlying9]
    cases ad with
    | none => simp [Conv.bytesToString, strN, strOfNums]; rfl
    | some a => simp [Conv.bytesToString, loadCells, loadCellsFrom, strN, strOfNums]; rfl
  · obtain ⟨b, off, rfl, hb, hc⟩ := h h0
    exact run_convert_bytes_arg (P := Try.prog) w 38 5 Try.underlying38 Try.underlying5 b off xs.length c (xs.map fun (x : Nat) => (x : Int)) (by simp) (fun i hi => by rw [hc i hi, getD_cast]) 9 Try.underlying9
end
/-- v is a row of bytes of the call's own, from block B on, that reads as xs -/
def OwnB (w : World) (B : Nat) (v : Value) (xs : List Nat) : Prop := w.ownsRow B 5 1 v xs.length (bytesV xs)
section
variable {w w' : World} {B : Nat} {v : Value} {xs : List Nat}
theorem OwnB.nil (w : World) (B : Nat) : OwnB w B (.slice none 0 0) [] := World.ownsRow_nil _ _ _ _
theorem OwnB.form (h : OwnB w B v xs) : (v = .slice none 0 0 ∧ xs = []) ∨ ∃ g cap, v = .slice (some ⟨g, 0, none⟩) xs.length cap ∧ B ≤ g ∧ g < w.heap.size ∧ xs.length ≤ cap ∧ cap ≤ maxLen := by
  rcases h.2 with ⟨h1, h2⟩ | ⟨g, cap, cur, h1, h2, h3, h4, h5, _⟩
  · exact .inl ⟨h1, List.eq_nil_of_length_eq_zero h2⟩
  · exact .inr ⟨g, cap, h1, h2, (Array.getElem?_eq_some_iff.1 h3).1, h4, h5⟩
theorem OwnB.full (h : OwnB w B v xs) (h0 : 0 < xs.length) : ∃ g cap, v = .slice (some ⟨g, 0, none⟩) xs.length cap ∧ B ≤ g ∧ g < w.heap.size ∧ xs.length ≤ cap ∧ cap ≤ maxLen := by
  rcases h.form with ⟨_, h2⟩ | h
  · rw [h2] at h0; simp at h0
  · exact h
theorem OwnB.row (h : OwnB w B v xs) : ∃ ad cap, v = .slice ad xs.length cap ∧ RowA w ad xs := by
  rcases h.form with ⟨h1, h2⟩ | ⟨g, cap, rfl, _, hg, _⟩
  · subst h2; exact ⟨none, 0, h1, RowA.nil _ _⟩
  · refine ⟨_, cap, rfl, fun h0 => ⟨g, 0, rfl, hg, fun i hi => ?_⟩⟩
    rw [Nat.zero_add, World.ownsRow.cellAt h i (by omega)]
    exact bytesV_at xs i hi
theorem OwnB.rowf (h : OwnB w B v xs) : ∃ ad cap, v = .slice ad xs.length cap ∧ RowA w ad xs ∧ ∀ b off, ad = some ⟨b, off, none⟩ → B ≤ b := by
  obtain ⟨ad, cap, rfl, hr⟩ := h.row
  refine ⟨ad, cap, rfl, hr, fun b off e => ?_⟩
  subst e
  exact (World.ownsRow.lt h b rfl).1
theorem OwnB.keep (h : OwnB w B v xs) (hk : ∀ g, v.ownBlock = some g → w'.heap[g]? = w.heap[g]?) : OwnB w' B v xs := by
  obtain ⟨h1, h2⟩ := h
  refine ⟨h1, ?_⟩
  rcases h2 with h2 | ⟨g, cap, cur, rfl, hbg, hg, r⟩
  · exact .inl h2
  · exact .inr ⟨g, cap, cur, rfl, hbg, (hk g rfl).trans hg, r⟩
theorem OwnB.lt (h : OwnB w B v xs) {g : Nat} (hg : v.ownBlock = some g) : B ≤ g ∧ g < w.heap.size := World.ownsRow.lt h g hg
theorem OwnB.below (h : OwnB w B v xs) (hb : Below w.heap.size w w') : OwnB w' B v xs := h.keep fun _ hg => hb.block _ (h.lt hg).2
theorem OwnB.grown {row : Option Nat} (h : OwnB w B v xs) (hb : w.grownBy w' row) (hne : ∀ g, v.ownBlock = some g → some g ≠ row) : OwnB w' B v xs :=
  h.keep fun _ hg => hb.block _ (h.lt hg).2 (hne _ hg)
theorem OwnB.alloc (h : OwnB w B v xs) (o : Obj) : OwnB (w.alloc o) B v xs := World.ownsRow.alloc h o
theorem OwnB.mono {B' : Nat} (h : OwnB w B v xs) (hB : B' ≤ B) : OwnB w B' v xs := by
  obtain ⟨h1, h2⟩ := h
  refine ⟨h1, ?_⟩
  rcases h2 with h2 | ⟨g, cap, cur, hv, hbg, r⟩
  · exact .inl h2
  · exact .inr ⟨g, cap, cur, hv, Nat.le_trans hB hbg, r⟩
theorem OwnB.drew (h : OwnB w B v xs) : OwnB w.drew B v xs := h
end
theorem info_u8 : ∃ i : TypeInfo, Try.prog.info? 5 = some i ∧ i.zero = some (.int .u8 0) ∧ i.size = 1 ∧ i.bytes = 1 := ⟨Try.t5, by kernel_rfl, by kernel_rfl, by kernel_rfl, by kernel_rfl⟩
theorem run_appB {w : World} {B : Nat} {v : Value} {xs : List Nat} (ty : TypeId) (hown : OwnB w B v xs) (ad : Option Addr) (m c : Nat) (ys : List Nat) (hr : RowA w ad ys) (hm : m = ys.length)
    (hb : xs.length + ys.length ≤ 140737488355328) (hB : B ≤ w.heap.size) :
    ∃ v' w', (Builtin.append_ #[38, 38] ty #[v, .slice ad m c]).run Try.prog w = .ok v' w' ∧ OwnB w' B v' (xs ++ ys) ∧ w.grownBy w' v.ownBlock ∧ (v'.ownBlock = v.ownBlock ∨ v'.ownBlock = some w.heap.size) := by
  subst hm
  obtain ⟨i0, hi, hi0, hi1, hi2⟩ := info_u8
  rcases Nat.eq_zero_or_pos ys.length with h0 | h0
  · obtain rfl : ys = [] := List.eq_nil_of_length_eq_zero h0
    refine ⟨v, w, ?_, by simpa using hown, World.grownBy.refl w _, .inl rfl⟩
    cases ad with
    | none =>
      rcases hown.2 with ⟨rfl, _⟩ | ⟨g, cap, cur, rfl, _, _, hnc, _⟩
      · simp [Builtin.append_, run_underlying Try.underlying38, sizeOf, typeInfo, hi, Builtin.lenOf, Builtin.firstCells]
      · simp [Builtin.append_, run_underlying Try.underlying38, sizeOf, typeInfo, hi, Builtin.lenOf, Builtin.firstCells, hnc, storeCells]
    | some a =>
      rcases hown.2 with ⟨rfl, _⟩ | ⟨g, cap, cur, rfl, _, _, hnc, _⟩
      · simp [Builtin.append_, run_underlying Try.underlying38, sizeOf, typeInfo, hi, Builtin.lenOf, Builtin.firstCells, loadCells, loadCellsFrom]
      · simp [Builtin.append_, run_underlying Try.underlying38, sizeOf, typeInfo, hi, Builtin.lenOf, Builtin.firstCells, hnc, storeCells, loadCells, loadCellsFrom]
  · obtain ⟨b, off, rfl, hb0, hc⟩ := hr h0
    have hnews : ∀ (j : Nat) (u : Value), (bytesV ys)[j]? = some u → w.cell? ((⟨b, off, none⟩ : Addr).add j) = some u := fun j u hj => by
      have hjl : j < ys.length := by
        rcases Nat.lt_or_ge j ys.length with h | h
        · exact h
        · rw [List.getElem?_eq_none (by rw [bytesV_length]; exact h)] at hj; cases hj
      have h1 := hc j hjl
      rw [bytesV_at ys j hjl] at hj
      have e := addr_plain b off j
      generalize (⟨b, off, none⟩ : Addr).add j = q at *
      subst e
      generalize Value.int IntKind.u8 (ys.getD j 0 : Nat) = z at *
      rw [h1, hj]
    obtain ⟨v', w', h1, h2, h3, _, h5⟩ := run_append_own_at (P := Try.prog) w B 38 ty 5 i0 (.int .u8 0) 1 1 Try.underlying38 hi hi0 hi1 hi2 rfl (by decide) v xs.length (bytesV xs) hown ⟨b, off, none⟩ ys.length c (bytesV ys)
      (by rw [bytesV_length, Nat.mul_one]) hnews (fun u hu => bytesV_one hu) (by unfold maxLen; omega) (by omega) hB
    refine ⟨v', w', h1, ?_, h3, h5⟩
    unfold OwnB
    rw [List.length_append, bytesV_append]
    exact h2
theorem wp_appB {w : World} {o : Oper} {a : Act} {K : Act → World → Prop} {Q : Exit → Act → World → Prop} (s x : Operand)
    (ho : o.op = .call { callee := .builtin .append, args := #[s, x], argTypes := #[38, 38] })
    (B : Nat) (v : Value) (xs : List Nat) (hs : a.eval s = v) (hown : OwnB w B v xs) (ad : Option Addr) (m c : Nat) (ys : List Nat) (hx : a.eval x = .slice ad m c) (hr : RowA w ad ys) (hm : m = ys.length)
    (hb : xs.length + ys.length ≤ 140737488355328) (hB : B ≤ w.heap.size)
    (h : ∀ v' w', OwnB w' B v' (xs ++ ys) → w.grownBy w' v.ownBlock → (v'.ownBlock = v.ownBlock ∨ v'.ownBlock = some w.heap.size) → K (a.put o.dst v') w') : o.wp Try.prog a w K Q := by
  obtain ⟨v', w', hrun, h2, h3, h4⟩ := run_appB o.type hown ad m c ys hr hm hb hB
  unfold Oper.wp execOp
  simp only [ho, resolve, invoke, builtin, Sem.run_bind, Sem.run_pure, Result.andThen_ok, List.map_toArray, List.map_cons, List.map_nil, hs, hx, hrun]
  exact h v' w' h2 h3 h4
theorem wpList_appB {w : World} {ops : Array Oper} {rest : List Oper} {o : Oper} {a : Act} {Q : Exit → Act → World → Prop} (hgd : o.guard = none) (s x : Operand)
    (ho : o.op = .call { callee := .builtin .append, args := #[s, x], argTypes := #[38, 38] })
    (B : Nat) (v : Value) (xs : List Nat) (hs : a.eval s = v) (hown : OwnB w B v xs) (ad : Option Addr) (m c : Nat) (ys : List Nat) (hx : a.eval x = .slice ad m c) (hr : RowA w ad ys) (hm : m = ys.length)
    (hb : xs.length + ys.length ≤ 140737488355328) (hB : B ≤ w.heap.size)
    (h : ∀ v' w', OwnB w' B v' (xs ++ ys) → w.grownBy w' v.ownBlock → (v'.ownBlock = v.ownBlock ∨ v'.ownBlock = some w.heap.size) → wpList Try.prog ops Q rest (a.put o.dst v') w') : wpList Try.prog ops Q (o :: rest) a w :=
  wpList_plain hgd fun _ hK => wp_appB s x ho B v xs hs hown ad m c ys hx hr hm hb hB fun v' w' h2 h3 h4 => hK _ _ (h v' w' h2 h3 h4)
theorem step_appB {w : World} {ops : Array Oper} {o : Oper} {a : Act} {K : Act → World → Prop} {Q : Exit → Act → World → Prop} {E : Prop} (hgd : o.guard = none) (s x : Operand)
    (ho : o.op = .call { callee := .builtin .append, args := #[s, x], argTypes := #[38, 38] })
    (B : Nat) (v : Value) (xs : List Nat) (hs : a.eval s = v) (hown : OwnB w B v xs) (ad : Option Addr) (m c : Nat) (ys : List Nat) (hx : a.eval x = .slice ad m c) (hr : RowA w ad ys) (hm : m = ys.length)
    (hb : xs.length + ys.length ≤ 140737488355328) (hB : B ≤ w.heap.size)
    (h : ∀ v' w', OwnB w' B v' (xs ++ ys) → w.grownBy w' v.ownBlock → (v'.ownBlock = v.ownBlock ∨ v'.ownBlock = some w.heap.size) → K (a.put o.dst v') w') :
    if Region.wanted o (yielded ops a.tmps) = true then Oper.wp Try.prog o a w K Q else E := by
  have hw : Region.wanted o (yielded ops a.tmps) = true := by simp [Region.wanted, hgd]
  rw [if_pos hw]
  exact wp_appB s x ho B v xs hs hown ad m c ys hx hr hm hb hB h
theorem OwnB.far {w : World} {B : Nat} {v : Value} {xs : List Nat} (h : OwnB w B v xs) {p : Addr} (hne : ∀ g, v.ownBlock = some g → g ≠ p.block) (u : Value) : OwnB (w.setCell p u) B v xs := h.keep fun g hg => Below.heap_setCell _ _ _ _ (hne g hg)
theorem wpList_makeB {w : World} {ops : Array Oper} {rest : List Oper} {o : Oper} {a : Act} {Q : Exit → Act → World → Prop} (hg : o.guard = none) (l c : Operand) (hop : o.op = Op.makeSlice 38 l c)
    (B : Nat) (L C : Int) (n : Nat) (hl : a.eval l = .int .i64 L) (hc : a.eval c = .int .i64 C) (hL : L = (n : Int)) (hC : C = (n : Int)) (hn : n ≤ 140737488355328) (hB : B ≤ w.heap.size)
    (hK : ∀ w', OwnB w' B (.slice (some ⟨w.heap.size, 0, none⟩) n n) (List.replicate n 0) → w.grownBy w' none → w.heap.size < w'.heap.size → wpList Try.prog ops Q rest (a.put o.dst (.slice (some ⟨w.heap.size, 0, none⟩) n n)) w') :
    wpList Try.prog ops Q (o :: rest) a w := by
  obtain ⟨i0, hi, hi0, hi1, hi2⟩ := info_u8
  refine wpList_make_full w hg l c 38 hop B 5 i0 (.int .u8 0) 1 Try.underlying38 hi hi0 hi1 .i64 .i64 L C n hl hc hL hC (by rw [hi2]; omega) (by unfold maxLen; omega) hB fun w' h1 h2 => hK w' ?_ h2 (h1.lt w.heap.size rfl).2
  have e : (madeCells (Value.int .u8 0).cells (n * 1)).toList = bytesV (List.replicate n 0) := by
    apply List.ext_getElem?
    intro i
    simp only [madeCells, bytesV, Value.cells, Nat.mul_one, List.getElem?_map, List.getElem?_replicate]
    rcases Nat.lt_or_ge i n with h | h
    · simp [h, Nat.mod_one]
    · simp [h]
  unfold OwnB
  rw [List.length_replicate, ← e]
  exact h1
theorem wpList_make0 {w : World} {ops : Array Oper} {rest : List Oper} {o : Oper} {a : Act} {Q : Exit → Act → World → Prop} (hg : o.guard = none) (l c : Operand) (hop : o.op = Op.makeSlice 38 l c)
    (B : Nat) (C : Int) (n : Nat) (hl : a.eval l = .int .i64 0) (hc : a.eval c = .int .i64 C) (hC : C = (n : Int)) (hn : n ≤ 140737488355328) (hB : B ≤ w.heap.size)
    (hK : ∀ w', OwnB w' B (.slice (some ⟨w.heap.size, 0, none⟩) 0 n) [] → w.grownBy w' none → w.heap.size < w'.heap.size → wpList Try.prog ops Q rest (a.put o.dst (.slice (some ⟨w.heap.size, 0, none⟩) 0 n)) w') :
    wpList Try.prog ops Q (o :: rest) a w := by
  obtain ⟨i0, hi, hi0, hi1, hi2⟩ := info_u8
  exact wpList_make_own w hg l c 38 hop B 5 i0 (.int .u8 0) 1 Try.underlying38 hi hi0 hi1 .i64 .i64 C n hl hc hC (by rw [hi2]; omega) (by unfold maxLen; omega) hB fun w' h1 h2 => hK w' h1 h2 (h1.lt w.heap.size rfl).2
theorem OwnB.set {w : World} {B g cap : Nat} {n : Nat} {xs : List Nat} (h : OwnB w B (.slice (some ⟨g, 0, none⟩) n cap) xs) (hn : n = xs.length) (j y : Nat) :
    OwnB (w.setCell ⟨g, j, none⟩ (.int .u8 (y : Nat))) B (.slice (some ⟨g, 0, none⟩) n cap) (xs.set j y) ∧ w.grownBy (w.setCell ⟨g, j, none⟩ (.int .u8 (y : Nat))) (some g) := by
  subst hn
  obtain ⟨h1, h2⟩ := World.ownsRow.stored h j (.int .u8 (y : Nat))
  rw [bytesV_set] at h1
  refine ⟨?_, h2⟩
  unfold OwnB
  rw [List.length_set]
  exact h1
theorem OwnB.cell {w : World} {B g cap : Nat} {n : Nat} {xs : List Nat} (h : OwnB w B (.slice (some ⟨g, 0, none⟩) n cap) xs) (hn : n = xs.length) {j : Nat} (hj : j < n) : w.cell? ⟨g, j, none⟩ = some (.int .u8 (xs.getD j 0 : Nat)) := by
  subst hn
  rw [World.ownsRow.cellAt h j (by omega)]
  exact bytesV_at xs j hj
theorem OwnB.frz {w : World} {B g cap : Nat} {n : Nat} {xs : List Nat} (h : OwnB w B (.slice (some ⟨g, 0, none⟩) n cap) xs) (hn : n = xs.length) (j : Nat) : w.frozen? ⟨g, j, none⟩ = false := by
  subst hn
  exact World.ownsRow.frozenAt h j
/-- a row of n bytes of which the first k have been filled -/
def fillK (f : Nat → Nat) (n k : Nat) : List Nat := (List.range k).map f ++ List.replicate (n - k) 0
theorem fillK_length {f : Nat → Nat} {n k : Nat} (hk : k ≤ n) : (fillK f n k).length = n := by simp [fillK]; omega
theorem fillK_zero (f : Nat → Nat) (n : Nat) : fillK f n 0 = List.replicate n 0 := by simp [fillK]
theorem fillK_full (f : Nat → Nat) (n : Nat) : fillK f n n = (List.range n).map f := by simp [fillK]
theorem fillK_set {f : Nat → Nat} {n k : Nat} (hk : k < n) : (fillK f n k).set k (f k) = fillK f n (k + 1) := by
  unfold fillK
  have e : n - k = (n - (k + 1)) + 1 := by omega
  have hl : ((List.range k).map f).length = k := by simp
  rw [List.set_append_right _ _ (by rw [hl]; exact Nat.le_refl _), hl, Nat.sub_self, e, List.replicate_succ, List.set_cons_zero, List.range_succ, List.map_append, List.append_assoc]
  rfl
theorem fill_at (f : Nat → Nat) {n i : Nat} (h : i < n) : ((List.range n).map f).getD i 0 = f i := by simp [List.getD, h]
theorem fill_far (f : Nat → Nat) {n i : Nat} (h : n ≤ i) : ((List.range n).map f).getD i 0 = 0 := by simp [List.getD, h]
theorem xorU8 {a b : Nat} (ha : a ≤ 255) (hb : b ≤ 255) : bits .xor .u8 (a : Int) (b : Int) = ((a ^^^ b : Nat) : Int) := u8_xor_nat a b (by omega) (by omega)
theorem grownBy_set {w u : World} {row : Option Nat} (h : w.grownBy u row) (p : Addr) (v : Value) (hp : row = some p.block ∨ w.heap.size ≤ p.block) : w.grownBy (u.setCell p v) row := by
  refine ⟨h.os, h.tape, h.output, by simpa using h.size, fun k hk hne => ?_⟩
  rw [Below.heap_setCell u p v k (fun e => by
    rcases hp with hp | hp
    · exact hne (by rw [hp, e])
    · omega)]
  exact h.block k hk hne
theorem grownBy_al {w u : World} {row : Option Nat} (h : w.grownBy u row) (o : Obj) : w.grownBy (u.alloc o) row :=
  ⟨h.os, h.tape, h.output, Nat.le_trans h.size (by simp), fun k hk hne => (Below.heap_alloc u o k (Nat.lt_of_lt_of_le hk h.size)).trans (h.block k hk hne)⟩
theorem grownBy_dr {w u : World} {row : Option Nat} (h : w.grownBy u row) (n : Nat) : w.grownBy (u.drewN n) row := ⟨h.os, h.tape, h.output, h.size, h.block⟩
theorem grownBy_d1 {w u : World} {row : Option Nat} (h : w.grownBy u row) : w.grownBy u.drew row := ⟨h.os, h.tape, h.output, h.size, h.block⟩
theorem grownBy_below {w u v : World} {row : Option Nat} (h : w.grownBy u row) (hb : Below u.heap.size u v) : w.grownBy v row :=
  ⟨hb.os.trans h.os, hb.tape.trans h.tape, hb.output.trans h.output, Nat.le_trans h.size hb.size, fun k hk hne => (hb.block k (Nat.lt_of_lt_of_le hk h.size)).trans (h.block k hk hne)⟩
theorem grownBy_of {w v : World} {row : Option Nat} (hb : Below w.heap.size w v) : w.grownBy v row := grownBy_below (World.grownBy.refl w row) hb
theorem below_drewNL {B : Nat} {w w' : World} {n : Nat} (h : Below B (w.drewN n) w') : Below B w w' := ⟨h.os, h.tape, h.output, h.size, h.block⟩
theorem bk {W w1 : World} {B : Nat} (hb : Below B W w1) (b : Nat) (h : b < B) : ∀ o, w1.cell? ⟨b, o, none⟩ = W.cell? ⟨b, o, none⟩ := fun o => hb.cell (p := ⟨b, o, none⟩) h
end Go.Proofs.Ytpmnbdkncmjafaa
