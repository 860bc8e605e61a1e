/- Rows of ints of a call's own. -/
import Derived.Test.YtlbfndibgojbiaaRows
import Derived.Test.YtlbfndibgojbiaaMB
import Derived.Maps.AppendAt
namespace Go.Proofs.Ytlbfndibgojbiaa
open Go.RowKit

def intsV (ys : List Int) : List Value := ys.map fun (y : Int) => Value.int .i64 y
theorem intsV_length (xs : List Int) : (intsV xs).length = xs.length := by simp [intsV]
theorem intsV_at (xs : List Int) (i : Nat) (h : i < xs.length) : (intsV xs)[i]? = some (.int .i64 (xs.getD i 0)) := by
  simp [intsV, List.getD, h]
/-- v is a row of ints of the call's own, from block B on, that reads as xs -/
def OwnI (w : World) (B : Nat) (v : Value) (xs : List Int) : Prop := w.ownsRow B 3 1 v xs.length (intsV xs)
section
variable {w w' : World} {B : Nat} {v : Value} {xs : List Int}
theorem OwnI.nil (w : World) (B : Nat) : OwnI w B (.slice none 0 0) [] := World.ownsRow_nil _ _ _ _
theorem OwnI.lt (h : OwnI w B v xs) {g : Nat} (hg : v.ownBlock = some g) : B ≤ g ∧ g < w.heap.size := World.ownsRow.lt h g hg
theorem OwnI.keep (h : OwnI w B v xs) (hk : ∀ g, v.ownBlock = some g → w'.heap[g]? = w.heap[g]?) : OwnI w' B v xs := by
  obtain ⟨h1, h2⟩ := h
  refine ⟨h1, ?_⟩
  rcases h2 with h2 | ⟨g, cap, cur, rfl, hbg, hg, r⟩
  · exact .inl h2
  · exact .inr ⟨g, cap, cur, rfl, hbg, (hk g rfl).trans hg, r⟩
theorem OwnI.below (h : OwnI w B v xs) (hb : Below w.heap.size w w') : OwnI w' B v xs := h.keep fun _ hg => hb.block _ (h.lt hg).2
theorem OwnI.grown {row : Option Nat} (h : OwnI w B v xs) (hb : w.grownBy w' row) (hne : ∀ g, v.ownBlock = some g → some g ≠ row) : OwnI w' B v xs :=
  h.keep fun _ hg => hb.block _ (h.lt hg).2 (hne _ hg)
theorem OwnI.alloc (h : OwnI w B v xs) (o : Obj) : OwnI (w.alloc o) B v xs := World.ownsRow.alloc h o
theorem OwnI.drew (h : OwnI w B v xs) : OwnI w.drew B v xs := h
theorem OwnI.form (h : OwnI w B v xs) : (v = .slice none 0 0 ∧ xs = []) ∨ ∃ g cap, v = .slice (some ⟨g, 0, none⟩) xs.length cap ∧ B ≤ g ∧ g < w.heap.size ∧ xs.length ≤ cap ∧ cap ≤ maxLen := by
  rcases h.2 with ⟨h1, h2⟩ | ⟨g, cap, cur, h1, h2, h3, h4, h5, _⟩
  · exact .inl ⟨h1, List.eq_nil_of_length_eq_zero h2⟩
  · exact .inr ⟨g, cap, h1, h2, (Array.getElem?_eq_some_iff.1 h3).1, h4, h5⟩
/-- what a slice of ints reads as -/
def RowI (w : World) (ad : Option Addr) (xs : List Int) : Prop :=
  0 < xs.length → ∃ b off, ad = some ⟨b, off, none⟩ ∧ b < w.heap.size ∧ ∀ i, i < xs.length → w.cell? ⟨b, off + i, none⟩ = some (.int .i64 (xs.getD i 0))
theorem OwnI.rowg (h : OwnI w B v xs) : ∃ ad cap, v = .slice ad xs.length cap ∧ RowI w ad xs ∧ ∀ b off, ad = some ⟨b, off, none⟩ → B ≤ b ∧ b < w.heap.size := by
  rcases h.form with ⟨h1, h2⟩ | ⟨g, cap, rfl, hB, hg, _⟩
  · subst h2; exact ⟨none, 0, h1, fun h => by simp at h, fun _ _ e => by cases e⟩
  · refine ⟨_, cap, rfl, fun h0 => ⟨g, 0, rfl, hg, fun i hi => ?_⟩, fun b off e => ?_⟩
    · rw [Nat.zero_add, World.ownsRow.cellAt h i (by omega)]
      exact intsV_at xs i hi
    · simp only [Option.some.injEq, Addr.mk.injEq, and_true] at e
      rw [← e.1]; exact ⟨hB, hg⟩
theorem RowI.keep {ad : Option Addr} (h : RowI w ad xs) (hs : w.heap.size ≤ w'.heap.size) (hk : ∀ b off, ad = some ⟨b, off, none⟩ → b < w.heap.size → w'.heap[b]? = w.heap[b]?) : RowI w' ad xs := fun h0 => by
  obtain ⟨b, off, rfl, hb, hc⟩ := h h0
  exact ⟨b, off, rfl, Nat.lt_of_lt_of_le hb hs, fun i hi => (World.cell?_of_block (a := ⟨b, off + i, none⟩) (hk b off rfl hb)).trans (hc i hi)⟩
theorem RowI.below {ad : Option Addr} (h : RowI w ad xs) (hb : Below w.heap.size w w') : RowI w' ad xs := h.keep hb.size fun b _ _ hlt => hb.block b hlt
theorem RowI.at_ {ad : Option Addr} (h : RowI w ad xs) {i : Nat} (hi : i < xs.length) : ∃ b off, ad = some ⟨b, off, none⟩ ∧ b < w.heap.size ∧ w.cell? ⟨b, off + i, none⟩ = some (.int .i64 (xs.getD i 0)) := by
  obtain ⟨b, off, e, hb, hc⟩ := h (by omega)
  exact ⟨b, off, e, hb, hc i hi⟩
end
theorem info_int : ∃ i : TypeInfo, Try.prog.info? 3 = some i ∧ i.zero = some (.int .i64 0) ∧ i.size = 1 ∧ i.bytes = 8 := ⟨Try.t3, by kernel_rfl, by kernel_rfl, by kernel_rfl, by kernel_rfl⟩
/-- one int more -/
theorem run_appI {w : World} {B : Nat} {v : Value} {xs : List Int} (ty : TypeId) (hown : OwnI w B v xs) (b c : Nat) (y : Int) (hr : w.cell? ⟨b, 0, none⟩ = some (.int .i64 y)) (hb : xs.length ≤ 5864062014805) (hB : B ≤ w.heap.size) :
    ∃ v' w', (Builtin.append_ #[118, 118] ty #[v, .slice (some ⟨b, 0, none⟩) 1 c]).run Try.prog w = .ok v' w' ∧ OwnI w' B v' (xs ++ [y]) ∧ w.grownBy w' v.ownBlock ∧ (v'.ownBlock = v.ownBlock ∨ v'.ownBlock = some w.heap.size) := by
  obtain ⟨i0, hi, hi0, hi1, hi2⟩ := info_int
  obtain ⟨v', w', g1, g2, g3, _, g5⟩ := run_append_own_at (P := Try.prog) w B 118 ty 3 i0 (.int .i64 0) 1 8 Try.underlying118 hi hi0 hi1 hi2 rfl (by decide) v xs.length (intsV xs) hown ⟨b, 0, none⟩ 1 c [.int .i64 y]
    rfl (fun j u hj => by
      have : j = 0 := by
        rcases Nat.eq_zero_or_pos j with h | h
        · exact h
        · rw [List.getElem?_eq_none (by simp; omega)] at hj; cases hj
      subst this
      simp at hj
      subst hj
      rw [addr_plain]; exact hr) (fun u hu => by simp at hu; subst hu; rfl) (by unfold maxLen; omega) (by omega) hB
  refine ⟨v', w', g1, ?_, g3, g5⟩
  unfold OwnI
  rw [List.length_append, intsV, List.map_append]
  exact g2
theorem wpList_appI {w : World} {ops : Array Oper} {rest : List Oper} {o : Oper} {a : Act} {Q : Exit → Act → World → Prop} (hgd : o.guard = none) (s x : Operand)
    (ho : o.op = .call { callee := .builtin .append, args := #[s, x], argTypes := #[118, 118] })
    (B : Nat) (v : Value) (xs : List Int) (hs : a.eval s = v) (hown : OwnI w B v xs) (b c : Nat) (y : Int) (hx : a.eval x = .slice (some ⟨b, 0, none⟩) 1 c) (hr : w.cell? ⟨b, 0, none⟩ = some (.int .i64 y)) (hb : xs.length ≤ 5864062014805) (hB : B ≤ w.heap.size)
    (h : ∀ v' w', OwnI w' B v' (xs ++ [y]) → w.grownBy w' v.ownBlock → (v'.ownBlock = v.ownBlock ∨ v'.ownBlock = some w.heap.size) → wpList Try.prog ops Q rest (a.put o.dst v') w') :
    wpList Try.prog ops Q (o :: rest) a w := by
  obtain ⟨v', w', hrun, h2, h3, h4⟩ := run_appI o.type hown b c y hr hb hB
  refine wpList_plain hgd fun _ hK => ?_
  unfold Oper.wp execOp
  simp only [ho, resolve, invoke, builtin, Sem.run_bind, Sem.run_pure, Result.andThen_ok, List.map_toArray, List.map_cons, List.map_nil, hs, hx, hrun]
  exact hK _ _ (h v' w' h2 h3 h4)
end Go.Proofs.Ytlbfndibgojbiaa
