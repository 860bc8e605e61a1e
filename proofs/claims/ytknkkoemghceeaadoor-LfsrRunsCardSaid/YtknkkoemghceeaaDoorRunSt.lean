/- Lists of pointers to runners; the state of the law LfsrRuns. -/
import Derived.Test.YtknkkoemghceeaaDoorRows
import Derived.Test.YtknkkoemghceeaaDoorR4Run
import Derived.Test.YtknkkoemghceeaaDoorLfRun
import Derived.Test.YtknkkoemghceeaaDoorLfLive
import Derived.Maps.AppendAt
namespace Go.Proofs.YtknkkoemghceeaaDoor
open Go.RowKit

/-- a list of one-cell values that is owned -/
def OwnP (t : TypeId) (w : World) (B : Nat) (v : Value) (rs : List Value) : Prop := w.ownsRow B t 1 v rs.length rs
section
variable {t : TypeId} {w w' : World} {B : Nat} {v : Value} {rs : List Value}
theorem OwnP.nil (t : TypeId) (w : World) (B : Nat) : OwnP t w B (.slice none 0 0) [] := World.ownsRow_nil _ _ _ _
theorem OwnP.lt (h : OwnP t w B v rs) {g : Nat} (hg : v.ownBlock = some g) : B ≤ g ∧ g < w.heap.size := World.ownsRow.lt h g hg
theorem OwnP.keep (h : OwnP t w B v rs) (hk : ∀ g, v.ownBlock = some g → w'.heap[g]? = w.heap[g]?) : OwnP t w' B v rs := by
  obtain ⟨h1, h2⟩ := h
  refine ⟨h1, ?_⟩
  rcases h2 with h2 | ⟨g, cap, cur, rfl, hbg, hg, r⟩
  · exact .inl h2
  · exact .inr ⟨g, cap, cur, rfl, hbg, (hk g rfl).trans hg, r⟩
theorem OwnP.form (h : OwnP t w B v rs) (h0 : 0 < rs.length) : ∃ g cap, v = .slice (some ⟨g, 0, none⟩) rs.length cap ∧ rs.length ≤ cap ∧ ∀ j u, rs[j]? = some u → w.cell? ⟨g, j, none⟩ = some u := by
  have hc := fun g (hg : v.ownBlock = some g) => World.ownsRow.cells h (g := g) hg
  rcases h.2 with ⟨_, h2⟩ | ⟨g, cap, cur, rfl, _, _, h4, _⟩
  · rw [h2] at h0; exact absurd h0 (by decide)
  · refine ⟨g, cap, rfl, h4, fun j u hj => ?_⟩
    have := hc g rfl j u hj
    rwa [addr_plain, Nat.zero_add] at this
theorem OwnP.none_of (h : OwnP t w B v rs) (h0 : rs.length = 0) : ∃ a c, v = .slice a 0 c := by
  rcases h.2 with ⟨h1, _⟩ | ⟨g, cap, cur, rfl, _⟩
  · exact ⟨_, _, h1⟩
  · exact ⟨_, _, by rw [h0]⟩
end
theorem run_appP {lt et : TypeId} (hu : Tryd.prog.underlying lt = some (.slice et)) (hinf : ∃ i : TypeInfo, Tryd.prog.info? et = some i ∧ i.zero = some (.pointer none) ∧ i.size = 1 ∧ i.bytes = 8)
    {w : World} {B : Nat} {v : Value} {rs : List Value} (ty : TypeId) (hown : OwnP et w B v rs) (b c : Nat) (r : Value) (hr : w.cell? ⟨b, 0, none⟩ = some r) (h1 : r.oneCell' = true) (hb : rs.length ≤ 5864062014805) (hB : B ≤ w.heap.size) :
    ∃ v' w', (Builtin.append_ #[lt, lt] ty #[v, .slice (some ⟨b, 0, none⟩) 1 c]).run Tryd.prog w = .ok v' w' ∧ OwnP et w' B v' (rs ++ [r]) ∧ w.grownBy w' v.ownBlock ∧ (v'.ownBlock = v.ownBlock ∨ v'.ownBlock = some w.heap.size) := by
  obtain ⟨i0, hi, hi0, hi1, hi2⟩ := hinf
  obtain ⟨v', w', g1, g2, g3, _, g5⟩ := run_append_own_at (P := Tryd.prog) w B lt ty et i0 (.pointer none) 1 8 hu hi hi0 hi1 hi2 rfl (by decide) v rs.length rs hown ⟨b, 0, none⟩ 1 c [r]
    rfl (fun j u hj => by
      have : j = 0 := by
        rcases Nat.eq_zero_or_pos j with h | h
        · exact h
        · rw [List.getElem?_eq_none (by simp; omega)] at hj; cases hj
      subst this
      simp at hj
      subst hj
      rw [addr_plain]; exact hr) (fun u hu => by simp at hu; subst hu; exact h1) (by unfold maxLen; omega) (by omega) hB
  refine ⟨v', w', g1, ?_, g3, g5⟩
  unfold OwnP
  rw [List.length_append]
  exact g2
theorem wpList_appP {lt et : TypeId} (hu : Tryd.prog.underlying lt = some (.slice et)) (hinf : ∃ i : TypeInfo, Tryd.prog.info? et = some i ∧ i.zero = some (.pointer none) ∧ i.size = 1 ∧ i.bytes = 8)
    {w : World} {ops : Array Oper} {rest : List Oper} {o : Oper} {a : Act} {Q : Exit → Act → World → Prop} (hgd : o.guard = none) (s x : Operand)
    (ho : o.op = .call { callee := .builtin .append, args := #[s, x], argTypes := #[lt, lt] })
    (B : Nat) (v : Value) (rs : List Value) (hs : a.eval s = v) (hown : OwnP et w B v rs) (b c : Nat) (r : Value) (hx : a.eval x = .slice (some ⟨b, 0, none⟩) 1 c) (hr : w.cell? ⟨b, 0, none⟩ = some r) (h1 : r.oneCell' = true) (hb : rs.length ≤ 5864062014805) (hB : B ≤ w.heap.size)
    (h : ∀ v' w', OwnP et w' B v' (rs ++ [r]) → w.grownBy w' v.ownBlock → (v'.ownBlock = v.ownBlock ∨ v'.ownBlock = some w.heap.size) → wpList Tryd.prog ops Q rest (a.put o.dst v') w') :
    wpList Tryd.prog ops Q (o :: rest) a w := by
  obtain ⟨v', w', hrun, h2, h3, h4⟩ := run_appP hu hinf o.type hown b c r hr h1 hb hB
  refine wpList_plain hgd fun _ hK => ?_
  unfold Oper.wp execOp
  simp only [ho, resolve, invoke, builtin, Sem.run_bind, Sem.run_pure, Result.andThen_ok, List.map_toArray, List.map_cons, List.map_nil, hs, hx, hrun]
  exact hK _ _ (h v' w' h2 h3 h4)
theorem inf_a : ∃ i : TypeInfo, Tryd.prog.info? 51 = some i ∧ i.zero = some (.pointer none) ∧ i.size = 1 ∧ i.bytes = 8 := ⟨Tryd.t51, by kernel_rfl, by kernel_rfl, by kernel_rfl, by kernel_rfl⟩
theorem inf_b : ∃ i : TypeInfo, Tryd.prog.info? 60 = some i ∧ i.zero = some (.pointer none) ∧ i.size = 1 ∧ i.bytes = 8 := ⟨Tryd.t60, by kernel_rfl, by kernel_rfl, by kernel_rfl, by kernel_rfl⟩
/-- a list of pointers -/
def ptrs (G : Nat → Nat) (m : Nat) : List Value := (List.range m).map fun i => .pointer (some ⟨G i, 0, none⟩)
theorem ptrs_length (G : Nat → Nat) (m : Nat) : (ptrs G m).length = m := by simp [ptrs]
theorem ptrs_at {G : Nat → Nat} {m i : Nat} (h : i < m) : (ptrs G m)[i]? = some (.pointer (some ⟨G i, 0, none⟩)) := by simp [ptrs, h]
def updF (f : Nat → Nat) (i x : Nat) (j : Nat) : Nat := if j = i then x else f j
theorem ptrs_push (G : Nat → Nat) (m g : Nat) : ptrs (updF G m g) (m + 1) = ptrs G m ++ [.pointer (some ⟨g, 0, none⟩)] := by
  unfold ptrs
  rw [List.range_succ, List.map_append]
  congr 1
  · refine List.map_congr_left fun j hj => ?_
    have := List.mem_range.1 hj
    unfold updF; rw [if_neg (by omega)]
  · simp [updF]
/-- the runners of both, and where they stand; every block has a number of its own -/
structure RunSt (w u : World) (va vb : Value) (m : Nat) (G F N T Sa Sb : Nat → Nat) (lab : Nat → Nat) : Prop where
  la : OwnP 51 u w.heap.size va (ptrs G m)
  lb : OwnP 60 u w.heap.size vb (ptrs F m)
  ra : ∀ i, i < m → RegL u (G i) (N i) (T i) (Sa i)
  rb : ∀ i, i < m → RegL u (F i) (N i) (T i) (Sb i)
  ga : ∀ i, i < m → GoodL (N i) (T i) (Sa i)
  gb : ∀ i, i < m → GoodL (N i) (T i) (Sb i)
  lg : ∀ i, i < m → lab (G i) = 2 * i + 2 ∧ lab (F i) = 2 * i + 3
  lva : ∀ g, va.ownBlock = some g → lab g = 0
  lvb : ∀ g, vb.ownBlock = some g → lab g = 1
  ge : ∀ i, i < m → w.heap.size ≤ G i ∧ w.heap.size ≤ F i
  below : Below w.heap.size w u
section
variable {w u u' : World} {va vb : Value} {m : Nat} {G F N T Sa Sb lab : Nat → Nat}
theorem RunSt.next (h : RunSt w u va vb m G F N T Sa Sb lab) (hb : Below u.heap.size u u') : RunSt w u' va vb m G F N T Sa Sb lab :=
  ⟨h.la.keep fun g e => hb.block g (h.la.lt e).2, h.lb.keep fun g e => hb.block g (h.lb.lt e).2, fun i hi => (h.ra i hi).below hb (h.ra i hi).lt, fun i hi => (h.rb i hi).below hb (h.rb i hi).lt, h.ga, h.gb, h.lg, h.lva, h.lvb, h.ge, below_then h.below hb⟩
theorem RunSt.stepA (h : RunSt w u va vb m G F N T Sa Sb lab) {k s : Nat} (hk : k < m) (hr : RegL u' (G k) (N k) (T k) s) (hg : u.grownBy u' (some (G k))) (hgd : GoodL (N k) (T k) s) : RunSt w u' va vb m G F N T (updF Sa k s) Sb lab := by
  have hl := h.lg k hk
  refine ⟨h.la.keep fun g e => hg.block g (h.la.lt e).2 (fun e2 => ?_), h.lb.keep fun g e => hg.block g (h.lb.lt e).2 (fun e2 => ?_), fun i hi => ?_, fun i hi => (h.rb i hi).grown hg (fun e2 => ?_), fun i hi => ?_, h.gb, h.lg, h.lva, h.lvb, h.ge, ?_⟩
  · have := h.lva g e; have := Option.some.inj e2; subst this; omega
  · have := h.lvb g e; have := Option.some.inj e2; subst this; omega
  · unfold updF
    by_cases e : i = k
    · subst e; rw [if_pos rfl]; exact hr
    · rw [if_neg e]
      refine (h.ra i hi).grown hg (fun e2 => ?_)
      have e3 := Option.some.inj e2
      have := (h.lg i hi).1; rw [e3] at this; omega
  · have e3 := Option.some.inj e2
    have := (h.lg i hi).2; rw [e3] at this; omega
  · unfold updF
    by_cases e : i = k
    · subst e; rw [if_pos rfl]; exact hgd
    · rw [if_neg e]; exact h.ga i hi
  · exact h.below.grown hg h.below.size (fun g e => by have := Option.some.inj e; have := (h.ge k hk).1; omega)
theorem RunSt.stepB (h : RunSt w u va vb m G F N T Sa Sb lab) {k s : Nat} (hk : k < m) (hr : RegL u' (F k) (N k) (T k) s) (hg : u.grownBy u' (some (F k))) (hgd : GoodL (N k) (T k) s) : RunSt w u' va vb m G F N T Sa (updF Sb k s) lab := by
  have hl := h.lg k hk
  refine ⟨h.la.keep fun g e => hg.block g (h.la.lt e).2 (fun e2 => ?_), h.lb.keep fun g e => hg.block g (h.lb.lt e).2 (fun e2 => ?_), fun i hi => (h.ra i hi).grown hg (fun e2 => ?_), fun i hi => ?_, h.ga, fun i hi => ?_, h.lg, h.lva, h.lvb, h.ge, ?_⟩
  · have := h.lva g e; have := Option.some.inj e2; subst this; omega
  · have := h.lvb g e; have := Option.some.inj e2; subst this; omega
  · have e3 := Option.some.inj e2
    have := (h.lg i hi).1; rw [e3] at this; omega
  · unfold updF
    by_cases e : i = k
    · subst e; rw [if_pos rfl]; exact hr
    · rw [if_neg e]
      refine (h.rb i hi).grown hg (fun e2 => ?_)
      have e3 := Option.some.inj e2
      have := (h.lg i hi).2; rw [e3] at this; omega
  · unfold updF
    by_cases e : i = k
    · subst e; rw [if_pos rfl]; exact hgd
    · rw [if_neg e]; exact h.gb i hi
  · exact h.below.grown hg h.below.size (fun g e => by have := Option.some.inj e; have := (h.ge k hk).2; omega)
end
end Go.Proofs.YtknkkoemghceeaaDoor
