/- outpostlaw04.apart on rows that lie apart, walked: it returns true. -/
import Derived.Test.YtknkkoemghceeaaDoorRows
import Derived.Test.YtknkkoemghceeaaDoorApS
import Derived.Maps.AppendAt
namespace Go.Proofs.YtknkkoemghceeaaDoor
open Go.RowKit

/-- a list of rows that is owned -/
def OwnR (w : World) (B : Nat) (v : Value) (rs : List Value) : Prop := w.ownsRow B 25 1 v rs.length rs
theorem OwnR.nil (w : World) (B : Nat) : OwnR w B (.slice none 0 0) [] := World.ownsRow_nil _ _ _ _
theorem OwnR.lt {w : World} {B : Nat} {v : Value} {rs : List Value} (h : OwnR w B v rs) {g : Nat} (hg : v.ownBlock = some g) : B ≤ g ∧ g < w.heap.size := World.ownsRow.lt h g hg
theorem OwnR.keep {w w' : World} {B : Nat} {v : Value} {rs : List Value} (h : OwnR w B v rs) (hk : ∀ g, v.ownBlock = some g → w'.heap[g]? = w.heap[g]?) : OwnR w' B v rs := by
  obtain ⟨h1, h2⟩ := h
  refine ⟨h1, ?_⟩
  rcases h2 with h2 | ⟨g, cap, cur, rfl, hbg, hg, r⟩
  · exact .inl h2
  · exact .inr ⟨g, cap, cur, rfl, hbg, (hk g rfl).trans hg, r⟩
theorem OwnR.form {w : World} {B : Nat} {v : Value} {rs : List Value} (h : OwnR w B v rs) (h0 : 0 < rs.length) : ∃ g cap, v = .slice (some ⟨g, 0, none⟩) rs.length cap ∧ rs.length ≤ cap ∧ ∀ j u, rs[j]? = some u → w.cell? ⟨g, j, none⟩ = some u := by
  have hc := fun g (hg : v.ownBlock = some g) => World.ownsRow.cells h (g := g) hg
  rcases h.2 with ⟨_, h2⟩ | ⟨g, cap, cur, rfl, _, _, h4, _⟩
  · rw [h2] at h0; exact absurd h0 (by decide)
  · refine ⟨g, cap, rfl, h4, fun j u hj => ?_⟩
    have := hc g rfl j u hj
    rwa [addr_plain, Nat.zero_add] at this
theorem info_row : ∃ i : TypeInfo, Tryd.prog.info? 25 = some i ∧ i.zero = some (.slice none 0 0) ∧ i.size = 1 ∧ i.bytes = 24 := ⟨Tryd.t25, by kernel_rfl, by kernel_rfl, by kernel_rfl, by kernel_rfl⟩
theorem run_appR {w : World} {B : Nat} {v : Value} {rs : List Value} (ty : TypeId) (hown : OwnR w B v rs) (b c : Nat) (r : Value) (hr : w.cell? ⟨b, 0, none⟩ = some r) (h1 : r.oneCell' = true) (hb : rs.length ≤ 1000) (hB : B ≤ w.heap.size) :
    ∃ v' w', (Builtin.append_ #[38, 38] ty #[v, .slice (some ⟨b, 0, none⟩) 1 c]).run Tryd.prog w = .ok v' w' ∧ OwnR w' B v' (rs ++ [r]) ∧ w.grownBy w' v.ownBlock ∧ (v'.ownBlock = v.ownBlock ∨ v'.ownBlock = some w.heap.size) := by
  obtain ⟨i0, hi, hi0, hi1, hi2⟩ := info_row
  obtain ⟨v', w', g1, g2, g3, _, g5⟩ := run_append_own_at (P := Tryd.prog) w B 38 ty 25 i0 (.slice none 0 0) 1 24 Tryd.underlying38 hi hi0 hi1 hi2 rfl (by decide) v rs.length rs hown ⟨b, 0, none⟩ 1 c [r]
    rfl (fun j u hj => by
      have : j = 0 := by
        rcases Nat.eq_zero_or_pos j with h | h
        · exact h
        · rw [List.getElem?_eq_none (by simp; omega)] at hj; cases hj
      subst this
      simp at hj
      subst hj
      rw [addr_plain]; exact hr) (fun u hu => by simp at hu; subst hu; exact h1) (by unfold maxLen; omega) (by omega) hB
  refine ⟨v', w', g1, ?_, g3, g5⟩
  unfold OwnR
  rw [List.length_append]
  exact g2
theorem wpList_appR {w : World} {ops : Array Oper} {rest : List Oper} {o : Oper} {a : Act} {Q : Exit → Act → World → Prop} (hgd : o.guard = none) (s x : Operand)
    (ho : o.op = .call { callee := .builtin .append, args := #[s, x], argTypes := #[38, 38] })
    (B : Nat) (v : Value) (rs : List Value) (hs : a.eval s = v) (hown : OwnR w B v rs) (b c : Nat) (r : Value) (hx : a.eval x = .slice (some ⟨b, 0, none⟩) 1 c) (hr : w.cell? ⟨b, 0, none⟩ = some r) (h1 : r.oneCell' = true) (hb : rs.length ≤ 1000) (hB : B ≤ w.heap.size)
    (h : ∀ v' w', OwnR w' B v' (rs ++ [r]) → w.grownBy w' v.ownBlock → (v'.ownBlock = v.ownBlock ∨ v'.ownBlock = some w.heap.size) → wpList Tryd.prog ops Q rest (a.put o.dst v') w') :
    wpList Tryd.prog ops Q (o :: rest) a w := by
  obtain ⟨v', w', hrun, h2, h3, h4⟩ := run_appR o.type hown b c r hr h1 hb hB
  refine wpList_plain hgd fun _ hK => ?_
  unfold Oper.wp execOp
  simp only [ho, resolve, invoke, builtin, Sem.run_bind, Sem.run_pure, Result.andThen_ok, List.map_toArray, List.map_cons, List.map_nil, hs, hx, hrun]
  exact hK _ _ (h v' w' h2 h3 h4)
theorem OwnB.one {w : World} {B : Nat} {v : Value} {xs : List Nat} (h : OwnB w B v xs) : v.oneCell' = true := by
  rcases h.form with ⟨e, _⟩ | ⟨g, cap, e, _⟩ <;> subst e <;> rfl
/-- a row that is grown byte by byte -/
structure GrSt (w u : World) (B : Nat) (v : Value) (ms : List Nat) (z t : Nat) (mv : Value) : Prop where
  own : OwnB u B mv (ms ++ List.replicate t z)
  row : OwnB u B v ms
  gr : w.grownBy u v.ownBlock
  vlt : ∀ g, v.ownBlock = some g → g < w.heap.size
  link : (∃ g c, v = .slice (some ⟨g, 0, none⟩) ms.length c ∧ mv = .slice (some ⟨g, 0, none⟩) (ms.length + t) c) ∨ (∀ g, mv.ownBlock = some g → w.heap.size ≤ g)
theorem GrSt.start {w : World} {B : Nat} {v : Value} {ms : List Nat} {z : Nat} (h : OwnB w B v ms) : GrSt w w B v ms z 0 v := by
  refine ⟨by simpa using h, h, World.grownBy.refl w _, fun g hg => (h.lt hg).2, ?_⟩
  rcases h.form with ⟨h1, _⟩ | ⟨g, cap, h1, _⟩
  · exact .inr fun g hg => by rw [h1] at hg; cases hg
  · exact .inl ⟨g, cap, h1, by simpa using h1⟩
theorem GrSt.next {w u w' : World} {B z t : Nat} {v mv v' : Value} {ms : List Nat} (hs : GrSt w u B v ms z t mv) (o : Obj)
    (ho : OwnB w' B v' ((ms ++ List.replicate t z) ++ [z])) (hg : (u.alloc o).grownBy w' mv.ownBlock)
    (hd : (∃ g cap, mv = .slice (some ⟨g, 0, none⟩) (ms ++ List.replicate t z).length cap ∧ v' = .slice (some ⟨g, 0, none⟩) ((ms ++ List.replicate t z).length + [z].length) cap) ∨ (v'.ownBlock = some (u.alloc o).heap.size ∧ Below (u.alloc o).heap.size (u.alloc o) w')) :
    GrSt w w' B v ms z (t + 1) v' := by
  have hrep : (ms ++ List.replicate t z) ++ [z] = ms ++ List.replicate (t + 1) z := by rw [List.append_assoc, List.replicate_succ']
  have hr0 : OwnB (u.alloc o) B v ms := hs.row.alloc o
  have hw0 : w.heap.size ≤ u.heap.size := hs.gr.size
  have hg0 : w.grownBy (u.alloc o) v.ownBlock := grownBy_below hs.gr ((Below.refl _ _).alloc (Nat.le_refl _) o)
  rw [hrep] at ho
  rcases hd with ⟨g, cap, e1, e2⟩ | ⟨e1, hb⟩
  · have hmg : mv.ownBlock = some g := by rw [e1]; rfl
    have hvg : v'.ownBlock = some g := by rw [e2]; rfl
    rw [hmg] at hg
    have hlen : (ms ++ List.replicate t z).length = ms.length + t := by simp
    rcases hs.link with ⟨g', c, l1, l2⟩ | l
    · rw [e1] at l2
      simp only [Value.slice.injEq, Option.some.injEq, Addr.mk.injEq, and_true] at l2
      obtain ⟨rfl, _, rfl⟩ := l2
      have hvb : v.ownBlock = some g := by rw [l1]; rfl
      refine ⟨ho, ?_, ?_, hs.vlt, .inl ⟨g, cap, l1, by rw [e2, hlen]; rfl⟩⟩
      · rw [l1]; rw [e2] at ho; exact ho.prefix rfl
      · rw [hvb] at hg0 ⊢
        exact ⟨hg.os.trans hg0.os, hg.tape.trans hg0.tape, hg.output.trans hg0.output, Nat.le_trans hg0.size hg.size, fun k hk hne => (hg.block k (Nat.lt_of_lt_of_le hk hg0.size) hne).trans (hg0.block k hk hne)⟩
    · have hwg := l g hmg
      refine ⟨ho, hr0.grown hg (fun q e e2 => by have := hs.vlt q e; have := Option.some.inj e2; omega), ?_, hs.vlt, .inr fun q e => by rw [hvg] at e; have := Option.some.inj e; omega⟩
      exact ⟨hg.os.trans hg0.os, hg.tape.trans hg0.tape, hg.output.trans hg0.output, Nat.le_trans hg0.size hg.size, fun k hk hne => (hg.block k (Nat.lt_of_lt_of_le hk hg0.size) (fun e => by have := Option.some.inj e; omega)).trans (hg0.block k hk hne)⟩
  · refine ⟨ho, hr0.below hb, grownBy_below hg0 hb, hs.vlt, .inr fun q e => ?_⟩
    rw [e1] at e
    have := Option.some.inj e
    have : u.heap.size ≤ (u.alloc o).heap.size := by simp
    omega
/-- a row of which m places are marked -/
def markF (z m : Nat) (xs : List Nat) : List Nat := List.replicate m z ++ xs.drop m
theorem markF_zero (z : Nat) (xs : List Nat) : markF z 0 xs = xs := by simp [markF]
theorem markF_length {z m : Nat} {xs : List Nat} (h : m ≤ xs.length) : (markF z m xs).length = xs.length := by simp [markF]; omega
theorem markF_set {z m : Nat} {xs : List Nat} (h : m < xs.length) : (markF z m xs).set m z = markF z (m + 1) xs := by
  unfold markF
  have hl : (List.replicate m z).length = m := by simp
  rw [List.set_append_right _ _ (by rw [hl]; exact Nat.le_refl _), hl, Nat.sub_self, List.drop_eq_getElem_cons h, List.set_cons_zero, List.replicate_succ', List.append_assoc]
  rfl
theorem markF_full (z : Nat) (xs : List Nat) : markF z xs.length xs = List.replicate xs.length z := by simp [markF]
/-- the rows of which k are marked whole and the next one up to j -/
def partF (cs : Nat → List Nat) (k j : Nat) (i : Nat) : List Nat := if i < k then List.replicate (cs i).length (100 + i) else if i = k then markF (100 + k) j (cs k) else cs i
theorem partF_len {cs : Nat → List Nat} {k j : Nat} (hj : j ≤ (cs k).length) (i : Nat) : (partF cs k j i).length = (cs i).length := by
  unfold partF
  split
  · simp
  · split
    · rename_i h; subst h; exact markF_length hj
    · rfl
theorem partF_next (cs : Nat → List Nat) (k i : Nat) : partF cs k (cs k).length i = partF cs (k + 1) 0 i := by
  unfold partF
  by_cases h1 : i < k
  · rw [if_pos h1, if_pos (by omega)]
  · rw [if_neg h1]
    by_cases h2 : i = k
    · subst h2; rw [if_pos rfl, if_pos (by omega), markF_full]
    · rw [if_neg h2, if_neg (by omega)]
      split
      · rename_i h; subst h; rw [markF_zero]
      · rfl
theorem partF_zero (cs : Nat → List Nat) (i : Nat) : partF cs 0 0 i = cs i := by
  unfold partF
  rw [if_neg (by omega)]
  split
  · rename_i h; subst h; rw [markF_zero]
  · rfl
theorem partF_set {cs : Nat → List Nat} {k j : Nat} (hj : j < (cs k).length) (i : Nat) : (if i = k then (partF cs k j k).set j (100 + k) else partF cs k j i) = partF cs k (j + 1) i := by
  unfold partF
  by_cases h : i = k
  · subst h
    simp only [if_true, Nat.lt_irrefl, if_false]
    exact markF_set hj
  · simp only [if_neg h]
/-- the rows, and of i of them one that was grown out of it, in a list -/
structure L2St (w0 u : World) (B h n : Nat) (vs : Nat → Value) (ms : Nat → List Nat) (i : Nat) (gs : Nat → Value) (mv : Value) : Prop where
  aps : ApS u B h n vs ms
  own : ∀ j, j < i → OwnB u B (gs j) (ms j ++ List.replicate 64 (150 + j))
  sep : ∀ j, j < i → ∀ k, i ≤ k → k < n → ∀ g, (vs k).ownBlock = some g → (gs j).ownBlock ≠ some g
  more : OwnR u B mv ((List.range i).map gs)
  msep : ∀ g, mv.ownBlock = some g → g ≠ h ∧ (∀ k, k < n → (vs k).ownBlock ≠ some g) ∧ ∀ j, j < i → (gs j).ownBlock ≠ some g
  below : Below B w0 u
theorem L2St.start {w0 u : World} {B h n : Nat} {vs : Nat → Value} {ms : Nat → List Nat} (ha : ApS u B h n vs ms) (hb : Below B w0 u) (gs : Nat → Value) : L2St w0 u B h n vs ms 0 gs (.slice none 0 0) :=
  ⟨ha, fun j hj => (by omega), fun j hj => (by omega), OwnR.nil _ _, fun g e => (by cases e), hb⟩
theorem below_of_grown {B : Nat} {w u v : World} {row : Option Nat} (h : Below B w u) (hg : u.grownBy v row) (hr : ∀ g, row = some g → B ≤ g) (hB : B ≤ u.heap.size) : Below B w v :=
  ⟨hg.os.trans h.os, hg.tape.trans h.tape, hg.output.trans h.output, Nat.le_trans h.size hg.size, fun k hk => (hg.block k (Nat.lt_of_lt_of_le hk hB) (fun e => by have := hr k e.symm; omega)).trans (h.block k hk)⟩
theorem L2St.grow {w0 u u' : World} {B h n i : Nat} {vs gs : Nat → Value} {ms : Nat → List Nat} {mv gv : Value} {z t : Nat} (hs : L2St w0 u B h n vs ms i gs mv) (hi : i < n) (hg : GrSt u u' B (vs i) (ms i) z t gv) : L2St w0 u' B h n vs ms i gs mv := by
  have hsz : B ≤ u.heap.size := by have := hs.aps.hB; have := hs.aps.hl; omega
  refine ⟨⟨fun k hk => hg.gr.cell (hs.aps.cell k hk) (fun e => hs.aps.nh i hi e.symm), fun k hk => ?_, hs.aps.ap, hs.aps.nh, hs.aps.hB, Nat.lt_of_lt_of_le hs.aps.hl hg.gr.size⟩, fun j hj => (hs.own j hj).grown hg.gr (fun g e e2 => hs.sep j hj i (Nat.le_refl _) hi g e2.symm e), hs.sep, ?_, hs.msep, below_of_grown hs.below hg.gr (fun g e => ((hs.aps.own i hi).lt e).1) hsz⟩
  · by_cases e : k = i
    · subst e; exact hg.row
    · exact (hs.aps.own k hk).grown hg.gr (fun g e2 e3 => hs.aps.ap k i g hk hi e e2 e3.symm)
  · exact hs.more.keep fun g e => hg.gr.block g (hs.more.lt e).2 (fun e2 => (hs.msep g e).2.1 i hi e2.symm)
theorem L2St.push {w0 u u' : World} {B h n i : Nat} {vs gs : Nat → Value} {ms : Nat → List Nat} {mv gv mv' : Value} {w : World} (hs : L2St w0 u B h n vs ms i gs mv) (hi : i < n) (hg : GrSt w u B (vs i) (ms i) (150 + i) 64 gv) (hwu : ∀ k, k < n → ∀ g, (vs k).ownBlock = some g → g < w.heap.size)
    (hmw : ∀ g, mv.ownBlock = some g → g < w.heap.size) (o : Obj)
    (ho : OwnR u' B mv' ((List.range i).map gs ++ [gv])) (hgr : (u.alloc o).grownBy u' mv.ownBlock) (hd : mv'.ownBlock = mv.ownBlock ∨ mv'.ownBlock = some (u.alloc o).heap.size) :
    L2St w0 u' B h n vs ms (i + 1) (fun j => if j = i then gv else gs j) mv' := by
  have hsz : B ≤ u.heap.size := by have := hs.aps.hB; have := hs.aps.hl; omega
  have ha0 : ApS (u.alloc o) B h n vs ms := hs.aps.below ((Below.refl _ _).alloc (Nat.le_refl _) o)
  have hug : u.heap.size < (u.alloc o).heap.size := by simp
  have hgm : ∀ g, mv.ownBlock = some g → gv.ownBlock ≠ some g := fun g e e2 => by
    rcases hg.link with ⟨g', c, l1, l2⟩ | l
    · rw [l2] at e2
      exact (hs.msep g e).2.1 i hi (by rw [l1]; exact e2)
    · have := l g e2; have := hmw g e; omega
  refine ⟨⟨fun k hk => hgr.cell (ha0.cell k hk) (fun e => (hs.msep h e.symm).1 rfl), fun k hk => (ha0.own k hk).grown hgr (fun g e e2 => (hs.msep g e2.symm).2.1 k hk e), hs.aps.ap, hs.aps.nh, hs.aps.hB, Nat.lt_of_lt_of_le ha0.hl hgr.size⟩, fun j hj => ?_, fun j hj k hk hkn g e => ?_, ?_, fun g e => ?_, ?_⟩
  · by_cases e : j = i
    · subst e
      rw [if_pos rfl]
      exact (hg.own.alloc o).grown hgr (fun g e1 e2 => hgm g e2.symm e1)
    · rw [if_neg e]
      exact ((hs.own j (by omega)).alloc o).grown hgr (fun g e1 e2 => (hs.msep g e2.symm).2.2 j (by omega) e1)
  · by_cases ej : j = i
    · subst ej
      rw [if_pos rfl]
      intro e2
      rcases hg.link with ⟨g', c, l1, l2⟩ | l
      · exact hs.aps.ap k j g hkn hi (by omega) e (by rw [l1]; rw [l2] at e2; exact e2)
      · have := l g e2; have := hwu k hkn g e; omega
    · rw [if_neg ej]
      exact hs.sep j (by omega) k (by omega) hkn g e
  · have e : (List.range (i + 1)).map (fun j => if j = i then gv else gs j) = (List.range i).map gs ++ [gv] := by
      rw [List.range_succ, List.map_append]
      congr 1
      · refine List.map_congr_left fun j hj => ?_
        have := List.mem_range.1 hj
        rw [if_neg (by omega)]
      · simp
    rw [e]; exact ho
  · rcases hd with hd | hd
    · rw [hd] at e
      obtain ⟨m1, m2, m3⟩ := hs.msep g e
      refine ⟨m1, m2, fun j hj => ?_⟩
      by_cases ej : j = i
      · rw [if_pos ej]; exact hgm g e
      · rw [if_neg ej]; exact m3 j (by omega)
    · rw [hd] at e
      have hge := Option.some.inj e
      refine ⟨by have := hs.aps.hl; omega, fun k hk e2 => by have := ((hs.aps.own k hk).lt e2).2; omega, fun j hj e2 => ?_⟩
      by_cases ej : j = i
      · rw [if_pos ej] at e2; have := (hg.own.lt e2).2; omega
      · rw [if_neg ej] at e2; have := ((hs.own j (by omega)).lt e2).2; omega
  · exact (below_of_grown (hs.below.alloc hsz o) hgr (fun g e => (hs.more.lt e).1) (by omega))
end Go.Proofs.YtknkkoemghceeaaDoor
