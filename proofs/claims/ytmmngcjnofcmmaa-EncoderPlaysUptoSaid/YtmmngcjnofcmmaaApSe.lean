/- Rows that lie apart in a list; rows that are grown byte by byte. -/
import Derived.Test.YtmmngcjnofcmmaaRows
import Derived.Test.YtmmngcjnofcmmaaRight1
import Derived.Test.YtmmngcjnofcmmaaOwn
import Derived.StillTailTactics
import Derived.BigQuiet
import Derived.Deep.QuietTactic
import Derived.Deep.DeepCutAuto
namespace Go.Proofs.Ytmmngcjnofcmmaa
open Go.RowKit

/-- of a lower base -/
theorem OwnB.base {w : World} {B B' : Nat} {v : Value} {xs : List Nat} (h : OwnB w B v xs) (hle : B' ≤ B) : OwnB w B' v xs := by
  obtain ⟨h1, h2⟩ := h
  refine ⟨h1, ?_⟩
  rcases h2 with h2 | ⟨g, cap, cur, e, hb, r⟩
  · exact .inl h2
  · exact .inr ⟨g, cap, cur, e, Nat.le_trans hle hb, r⟩
/-- a part of what is owned, at the head of the same block, is owned -/
theorem OwnB.prefix {w : World} {B g n m cap : Nat} {xs ys : List Nat} (h : OwnB w B (.slice (some ⟨g, 0, none⟩) n cap) (xs ++ ys)) (hm : m = xs.length) : OwnB w B (.slice (some ⟨g, 0, none⟩) m cap) xs := by
  subst hm
  obtain ⟨h1, h2⟩ := h
  refine ⟨by rw [bytesV_length, Nat.mul_one], ?_⟩
  rcases h2 with ⟨e, _⟩ | ⟨g', cap', cur, e, hb, hg, hnc, hcm, hcs, htk⟩
  · cases e
  · simp only [Value.slice.injEq, Option.some.injEq, Addr.mk.injEq, and_true] at e
    obtain ⟨rfl, hn, rfl⟩ := e
    refine .inr ⟨g, cap, cur, rfl, hb, hg, by rw [List.length_append] at hnc; omega, hcm, hcs, ?_⟩
    have h3 := congrArg (List.take xs.length) htk
    rw [List.take_take, bytesV_append, List.length_append] at h3
    rw [show min xs.length ((xs.length + ys.length) * 1) = xs.length * 1 by omega] at h3
    rw [h3]
    have := List.take_left (l₁ := bytesV xs) (l₂ := bytesV ys)
    rwa [bytesV_length] at this
/-- a byte appended: in its place, or to a new row -/
theorem run_app1 {w : World} {B : Nat} {v : Value} {xs : List Nat} (ty : TypeId) (hown : OwnB w B v xs) (ad : Option Addr) (m c : Nat) (ys : List Nat) (hr : RowA w ad ys) (hm : m = ys.length) (hy : 0 < ys.length)
    (hb : xs.length + ys.length ≤ 140737488355328) (hB : B ≤ w.heap.size) :
    ∃ v' w', (Builtin.append_ #[26, 26] ty #[v, .slice ad m c]).run Try.prog w = .ok v' w' ∧ OwnB w' B v' (xs ++ ys) ∧ w.grownBy w' v.ownBlock ∧
      ((∃ g cap, v = .slice (some ⟨g, 0, none⟩) xs.length cap ∧ v' = .slice (some ⟨g, 0, none⟩) (xs.length + ys.length) cap) ∨ (v'.ownBlock = some w.heap.size ∧ Below w.heap.size w w')) := by
  obtain ⟨v', w', h1, h2, h3, h4⟩ := run_appB ty hown ad m c ys hr hm hb hB
  refine ⟨v', w', h1, h2, h3, ?_⟩
  obtain ⟨i0, hi, hi0, hi1, hi2⟩ := info_u8
  subst hm
  obtain ⟨b, off, rfl, hb0, hc⟩ := hr hy
  have hnews : ∀ (j : Nat) (u : Value), (bytesV ys)[j]? = some u → w.cell? ((⟨b, off, none⟩ : Addr).add j) = some u := fun j u hj => by
    have hjl : j < ys.length := by
      rcases Nat.lt_or_ge j ys.length with h | h
      · exact h
      · rw [List.getElem?_eq_none (by rw [bytesV_length]; exact h)] at hj; cases hj
    have h1 := hc j hjl
    rw [bytesV_at ys j hjl] at hj
    have e := addr_plain b off j
    generalize (⟨b, off, none⟩ : Addr).add j = q at *
    subst e
    generalize Value.int IntKind.u8 (ys.getD j 0 : Nat) = z at *
    rw [h1, hj]
  have hnl : (bytesV ys).length = ys.length * i0.size := by rw [hi1, bytesV_length, Nat.mul_one]
  rcases hown.2 with ⟨rfl, h0⟩ | ⟨g, cap, cur, rfl, hbg, hg, hnc, hcm, hcs, htk⟩
  · right
    have hbel : Below w.heap.size w w' := (Below.refl _ _).grown h3 (Nat.le_refl _) (fun k e => by cases e)
    refine ⟨?_, hbel⟩
    rcases h4 with h4 | h4
    · exfalso
      obtain ⟨g, c', e, _⟩ := OwnB.full h2 (by rw [List.length_append]; omega)
      rw [e] at h4; cases h4
    · exact h4
  · by_cases hroom : xs.length + ys.length ≤ cap
    · left
      have hr := run_append_room (P := Try.prog) w 26 ty 5 i0 Try.underlying26 hi g xs.length cap cur hg ⟨b, off, none⟩ ys.length c (bytesV ys) hnl hnews (fun u hu => bytesV_one hu) hroom (by rw [hi1, bytesV_length, hcs]; omega)
      rw [hr] at h1
      simp only [Result.ok.injEq] at h1
      exact ⟨g, cap, rfl, h1.1.symm⟩
    · right
      have hr := run_append_grow (P := Try.prog) w 26 ty 5 i0 (.int .u8 0) Try.underlying26 hi hi0 ⟨g, 0, none⟩ xs.length cap (bytesV xs) (by rw [hi1, bytesV_length, Nat.mul_one]) (World.ownsRow.cells hown rfl)
        ⟨b, off, none⟩ ys.length c (bytesV ys) hnl hnews (by omega) (by omega) (by rw [hi2]; exact growslice_fits (by omega) (by omega))
      rw [hr] at h1
      simp only [Result.ok.injEq] at h1
      obtain ⟨rfl, rfl⟩ := h1
      exact ⟨rfl, ((Below.refl _ _).drew).alloc (Nat.le_refl _) _⟩
theorem wpList_app1 {w : World} {ops : Array Oper} {rest : List Oper} {o : Oper} {a : Act} {Q : Exit → Act → World → Prop} (hgd : o.guard = none) (s x : Operand)
    (ho : o.op = .call { callee := .builtin .append, args := #[s, x], argTypes := #[26, 26] })
    (B : Nat) (v : Value) (xs : List Nat) (hs : a.eval s = v) (hown : OwnB w B v xs) (ad : Option Addr) (m c : Nat) (ys : List Nat) (hx : a.eval x = .slice ad m c) (hr : RowA w ad ys) (hm : m = ys.length) (hy : 0 < ys.length)
    (hb : xs.length + ys.length ≤ 140737488355328) (hB : B ≤ w.heap.size)
    (h : ∀ v' w', OwnB w' B v' (xs ++ ys) → w.grownBy w' v.ownBlock → ((∃ g cap, v = .slice (some ⟨g, 0, none⟩) xs.length cap ∧ v' = .slice (some ⟨g, 0, none⟩) (xs.length + ys.length) cap) ∨ (v'.ownBlock = some w.heap.size ∧ Below w.heap.size w w')) → wpList Try.prog ops Q rest (a.put o.dst v') w') :
    wpList Try.prog ops Q (o :: rest) a w := by
  obtain ⟨v', w', hrun, h2, h3, h4⟩ := run_app1 o.type hown ad m c ys hr hm hy hb hB
  refine wpList_plain hgd fun _ hK => ?_
  unfold Oper.wp execOp
  simp only [ho, resolve, invoke, builtin, Sem.run_bind, Sem.run_pure, Result.andThen_ok, List.map_toArray, List.map_cons, List.map_nil, hs, hx, hrun]
  exact hK _ _ (h v' w' h2 h3 h4)
/-- rows in a list, each in a block of its own -/
structure ApS (w : World) (B h n : Nat) (vs : Nat → Value) (cs : Nat → List Nat) : Prop where
  cell : ∀ i, i < n → w.cell? ⟨h, i, none⟩ = some (vs i)
  own : ∀ i, i < n → OwnB w B (vs i) (cs i)
  ap : ∀ i j g, i < n → j < n → i ≠ j → (vs i).ownBlock = some g → (vs j).ownBlock ≠ some g
  nh : ∀ i, i < n → (vs i).ownBlock ≠ some h
  hB : B ≤ h
  hl : h < w.heap.size
section
variable {w u : World} {B h n : Nat} {vs : Nat → Value} {cs cs' : Nat → List Nat}
theorem ApS.grown {g : Nat} (hs : ApS u B h n vs cs) (hg : u.grownBy w (some g)) (hh : h ≠ g) (hv : ∀ i, i < n → (vs i).ownBlock ≠ some g) : ApS w B h n vs cs :=
  ⟨fun i hi => hg.cell (hs.cell i hi) (by simpa using hh), fun i hi => (hs.own i hi).grown hg (fun k e h2 => hv i hi (by rw [e]; exact h2)), hs.ap, hs.nh, hs.hB, Nat.lt_of_lt_of_le hs.hl hg.size⟩
theorem ApS.below (hs : ApS u B h n vs cs) (hb : Below u.heap.size u w) : ApS w B h n vs cs :=
  ⟨fun i hi => (hb.cell (p := ⟨h, i, none⟩) hs.hl).trans (hs.cell i hi), fun i hi => (hs.own i hi).below hb, hs.ap, hs.nh, hs.hB, Nat.lt_of_lt_of_le hs.hl hb.size⟩
theorem ApS.drewN (hs : ApS u B h n vs cs) (k : Nat) : ApS (u.drewN k) B h n vs cs := ⟨hs.cell, fun i hi => (hs.own i hi).keep fun _ _ => rfl, hs.ap, hs.nh, hs.hB, hs.hl⟩
theorem ApS.full (hs : ApS u B h n vs cs) {i : Nat} (hi : i < n) (h0 : 0 < (cs i).length) : ∃ g cap, vs i = .slice (some ⟨g, 0, none⟩) (cs i).length cap ∧ B ≤ g ∧ g < u.heap.size ∧ (cs i).length ≤ cap := by
  obtain ⟨g, cap, e, h1, h2, h3, _⟩ := (hs.own i hi).full h0
  exact ⟨g, cap, e, h1, h2, h3⟩
/-- a row is written at a place -/
theorem ApS.set (hs : ApS u B h n vs cs) {i g cap m : Nat} (hi : i < n) (hv : vs i = .slice (some ⟨g, 0, none⟩) m cap) (hm : m = (cs i).length) (j y : Nat) : ApS (u.setCell ⟨g, j, none⟩ (.int .u8 (y : Nat))) B h n vs (fun l => if l = i then (cs i).set j y else cs l) := by
  have hgi : (vs i).ownBlock = some g := by rw [hv]; rfl
  refine ⟨fun l hl => ?_, fun l hl => ?_, hs.ap, hs.nh, hs.hB, by simpa using hs.hl⟩
  · rw [World.cell?_setCell_other _ _ _ _ (fun e => hs.nh i hi (by rw [hgi]; cases e; rfl))]
    exact hs.cell l hl
  · by_cases e : l = i
    · subst e
      have ho := hs.own l hl
      rw [hv] at ho
      simp only [if_true]
      rw [hv]
      exact (ho.set hm j y).1
    · simp only [if_neg e]
      exact (hs.own l hl).far (fun k e2 e3 => hs.ap i l g hi hl (Ne.symm e) hgi (by rw [e2, e3])) _
theorem ApS.cong (hs : ApS u B h n vs cs) (hc : ∀ i, i < n → cs i = cs' i) : ApS u B h n vs cs' :=
  ⟨hs.cell, fun i hi => by rw [← hc i hi]; exact hs.own i hi, hs.ap, hs.nh, hs.hB, hs.hl⟩
end
/-- nothing but the rows' blocks has been written -/
structure Mny (w u : World) (n : Nat) (vs : Nat → Value) : Prop where
  os : u.os = w.os
  tape : u.tape = w.tape
  output : u.output = w.output
  size : w.heap.size ≤ u.heap.size
  block : ∀ k, k < w.heap.size → (∀ i, i < n → (vs i).ownBlock ≠ some k) → u.heap[k]? = w.heap[k]?
section
variable {w u v : World} {n : Nat} {vs : Nat → Value}
theorem Mny.refl (w : World) (n : Nat) (vs : Nat → Value) : Mny w w n vs := ⟨rfl, rfl, rfl, Nat.le_refl _, fun _ _ _ => rfl⟩
theorem Mny.drewN (h : Mny w u n vs) (k : Nat) : Mny w (u.drewN k) n vs := ⟨h.os, h.tape, h.output, h.size, h.block⟩
theorem Mny.set (h : Mny w u n vs) {i g : Nat} (hi : i < n) (hg : (vs i).ownBlock = some g) (j : Nat) (z : Value) : Mny w (u.setCell ⟨g, j, none⟩ z) n vs :=
  ⟨h.os, h.tape, h.output, by simpa using h.size, fun k hk hn => (Below.heap_setCell u _ _ k (fun e => hn i hi (by rw [hg, e]))).trans (h.block k hk hn)⟩
theorem Mny.grown (h : Mny w u n vs) {row : Option Nat} (hg : u.grownBy v row) (hr : ∀ k, row = some k → (∃ i, i < n ∧ (vs i).ownBlock = some k) ∨ w.heap.size ≤ k) : Mny w v n vs :=
  ⟨hg.os.trans h.os, hg.tape.trans h.tape, hg.output.trans h.output, Nat.le_trans h.size hg.size, fun k hk hn => (hg.block k (Nat.lt_of_lt_of_le hk h.size) (fun e => by
    rcases hr k e.symm with ⟨i, hi, h2⟩ | h2
    · exact hn i hi h2
    · omega)).trans (h.block k hk hn)⟩
theorem Mny.alloc (h : Mny w u n vs) (o : Obj) : Mny w (u.alloc o) n vs :=
  ⟨h.os, h.tape, h.output, Nat.le_trans h.size (by simp), fun k hk hn => (Below.heap_alloc u o k (Nat.lt_of_lt_of_le hk h.size)).trans (h.block k hk hn)⟩
theorem Mny.then_ {B : Nat} (h : Below B w u) (h2 : Mny u v n vs) (hv : ∀ i k, i < n → (vs i).ownBlock = some k → B ≤ k) (hB : B ≤ u.heap.size) : Below B w v :=
  ⟨h2.os.trans h.os, h2.tape.trans h.tape, h2.output.trans h.output, Nat.le_trans h.size h2.size, fun k hk => (h2.block k (Nat.lt_of_lt_of_le hk hB) (fun i hi e => by have := hv i k hi e; omega)).trans (h.block k hk)⟩
end
/-- a row that is grown byte by byte, beside the rows that stay -/
structure MoreSt (w u : World) (B h n : Nat) (vs : Nat → Value) (ms : Nat → List Nat) (k t : Nat) (mv : Value) : Prop where
  aps : ApS u B h n vs ms
  mny : Mny w u n vs
  own : OwnB u B mv (ms k ++ List.replicate t 254)
  link : (∃ g c, vs k = .slice (some ⟨g, 0, none⟩) (ms k).length c ∧ mv = .slice (some ⟨g, 0, none⟩) ((ms k).length + t) c) ∨ (∀ g, mv.ownBlock = some g → ∀ i, i < n → (vs i).ownBlock ≠ some g)
  nh : mv.ownBlock ≠ some h
  other : ∀ i g, i < n → i ≠ k → mv.ownBlock = some g → (vs i).ownBlock ≠ some g
  above : ∀ g, mv.ownBlock = some g → (∃ i, i < n ∧ (vs i).ownBlock = some g) ∨ w.heap.size ≤ g
theorem MoreSt.start {w u : World} {B h n : Nat} {vs : Nat → Value} {ms : Nat → List Nat} (ha : ApS u B h n vs ms) (hm : Mny w u n vs) {k : Nat} (hk : k < n) : MoreSt w u B h n vs ms k 0 (vs k) := by
  refine ⟨ha, hm, by simpa using ha.own k hk, ?_, ha.nh k hk, fun i g hi hne hg => ha.ap k i g hk hi (Ne.symm hne) hg, fun g hg => .inl ⟨k, hk, hg⟩⟩
  rcases (ha.own k hk).form with ⟨h1, _⟩ | ⟨g, cap, h1, _⟩
  · exact .inr fun g hg => by rw [h1] at hg; cases hg
  · exact .inl ⟨g, cap, h1, by simpa using h1⟩
theorem MoreSt.next {w u w' : World} {B h n : Nat} {vs : Nat → Value} {ms : Nat → List Nat} {k t : Nat} {mv v' : Value} (hs : MoreSt w u B h n vs ms k t mv) (hk : k < n) (o : Obj)
    (ho : OwnB w' B v' ((ms k ++ List.replicate t 254) ++ [254])) (hg : (u.alloc o).grownBy w' mv.ownBlock)
    (hd : (∃ g cap, mv = .slice (some ⟨g, 0, none⟩) (ms k ++ List.replicate t 254).length cap ∧ v' = .slice (some ⟨g, 0, none⟩) ((ms k ++ List.replicate t 254).length + [254].length) cap) ∨ (v'.ownBlock = some (u.alloc o).heap.size ∧ Below (u.alloc o).heap.size (u.alloc o) w')) :
    MoreSt w w' B h n vs ms k (t + 1) v' := by
  have hrep : (ms k ++ List.replicate t 254) ++ [254] = ms k ++ List.replicate (t + 1) 254 := by rw [List.append_assoc, List.replicate_succ']
  have ha0 : ApS (u.alloc o) B h n vs ms := hs.aps.below ((Below.refl _ _).alloc (Nat.le_refl _) o)
  have hm0 := hs.mny.alloc o
  rw [hrep] at ho
  rcases hd with ⟨g, cap, e1, e2⟩ | ⟨e1, hb⟩
  · have hmg : mv.ownBlock = some g := by rw [e1]; rfl
    have hvg : v'.ownBlock = some g := by rw [e2]; rfl
    have hhg : h ≠ g := fun e => hs.nh (by rw [hmg, e])
    rw [hmg] at hg
    have hlen : (ms k ++ List.replicate t 254).length = (ms k).length + t := by simp
    refine ⟨⟨fun i hi => hg.cell (ha0.cell i hi) (by simpa using hhg), fun i hi => ?_, ha0.ap, ha0.nh, ha0.hB, Nat.lt_of_lt_of_le ha0.hl hg.size⟩, hm0.grown hg (fun q e => by rw [← hmg] at e; exact hs.above q e), ho, ?_, by rw [hvg, ← hmg]; exact hs.nh, fun i q hi hne e => hs.other i q hi hne (by rw [hmg, ← hvg]; exact e), fun q e => hs.above q (by rw [hmg, ← hvg]; exact e)⟩
    · by_cases hgi : (vs i).ownBlock = some g
      · have hik : i = k := Classical.byContradiction fun hne => hs.other i g hi hne hmg hgi
        subst hik
        rcases hs.link with ⟨g', c, l1, l2⟩ | l
        · rw [e1] at l2
          simp only [Value.slice.injEq, Option.some.injEq, Addr.mk.injEq, and_true] at l2
          obtain ⟨rfl, _, rfl⟩ := l2
          rw [l1]
          rw [e2] at ho
          exact ho.prefix rfl
        · exact absurd hgi (l g hmg i hi)
      · exact (ha0.own i hi).grown hg (fun q e e3 => hgi (by rw [e, e3]))
    · rcases hs.link with ⟨g', c, l1, l2⟩ | l
      · rw [e1] at l2
        simp only [Value.slice.injEq, Option.some.injEq, Addr.mk.injEq, and_true] at l2
        obtain ⟨rfl, _, rfl⟩ := l2
        exact .inl ⟨g, cap, l1, by rw [e2, hlen]; rfl⟩
      · exact .inr fun q e => l q (by rw [hmg, ← hvg]; exact e)
  · have hu : u.heap.size ≤ (u.alloc o).heap.size := by simp
    have hblk : ∀ i g, i < n → (vs i).ownBlock = some g → g < (u.alloc o).heap.size := fun i g hi e => ((ha0.own i hi).lt e).2
    refine ⟨ha0.below hb, hm0.grown (row := none) ⟨hb.os, hb.tape, hb.output, hb.size, fun q hq _ => hb.block q hq⟩ (fun q e => by cases e), ho, ?_, ?_, ?_, ?_⟩
    · exact .inr fun q e i hi e2 => by
        rw [e1] at e
        have := hblk i q hi e2
        have := Option.some.inj e
        omega
    · rw [e1]; intro e; have := Option.some.inj e; have := ha0.hl; omega
    · intro i q hi _ e e2
      rw [e1] at e
      have := hblk i q hi e2
      have := Option.some.inj e
      omega
    · intro q e
      rw [e1] at e
      have := Option.some.inj e
      have := hs.mny.size
      exact .inr (by omega)
/-- a row that is owned, in its place -/
structure Oat (w : World) (lo hi : Nat) (v : Value) (xs : List Nat) : Prop where
  own : OwnB w lo v xs
  hi : ∀ g, v.ownBlock = some g → g < hi
section
variable {w w' : World} {lo hi : Nat} {v : Value} {xs : List Nat}
theorem Oat.below (h : Oat w lo hi v xs) (hb : Below w.heap.size w w') : Oat w' lo hi v xs := ⟨h.own.below hb, h.hi⟩
theorem Oat.new {w' : World} {B : Nat} (h : OwnB w' B v xs) : Oat w' B w'.heap.size v xs := ⟨h, fun _ hq => (h.lt hq).2⟩
end
end Go.Proofs.Ytmmngcjnofcmmaa
