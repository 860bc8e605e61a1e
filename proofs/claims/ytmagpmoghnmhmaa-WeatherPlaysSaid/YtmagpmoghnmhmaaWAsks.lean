/- Two weathers, the program's and the document's, side by side: Turn's refusals, looks, asks. -/
import Derived.Test.YtmagpmoghnmhmaaRows
import Derived.Test.YtmagpmoghnmhmaaR37w
import Derived.Test.YtmagpmoghnmhmaaWNil
namespace Go.Proofs.Ytmagpmoghnmhmaa
open Go.RowKit

theorem OwnB.rowS {w : World} {B : Nat} {ad : Option Addr} {n c : Nat} {xs : List Nat} (h : OwnB w B (.slice ad n c) xs) : n = xs.length ∧ RowA w ad xs := by
  obtain ⟨a, c', e, r⟩ := h.row
  cases e
  exact ⟨rfl, r⟩
/-- outside a stretch of blocks nothing has been written -/
structure Span (lo hi : Nat) (w u : World) : Prop where
  os : u.os = w.os
  tape : u.tape = w.tape
  output : u.output = w.output
  size : w.heap.size ≤ u.heap.size
  block : ∀ k, k < w.heap.size → (k < lo ∨ hi ≤ k) → u.heap[k]? = w.heap[k]?
section
variable {lo hi : Nat} {w u v : World}
theorem Span.refl (lo hi : Nat) (w : World) : Span lo hi w w := ⟨rfl, rfl, rfl, Nat.le_refl _, fun _ _ _ => rfl⟩
theorem Span.trans (h : Span lo hi w u) (h2 : Span lo hi u v) : Span lo hi w v :=
  ⟨h2.os.trans h.os, h2.tape.trans h.tape, h2.output.trans h.output, Nat.le_trans h.size h2.size, fun k hk h3 => (h2.block k (Nat.lt_of_lt_of_le hk h.size) h3).trans (h.block k hk h3)⟩
theorem Span.below (h : Span lo hi w u) (hb : Below u.heap.size u v) : Span lo hi w v :=
  h.trans ⟨hb.os, hb.tape, hb.output, hb.size, fun k hk _ => hb.block k hk⟩
theorem Span.two {x g : Nat} (h : Span lo hi w u) (hb : Two u v x g) (hx : lo ≤ x ∧ x < hi) (hg : lo ≤ g ∧ g < hi) : Span lo hi w v :=
  h.trans ⟨hb.os, hb.tape, hb.output, hb.size, fun k hk h3 => hb.block k hk (by omega) (by omega)⟩
theorem Span.grown {d : Nat} (h : Span lo hi w u) (hb : u.grownBy v (some d)) (hd : (lo ≤ d ∧ d < hi) ∨ w.heap.size ≤ d) : Span lo hi w v :=
  ⟨hb.os.trans h.os, hb.tape.trans h.tape, hb.output.trans h.output, Nat.le_trans h.size hb.size, fun k hk h3 => (hb.block k (Nat.lt_of_lt_of_le hk h.size) (by intro e; have := Option.some.inj e; omega)).trans (h.block k hk h3)⟩
theorem Span.toBelow {B : Nat} (h : Span lo hi u v) (h0 : Below B w u) (hB : B ≤ lo) (hs : B ≤ u.heap.size) : Below B w v :=
  ⟨h.os.trans h0.os, h.tape.trans h0.tape, h.output.trans h0.output, Nat.le_trans h0.size h.size, fun k hk => (h.block k (by omega) (.inl (by omega))).trans (h0.block k hk)⟩
theorem Span.cell (h : Span lo hi w u) {b o : Nat} {z : Value} (hb : b < w.heap.size) (hr : b < lo ∨ hi ≤ b) (hc : w.cell? ⟨b, o, none⟩ = some z) : u.cell? ⟨b, o, none⟩ = some z :=
  (World.cell?_of_block (a := ⟨b, o, none⟩) (h.block b hb hr)).trans hc
theorem RowA.span {ad : Option Addr} {xs : List Nat} (h : RowA w ad xs) (hs : Span lo hi w u) (hne : 0 < xs.length → ∀ b off, ad = some ⟨b, off, none⟩ → b < lo ∨ hi ≤ b) : RowA u ad xs := fun h0 =>
  (RowA.keep h hs.size fun b off e hb => hs.block b hb (hne h0 b off e)) h0
end
/-- the program's weather and the document's, so many symbols gone in each -/
structure PairG (u : World) (x bn g d lo hi : Nat) (p : Gf2.Wp) (S0 n1 n2 : Nat) : Prop where
  wst : WSt u x bn g p S0 (Gf2.wat p n1 (S0, false)) (md n1)
  rwb : RWB u d p (Gf2.wat p n2 (S0, false)).1 (Gf2.wat p n2 (S0, false)).2 (md n2)
  good : GoodL p.D p.T S0
  lx : lo ≤ x ∧ lo ≤ bn ∧ lo ≤ g ∧ lo ≤ d
  hx : x < hi ∧ bn < hi ∧ g < hi ∧ d < hi
  ne : d ≠ x ∧ d ≠ bn ∧ d ≠ g
  hh : hi ≤ u.heap.size
section
variable {u v : World} {x bn g d lo hi S0 n1 n2 : Nat} {p : Gf2.Wp}
theorem PairG.span {l2 h2 : Nat} (h : PairG u x bn g d lo hi p S0 n1 n2) (hs : Span l2 h2 u v) (hr : hi ≤ l2 ∨ h2 ≤ lo) : PairG v x bn g d lo hi p S0 n1 n2 := by
  have lx := h.lx
  have hx := h.hx
  have lt := h.wst.lt
  have lr := h.rwb.lt
  exact ⟨⟨h.wst.wea.keep (hs.block x lt.1 (by omega)), h.wst.nxt.keep (hs.block bn lt.2.1 (by omega)), h.wst.reg.keep (hs.block g lt.2.2 (by omega)), h.wst.good, h.wst.ne⟩, h.rwb.keep (hs.block d lr (by omega)), h.good, h.lx, h.hx, h.ne, Nat.le_trans h.hh hs.size⟩
theorem PairG.below (h : PairG u x bn g d lo hi p S0 n1 n2) (hb : Below u.heap.size u v) : PairG v x bn g d lo hi p S0 n1 n2 :=
  h.span (l2 := hi) (h2 := lo) ((Span.refl _ _ _).below hb) (.inl (Nat.le_refl _))
theorem PairG.grown {L : Nat} (h : PairG u x bn g d lo hi p S0 n1 n2) (hb : u.grownBy v (some L)) (hL : hi ≤ L) : PairG v x bn g d lo hi p S0 n1 n2 :=
  h.span (l2 := L) (h2 := L + 1) ((Span.refl _ _ _).grown hb (.inl (by omega))) (.inl hL)
theorem PairG.stepP {k : Nat} (h : PairG u x bn g d lo hi p S0 n1 n2) (hs : WSt v x bn g p S0 (Gf2.wat p k (Gf2.wat p n1 (S0, false))) (md (n1 + k))) (ht : Two u v x g) : PairG v x bn g d lo hi p S0 (n1 + k) n2 :=
  ⟨by rw [Gf2.wat_add]; exact hs, h.rwb.keep (ht.block d h.rwb.lt h.ne.1 h.ne.2.2), h.good, h.lx, h.hx, h.ne, Nat.le_trans h.hh ht.size⟩
theorem PairG.stepR {k : Nat} (h : PairG u x bn g d lo hi p S0 n1 n2) (hs : RWB v d p (Gf2.wat p k (Gf2.wat p n2 (S0, false))).1 (Gf2.wat p k (Gf2.wat p n2 (S0, false))).2 (md (n2 + k))) (ht : u.grownBy v (some d)) : PairG v x bn g d lo hi p S0 n1 (n2 + k) :=
  ⟨h.wst.grown ht ⟨by have := h.ne.1; simp; omega, by have := h.ne.2.1; simp; omega, by have := h.ne.2.2; simp; omega⟩, by rw [Gf2.wat_add]; exact hs, h.good, h.lx, h.hx, h.ne, Nat.le_trans h.hh ht.size⟩
end
/-- so many symbols go by at a call of Turn, of Skip -/
def turnN (lv : Int) (xs : List Nat) : Nat := if turnF lv xs = 0 then xs.length else 0
def skipN (m : Int) : Nat := if manyF m = 0 then m.toNat else 0
def turnR (p : Gf2.Wp) (lv : Int) (s : Nat × Bool) (xs : List Nat) : List Nat := if turnF lv xs = 0 then Gf2.wturn p lv.toNat s xs else []
theorem turnF_ok {lv : Int} {xs : List Nat} (h : turnF lv xs = 0) : ∃ k : Nat, lv = k ∧ (2 ≤ k ∧ k ≤ 16) ∧ ∀ i, i < xs.length → xs.getD i 0 < k := by
  unfold turnF at h
  split at h
  · exact absurd h (by decide)
  · split at h
    · exact absurd h (by decide)
    · rename_i h1 h2
      refine ⟨lv.toNat, by omega, by omega, fun i hi => ?_⟩
      rcases Int.lt_or_le (xs.getD i 0 : Int) lv with h3 | h3
      · omega
      · exact absurd ⟨i, hi, h3⟩ h2
theorem manyF_ok {m : Int} (h : manyF m = 0) : ∃ k : Nat, m = k ∧ k ≤ 1048576 := by
  unfold manyF at h
  split at h
  · exact absurd h (by decide)
  · split at h
    · exact absurd h (by decide)
    · exact ⟨m.toNat, by omega, by omega⟩
/-- the first level that is none -/
theorem first_bad {lv : Int} {xs : List Nat} (h : ∃ i, i < xs.length ∧ lv ≤ (xs.getD i 0 : Int)) : ∃ i, i < xs.length ∧ lv ≤ (xs.getD i 0 : Int) ∧ ∀ j, j < i → (xs.getD j 0 : Int) < lv := by
  obtain ⟨i, h1, h2⟩ := h
  induction i using Nat.strongRecOn with
  | _ i ih =>
    by_cases hj : ∃ j, j < i ∧ lv ≤ (xs.getD j 0 : Int)
    · obtain ⟨j, h3, h4⟩ := hj
      exact ih j h3 (by omega) h4
    · refine ⟨i, h1, h2, fun j h3 => ?_⟩
      rcases Int.lt_or_le (xs.getD j 0 : Int) lv with h4 | h4
      · exact h4
      · exact absurd ⟨j, h3, h4⟩ hj
section
variable {x bn g S0 n : Nat} {p : Gf2.Wp} {s : Nat × Bool}
set_option maxHeartbeats 1000000 in
theorem turnw_bad (lv : Int) (ad : Option Addr) (cap : Nat) (xs : List Nat) (hl : xs.length ≤ 140737488351232) (h8 : ∀ i, i < xs.length → xs.getD i 0 ≤ 255) (hne : turnF lv xs ≠ 0) (w : World) (h : WSt w x bn g p S0 s n) (hr : RowA w ad xs) :
    Calls Try.prog 18 #[.pointer (some ⟨x, 0, none⟩), .int .i64 lv, .slice ad xs.length cap] w fun e w' => e = .returned (.tuple #[.slice none 0 0, .int .i64 (turnF lv xs)]) ∧ w = w' := by
  have HG := hide (wgood_any w h)
  have HR := hide hr
  clear h hr
  by_cases h1 : lv < 2 ∨ 16 < lv
  · rw [show turnF lv xs = 1 from if_pos h1]
    clear hne
    rcases h1 with h1 | h1
    · go_enter Try.func18, Try.ntmps18
      go_wp2_with fail
      refine HG.out.mono ?_
      rintro e w' ⟨rfl, rfl⟩
      go_wp2_with fail
      go_ret2
      exact ⟨rfl, rfl⟩
    · have h2 : ¬ lv < 2 := by omega
      go_enter Try.func18, Try.ntmps18
      go_wp2_with fail
      refine HG.out.mono ?_
      rintro e w' ⟨rfl, rfl⟩
      go_wp2_with fail
      go_ret2
      exact ⟨rfl, rfl⟩
  · by_cases h3 : ∃ i, i < xs.length ∧ lv ≤ (xs.getD i 0 : Int)
    · rw [show turnF lv xs = 91 by unfold turnF; rw [if_neg h1, if_pos h3]]
      obtain ⟨i0, hi0, hv, hb⟩ := first_bad h3
      have HB := hide hb
      have H8 := hide h8
      clear h8
      have hv0 := hide hv
      have d1 : decide (lv < 2) = false := by simp; omega
      have d2 : decide (16 < lv) = false := by simp; omega
      clear hb hne h3 hv h1
      go_enter Try.func18, Try.ntmps18
      go_wp2_with fail
      refine HG.out.mono ?_
      rintro e w' ⟨rfl, rfl⟩
      go_wp2_with fail
      go_loop [26] (fun i => ∃ k : Nat, k ≤ i0 ∧ i = .int .i64 k) (fun i => xs.length - (intOf i).toNat)
      case atStart => exact ⟨0, by omega, rfl⟩
      case round =>
        obtain ⟨k, hk, rfl⟩ := hrel
        have hlt : k < xs.length := by omega
        have hy8 := H8.out k hlt
        obtain ⟨b, off, rfl, _, hc⟩ := HR.out.at_ hlt
        by_cases hk0 : k < i0
        · have h1 : decide (lv ≤ (xs.getD k 0 : Int)) = false := decide_eq_false (by have := HB.out k hk0; omega)
          have h2 := HB.out k hk0
          generalize xs.getD k 0 = y at *
          go_wp2_with fail
          go_round
          case rel => exact ⟨k + 1, by omega, by simp⟩
          case measure => simp [intOf]; omega
        · obtain rfl : k = i0 := by omega
          have h1 : decide (lv ≤ (xs.getD k 0 : Int)) = true := decide_eq_true hv0.out
          generalize xs.getD k 0 = y at *
          go_wp2_with fail
          go_ret2
          exact ⟨rfl, rfl⟩
    · exact absurd (by unfold turnF; rw [if_neg h1, if_neg h3]) hne
set_option maxHeartbeats 1000000 in
theorem rturnw_bad (lv : Int) (ad : Option Addr) (cap : Nat) (xs : List Nat) (hl : xs.length ≤ 140737488351232) (h8 : ∀ i, i < xs.length → xs.getD i 0 ≤ 255) (hne : turnF lv xs ≠ 0) (w : World) (hr : RowA w ad xs) :
    Calls Try.prog 32 #[.pointer (some ⟨x, 0, none⟩), .int .i64 lv, .slice ad xs.length cap] w fun e w' => e = .returned (.tuple #[.slice none 0 0, .int .i64 (turnF lv xs)]) ∧ w = w' := by
  have HR := hide hr
  clear hr
  by_cases h1 : lv < 2 ∨ 16 < lv
  · rw [show turnF lv xs = 1 from if_pos h1]
    clear hne
    rcases h1 with h1 | h1
    · go_enter Try.func32, Try.ntmps32
      go_wp2_with fail
      go_ret2
      exact ⟨rfl, rfl⟩
    · have h2 : ¬ lv < 2 := by omega
      go_enter Try.func32, Try.ntmps32
      go_wp2_with fail
      go_ret2
      exact ⟨rfl, rfl⟩
  · by_cases h3 : ∃ i, i < xs.length ∧ lv ≤ (xs.getD i 0 : Int)
    · rw [show turnF lv xs = 91 by unfold turnF; rw [if_neg h1, if_pos h3]]
      obtain ⟨i0, hi0, hv, hb⟩ := first_bad h3
      have HB := hide hb
      have H8 := hide h8
      clear h8
      have hv0 := hide hv
      have d1 : decide (lv < 2) = false := by simp; omega
      have d2 : decide (16 < lv) = false := by simp; omega
      clear hb hne h3 hv h1
      go_enter Try.func32, Try.ntmps32
      go_wp2_with fail
      go_loop [8] (fun i => ∃ k : Nat, k ≤ i0 ∧ i = .int .i64 k) (fun i => xs.length - (intOf i).toNat)
      case atStart => exact ⟨0, by omega, rfl⟩
      case round =>
        obtain ⟨k, hk, rfl⟩ := hrel
        have hlt : k < xs.length := by omega
        have hy8 := H8.out k hlt
        obtain ⟨b, off, rfl, _, hc⟩ := HR.out.at_ hlt
        by_cases hk0 : k < i0
        · have h1 : decide (lv ≤ (xs.getD k 0 : Int)) = false := decide_eq_false (by have := HB.out k hk0; omega)
          have h2 := HB.out k hk0
          generalize xs.getD k 0 = y at *
          go_wp2_with fail
          go_round
          case rel => exact ⟨k + 1, by omega, by simp⟩
          case measure => simp [intOf]; omega
        · obtain rfl : k = i0 := by omega
          have h1 : decide (lv ≤ (xs.getD k 0 : Int)) = true := decide_eq_true hv0.out
          generalize xs.getD k 0 = y at *
          go_wp2_with fail
          go_ret2
          exact ⟨rfl, rfl⟩
    · exact absurd (by unfold turnF; rw [if_neg h1, if_neg h3]) hne
set_option maxHeartbeats 400000 in
theorem skipw_bad (m : Int) (hm : manyF m ≠ 0) (w : World) (h : WSt w x bn g p S0 s n) :
    Calls Try.prog 21 #[.pointer (some ⟨x, 0, none⟩), .int .i64 m] w fun e w' => e = .returned (.int .i64 (manyF m)) ∧ w = w' := by
  have HG := hide (wgood_any w h)
  have HM := hide (many_any m)
  have hb := nzBne hm
  generalize manyF m = c at *
  clear h hm
  go_enter Try.func21, Try.ntmps21
  go_wp2_with fail
  refine HG.out.mono ?_
  rintro e w' ⟨rfl, rfl⟩
  go_wp2_with fail
  refine (HM.out _).mono ?_
  rintro e w' ⟨rfl, rfl⟩
  go_wp2_with fail
  go_ret
  exact ⟨rfl, rfl⟩
end
section
variable {x bn g d lo hi S0 n1 n2 : Nat} {p : Gf2.Wp}
theorem pturn_any (lv : Int) (ad : Option Addr) (cap : Nat) (xs : List Nat) (hl : xs.length ≤ 140737488351232) (h8 : ∀ i, i < xs.length → xs.getD i 0 ≤ 255) (w : World) (h : PairG w x bn g d lo hi p S0 n1 n2) (hr : RowA w ad xs) (hne : 0 < xs.length → ∀ b off, ad = some ⟨b, off, none⟩ → b < lo ∨ hi ≤ b) :
    Calls Try.prog 18 #[.pointer (some ⟨x, 0, none⟩), .int .i64 lv, .slice ad xs.length cap] w fun e w' => ∃ v, e = .returned (.tuple #[v, .int .i64 (turnF lv xs)]) ∧ OwnB w' w.heap.size v (turnR p lv (Gf2.wat p n1 (S0, false)) xs) ∧ PairG w' x bn g d lo hi p S0 (n1 + turnN lv xs) n2 ∧ Span lo hi w w' := by
  have lx := h.lx
  have hx := h.hx
  by_cases h0 : turnF lv xs = 0
  · obtain ⟨k, rfl, hk, hi⟩ := turnF_ok h0
    rw [h0, show turnN (k : Int) xs = xs.length from if_pos h0, show turnR p (k : Int) (Gf2.wat p n1 (S0, false)) xs = Gf2.wturn p k (Gf2.wat p n1 (S0, false)) xs from if_pos h0]
    refine (turnw_ok k hk ad cap xs hl hi w h.wst hr (fun h0 b off e => by have := hne h0 b off e; omega)).mono ?_
    rintro e w' ⟨v, rfl, ho, hs, ht⟩
    exact ⟨v, rfl, ho, h.stepP hs ht, (Span.refl _ _ _).two ht ⟨lx.1, hx.1⟩ ⟨lx.2.2.1, hx.2.2.1⟩⟩
  · rw [show turnN lv xs = 0 from if_neg h0, show turnR p lv (Gf2.wat p n1 (S0, false)) xs = [] from if_neg h0]
    refine (turnw_bad lv ad cap xs hl h8 h0 w h.wst hr).mono ?_
    rintro e w' ⟨rfl, rfl⟩
    exact ⟨_, rfl, OwnB.nil _ _, h, Span.refl _ _ _⟩
theorem pskip_any (m : Int) (w : World) (h : PairG w x bn g d lo hi p S0 n1 n2) :
    Calls Try.prog 21 #[.pointer (some ⟨x, 0, none⟩), .int .i64 m] w fun e w' => e = .returned (.int .i64 (manyF m)) ∧ PairG w' x bn g d lo hi p S0 (n1 + skipN m) n2 ∧ Span lo hi w w' := by
  have lx := h.lx
  have hx := h.hx
  by_cases h0 : manyF m = 0
  · obtain ⟨k, rfl, hk⟩ := manyF_ok h0
    rw [h0, show skipN (k : Int) = k from if_pos h0]
    refine (skipw_ok k hk w h.wst).mono ?_
    rintro e w' ⟨rfl, hs, ht⟩
    exact ⟨rfl, h.stepP hs ht, (Span.refl _ _ _).two ht ⟨lx.1, hx.1⟩ ⟨lx.2.2.1, hx.2.2.1⟩⟩
  · rw [show skipN m = 0 from if_neg h0]
    refine (skipw_bad m h0 w h.wst).mono ?_
    rintro e w' ⟨rfl, rfl⟩
    exact ⟨rfl, h, Span.refl _ _ _⟩
theorem prturn_any (lv : Int) (ad : Option Addr) (cap : Nat) (xs : List Nat) (hl : xs.length ≤ 140737488351232) (h8 : ∀ i, i < xs.length → xs.getD i 0 ≤ 255) (w : World) (h : PairG w x bn g d lo hi p S0 n1 n2) (hr : RowA w ad xs) (hne : 0 < xs.length → ∀ b off, ad = some ⟨b, off, none⟩ → b < lo ∨ hi ≤ b) :
    Calls Try.prog 32 #[.pointer (some ⟨d, 0, none⟩), .int .i64 lv, .slice ad xs.length cap] w fun e w' => ∃ v, e = .returned (.tuple #[v, .int .i64 (turnF lv xs)]) ∧ OwnB w' w.heap.size v (turnR p lv (Gf2.wat p n2 (S0, false)) xs) ∧ PairG w' x bn g d lo hi p S0 n1 (n2 + turnN lv xs) ∧ Span lo hi w w' := by
  have lx := h.lx
  have hx := h.hx
  by_cases h0 : turnF lv xs = 0
  · obtain ⟨k, rfl, hk, hi⟩ := turnF_ok h0
    rw [h0, show turnN (k : Int) xs = xs.length from if_pos h0, show turnR p (k : Int) (Gf2.wat p n2 (S0, false)) xs = Gf2.wturn p k (Gf2.wat p n2 (S0, false)) xs from if_pos h0]
    refine (rturnw_ok k hk ad cap xs hl hi (wat_good h.good n2) w h.rwb hr (fun h0 b off e => by have := hne h0 b off e; omega)).mono ?_
    rintro e w' ⟨v, rfl, ho, hs, ht⟩
    exact ⟨v, rfl, ho, h.stepR hs ht, (Span.refl _ _ _).grown ht (.inl ⟨lx.2.2.2, hx.2.2.2⟩)⟩
  · rw [show turnN lv xs = 0 from if_neg h0, show turnR p lv (Gf2.wat p n2 (S0, false)) xs = [] from if_neg h0]
    refine (rturnw_bad lv ad cap xs hl h8 h0 w hr).mono ?_
    rintro e w' ⟨rfl, rfl⟩
    exact ⟨_, rfl, OwnB.nil _ _, h, Span.refl _ _ _⟩
theorem prskip_any (m : Int) (w : World) (h : PairG w x bn g d lo hi p S0 n1 n2) :
    Calls Try.prog 35 #[.pointer (some ⟨d, 0, none⟩), .int .i64 m] w fun e w' => e = .returned (.int .i64 (manyF m)) ∧ PairG w' x bn g d lo hi p S0 n1 (n2 + skipN m) ∧ Span lo hi w w' := by
  have lx := h.lx
  have hx := h.hx
  by_cases h0 : manyF m = 0
  · obtain ⟨k, rfl, hk⟩ := manyF_ok h0
    rw [h0, show skipN (k : Int) = k from if_pos h0]
    refine (rskipw_ok k hk (wat_good h.good n2) w h.rwb).mono ?_
    rintro e w' ⟨rfl, hs, ht⟩
    exact ⟨rfl, h.stepR hs ht, (Span.refl _ _ _).grown ht (.inl ⟨lx.2.2.2, hx.2.2.2⟩)⟩
  · rw [show skipN m = 0 from if_neg h0]
    refine (rskipw_bad m h0 w).mono ?_
    rintro e w' ⟨rfl, rfl⟩
    exact ⟨rfl, h, Span.refl _ _ _⟩
set_option maxHeartbeats 400000 in
theorem plooks_any (w : World) (h : PairG w x bn g d lo hi p S0 n1 n1) :
    Calls Try.prog 13 #[.pointer (some ⟨x, 0, none⟩), .pointer (some ⟨d, 0, none⟩)] w fun e w' => e = .returned (.bool true) ∧ w = w' := by
  have HB := hide (wbad_any w h.wst)
  have HA := hide (wat_any w h.wst)
  have HRB := hide (rwbad_any w _ _ h.rwb)
  have HRA := hide (rwat_any w _ _ h.rwb)
  clear h
  generalize Gf2.wat p n1 (S0, false) = s at *
  generalize s.2 = sb at *
  generalize md n1 = m at *
  go_enter Try.func13, Try.ntmps13
  go_wp2_with fail
  refine HB.out.mono ?_
  rintro e w' ⟨rfl, rfl⟩
  go_wp2_with fail
  refine HRB.out.mono ?_
  rintro e w' ⟨rfl, rfl⟩
  go_wp2_with fail
  refine HA.out.mono ?_
  rintro e w' ⟨rfl, rfl⟩
  go_wp2_with fail
  refine HRA.out.mono ?_
  rintro e w' ⟨rfl, rfl⟩
  go_wp2_with fail
  go_ret
  exact ⟨rfl, rfl⟩
end
end Go.Proofs.Ytmagpmoghnmhmaa
