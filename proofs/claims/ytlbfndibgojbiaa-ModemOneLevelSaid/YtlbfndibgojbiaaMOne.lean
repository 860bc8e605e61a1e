/- The law ModemOneLevel, walked: it returns true. -/
import Derived.Test.YtlbfndibgojbiaaRows
import Derived.Test.YtlbfndibgojbiaaMLawChecks
import Derived.Test.YtlbfndibgojbiaaMHistM
import Derived.Test.YtlbfndibgojbiaaMEq16
import Derived.Test.YtlbfndibgojbiaaMLawWin
import Derived.Test.YtlbfndibgojbiaaMLv15
import Derived.BigQuiet
import Derived.Deep.QuietTactic
namespace Go.Proofs.Ytlbfndibgojbiaa
open Go.RowKit
set_option linter.unusedVariables false

set_option maxRecDepth 100000 in
set_option maxHeartbeats 2000000 in
theorem body25_any (L N : Nat) (hL : 0 < L ∧ L ≤ 256) (hN : N ≤ 140737488351232) (ad : Option Addr) (cap : Nat) (xs : List Nat) (hl : xs.length ≤ 140737488351232) (h8 : ∀ i, xs.getD i 0 ≤ 255) (w : World) (hx : RowA w ad xs) :
    Calls Try.prog 28 #[.int .i64 L, .int .i64 N, .slice ad xs.length cap] w fun e w' => ∃ v, e = .returned v ∧ OwnB w' w.heap.size v (fitL N L xs) ∧ Below w.heap.size w w' := by
  have HX := hide hx
  have H8 := hide h8
  clear hx h8
  obtain ⟨l1, l2⟩ := hL
  unfold fitL
  go_enter Try.func28, Try.ntmps28
  go_wp2_with (first
    | (at_make; refine wpList_makeB rfl _ _ rfl w.heap.size _ _ N rfl rfl ?c1 ?c2 ?c3 ?c4 ?_)
    | go_in)
  case c1 => rfl
  case c2 => rfl
  case c3 => omega
  case c4 => simp
  intro w2 hown2 hgrow2 hz2
  have HO2 := hide (show OwnB w2 w.heap.size (.slice (some ⟨w.heap.size, 0, none⟩) N N) (fillK (fun i => xs.getD i 0 % L) N 0) by rw [fillK_zero]; exact hown2)
  have HB2 := hide ((Below.refl w.heap.size w).grown hgrow2 (Nat.le_refl _) (fun k e => by cases e))
  clear hown2 hgrow2
  go_wp2_with fail
  go_loopw [8] (fun i u => ∃ k : Nat, k ≤ N ∧ i = .int .i64 k ∧ Hid (OwnB u w.heap.size (.slice (some ⟨w.heap.size, 0, none⟩) N N) (fillK (fun i => xs.getD i 0 % L) N k)) ∧ Hid (Below w.heap.size w u)) (fun i _ => N - (intOf i).toNat)
  case atStart => exact ⟨0, by omega, rfl, HO2, HB2⟩
  case round =>
    rename World => wr
    obtain ⟨k, hk, rfl, ho, hb⟩ := hrel
    clear HO2 HB2
    by_cases hlt : k < N
    · have d1 : decide ((k : Int) < N) = true := decide_eq_true (by omega)
      by_cases hlx : k < xs.length
      · have d2 : decide ((k : Int) < xs.length) = true := decide_eq_true (by omega)
        obtain ⟨b, off, rfl, _, hc⟩ := (HX.out.below hb.out).at_ hlx
        have hcg := ho.out.cell (fillK_length hk).symm hlt
        have hfz := ho.out.frz (fillK_length hk).symm k
        have hset := (ho.out.set (fillK_length hk).symm k (xs.getD k 0 % L)).1
        have hF : (fillK (fun i => xs.getD i 0 % L) N k).set k (xs.getD k 0 % L) = fillK (fun i => xs.getD i 0 % L) N (k + 1) := fillK_set (f := fun i => xs.getD i 0 % L) hlt
        rw [hF] at hset
        have HO4 := hide hset
        have HB4 := hide (hb.out.setCell (p := ⟨w.heap.size, k, none⟩) (Nat.le_refl _) (.int .u8 (xs.getD k 0 % L : Nat)))
        have hm : (xs.getD k 0 : Int) % L = ((xs.getD k 0 % L : Nat) : Int) := by simp
        have hmt : (xs.getD k 0 : Int).tmod L = ((xs.getD k 0 % L : Nat) : Int) := by rw [Int.tmod_eq_emod_of_nonneg (by omega)]; exact hm
        have hml : xs.getD k 0 % L < L := Nat.mod_lt _ (by omega)
        have hz : (L : Int) ≠ 0 := by omega
        have hy8 := H8.out k
        clear hset hF
        have hin : (0 : Int) ≤ k := by omega
        have hin2 : (k : Int) < xs.length := by omega
        have hin3 : (k : Int) < N := by omega
        generalize hq : xs.getD k 0 % L = y2 at *
        generalize hy : xs.getD k 0 = y at *
        have HQ := hide hq
        have HY := hide hy
        clear hq hy
        go_wp2_with fail
        go_roundw
        case rel => exact ⟨k + 1, by omega, by simp, HO4, HB4⟩
        case measure => simp [intOf]; omega
      · have d2 : decide ((k : Int) < xs.length) = false := decide_eq_false (by omega)
        have HR := hide (fillK_rest (f := fun i => xs.getD i 0 % L) hk (fun i h1 _ => by simp only [getD_far' (show xs.length ≤ i by omega), Nat.zero_mod]))
        go_wp2_with fail
        go_ret
        exact ⟨_, rfl, by have := ho.out; rw [HR.out] at this; exact this, hb.out⟩
    · obtain rfl : k = N := by omega
      have d1 : decide ((k : Int) < k) = false := decide_eq_false (by omega)
      go_wp2_with fail
      go_ret
      exact ⟨_, rfl, by have := ho.out; rw [fillK_full] at this; exact this, hb.out⟩
set_option maxRecDepth 100000 in
set_option maxHeartbeats 4000000 in
theorem one_bad (K R : Int) (a b c : Nat) (D : Int) (T S m : Nat) (l q z : Int) (hA : a ≤ 4294967295) (hB : b ≤ 4294967295) (hC : c ≤ 4294967295) (hT : T ≤ 18446744073709551615) (hS : S ≤ 18446744073709551615) (hE : modE K R a b c D T S m l q z ≠ 0) (lev : Int) (x y : Value) (w : World) :
    Calls Try.prog 7 #[.agg #[.int .i64 K, .int .i64 R, .int .u32 a, .int .u32 b, .int .u32 c, .int .i64 D, .int .u64 T, .int .u64 S, .int .u64 m, .int .i64 l, .int .i64 q, .int .i64 z], .int .i64 lev, x, y] w fun e w' => e = .returned (.bool true) ∧ Below w.heap.size w w' := by
  have HBD := hide (mbody_any K R a b c D T S m l q z hA hB hC hT hS)
  have HC := hide (r25check_any K R a b c D T S m l q z hA hB hC hT hS)
  unfold bodyN at HBD
  rw [if_neg hE] at HBD
  have hne := nzBne hE
  generalize modE K R a b c D T S m l q z = ef at *
  clear hE
  go_enter Try.func7, Try.ntmps7
  go_wp2_with fail
  have hM0 := ModB.new (K := K) (R := R) (a := a) (b := b) (c := c) (D := D) (T := T) (S := S) (m := m) (l := l) (q := q) (z := z) w
  have hb0 : Below w.heap.size w (w.alloc (.cells #[.int .i64 K, .int .i64 R, .int .u32 a, .int .u32 b, .int .u32 c, .int .i64 D, .int .u64 T, .int .u64 S, .int .u64 m, .int .i64 l, .int .i64 q, .int .i64 z] 32)) := (Below.refl _ _).alloc (Nat.le_refl _) _
  generalize w.alloc (.cells #[.int .i64 K, .int .i64 R, .int .u32 a, .int .u32 b, .int .u32 c, .int .i64 D, .int .u64 T, .int .u64 S, .int .u64 m, .int .i64 l, .int .i64 q, .int .i64 z] 32) = W0 at *
  have HU := hide fun (u : World) (hb : Below W0.heap.size W0 u) => (hM0.keep hb hM0.lt).cells
  have HB0 := hide hb0
  clear hM0 hb0
  refine (HBD.out _).mono ?_
  rintro e w1 ⟨rfl, hb1⟩
  have HD1 := hide hb1
  obtain ⟨s0, s1, s2, s3, s4, s5, s6, s7, s8, s9, s10, s11⟩ := HU.out _ hb1
  clear hb1
  go_wp2_with fail
  refine (HC.out _).mono ?_
  rintro e w2 ⟨rfl, hb2⟩
  have HD2 := hide (below_then HD1.out hb2)
  clear hb2 s0 s1 s2 s3 s4 s5 s6 s7 s8 s9 s10 s11
  obtain ⟨s0, s1, s2, s3, s4, s5, s6, s7, s8, s9, s10, s11⟩ := HU.out _ HD2.out
  go_wp2_with fail
  refine (HC.out _).mono ?_
  rintro e w3 ⟨rfl, hb3⟩
  go_wp2_with fail
  refine (knows25_any _).mono ?_
  rintro e w4 ⟨rfl, hb4⟩
  go_wp2_with fail
  go_ret
  exact ⟨rfl, below_then HB0.out (below_then (below_then HD2.out hb3) hb4)⟩
def hv (hs : List Int) : Array Value := (hs.map fun h => Value.int .i64 h).toArray
theorem hv_set (hs : List Int) (i : Nat) (x : Int) : (hv hs).setIfInBounds i (.int .i64 x) = hv (hs.set i x) := by simp [hv, List.map_set]
theorem hv_at (hs : List Int) (i : Nat) : (hv hs)[i]? = (hs[i]?).map fun h => Value.int .i64 h := by simp [hv]
/-- the two counts while the loop runs -/
structure OneSt (w u : World) (bA bB : Nat) (f g : Nat → Nat) (k : Nat) : Prop where
  below : Below w.heap.size w u
  ha : u.heap[bA]? = some (.cells (hv (histL f k)) 56 (0, 0))
  hb : u.heap[bB]? = some (.cells (hv (histL g k)) 56 (0, 0))
  ge : w.heap.size ≤ bA ∧ w.heap.size ≤ bB
  ne : bA ≠ bB
section
variable {w u : World} {bA bB : Nat} {f g : Nat → Nat} {k : Nat}
theorem OneSt.drewN (h : OneSt w u bA bB f g k) (n : Nat) : OneSt w (u.drewN n) bA bB f g k := ⟨below_drewN h.below n, h.ha, h.hb, h.ge, h.ne⟩
theorem OneSt.cells (h : OneSt w u bA bB f g k) {x y : Nat} (hx : x < 16) (hy : y < 16) : u.cell? ⟨bA, x, none⟩ = some (.int .i64 (hist f k x : Nat)) ∧ u.cell? ⟨bB, y, none⟩ = some (.int .i64 (hist g k y : Nat)) ∧ u.frozen? ⟨bA, x, none⟩ = false ∧ u.frozen? ⟨bB, y, none⟩ = false := by
  refine ⟨?_, ?_, frozen_of_row _ _ _ _ _ h.ha, frozen_of_row _ _ _ _ _ h.hb⟩
  · rw [cell_of_row _ _ _ _ _ _ h.ha, hv_at, histL_at _ _ hx]; rfl
  · rw [cell_of_row _ _ _ _ _ _ h.hb, hv_at, histL_at _ _ hy]; rfl
theorem OneSt.next (h : OneSt w u bA bB f g k) {x y : Nat} (hx : f k = x) (hy : g k = y) :
    OneSt w ((u.setCell ⟨bA, x, none⟩ (.int .i64 ((hist f k x : Nat) + 1))).setCell ⟨bB, y, none⟩ (.int .i64 ((hist g k y : Nat) + 1))) bA bB f g (k + 1) := by
  subst hx hy
  refine ⟨(h.below.setCell h.ge.1 _).setCell h.ge.2 _, ?_, ?_, h.ge, h.ne⟩
  · rw [heap_setCell_other _ _ _ _ (by exact h.ne), heap_setCell_same _ _ _ _ _ _ h.ha, hv_set, histL_set]
  · rw [heap_setCell_same _ _ _ (hv (histL g k)) _ _ (by rw [heap_setCell_other _ _ _ _ (by exact Ne.symm h.ne)]; exact h.hb), hv_set, histL_set]
end
theorem hist0 (f : Nat → Nat) : hv (histL f 0) = #[.int .i64 0, .int .i64 0, .int .i64 0, .int .i64 0, .int .i64 0, .int .i64 0, .int .i64 0, .int .i64 0, .int .i64 0, .int .i64 0, .int .i64 0, .int .i64 0, .int .i64 0, .int .i64 0, .int .i64 0, .int .i64 0] := by
  have : histL f 0 = List.replicate 16 0 := by
    unfold histL
    simp only [hist_zero]
    rfl
  rw [this]; rfl
def zero16 : Obj := .cells #[.int .i64 0, .int .i64 0, .int .i64 0, .int .i64 0, .int .i64 0, .int .i64 0, .int .i64 0, .int .i64 0, .int .i64 0, .int .i64 0, .int .i64 0, .int .i64 0, .int .i64 0, .int .i64 0, .int .i64 0, .int .i64 0] 56
theorem one_start (w : World) (f g : Nat → Nat) : OneSt w ((w.alloc zero16).alloc zero16) w.heap.size (w.heap.size + 1) f g 0 := by
  refine ⟨((Below.refl _ _).alloc (Nat.le_refl _) _).alloc (by simp) _, ?_, ?_, ⟨Nat.le_refl _, Nat.le_succ _⟩, by omega⟩
  · rw [hist0]
    exact (Below.heap_alloc _ _ _ (by simp)).trans (heap_alloc_new w zero16)
  · rw [hist0]
    have := heap_alloc_new (w.alloc zero16) zero16
    rw [size_al] at this
    exact this
set_option maxRecDepth 100000 in
set_option maxHeartbeats 8000000 in
theorem one_good (n r a b c d T S m l q z : Nat) (hg : GMod n r a b c d T S m l q z) (lev : Int) (ad : Option Addr) (cap : Nat) (xs : List Nat) (hl : xs.length ≤ 140737488351232) (h8 : ∀ i, xs.getD i 0 ≤ 255)
    (ad2 : Option Addr) (cap2 : Nat) (ys : List Nat) (hl2 : ys.length ≤ 140737488351232) (h82 : ∀ i, ys.getD i 0 ≤ 255) (w : World) (hx : RowA w ad xs) (hy : RowA w ad2 ys) :
    Calls Try.prog 7 #[.agg #[.int .i64 (n + 1), .int .i64 r, .int .u32 a, .int .u32 b, .int .u32 c, .int .i64 d, .int .u64 T, .int .u64 S, .int .u64 m, .int .i64 l, .int .i64 q, .int .i64 z], .int .i64 lev, .slice ad xs.length cap, .slice ad2 ys.length cap2] w fun e w' => e = .returned (.bool true) ∧ Below w.heap.size w w' := by
  obtain ⟨t, L, ht, ht1, ht2, hL, hL1, hL2⟩ := lev15 lev
  have h22 : (2 : Int) + ((L : Int) - 2) = L := by omega
  have HBD := hide (mbody_any (n + 1) r a b c d T S m l q z hg.hA hg.hB hg.hC hg.regs.1 hg.regs.2)
  unfold bodyN at HBD
  rw [hg.ok, if_pos rfl, hg.body] at HBD
  have HC := hide (r25check_any (n + 1) r a b c d T S m l q z hg.hA hg.hB hg.hC hg.regs.1 hg.regs.2)
  rw [hg.ok] at HC
  have hbd := hg.body_le
  have HBX := hide fun w hx => body25_any L ((z + n) * r) ⟨by omega, by omega⟩ (by omega) ad cap xs hl h8 w hx
  have HBY := hide fun w hx => body25_any L ((z + n) * r) ⟨by omega, by omega⟩ (by omega) ad2 cap2 ys hl2 h82 w hx
  have hla := fitL_length ((z + n) * r) L xs
  have hlb := fitL_length ((z + n) * r) L ys
  have hLa : Lev L (fitL ((z + n) * r) L xs) := fun i hi => by rw [hla] at hi; unfold fitL; rw [fill_at _ hi]; exact Nat.mod_lt _ (by omega)
  have hLb : Lev L (fitL ((z + n) * r) L ys) := fun i hi => by rw [hlb] at hi; unfold fitL; rw [fill_at _ hi]; exact Nat.mod_lt _ (by omega)
  have HWX := hide fun ad cap w hx => window_good n r a b c d T S m l q z hg L ⟨hL1, hL2⟩ ad cap (fitL ((z + n) * r) L xs) hla hLa w hx
  have HWY := hide fun ad cap w hx => window_good n r a b c d T S m l q z hg L ⟨hL1, hL2⟩ ad cap (fitL ((z + n) * r) L ys) hlb hLb w hx
  have hhist := win_hist d T S q L hg.hq.1 (fitL ((z + n) * r) L xs) (fitL ((z + n) * r) L ys) (by rw [hla, hlb]) hLa hLb
  have hua : ∀ i, i < (z + n) * r → (winL d T S q L (fitL ((z + n) * r) L xs)).getD i 0 < L := fun i hi => winL_lev d T S q L hg.hq.1 _ hLa (by rw [hla]; exact hi)
  have hub : ∀ i, i < (z + n) * r → (winL d T S q L (fitL ((z + n) * r) L ys)).getD i 0 < L := fun i hi => winL_lev d T S q L hg.hq.1 _ hLb (by rw [hlb]; exact hi)
  have hlu := winL_length d T S q L (fitL ((z + n) * r) L xs)
  have hlv := winL_length d T S q L (fitL ((z + n) * r) L ys)
  rw [hla] at hlu hhist HWX
  rw [hlb] at hlv HWY
  generalize fitL ((z + n) * r) L xs = a0 at *
  generalize fitL ((z + n) * r) L ys = b0 at *
  generalize winL d T S q L a0 = u0 at *
  generalize winL d T S q L b0 = v0 at *
  generalize (z + n) * r = N at *
  have HLA := hide hla
  have HLB := hide hlb
  have HLU := hide hlu
  have HLV := hide hlv
  have HHI := hide hhist
  have HLVA := hide (show ∀ i, i < N → a0.getD i 0 < L from fun i hi => hLa i (by rw [hla]; exact hi))
  have HLVB := hide (show ∀ i, i < N → b0.getD i 0 < L from fun i hi => hLb i (by rw [hlb]; exact hi))
  have HUA := hide hua
  have HUB := hide hub
  have HX := hide hx
  have HY := hide hy
  clear hla hlb hlu hlv hhist hLa hLb hua hub hx hy h8 h82 hg
  go_enter Try.func7, Try.ntmps7
  go_wp2_with fail
  have hM0 := ModB.new (K := n + 1) (R := r) (a := a) (b := b) (c := c) (D := d) (T := T) (S := S) (m := m) (l := l) (q := q) (z := z) w
  have hb0 : Below w.heap.size w (w.alloc (.cells #[.int .i64 (n + 1), .int .i64 r, .int .u32 a, .int .u32 b, .int .u32 c, .int .i64 d, .int .u64 T, .int .u64 S, .int .u64 m, .int .i64 l, .int .i64 q, .int .i64 z] 32)) := (Below.refl _ _).alloc (Nat.le_refl _) _
  generalize w.alloc (.cells #[.int .i64 (n + 1), .int .i64 r, .int .u32 a, .int .u32 b, .int .u32 c, .int .i64 d, .int .u64 T, .int .u64 S, .int .u64 m, .int .i64 l, .int .i64 q, .int .i64 z] 32) = W0 at *
  have HU := hide fun (u : World) (hb : Below W0.heap.size W0 u) => (hM0.keep hb hM0.lt).cells
  have HB0 := hide hb0
  clear hM0 hb0
  refine (HBD.out _).mono ?_
  rintro e w1 ⟨rfl, hb1⟩
  have HD1 := hide hb1
  obtain ⟨s0, s1, s2, s3, s4, s5, s6, s7, s8, s9, s10, s11⟩ := HU.out _ hb1
  clear hb1
  go_wp2_with fail
  refine (HC.out _).mono ?_
  rintro e w2 ⟨rfl, hb2⟩
  have HD2 := hide (below_then HD1.out hb2)
  clear hb2 s0 s1 s2 s3 s4 s5 s6 s7 s8 s9 s10 s11
  go_wp2_with fail
  refine (num25_any _ _).mono ?_
  rintro e w' ⟨rfl, rfl⟩
  go_wp2_with fail
  refine (knows25_any _).mono ?_
  rintro e w3 ⟨rfl, hb3⟩
  have HD3 := hide (below_then HD2.out hb3)
  clear hb3
  go_wp2_with fail
  refine (HBX.out _ (HX.out.below (below_then HB0.out HD3.out))).mono ?_
  rintro e w4 ⟨v4, rfl, ho4, hb4⟩
  obtain ⟨a4, c4, rfl, r4, _⟩ := ho4.rowN HLA.out
  have HD4 := hide (below_then HD3.out hb4)
  have HR4 := hide r4
  clear ho4 r4 hb4
  go_wp2_with fail
  refine (HBY.out _ (HY.out.below (below_then HB0.out HD4.out))).mono ?_
  rintro e w5 ⟨v5, rfl, ho5, hb5⟩
  obtain ⟨a5, c5, rfl, r5, _⟩ := ho5.rowN HLB.out
  have HD5 := hide (below_then HD4.out hb5)
  have HR45 := hide (HR4.out.below hb5)
  have HR5 := hide r5
  clear ho5 r5 hb5
  obtain ⟨s0, s1, s2, s3, s4, s5, s6, s7, s8, s9, s10, s11⟩ := HU.out _ HD5.out
  go_wp2_with fail
  refine (HWX.out _ _ _ HR45.out).mono ?_
  rintro e w6 ⟨v6, rfl, ho6, hb6⟩
  obtain ⟨a6, c6, rfl, r6, _⟩ := ho6.rowN HLU.out
  have HD6 := hide (below_then HD5.out hb6)
  have HR46 := hide (HR45.out.below hb6)
  have HR56 := hide (HR5.out.below hb6)
  have HR6 := hide r6
  clear ho6 r6 hb6 s0 s1 s2 s3 s4 s5 s6 s7 s8 s9 s10 s11
  obtain ⟨s0, s1, s2, s3, s4, s5, s6, s7, s8, s9, s10, s11⟩ := HU.out _ HD6.out
  go_wp2_with fail
  refine (HWY.out _ _ _ HR56.out).mono ?_
  rintro e w7 ⟨v7, rfl, ho7, hb7⟩
  obtain ⟨a7, c7, rfl, r7, _⟩ := ho7.rowN HLV.out
  have HD7 := hide (below_then HB0.out (below_then HD6.out hb7))
  have HR47 := hide (HR46.out.below hb7)
  have HR57 := hide (HR56.out.below hb7)
  have HR67 := hide (HR6.out.below hb7)
  have HR7 := hide r7
  clear ho7 r7 hb7 s0 s1 s2 s3 s4 s5 s6 s7 s8 s9 s10 s11 HD1 HD2 HD3 HD4 HD5 HD6 HBX HBY HWX HWY HBD HC
  go_wp2_with fail
  refine (num25_any _ _).mono ?_
  rintro e w' ⟨rfl, rfl⟩
  go_wp2_with fail
  refine (num25_any _ _).mono ?_
  rintro e w' ⟨rfl, rfl⟩
  go_wp2_with fail
  go_loopw [19] (fun i u => ∃ k : Nat, k ≤ N ∧ i = .int .i64 k ∧ Hid (OneSt w7 u w7.heap.size (w7.heap.size + 1) (fun i => absD (a0.getD i 0) (b0.getD i 0)) (fun i => absD (u0.getD i 0) (v0.getD i 0)) k)) (fun i _ => N - (intOf i).toNat)
  case atStart => exact ⟨0, Nat.zero_le _, rfl, hide (one_start w7 _ _)⟩
  case round =>
    rename World => wr
    obtain ⟨k, hk, rfl, hs⟩ := hrel
    by_cases hlt : k < N
    · obtain ⟨b4, o4, rfl, _, e4⟩ := (HR47.out.below hs.out.below).at_ (i := k) (by rw [HLA.out]; exact hlt)
      obtain ⟨b5, o5, rfl, _, e5⟩ := (HR57.out.below hs.out.below).at_ (i := k) (by rw [HLB.out]; exact hlt)
      obtain ⟨b6, o6, rfl, _, e6⟩ := (HR67.out.below hs.out.below).at_ (i := k) (by rw [HLU.out]; exact hlt)
      obtain ⟨b7, o7, rfl, _, e7⟩ := (HR7.out.below hs.out.below).at_ (i := k) (by rw [HLV.out]; exact hlt)
      have ha := HLVA.out k hlt
      have hb := HLVB.out k hlt
      have hu := HUA.out k hlt
      have hv := HUB.out k hlt
      have hx16 := absD_lt ha hb
      have hy16 := absD_lt hu hv
      have hmx := absD_max (a0.getD k 0) (b0.getD k 0)
      have hmy := absD_max (u0.getD k 0) (v0.getD k 0)
      have HFX := hide (show (fun i => absD (a0.getD i 0) (b0.getD i 0)) k = absD (a0.getD k 0) (b0.getD k 0) from rfl)
      have HFY := hide (show (fun i => absD (u0.getD i 0) (v0.getD i 0)) k = absD (u0.getD k 0) (v0.getD k 0) from rfl)
      have HNX := hide fun (n : Nat) => (hs.out.drewN n).next HFX.out HFY.out
      obtain ⟨cA, cB, fA, fB⟩ := hs.out.cells (x := absD (a0.getD k 0) (b0.getD k 0)) (y := absD (u0.getD k 0) (v0.getD k 0)) (by omega) (by omega)
      have hhx := hist_le (fun i => absD (a0.getD i 0) (b0.getD i 0)) k (absD (a0.getD k 0) (b0.getD k 0))
      have hhy := hist_le (fun i => absD (u0.getD i 0) (v0.getD i 0)) k (absD (u0.getD k 0) (v0.getD k 0))
      have HG := hide (show OneSt w7 wr w7.heap.size (w7.heap.size + 1) (fun i => absD (a0.getD i 0) (b0.getD i 0)) (fun i => absD (u0.getD i 0) (v0.getD i 0)) k from hs.out)
      generalize hfe : (fun i => absD (a0.getD i 0) (b0.getD i 0)) = f at *
      generalize hge : (fun i => absD (u0.getD i 0) (v0.getD i 0)) = g at *
      clear hfe hge
      generalize absD (a0.getD k 0) (b0.getD k 0) = x at *
      generalize absD (u0.getD k 0) (v0.getD k 0) = y at *
      generalize a0.getD k 0 = ya at *
      generalize b0.getD k 0 = yb at *
      generalize u0.getD k 0 = yu at *
      generalize v0.getD k 0 = yv at *
      generalize hist f k x = hfx at *
      generalize hist g k y = hgy at *
      have g1 : decide ((L : Int) ≤ yu) = false := decide_eq_false (by omega)
      have g2 : decide ((L : Int) ≤ yv) = false := decide_eq_false (by omega)
      have i1 : (0 : Int) ≤ k := by omega
      have i2 : (k : Int) < N := by omega
      have i3 : (0 : Int) ≤ x := by omega
      have i4 : (x : Int) < 16 := by omega
      have i5 : (0 : Int) ≤ y := by omega
      have i6 : (y : Int) < 16 := by omega
      have w1 : IntKind.i64.wrap ((ya : Int) - yb) = (ya : Int) - yb := IntWalk.i64_in _ ⟨by omega, by omega⟩
      have w2 : IntKind.i64.wrap ((yu : Int) - yv) = (yu : Int) - yv := IntWalk.i64_in _ ⟨by omega, by omega⟩
      clear hs
      go_wp2_with fail
      go_quiet (fail)
      go_wp2_with fail
      go_quiet (fail)
      go_wp2_with fail
      go_roundw
      case rel => exact ⟨k + 1, by omega, by simp, hide (HNX.out _)⟩
      case measure => simp [intOf]; omega
    · obtain rfl : k = N := by omega
      have ha := hs.out.ha
      have hb := hs.out.hb
      rw [← HHI.out] at hb
      have HBL := hide hs.out.below
      have HLN := hide (histL_length (fun i => absD (a0.getD i 0) (b0.getD i 0)) k)
      generalize histL (fun i => absD (a0.getD i 0) (b0.getD i 0)) k = hl16 at *
      obtain ⟨h0, h1, h2, h3, h4, h5, h6, h7, h8, h9, h10, h11, h12, h13, h14, h15, rfl⟩ := list16 (l := hl16) (by have := HLN.out; exact this)
      have qa := cells_sixteen ha
      have qb := cells_sixteen hb
      obtain ⟨qa0, qa1, qa2, qa3, qa4, qa5, qa6, qa7, qa8, qa9, qa10, qa11, qa12, qa13, qa14, qa15⟩ := qa
      obtain ⟨qb0, qb1, qb2, qb3, qb4, qb5, qb6, qb7, qb8, qb9, qb10, qb11, qb12, qb13, qb14, qb15⟩ := qb
      have eqw := eq_sixteen 9998 h0 h1 h2 h3 h4 h5 h6 h7 h8 h9 h10 h11 h12 h13 h14 h15
      clear ha hb hs
      go_wp2_with fail
      go_ret
      exact ⟨rfl, HD7.out.trans (HBL.out.mono HD7.out.size)⟩
theorem law_mone (K R : Int) (a b c : Nat) (D : Int) (T S m : Nat) (l q z : Int) (hA : a ≤ 4294967295) (hB : b ≤ 4294967295) (hC : c ≤ 4294967295) (hT : T ≤ 18446744073709551615) (hS : S ≤ 18446744073709551615) (hM : m ≤ 18446744073709551615) (lev : Int) (ad : Option Addr) (cap : Nat) (xs : List Nat) (hl : xs.length ≤ 140737488351232) (h8 : ∀ i, xs.getD i 0 ≤ 255)
    (ad2 : Option Addr) (cap2 : Nat) (ys : List Nat) (hl2 : ys.length ≤ 140737488351232) (h82 : ∀ i, ys.getD i 0 ≤ 255) (w : World) (hx : RowA w ad xs) (hy : RowA w ad2 ys) :
    Calls Try.prog 7 #[.agg #[.int .i64 K, .int .i64 R, .int .u32 a, .int .u32 b, .int .u32 c, .int .i64 D, .int .u64 T, .int .u64 S, .int .u64 m, .int .i64 l, .int .i64 q, .int .i64 z], .int .i64 lev, .slice ad xs.length cap, .slice ad2 ys.length cap2] w fun e w' => e = .returned (.bool true) ∧ Below w.heap.size w w' := by
  by_cases h : modE K R a b c D T S m l q z = 0
  · obtain ⟨n, r, d, l', q', z', rfl, rfl, rfl, rfl, rfl, rfl, hg⟩ := modE_gmod K R a b c D T S m l q z hA hB hC hT hS hM h
    exact one_good n r a b c d T S m l' q' z' hg lev ad cap xs hl h8 ad2 cap2 ys hl2 h82 w hx hy
  · exact one_bad K R a b c D T S m l q z hA hB hC hT hS h lev _ _ w
end Go.Proofs.Ytlbfndibgojbiaa
