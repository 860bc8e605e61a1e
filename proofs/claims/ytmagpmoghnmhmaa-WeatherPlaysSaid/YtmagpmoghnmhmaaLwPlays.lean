/- The law WeatherPlays, walked: it returns true. -/
import Derived.Test.YtmagpmoghnmhmaaRows
import Derived.Test.YtmagpmoghnmhmaaWAsks2
import Derived.Test.YtmagpmoghnmhmaaLwSpells
import Derived.Test.YtmagpmoghnmhmaaLwNil
namespace Go.Proofs.Ytmagpmoghnmhmaa
open Go.RowKit

/-- both weathers at the same place, or neither -/
def APair (u : World) (px pd : Option Addr) (lo hi : Nat) : Prop :=
  (lo ≤ hi ∧ hi ≤ u.heap.size) ∧ ((px = none ∧ pd = none) ∨ ∃ (x bn g d : Nat) (p : Gf2.Wp) (S0 N : Nat), px = some ⟨x, 0, none⟩ ∧ pd = some ⟨d, 0, none⟩ ∧ PairG u x bn g d lo hi p S0 N N)
section
variable {u v : World} {px pd : Option Addr} {lo hi : Nat}
theorem APair.span {l2 h2 : Nat} (h : APair u px pd lo hi) (hs : Span l2 h2 u v) (hr : hi ≤ l2 ∨ h2 ≤ lo) : APair v px pd lo hi := by
  refine ⟨⟨h.1.1, Nat.le_trans h.1.2 hs.size⟩, ?_⟩
  rcases h.2 with h | ⟨x, bn, g, d, p, S0, N, h1, h2, h3⟩
  · exact .inl h
  · exact .inr ⟨x, bn, g, d, p, S0, N, h1, h2, h3.span hs hr⟩
theorem APair.below (h : APair u px pd lo hi) (hb : Below u.heap.size u v) : APair v px pd lo hi :=
  h.span (l2 := hi) (h2 := lo) ((Span.refl _ _ _).below hb) (.inl (Nat.le_refl _))
theorem aasks_any (k n : Int) (ai : Option Addr) (ci : Nat) (xs : List Nat) (hl : xs.length ≤ 140737488351232) (h8 : ∀ i, i < xs.length → xs.getD i 0 ≤ 255) (hx : RowA u ai xs) (hai : 0 < xs.length → ∀ b off, ai = some ⟨b, off, none⟩ → b < lo) (h : APair u px pd lo hi) :
    Calls Try.prog 15 #[.pointer px, .pointer pd, .agg #[.int .i64 k, .int .i64 n, .slice ai xs.length ci]] u fun e w' => e = .returned (.bool true) ∧ APair w' px pd lo hi ∧ Span lo hi u w' := by
  have h1 := h.1
  rcases h.2 with ⟨rfl, rfl⟩ | ⟨x, bn, g, d, p, S0, N, rfl, rfl, h3⟩
  · refine (asksn_any none k n ai ci xs hl h8 u hx (.inl rfl)).mono ?_
    rintro e w' ⟨rfl, hb⟩
    exact ⟨rfl, h.below hb, (Span.refl _ _ _).below hb⟩
  · refine (asksw_any k n ai ci xs hl h8 u hx hai h3).mono ?_
    rintro e w' ⟨rfl, ⟨N', hp⟩, hs⟩
    exact ⟨rfl, ⟨⟨h1.1, hp.hh⟩, .inr ⟨x, bn, g, d, p, S0, N', rfl, rfl, hp⟩⟩, hs⟩
theorem alooks_any (h : APair u px pd lo hi) :
    Calls Try.prog 13 #[.pointer px, .pointer pd] u fun e w' => e = .returned (.bool true) ∧ u = w' := by
  rcases h.2 with ⟨rfl, rfl⟩ | ⟨x, bn, g, d, p, S0, N, rfl, rfl, h3⟩
  · exact looksn_any none u (.inl rfl)
  · exact plooks_any u h3
end
theorem RowA.blk {w : World} {ad : Option Addr} {xs : List Nat} (h : RowA w ad xs) (h0 : 0 < xs.length) : ∀ b off, ad = some ⟨b, off, none⟩ → b < w.heap.size := fun b off e => by
  obtain ⟨b', off', e', hb, _⟩ := h h0
  rw [e] at e'
  cases e'
  exact hb
theorem pair_new {u w0 : World} {x bn g d lo : Nat} {p : Gf2.Wp} {S : Nat} (hs : WSt w0 x bn g p S (S, false) 0) (hb : Below w0.heap.size w0 u) (hd : RWB u d p S false 0) (hg : GoodL p.D p.T S) (hl : lo ≤ x ∧ lo ≤ bn ∧ lo ≤ g) (hdd : w0.heap.size ≤ d) : PairG u x bn g d lo u.heap.size p S 0 0 := by
  have lt := hs.lt
  have ld := hd.lt
  have hz := hb.size
  refine ⟨hs.below hb lt, hd, hg, ⟨hl.1, hl.2.1, hl.2.2, by omega⟩, ⟨by omega, by omega, by omega, ld⟩, ⟨by omega, by omega, by omega⟩, Nat.le_refl _⟩
set_option maxRecDepth 100000 in
set_option maxHeartbeats 4000000 in
theorem plays_core (D : Int) (T S : Nat) (W B C M : Int) (c : Int) (pp : Gf2.Wp) (SS : Nat) (hgd : c = 0 → GoodL pp.D pp.T SS)
    (hN : ∀ w, Calls Try.prog 9 #[.agg #[.int .i64 D, .int .u64 T, .int .u64 S, .int .i64 W, .int .i64 B, .int .i64 C, .int .i64 M]] w fun e w' => ∃ px, e = .returned (.tuple #[.pointer px, .int .i64 c]) ∧ ((px = none ∧ c ≠ 0) ∨ (∃ x bn g, px = some ⟨x, 0, none⟩ ∧ c = 0 ∧ WSt w' x bn g pp SS (SS, false) 0 ∧ (w.heap.size ≤ x ∧ w.heap.size ≤ bn ∧ w.heap.size ≤ g))) ∧ Below w.heap.size w w')
    (hR : ∀ w, Calls Try.prog 10 #[.agg #[.int .i64 D, .int .u64 T, .int .u64 S, .int .i64 W, .int .i64 B, .int .i64 C, .int .i64 M]] w fun e w' => ∃ px, e = .returned (.tuple #[.pointer px, .int .i64 c]) ∧ ((px = none ∧ c ≠ 0) ∨ (∃ d, px = some ⟨d, 0, none⟩ ∧ c = 0 ∧ RWB w' d pp SS false 0 ∧ w.heap.size ≤ d)) ∧ Below w.heap.size w w')
    (A1 : Option Addr) (l1 c1 : Nat) (hl1 : l1 ≤ 140737488351232) (A2 : Option Addr) (l2 c2 : Nat) (hl2 : l2 ≤ 140737488351232) (w : World) (ho1 : OpsA w A1 l1) (ho2 : OpsA w A2 l2) :
    Calls Try.prog 3 #[.agg #[.int .i64 D, .int .u64 T, .int .u64 S, .int .i64 W, .int .i64 B, .int .i64 C, .int .i64 M], .slice A1 l1 c1, .slice A2 l2 c2] w fun e w' => e = .returned (.bool true) ∧ Below w.heap.size w w' := by
  have HOP1 := hide ho1
  have HOP2 := hide ho2
  have HN := hide hN
  have HR := hide hR
  have HGD := hide hgd
  have HPN := hide (wnew_good plainP 1 plain_good plain_ok)
  have HPR := hide (rnew_good plainP 1 plain_good plain_ok)
  have e0 : (#[.agg #[.int .i64 plainP.D, .int .u64 plainP.T, .int .u64 (1 : Nat), .int .i64 plainP.W, .int .i64 plainP.B, .int .i64 plainP.C, .int .i64 plainP.M]] : Array Value) = #[.agg #[.int .i64 3, .int .u64 3, .int .u64 1, .int .i64 160, .int .i64 100, .int .i64 0, .int .i64 100]] := rfl
  rw [e0] at HPN HPR
  clear e0 ho1 ho2 hN hR hgd
  go_enter Try.func3, Try.ntmps3
  go_wp2_with fail
  refine (HN.out _).mono ?_
  rintro e w1 ⟨px, rfl, hq1, hb1⟩
  have HQ1 := hide hq1
  have HX1 := hide (show Box7 w1 w.heap.size D T S W B C M from ⟨_, (hb1.block w.heap.size (by simp)).trans (heap_alloc_new w _)⟩)
  have HB1 := hide (below_one hb1)
  obtain ⟨lt1, q0, q1, q2, q3, q4, q5, q6⟩ := HX1.out.cells
  clear hb1 hq1
  go_wp2_with fail
  refine (HR.out _).mono ?_
  rintro e w2 ⟨pd, rfl, hq2, hb2⟩
  have HB2 := hide (below_then HB1.out hb2)
  have hap : APair w2 px pd w.heap.size w2.heap.size := by
    refine ⟨⟨HB2.out.size, Nat.le_refl _⟩, ?_⟩
    rcases HQ1.out with ⟨h1, h2⟩ | ⟨x, bn, g, h1, h2, h3, h4⟩
    · rcases hq2 with ⟨h5, _⟩ | ⟨_, _, h6, _⟩
      · exact .inl ⟨h1, h5⟩
      · exact absurd h6 h2
    · rcases hq2 with ⟨_, h5⟩ | ⟨d, h5, h6, h7, h8⟩
      · exact absurd h2 h5
      · simp at h4
        exact .inr ⟨x, bn, g, d, pp, SS, 0, h1, h5, pair_new h3 hb2 h7 (HGD.out h2) ⟨by omega, by omega, by omega⟩ h8⟩
  have HAP := hide hap
  clear hb2 hq2 HQ1 hap q0 q1 q2 q3 q4 q5 q6
  go_wp2_with fail
  refine (plain_any _).mono ?_
  rintro e w3 ⟨rfl, hb3⟩
  have HB3 := hide (below_then HB2.out hb3)
  have HAP3 := hide (HAP.out.below hb3)
  have hz3 := hb3.size
  clear hb3
  go_wp2_with fail
  refine (HPN.out _).mono ?_
  rintro e w4 ⟨y, bn2, g2, rfl, hs4, hy4, hb4⟩
  have HB4 := hide (below_then HB3.out hb4)
  have HAP4 := hide (HAP3.out.below hb4)
  have HS4 := hide hs4
  have HY4 := hide hy4
  clear hb4 hs4 hy4
  go_wp2_with fail
  refine (plain_any _).mono ?_
  rintro e w5 ⟨rfl, hb5⟩
  have HB5 := hide (below_then HB4.out hb5)
  have HAP5 := hide (HAP4.out.below hb5)
  have HS5 := hide (hb5)
  clear hb5
  go_wp2_with fail
  refine (HPR.out _).mono ?_
  rintro e w6 ⟨v, rfl, hr6, hv6, hb6⟩
  have HB6 := hide (below_then HB5.out hb6)
  have HAP6 := hide (HAP5.out.below hb6)
  have hap2 : APair w6 (some ⟨y, 0, none⟩) (some ⟨v, 0, none⟩) w3.heap.size w6.heap.size := by
    refine ⟨⟨by have := HS4.out.lt; have := HY4.out; have := HS5.out.size; have := hb6.size; omega, Nat.le_refl _⟩, .inr ⟨y, bn2, g2, v, plainP, 1, 0, rfl, rfl, ?_⟩⟩
    exact pair_new HS4.out (below_then HS5.out hb6) hr6 plain_good HY4.out (by have := HS5.out.size; omega)
  have HBP6 := hide hap2
  clear hb6 hr6 hap2 HAP HAP3 HAP4 HAP5 HS4 HS5 HB1 HB2 HB3 HB4 HB5 HX1 HGD HN HR HPN HPR
  go_wp2_with fail
  refine (num_any _ _).mono ?_
  rintro e w' ⟨rfl, rfl⟩
  have hcase : (px = none ∧ pd = none) ∨ (∃ x d : Nat, px = some ⟨x, 0, none⟩ ∧ pd = some ⟨d, 0, none⟩) := by
    rcases HAP6.out.2 with h | ⟨x, bn, g, d, p, S0, N, h1, h2, _⟩
    · exact .inl h
    · exact .inr ⟨x, d, h1, h2⟩
  obtain ⟨PX, hPX⟩ : ∃ q, q = px := ⟨_, rfl⟩
  obtain ⟨PD, hPD⟩ : ∃ q, q = pd := ⟨_, rfl⟩
  have HPX := hide hPX
  have HPD := hide hPD
  clear hPX hPD
  rcases hcase with ⟨rfl, rfl⟩ | ⟨x, d, rfl, rfl⟩
  all_goals (
    go_wp2_with fail
    refine (num_any _ _).mono ?_
    rintro e w' ⟨rfl, rfl⟩
    go_wp2_with fail
    refine (alooks_any HAP6.out).mono ?_
    rintro e w' ⟨rfl, rfl⟩
    go_wp2_with fail
    refine (knows_any _).mono ?_
    rintro e w7 ⟨rfl, hb7⟩
    have HB7 := hide (below_then HB6.out hb7)
    have HAP7 := hide (HAP6.out.below hb7)
    have HBP7 := hide (HBP6.out.below hb7)
    clear hb7 HB6 HAP6 HBP6
    go_wp2_with fail
    go_loopw [15] (fun i u => ∃ (k : Nat), k ≤ l1 + l2 ∧ i = .int .i64 k ∧ Hid (APair u PX PD w.heap.size w2.heap.size) ∧ Hid (APair u (some ⟨y, 0, none⟩) (some ⟨v, 0, none⟩) w3.heap.size w6.heap.size) ∧ Hid (Below w.heap.size w u)) (fun i _ => l1 + l2 - (intOf i).toNat)
    case atStart => exact ⟨0, by omega, rfl, hide (by rw [HPX.out, HPD.out]; exact HAP7.out), HBP7, HB7⟩
    case round =>
      rename World => wr
      obtain ⟨k, hk, rfl, hA, hB, hbl⟩ := hrel
      have hA0 := hA.out
      rw [HPX.out, HPD.out] at hA0
      clear hA
      have hA := hide hA0
      clear hA0
      clear HB7 HAP7 HBP7
      by_cases a1 : k < l1
      · obtain ⟨b, off, had, hbw, kk, n, ai, ci, xs, hop⟩ := HOP1.out k a1
        have hop1 := hop.below hbl.out hbw
        have HA := hide (aasks_any kk n ai ci xs hop.len hop.small hop1.row (hop.row.blk) hA.out)
        have q0 := hop1.c0
        have q1 := hop1.c1
        have q2 := hop1.c2
        subst had
        clear hop1 hop
        by_cases a2 : k < l2
        · go_wp2_with fail
          refine HA.out.mono ?_
          rintro e w8 ⟨rfl, hA8, hs8⟩
          have HA8 := hide hA8
          have HB8 := hide (hB.out.span hs8 (.inr hz3))
          have hbl8 := hs8.toBelow hbl.out (Nat.le_refl _) hbl.out.size
          have HL8 := hide hbl8
          obtain ⟨b2, off2, had2, hbw2, kk2, n2, ai2, ci2, xs2, hop2⟩ := HOP2.out k a2
          have hop3 := hop2.below hbl8 hbw2
          have HC := hide (aasks_any kk2 n2 ai2 ci2 xs2 hop2.len hop2.small hop3.row (fun h0 b off e => by have := hop2.row.blk h0 b off e; have := HA8.out.1.1; omega) HB8.out)
          have p0 := hop3.c0
          have p1 := hop3.c1
          have p2 := hop3.c2
          subst had2
          clear hop3 hop2 hA8 hs8 hbl8 q0 q1 q2
          go_wp2_with fail
          refine HC.out.mono ?_
          rintro e w9 ⟨rfl, hB9, hs9⟩
          have HB9 := hide hB9
          have HA9 := hide (HA8.out.span hs9 (.inl hz3))
          have HL9 := hide (hs9.toBelow HL8.out (by have := HA8.out.1.1; omega) HL8.out.size)
          clear hB9 hs9
          go_wp2_with fail
          go_roundw
          case rel => exact ⟨k + 1, by omega, by simp, hide (by rw [HPX.out, HPD.out]; exact HA9.out), HB9, HL9⟩
          case measure => simp [intOf]; omega
        · go_wp2_with fail
          refine HA.out.mono ?_
          rintro e w8 ⟨rfl, hA8, hs8⟩
          have HA8 := hide hA8
          have HB8 := hide (hB.out.span hs8 (.inr hz3))
          have HL8 := hide (hs8.toBelow hbl.out (Nat.le_refl _) hbl.out.size)
          clear hA8 hs8 q0 q1 q2
          go_wp2_with fail
          go_roundw
          case rel => exact ⟨k + 1, by omega, by simp, hide (by rw [HPX.out, HPD.out]; exact HA8.out), HB8, HL8⟩
          case measure => simp [intOf]; omega
      · by_cases a2 : k < l2
        · obtain ⟨b2, off2, had2, hbw2, kk2, n2, ai2, ci2, xs2, hop2⟩ := HOP2.out k a2
          have hop3 := hop2.below hbl.out hbw2
          have HC := hide (aasks_any kk2 n2 ai2 ci2 xs2 hop2.len hop2.small hop3.row (fun h0 b off e => by have := hop2.row.blk h0 b off e; have := hA.out.1.1; omega) hB.out)
          have p0 := hop3.c0
          have p1 := hop3.c1
          have p2 := hop3.c2
          subst had2
          clear hop3 hop2
          go_wp2_with fail
          refine HC.out.mono ?_
          rintro e w9 ⟨rfl, hB9, hs9⟩
          have HB9 := hide hB9
          have HA9 := hide (hA.out.span hs9 (.inl hz3))
          have HL9 := hide (hs9.toBelow hbl.out (by have := hA.out.1.1; omega) hbl.out.size)
          clear hB9 hs9
          go_wp2_with fail
          go_roundw
          case rel => exact ⟨k + 1, by omega, by simp, hide (by rw [HPX.out, HPD.out]; exact HA9.out), HB9, HL9⟩
          case measure => simp [intOf]; omega
        · go_wp2_with fail
          refine (alooks_any hA.out).mono ?_
          rintro e w' ⟨rfl, rfl⟩
          go_wp2_with fail
          refine (alooks_any hB.out).mono ?_
          rintro e w' ⟨rfl, rfl⟩
          go_wp2_with fail
          go_ret
          exact ⟨rfl, hbl.out⟩)
theorem law_plays (D : Int) (T S : Nat) (W B C M : Int) (hT : T ≤ 18446744073709551615) (hS : S ≤ 18446744073709551615)
    (A1 : Option Addr) (l1 c1 : Nat) (hl1 : l1 ≤ 140737488351232) (A2 : Option Addr) (l2 c2 : Nat) (hl2 : l2 ≤ 140737488351232) (w : World) (ho1 : OpsA w A1 l1) (ho2 : OpsA w A2 l2) :
    Calls Try.prog 3 #[.agg #[.int .i64 D, .int .u64 T, .int .u64 S, .int .i64 W, .int .i64 B, .int .i64 C, .int .i64 M], .slice A1 l1 c1, .slice A2 l2 c2] w fun e w' => e = .returned (.bool true) ∧ Below w.heap.size w w' := by
  by_cases h0 : wchk D T S W B C M = 0
  · obtain ⟨⟨n, rfl, hg⟩, _⟩ := wchk_zero h0
    refine plays_core n T S W B C M 0 ⟨n, T, W, B, C, M⟩ S (fun _ => hg) (fun u => (wnew_good ⟨n, T, W, B, C, M⟩ S hg h0 u).mono ?_) (fun u => (rnew_good ⟨n, T, W, B, C, M⟩ S hg h0 u).mono ?_) A1 l1 c1 hl1 A2 l2 c2 hl2 w ho1 ho2
    · rintro e u' ⟨x, bn, g, rfl, hs, hb, hbl⟩; exact ⟨_, rfl, .inr ⟨x, bn, g, rfl, rfl, hs, hb⟩, hbl⟩
    · rintro e u' ⟨x, rfl, hr, hx, hbl⟩; exact ⟨_, rfl, .inr ⟨x, rfl, rfl, hr, hx⟩, hbl⟩
  · refine plays_core D T S W B C M (wchk D T S W B C M) plainP 1 (fun e => absurd e h0) (fun u => (wnew_bad D T S W B C M hT hS h0 u).mono ?_) (fun u => (rnew_bad D T S W B C M hT hS h0 u).mono ?_) A1 l1 c1 hl1 A2 l2 c2 hl2 w ho1 ho2
    · rintro e u' ⟨rfl, hb⟩; exact ⟨_, rfl, .inl ⟨rfl, h0⟩, hb⟩
    · rintro e u' ⟨rfl, hb⟩; exact ⟨_, rfl, .inl ⟨rfl, h0⟩, hb⟩
end Go.Proofs.Ytmagpmoghnmhmaa
