/- The law EncoderInverts, walked: it returns true. -/
import Derived.Test.YtmmngcjnofcmmaaRows
import Derived.Test.YtmmngcjnofcmmaaR6Inv
import Derived.Test.YtmmngcjnofcmmaaLive
import Derived.Test.YtmmngcjnofcmmaaThreee
import Derived.Test.YtmmngcjnofcmmaaApartWe
namespace Go.Proofs.Ytmmngcjnofcmmaa
open Go.RowKit

theorem Oat.wide {w : World} {lo hi hi' : Nat} {v : Value} {xs : List Nat} (h : Oat w lo hi v xs) (hle : hi ≤ hi') : Oat w lo hi' v xs := ⟨h.own, fun q hq => Nat.lt_of_lt_of_le (h.hi q hq) hle⟩
set_option maxRecDepth 100000 in
set_option maxHeartbeats 2000000 in
theorem law_inverts (K R : Int) (a b c : Nat) (hA : a ≤ 4294967295) (hB : b ≤ 4294967295) (hC : c ≤ 4294967295) (ad : Option Addr) (cap : Nat) (S : List Nat) (hl : S.length ≤ 140737488351232) (w : World) (hx : RowA w ad S) :
    Calls Try.prog 6 #[.agg #[.int .i64 K, .int .i64 R, .int .u32 a, .int .u32 b, .int .u32 c], .slice ad S.length cap] w fun e w' => e = .returned (.bool true) ∧ Below w.heap.size w w' := by
  have H1 := hide fun ad cap (hc : S.length ≤ cap) w hx => lmember_any K R a b c hA hB hC ad cap S hl hc w hx
  have H2 := hide fun ad cap w hx => rmember_any K R a b c hA hB hC ad cap S hl w hx
  have H3 := hide fun ad cap (hc : S.length ≤ cap) w hx => invert_any K R a b c hA hB hC ad cap S hl hc w hx
  have H4 := hide fun ad cap w hx => rinvert_any K R a b c hA hB hC ad cap S hl w hx
  have hAl := invO_length K R a b c S
  have HX := hide hx
  have HO := hide (fun u (h : RowA u ad S) => own_any ad cap S hl u h)
  generalize memB K R a b c S = mb at *
  generalize rdE K R a b c S = rd at *
  generalize invE K R a b c S = iv at *
  generalize invO K R a b c S = A at *
  clear hx
  go_enter Try.func6, Try.ntmps6
  go_wp2_with fail
  refine (HO.out _ (HX.out.alloc _)).mono ?_
  rintro e w1 ⟨L0, cl, rfl, ho1, hb1⟩
  have HC1 := hide ((CodeB.new w K R a b c).keep hb1 (by simp))
  have HO1 := hide ho1
  have hcl : S.length ≤ cl := by have := ho1.lt.2.2.1; omega
  have HG1 := hide (show Oat w1 (w.heap.size + 1) w1.heap.size (.slice (some ⟨L0, 0, none⟩) S.length cl) S from Oat.new (by have := OwnB.prefix ho1 rfl; simpa using this))
  have HB1 := hide (below_one hb1)
  have hl1 := HC1.out.lt
  obtain ⟨q0, q1, q2, q3, q4⟩ := HC1.out.cells
  clear ho1 hb1
  go_wp2_with fail
  refine (H1.out _ _ hcl _ HO1.out.rowx).mono ?_
  rintro e w2 ⟨rfl, hb2⟩
  have z2 := hb2.size
  have HC2 := hide (HC1.out.keep hb2 hl1)
  have HO2 := hide (HO1.out.below hb2)
  have HG2 := hide (HG1.out.below hb2)
  have HB2 := hide (below_then HB1.out hb2)
  have hl2 : w.heap.size < w2.heap.size := by omega
  clear hb2 q0 q1 q2 q3 q4
  obtain ⟨q0, q1, q2, q3, q4⟩ := HC2.out.cells
  go_wp2_with fail
  refine (H2.out _ _ _ (HX.out.below HB2.out)).mono ?_
  rintro e w3 ⟨rfl, hb3⟩
  have z3 := hb3.size
  have HC3 := hide (HC2.out.keep hb3 hl2)
  have HO3 := hide (HO2.out.below hb3)
  have HG3 := hide (HG2.out.below hb3)
  have HB3 := hide (below_then HB2.out hb3)
  have hl3 : w.heap.size < w3.heap.size := by omega
  clear hb3 q0 q1 q2 q3 q4
  obtain ⟨q0, q1, q2, q3, q4⟩ := HC3.out.cells
  go_wp2_with fail
  refine (H3.out _ _ hcl _ HO3.out.rowx).mono ?_
  rintro e w4 ⟨va, rfl, hoa, hb4⟩
  have z4 := hb4.size
  obtain ⟨aa, ca, rfl, ra⟩ := hoa.row
  have HC4 := hide (HC3.out.keep hb4 hl3)
  have HO4 := hide (HO3.out.below hb4)
  have HG4 := hide (HG3.out.below hb4)
  have HB4 := hide (below_then HB3.out hb4)
  have HA4 := hide (Oat.new hoa)
  have RA4 := hide ra
  have hl4 : w.heap.size < w4.heap.size := by omega
  clear hoa hb4 ra q0 q1 q2 q3 q4
  obtain ⟨q0, q1, q2, q3, q4⟩ := HC4.out.cells
  go_wp2_with fail
  refine (H3.out _ _ hcl _ HO4.out.rowx).mono ?_
  rintro e w5 ⟨vb, rfl, hob, hb5⟩
  have z5 := hb5.size
  obtain ⟨ab, cb, rfl, rb⟩ := hob.row
  have HC5 := hide (HC4.out.keep hb5 hl4)
  have HO5 := hide (HO4.out.below hb5)
  have HG5 := hide (HG4.out.below hb5)
  have HB5 := hide (below_then HB4.out hb5)
  have HA5 := hide (HA4.out.below hb5)
  have RA5 := hide (RA4.out.below hb5)
  have HBB5 := hide (Oat.new hob)
  have RB5 := hide rb
  have hl5 : w.heap.size < w5.heap.size := by omega
  clear hob hb5 rb q0 q1 q2 q3 q4
  obtain ⟨q0, q1, q2, q3, q4⟩ := HC5.out.cells
  go_wp2_with fail
  refine (H4.out _ _ _ (HX.out.below HB5.out)).mono ?_
  rintro e w6 ⟨vx, rfl, hox, hb6⟩
  have z6 := hb6.size
  obtain ⟨ax, cx, rfl, rx⟩ := hox.row
  have HO6 := hide (HO5.out.below hb6)
  have HG6 := hide (HG5.out.below hb6)
  have HB6 := hide (below_then HB5.out hb6)
  have HA6 := hide (HA5.out.below hb6)
  have RA6 := hide (RA5.out.below hb6)
  have HBB6 := hide (HBB5.out.below hb6)
  have RB6 := hide (RB5.out.below hb6)
  have RX6 := hide rx
  have HX6 := hide (HX.out.below HB6.out)
  clear hox hb6 rx q0 q1 q2 q3 q4
  have hthree := three_own (B := w.heap.size) (HG6.out.wide (hi' := w3.heap.size) (by omega)) HA6.out HBB6.out (by omega) ⟨by omega, by omega, by omega⟩ (by omega) 26
  have hfb : ∀ i, i < 3 → ∀ k, (three (Value.slice aa A.length ca) (Value.slice ab A.length cb) (Value.slice (some ⟨L0, 0, none⟩) S.length cl) i).ownBlock = some k → w.heap.size ≤ k := fun i hi k e => by
    rcases three_cases hi with rfl | rfl | rfl
    · have := (HA6.out.own.lt (g := k) e).1; omega
    · have := (HBB6.out.own.lt (g := k) e).1; omega
    · have := (HG6.out.own.lt (g := k) e).1; omega
  have HFB := hide hfb
  have HAP := hide (apart_any w.heap.size w6.heap.size 3 3 _ _ (by omega) (fun i hi => by
    rcases three_cases hi with rfl | rfl | rfl <;> simp [three] <;> omega) _ hthree)
  clear hthree hfb
  cases mb
  all_goals (
    go_wp2_with fail
    refine (num_any _ _).mono ?_
    rintro e w' ⟨rfl, rfl⟩
    go_wp2_with fail
    refine (same_yes _ _ _ _ _ _ A rfl rfl _ RA6.out RX6.out).mono ?_
    rintro e w' ⟨rfl, rfl⟩
    go_wp2_with fail
    refine (same_yes _ _ _ _ _ _ A rfl rfl _ RB6.out RX6.out).mono ?_
    rintro e w' ⟨rfl, rfl⟩
    go_wp2_with fail
    refine (num_any _ _).mono ?_
    rintro e w' ⟨rfl, rfl⟩
    go_wp2_with fail
    refine (kept_any _ _ _ _ _ S hl _ HO6.out HX6.out).mono ?_
    rintro e w' ⟨rfl, rfl⟩
    go_wp2_with fail
    refine HAP.out.mono ?_
    rintro e w7 ⟨rfl, hm⟩
    have HB7 := hide (Mny.then_ (HB6.out.alloc HB6.out.size _) hm (fun i k hi e => HFB.out i hi k e) (by simp; omega))
    clear hm
    go_wp2_with fail
    refine (live_any _).mono ?_
    rintro e w8 ⟨rfl, hb8⟩
    go_wp2_with fail
    go_ret
    exact ⟨rfl, below_then HB7.out hb8⟩)
end Go.Proofs.Ytmmngcjnofcmmaa
