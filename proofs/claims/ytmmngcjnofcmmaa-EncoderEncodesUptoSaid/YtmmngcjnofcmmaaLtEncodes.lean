/- The law EncoderEncodes, walked: it returns true. -/
import Derived.Test.YtmmngcjnofcmmaaRows
import Derived.Test.YtmmngcjnofcmmaaR6Word
import Derived.Test.YtmmngcjnofcmmaaR6Prod
import Derived.Test.YtmmngcjnofcmmaaProdBad
import Derived.Test.YtmmngcjnofcmmaaLive
import Derived.Test.YtmmngcjnofcmmaaFour
import Derived.Test.YtmmngcjnofcmmaaApartWe
namespace Go.Proofs.Ytmmngcjnofcmmaa
open Go.RowKit

set_option maxRecDepth 100000 in
set_option maxHeartbeats 2000000 in
theorem encodes_core (K R : Int) (a b c : Nat) (i : Value) (xs A P : List Nat) (ce cp : Int) (hA : A.length + 64 ≤ 140737488355328) (hP : P.length + 64 ≤ 140737488355328) (hl : xs.length ≤ 1048600)
    (h1 : ∀ u ad cap, RowA u ad xs → Calls Try.prog 14 #[.agg #[.int .i64 K, .int .i64 R, .int .u32 a, .int .u32 b, .int .u32 c], .slice ad xs.length cap] u fun e u' => ∃ v, e = .returned (.tuple #[v, .int .i64 ce]) ∧ OwnB u' u.heap.size v A ∧ Below u.heap.size u u')
    (h2 : ∀ u ad cap, RowA u ad xs → Calls Try.prog 33 #[.agg #[.int .i64 K, .int .i64 R, .int .u32 a, .int .u32 b, .int .u32 c], .slice ad xs.length cap] u fun e u' => ∃ v, e = .returned (.tuple #[v, .int .i64 ce]) ∧ OwnB u' u.heap.size v A ∧ Below u.heap.size u u')
    (h3 : ∀ u ad cap, RowA u ad xs → Calls Try.prog 34 #[.agg #[.int .i64 K, .int .i64 R, .int .u32 a, .int .u32 b, .int .u32 c], .slice ad xs.length cap, i] u fun e u' => ∃ v, e = .returned (.tuple #[v, .int .i64 cp]) ∧ OwnB u' u.heap.size v P ∧ Below u.heap.size u u')
    (h4 : ∀ u ad cap, RowA u ad xs → Calls Try.prog 35 #[.agg #[.int .i64 K, .int .i64 R, .int .u32 a, .int .u32 b, .int .u32 c], .slice ad xs.length cap, i] u fun e u' => ∃ v, e = .returned (.tuple #[v, .int .i64 cp]) ∧ OwnB u' u.heap.size v P ∧ Below u.heap.size u u')
    (ad : Option Addr) (cap : Nat) (w : World) (hx : RowA w ad xs) :
    Calls Try.prog 9 #[.agg #[.int .i64 K, .int .i64 R, .int .u32 a, .int .u32 b, .int .u32 c], .slice ad xs.length cap, i] w fun e w' => e = .returned (.bool true) ∧ Below w.heap.size w w' := by
  have H1 := hide h1
  have H2 := hide h2
  have H3 := hide h3
  have H4 := hide h4
  have HX := hide hx
  have HO := hide (fun u (h : RowA u ad xs) => own_any ad cap xs (by omega) u h)
  clear h1 h2 h3 h4 hx
  go_enter Try.func9, Try.ntmps9
  go_wp2_with fail
  refine (HO.out _ (HX.out.alloc _)).mono ?_
  rintro e w1 ⟨L0, cl, rfl, ho1, hb1⟩
  have HC1 := hide ((CodeB.new w K R a b c).keep hb1 (by simp))
  have HO1 := hide ho1
  have HG1 := hide (show Oat w1 (w.heap.size + 1) w1.heap.size (.slice (some ⟨L0, 0, none⟩) xs.length cl) xs from Oat.new (by have := OwnB.prefix ho1 rfl; simpa using this))
  have HB1 := hide (below_one hb1)
  have hl1 := HC1.out.lt
  obtain ⟨q0, q1, q2, q3, q4⟩ := HC1.out.cells
  clear ho1 hb1
  go_wp2_with fail
  refine (H1.out _ _ _ HO1.out.rowx).mono ?_
  rintro e w2 ⟨va, rfl, hoa, hb2⟩
  have z2 := hb2.size
  obtain ⟨aa, ca, rfl, ra⟩ := hoa.row
  have HC2 := hide (HC1.out.keep hb2 hl1)
  have HO2 := hide (HO1.out.below hb2)
  have HG2 := hide (HG1.out.below hb2)
  have HB2 := hide (below_then HB1.out hb2)
  have HA2 := hide (Oat.new hoa)
  have RA2 := hide ra
  have hl2 : w.heap.size < w2.heap.size := by omega
  clear hoa hb2 ra q0 q1 q2 q3 q4
  obtain ⟨q0, q1, q2, q3, q4⟩ := HC2.out.cells
  go_wp2_with fail
  refine (H1.out _ _ _ HO2.out.rowx).mono ?_
  rintro e w3 ⟨vb, rfl, hob, hb3⟩
  have z3 := hb3.size
  obtain ⟨ab, cb, rfl, rb⟩ := hob.row
  have HC3 := hide (HC2.out.keep hb3 hl2)
  have HO3 := hide (HO2.out.below hb3)
  have HG3 := hide (HG2.out.below hb3)
  have HB3 := hide (below_then HB2.out hb3)
  have HA3 := hide (HA2.out.below hb3)
  have RA3 := hide (RA2.out.below hb3)
  have HBB3 := hide (Oat.new hob)
  have RB3 := hide rb
  have hl3 : w.heap.size < w3.heap.size := by omega
  clear hob hb3 rb q0 q1 q2 q3 q4
  obtain ⟨q0, q1, q2, q3, q4⟩ := HC3.out.cells
  go_wp2_with fail
  refine (H2.out _ _ _ (HX.out.below HB3.out)).mono ?_
  rintro e w4 ⟨vx, rfl, hox, hb4⟩
  have z4 := hb4.size
  obtain ⟨ax, cx, rfl, rx⟩ := hox.row
  have HC4 := hide (HC3.out.keep hb4 hl3)
  have HO4 := hide (HO3.out.below hb4)
  have HG4 := hide (HG3.out.below hb4)
  have HB4 := hide (below_then HB3.out hb4)
  have HA4 := hide (HA3.out.below hb4)
  have RA4 := hide (RA3.out.below hb4)
  have HBB4 := hide (HBB3.out.below hb4)
  have RB4 := hide (RB3.out.below hb4)
  have RX4 := hide rx
  have hl4 : w.heap.size < w4.heap.size := by omega
  clear hox hb4 rx q0 q1 q2 q3 q4
  obtain ⟨q0, q1, q2, q3, q4⟩ := HC4.out.cells
  go_wp2_with fail
  refine (H3.out _ _ _ HO4.out.rowx).mono ?_
  rintro e w5 ⟨vp, rfl, hop, hb5⟩
  have z5 := hb5.size
  obtain ⟨ap, cpp, rfl, rp⟩ := hop.row
  have HC5 := hide (HC4.out.keep hb5 hl4)
  have HO5 := hide (HO4.out.below hb5)
  have HG5 := hide (HG4.out.below hb5)
  have HB5 := hide (below_then HB4.out hb5)
  have HA5 := hide (HA4.out.below hb5)
  have RA5 := hide (RA4.out.below hb5)
  have HBB5 := hide (HBB4.out.below hb5)
  have RB5 := hide (RB4.out.below hb5)
  have RX5 := hide (RX4.out.below hb5)
  have HP5 := hide (Oat.new hop)
  have RP5 := hide rp
  have hl5 : w.heap.size < w5.heap.size := by omega
  clear hop hb5 rp q0 q1 q2 q3 q4
  obtain ⟨q0, q1, q2, q3, q4⟩ := HC5.out.cells
  go_wp2_with fail
  refine (H4.out _ _ _ (HX.out.below HB5.out)).mono ?_
  rintro e w6 ⟨vy, rfl, hoy, hb6⟩
  have z6 := hb6.size
  obtain ⟨ay, cy, rfl, ry⟩ := hoy.row
  have HO6 := hide (HO5.out.below hb6)
  have HG6 := hide (HG5.out.below hb6)
  have HB6 := hide (below_then HB5.out hb6)
  have HA6 := hide (HA5.out.below hb6)
  have RA6 := hide (RA5.out.below hb6)
  have HBB6 := hide (HBB5.out.below hb6)
  have RB6 := hide (RB5.out.below hb6)
  have RX6 := hide (RX5.out.below hb6)
  have HP6 := hide (HP5.out.below hb6)
  have RP6 := hide (RP5.out.below hb6)
  have RY6 := hide ry
  have HX6 := hide (HX.out.below HB6.out)
  clear hoy hb6 ry q0 q1 q2 q3 q4
  have hfour := four_own (B := w.heap.size) HG6.out HA6.out HBB6.out HP6.out (by omega) ⟨by omega, by omega, by omega, by omega, by omega⟩ (by omega) 26
  have hfb : ∀ i, i < 4 → ∀ k, (four (Value.slice aa A.length ca) (Value.slice ab A.length cb) (Value.slice ap P.length cpp) (Value.slice (some ⟨L0, 0, none⟩) xs.length cl) i).ownBlock = some k → w.heap.size ≤ k := fun i hi k e => by
    rcases four_cases hi with rfl | rfl | rfl | rfl
    · have := (HA6.out.own.lt (g := k) e).1; omega
    · have := (HBB6.out.own.lt (g := k) e).1; omega
    · have := (HP6.out.own.lt (g := k) e).1; omega
    · have := (HG6.out.own.lt (g := k) e).1; omega
  have HFB := hide hfb
  have HAP := hide (apart_any w.heap.size w6.heap.size 4 4 _ _ (by omega) (fun i hi => by
    rcases four_cases hi with rfl | rfl | rfl | rfl <;> simp [four] <;> omega) _ hfour)
  clear hfour hfb
  go_wp2_with fail
  refine (num_any _ _).mono ?_
  rintro e w' ⟨rfl, rfl⟩
  go_wp2_with fail
  refine (same_yes _ _ _ _ _ _ A rfl rfl _ RA6.out RX6.out).mono ?_
  rintro e w' ⟨rfl, rfl⟩
  go_wp2_with fail
  refine (same_yes _ _ _ _ _ _ A rfl rfl _ RB6.out RX6.out).mono ?_
  rintro e w' ⟨rfl, rfl⟩
  go_wp2_with fail
  refine (num_any _ _).mono ?_
  rintro e w' ⟨rfl, rfl⟩
  go_wp2_with fail
  refine (same_yes _ _ _ _ _ _ P rfl rfl _ RP6.out RY6.out).mono ?_
  rintro e w' ⟨rfl, rfl⟩
  go_wp2_with fail
  refine (kept_any _ _ _ _ _ xs (by omega) _ HO6.out HX6.out).mono ?_
  rintro e w' ⟨rfl, rfl⟩
  go_wp2_with fail
  refine HAP.out.mono ?_
  rintro e w7 ⟨rfl, hm⟩
  have HB7 := hide (Mny.then_ (HB6.out.alloc HB6.out.size _) hm (fun i k hi e => HFB.out i hi k e) (by simp; omega))
  clear hm
  go_wp2_with fail
  refine (live_any _).mono ?_
  rintro e w8 ⟨rfl, hb8⟩
  go_wp2_with fail
  go_ret
  exact ⟨rfl, below_then HB7.out hb8⟩
theorem law_encodes (K R : Int) (a b c : Nat) (hA : a ≤ 4294967295) (hB : b ≤ 4294967295) (hC : c ≤ 4294967295) (ad : Option Addr) (cap : Nat) (xs : List Nat) (i : Int) (hl : xs.length ≤ 1048576) (w : World) (hx : RowA w ad xs) :
    Calls Try.prog 9 #[.agg #[.int .i64 K, .int .i64 R, .int .u32 a, .int .u32 b, .int .u32 c], .slice ad xs.length cap, .int .i64 i] w fun e w' => e = .returned (.bool true) ∧ Below w.heap.size w w' := by
  by_cases hck : checkF K R a b c = 0
  · obtain ⟨n, rfl, h2, h31, hR⟩ := good_code hck
    obtain ⟨r, rfl, hr⟩ : ∃ r : Nat, R = r ∧ (r = 2 ∨ r = 3) := by
      rcases hR with rfl | rfl
      · exact ⟨2, rfl, .inl rfl⟩
      · exact ⟨3, rfl, .inr rfl⟩
    have hrate : rateN r = r := by rcases hr with rfl | rfl <;> rfl
    have hwl : (wordF r a b c n xs).length + 64 ≤ 140737488355328 := by
      rw [word_length, hrate]
      have := Nat.mul_le_mul (show xs.length + n ≤ 1048607 by omega) (show r ≤ 3 by omega); omega
    by_cases hb : Bits xs
    · have HE := fun u ad cap (h : RowA u ad xs) => encode_any (n + 1) r a b c hA hB hC ad cap xs (by omega) u h
      have he := encE_good hck hb
      rw [he, encO_some he, show ((n : Int) + 1 - 1).toNat = n by omega] at HE
      have HRE := fun u ad cap (h : RowA u ad xs) => rencode_ok n a b c r hr ⟨h2, h31⟩ hA hB hC hck ad cap xs (by omega) hb u h
      by_cases hi : i < 0 ∨ (r : Int) ≤ i
      · refine encodes_core _ _ a b c _ xs _ [] 0 1 hwl (by simp) (by omega) HE HRE (fun u ad cap _ => (product_arg _ _ a b c hA hB hC hck _ i hi u).mono ?_) (fun u ad cap _ => (rproduct_arg _ _ a b c hA hB hC hck _ i hi u).mono ?_) ad cap w hx <;>
          (rintro e u' ⟨rfl, hb⟩; exact ⟨_, rfl, OwnB.nil _ _, hb⟩)
      · obtain ⟨j, rfl⟩ : ∃ j : Nat, i = j := ⟨i.toNat, by omega⟩
        exact encodes_core _ _ a b c _ xs _ (prodL (genN a b c j) n xs) 0 0 hwl (by rw [prodL_length]; omega) (by omega) HE HRE
          (fun u ad cap h => product_ok n a b c r hR ⟨h2, h31⟩ hA hB hC hck ad cap xs (by omega) hb j (by omega) u h)
          (fun u ad cap h => rproduct_ok n a b c r hR ⟨h2, h31⟩ hA hB hC hck ad cap xs (by omega) hb j (by omega) u h) ad cap w hx
    · by_cases hi : i < 0 ∨ (r : Int) ≤ i
      · refine encodes_core _ _ a b c _ xs [] [] 10 1 (by simp) (by simp) (by omega) (fun u ad cap h => (encode_bit _ _ a b c hA hB hC hck ad cap xs (by omega) hb u h).mono ?_) (fun u ad cap h => (rencode_bit _ _ a b c hA hB hC hck ad cap xs (by omega) hb u h).mono ?_) (fun u ad cap _ => (product_arg _ _ a b c hA hB hC hck _ i hi u).mono ?_) (fun u ad cap _ => (rproduct_arg _ _ a b c hA hB hC hck _ i hi u).mono ?_) ad cap w hx <;>
          (rintro e u' ⟨rfl, hb⟩; exact ⟨_, rfl, OwnB.nil _ _, hb⟩)
      · refine encodes_core _ _ a b c _ xs [] [] 10 10 (by simp) (by simp) (by omega) (fun u ad cap h => (encode_bit _ _ a b c hA hB hC hck ad cap xs (by omega) hb u h).mono ?_) (fun u ad cap h => (rencode_bit _ _ a b c hA hB hC hck ad cap xs (by omega) hb u h).mono ?_) (fun u ad cap h => (product_bit _ _ a b c hA hB hC hck ad cap xs (by omega) hb i (fun e => hi (.inl e)) (fun e => hi (.inr e)) u h).mono ?_) (fun u ad cap h => (rproduct_bit _ _ a b c hA hB hC hck ad cap xs (by omega) hb i (fun e => hi (.inl e)) (fun e => hi (.inr e)) u h).mono ?_) ad cap w hx <;>
          (rintro e u' ⟨rfl, hb⟩; exact ⟨_, rfl, OwnB.nil _ _, hb⟩)
  · refine encodes_core K R a b c _ xs [] [] (checkF K R a b c) (checkF K R a b c) (by simp) (by simp) (by omega) (fun u ad cap _ => (encode_bad K R a b c hA hB hC hck _ u).mono ?_) (fun u ad cap _ => (rencode_bad K R a b c hA hB hC hck _ u).mono ?_) (fun u ad cap _ => (product_bad K R a b c hA hB hC hck _ _ u).mono ?_) (fun u ad cap _ => (rproduct_bad K R a b c hA hB hC hck _ _ u).mono ?_) ad cap w hx <;>
      (rintro e u' ⟨rfl, hb⟩; exact ⟨_, rfl, OwnB.nil _ _, hb⟩)
end Go.Proofs.Ytmmngcjnofcmmaa
