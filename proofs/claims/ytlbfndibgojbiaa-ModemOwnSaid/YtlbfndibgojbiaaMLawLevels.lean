/- The law ModemLevels, walked: it returns true. -/
import Derived.Test.YtlbfndibgojbiaaRows
import Derived.Test.YtlbfndibgojbiaaMKnows
import Derived.Test.YtlbfndibgojbiaaMLev
namespace Go.Proofs.Ytlbfndibgojbiaa
open Go.RowKit
set_option linter.unusedVariables false

theorem LentB.below {w w' : World} {B L cap : Nat} {xs : List Nat} (h : LentB w B L cap xs) (hb : Below w.heap.size w w') : LentB w' B L cap xs := OwnB.below h hb
set_option maxRecDepth 100000 in
set_option maxHeartbeats 4000000 in
theorem law_mlevels (L : Int) (ad : Option Addr) (cap : Nat) (xs : List Nat) (hl : xs.length ≤ 140737488351232) (h8 : ∀ i, xs.getD i 0 ≤ 255) (w : World) (hx : RowA w ad xs) :
    Calls Try.prog 5 #[.int .i64 L, .slice ad xs.length cap] w fun e w' => e = .returned (.bool true) ∧ Below w.heap.size w w' := by
  have HA := hide fun ad cap w hx => mlevels_any L ad cap xs hl w hx
  have HB := hide fun ad cap w hx => mhard_any L ad cap xs hl h8 w hx
  have HC := hide fun ad cap w hx => r25levels_any L ad cap xs hl w hx
  have HD := hide fun ad cap w hx => r25hard_any L ad cap xs hl h8 w hx
  have HX := hide hx
  generalize levE L xs = eA at *
  generalize levO L xs = ya at *
  generalize hardE L xs = eB at *
  generalize hardO L xs = yb at *
  clear hx h8
  go_enter Try.func5, Try.ntmps5
  go_wp2_with fail
  refine (lent_any ad cap xs hl _ HX.out).mono ?_
  rintro e w1 ⟨Lb, cl, rfl, hlb, hb1⟩
  have HL1 := hide hlb
  have HB1 := hide hb1
  clear hlb hb1
  go_wp2_with fail
  refine (HA.out _ _ _ HL1.out.rowx).mono ?_
  rintro e w2 ⟨v2, rfl, ho2, hb2⟩
  obtain ⟨a2, c2, rfl, r2, _⟩ := ho2.rowg
  have HL2 := hide (HL1.out.below hb2)
  have HB2 := hide (below_then HB1.out hb2)
  have HR2 := hide r2
  clear ho2 r2 hb2
  go_wp2_with fail
  refine (HB.out _ _ _ HL2.out.rowx).mono ?_
  rintro e w3 ⟨v3, rfl, ho3, hb3⟩
  obtain ⟨a3, c3, rfl, r3, _⟩ := ho3.rowg
  have HL3 := hide (HL2.out.below hb3)
  have HB3 := hide (below_then HB2.out hb3)
  have HR23 := hide (HR2.out.below hb3)
  have HR3 := hide r3
  clear ho3 r3 hb3
  go_wp2_with fail
  refine (HC.out _ _ _ (HX.out.below HB3.out)).mono ?_
  rintro e w4 ⟨v4, rfl, ho4, hb4⟩
  obtain ⟨a4, c4, rfl, r4, _⟩ := ho4.rowg
  have HL4 := hide (HL3.out.below hb4)
  have HB4 := hide (below_then HB3.out hb4)
  have HR24 := hide (HR23.out.below hb4)
  have HR34 := hide (HR3.out.below hb4)
  have HR4 := hide r4
  clear ho4 r4 hb4
  go_wp2_with fail
  refine (HD.out _ _ _ (HX.out.below HB4.out)).mono ?_
  rintro e w5 ⟨v5, rfl, ho5, hb5⟩
  obtain ⟨a5, c5, rfl, r5, _⟩ := ho5.rowg
  have HL5 := hide (HL4.out.below hb5)
  have HB5 := hide (below_then HB4.out hb5)
  have cv2 := RowA.conv (HR24.out.below hb5) c2
  have cv3 := RowA.conv (HR34.out.below hb5) c3
  have cv4 := RowA.conv (HR4.out.below hb5) c4
  have cv5 := RowA.conv r5 c5
  generalize strN ya = sa at *
  generalize strN yb = sb at *
  clear ho5 r5 hb5
  go_wp2_with fail
  refine (num25_any _ _).mono ?_
  rintro e w' ⟨rfl, rfl⟩
  go_wp2_with fail
  refine (num25_any _ _).mono ?_
  rintro e w' ⟨rfl, rfl⟩
  go_wp2_with fail
  refine (stays_any ad cap w.heap.size Lb cl xs hl _ HL5.out (HX.out.below HB5.out)).mono ?_
  rintro e w' ⟨rfl, n, rfl⟩
  go_wp2_with fail
  refine (knows25_any _).mono ?_
  rintro e w6 ⟨rfl, hb6⟩
  go_wp2_with fail
  go_ret
  exact ⟨rfl, below_then HB5.out (below_drewNL hb6)⟩
end Go.Proofs.Ytlbfndibgojbiaa
