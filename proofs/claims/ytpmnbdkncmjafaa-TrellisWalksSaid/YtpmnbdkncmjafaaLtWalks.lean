/- The law TrellisWalks, walked: it returns true. -/
import Derived.Test.YtpmnbdkncmjafaaRows
import Derived.Test.YtpmnbdkncmjafaaTKnows
import Derived.Test.YtpmnbdkncmjafaaWalkAny
import Derived.Test.YtpmnbdkncmjafaaLent
namespace Go.Proofs.Ytpmnbdkncmjafaa
open Go.RowKit

set_option maxHeartbeats 2000000 in
theorem law_walks (K R : Int) (a b c s : Nat) (hA : a ≤ 4294967295) (hB : b ≤ 4294967295) (hC : c ≤ 4294967295) (hs : s ≤ 4294967295) (ad : Option Addr) (cap : Nat) (xs : List Nat) (h8 : ∀ i, i < xs.length → xs.getD i 0 ≤ 255) (hn : xs.length ≤ 140737488351232) (w : World) (hx : RowA w ad xs) :
    Calls Try.prog 5 #[.agg #[.int .i64 K, .int .i64 R, .int .u32 a, .int .u32 b, .int .u32 c], .int .u32 s, .slice ad xs.length cap] w fun e w' => e = .returned (.bool true) ∧ Below w.heap.size w w' := by
  have H1 := hide fun ad cap w hx => walk_any K R a b c s hA hB hC hs ad cap xs hn w hx
  have H2 := hide fun ad cap w hx => rwalk_any K R a b c s hA hB hC hs ad cap xs hn w hx
  have HL := hide fun w hx => lent_any ad cap xs hn w hx
  have HS := hide fun B L cp w hL hx => stays_any ad cap B L cp xs hn w hL hx
  have HP := hide fun B L cp w hL => spoil_any B L cp xs h8 hn w hL
  have HX := hide hx
  generalize walkE K R a b c s xs = er at *
  generalize walkS K R a b c s xs = t at *
  generalize walkO K R a b c s xs = ys at *
  clear h8 hn hx
  go_enter Try.func5, Try.ntmps5
  go_wp2_with fail
  refine (HL.out _ (HX.out.alloc _)).mono ?_
  rintro e w1 ⟨L, cl, rfl, hl1, hb1⟩
  have hz1 := size_mid hb1
  have k1 := bk hb1 w.heap.size (by simp)
  have HL1 := hide hl1
  have hlt1 := hl1.lt
  have HLT := hide hlt1
  clear hl1 hlt1
  go_wp2_with fail
  refine (H1.out _ _ _ HL1.out.rowx).mono ?_
  rintro e w2 ⟨v1, rfl, ho2, hb2⟩
  obtain ⟨a2, c2, rfl, r2, g2⟩ := ho2.rowf
  have R2 := hide r2
  have G2 := hide g2
  clear ho2 r2 g2
  have hz2 : w.heap.size < w2.heap.size := Nat.lt_of_lt_of_le hz1 hb2.size
  have k2 := bk hb2 w.heap.size hz1
  go_wp2_with fail
  refine (H2.out _ _ _ ((HX.out.below (below_one hb1)).below hb2)).mono ?_
  rintro e w3 ⟨v3, rfl, ho3, hb3⟩
  obtain ⟨a3, c3, rfl, r3, g3⟩ := ho3.rowf
  have R3 := hide r3
  have G3 := hide g3
  clear ho3 r3 g3
  have hb03 := (below_one hb1).trans ((hb2.trans (hb3.mono hb2.size)).mono (Nat.le_of_lt hz1))
  have HB03 := hide hb03
  have hl3 := (OwnB.below HL1.out hb2).below hb3
  have HL3 := hide hl3
  clear hl3 hb03
  go_wp2_with fail
  refine (HS.out _ _ _ _ HL3.out (HX.out.below HB03.out)).mono ?_
  rintro e w' ⟨rfl, n1, rfl⟩
  go_wp2_with fail
  refine (knows_any _).mono ?_
  rintro e w4 ⟨rfl, hb4⟩
  have hb4' : Below w3.heap.size w3 w4 := below_drewNL hb4
  have HL4 := hide (OwnB.below HL3.out hb4')
  go_wp2_with fail
  refine (HP.out _ _ _ _ HL4.out).mono ?_
  rintro e w5 ⟨rfl, hg5⟩
  have q2 := ((R2.out.below hb3).below hb4').grown hg5 (fun b off e h => by
    have h1 := G2.out b off e
    have h2 := HLT.out
    simp only [Option.some.injEq] at h
    omega)
  have q3 := (R3.out.below hb4').grown hg5 (fun b off e h => by
    have h1 := G3.out b off e
    have h2 := HLT.out
    have h3 := hb2.size
    simp only [Option.some.injEq] at h
    omega)
  have HF := hide (((HB03.out.trans (hb4'.mono (Nat.le_trans (Nat.le_of_lt hz2) hb3.size)))).grown hg5 (by have := hb3.size; have := hb4'.size; omega) (fun k e => by
    have h2 := HLT.out
    simp only [Option.some.injEq] at e
    subst e
    simp at h2
    omega))
  have cv1 := q2.conv c2
  have cv2 := q3.conv c3
  clear q2 q3
  go_wp2_with fail
  refine (num_any _ _).mono ?_
  rintro e w' ⟨rfl, rfl⟩
  go_wp2_with fail
  go_ret
  exact ⟨rfl, HF.out⟩
end Go.Proofs.Ytpmnbdkncmjafaa
