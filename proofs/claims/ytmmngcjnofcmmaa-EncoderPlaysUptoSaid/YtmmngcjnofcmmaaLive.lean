/- outpostlaw06.small, live. -/
import Derived.Test.YtmmngcjnofcmmaaRows
import Derived.Test.YtmmngcjnofcmmaaInvert
import Derived.Test.YtmmngcjnofcmmaaOwn
import Derived.Test.YtmmngcjnofcmmaaLit
import Derived.Test.YtmmngcjnofcmmaaEval
namespace Go.Proofs.Ytmmngcjnofcmmaa
open Go.RowKit

theorem small_any (w : World) :
    Calls Try.prog 39 #[] w fun e w' => e = .returned (.agg #[.int .i64 3, .int .i64 2, .int .u32 7, .int .u32 5, .int .u32 0]) ∧ Below w.heap.size w w' := by
  go_enter Try.func39, Try.ntmps39
  go_wp2_with fail
  refine bodyPost_ret (v := .agg #[.int .i64 3, .int .i64 2, .int .u32 7, .int .u32 5, .int .u32 0]) (by simp [results, Try.results39, go_sem]) rfl ⟨rfl, ?_⟩
  exact (Below.refl _ _).alloc (Nat.le_refl _) _
theorem k3_ok : checkF 3 2 7 5 0 = 0 := okB_ok (K := 3) (R := 2) (by decide +kernel)
theorem k3_enc : encE 3 2 7 5 0 [1] = 0 ∧ encO 3 2 7 5 0 [1] = [1, 1, 1, 0, 1, 1] := by
  have h : encE 3 2 7 5 0 [1] = 0 := encE_good k3_ok (fun i hi => by simp at hi; subst hi; decide)
  exact ⟨h, (encO_some h).trans (by decide)⟩
theorem k3_msg : IsMsg 2 7 5 0 2 [1, 1, 1, 0, 1, 1] [1] := by
  refine ⟨fun i => ?_, by decide⟩
  match i with
  | 0 => decide
  | i + 1 => simp [List.getD]
theorem k3_inv : invE 3 2 7 5 0 [1, 1, 1, 0, 1, 1] = 0 ∧ invO 3 2 7 5 0 [1, 1, 1, 0, 1, 1] = [1] := by
  have hz : rdE 3 2 7 5 0 [1, 1, 1, 0, 1, 1] = 0 := rdE_good k3_ok (by decide) (fun i hi => by
    have : i = 0 ∨ i = 1 ∨ i = 2 ∨ i = 3 ∨ i = 4 ∨ i = 5 := by simp at hi; omega
    rcases this with rfl | rfl | rfl | rfl | rfl | rfl <;> decide)
  exact invE_yes hz k3_msg
set_option maxRecDepth 100000 in
set_option maxHeartbeats 2000000 in
theorem live_any (w : World) :
    Calls Try.prog 13 #[] w fun e w' => e = .returned (.bool true) ∧ Below w.heap.size w w' := by
  have HE := hide fun (ad : Option Addr) (cap : Nat) (W : World) (h : RowA W ad [1]) => encode_any 3 2 7 5 0 (by omega) (by omega) (by omega) ad cap [1] (by simp) W h
  have HI := hide fun (ad : Option Addr) (cap : Nat) (hc : 6 ≤ cap) (W : World) (h : RowA W ad [1, 1, 1, 0, 1, 1]) => invert_any 3 2 7 5 0 (by omega) (by omega) (by omega) ad cap [1, 1, 1, 0, 1, 1] (by simp) hc W h
  have HN := hide (new_good 3 2 7 5 0 (by omega) (by omega) (by omega) k3_ok)
  rw [k3_enc.1, k3_enc.2] at HE
  rw [k3_inv.1, k3_inv.2] at HI
  have HP := hide fun (g : Nat) (W : World) (h : RegB W g 3 2 7 5 0 0) => eput_two 2 7 5 0 0 1 g (by omega) (by omega) (by omega) (by omega) (by omega) (by omega) W h
  go_enter Try.func13, Try.ntmps13
  go_wp2_with fail
  refine (small_any _).mono ?_
  rintro e w1 ⟨rfl, hb1⟩
  go_wp2_with fail
  refine (HE.out _ _ _ ?hl1).mono ?_
  case hl1 => exact RowA.litAt _ [1] _ (by simp)
  rintro e w2 ⟨v2, rfl, ho2, hb2⟩
  obtain ⟨al, cl, rfl, rl, gl⟩ := ho2.rowg
  have GL := hide gl
  have RL := hide rl
  have HB2 := hide (below_mid hb1 hb2)
  clear ho2 rl hb1 hb2 gl
  go_wp2_with fail
  refine (small_any _).mono ?_
  rintro e w3 ⟨rfl, hb3⟩
  go_wp2_with fail
  refine (HI.out _ _ (by omega) _ ?hl2).mono ?_
  case hl2 => exact RowA.litAt _ [1, 1, 1, 0, 1, 1] _ (by simp)
  rintro e w4 ⟨v4, rfl, ho4, hb4⟩
  obtain ⟨au, cu, rfl, ru, gu⟩ := ho4.rowg
  have GU := hide gu
  have RU := hide ru
  have HB4' := hide (below_mid hb3 hb4)
  have HB4 := hide (below_then HB2.out HB4'.out)
  have RL4 := hide (RL.out.below HB4'.out)
  clear ho4 ru hb3 hb4 gu
  go_wp2_with fail
  refine (small_any _).mono ?_
  rintro e w5 ⟨rfl, hb5⟩
  go_wp2_with fail
  refine (HN.out _).mono ?_
  rintro e w6 ⟨g, rfl, hr6, hg6, hb6⟩
  have HB6' := hide (below_then hb5 hb6)
  have HB6 := hide (below_then HB4.out HB6'.out)
  have RL6 := hide (RL4.out.below HB6'.out)
  have RU6 := hide (RU.out.below HB6'.out)
  have hgw : w.heap.size ≤ g := by have := HB4.out.size; have := hb5.size; omega
  have HR6 := hide hr6
  have hg4 : w4.heap.size ≤ g := by have := hb5.size; omega
  clear hb5 hb6 hr6
  go_wp2_with fail
  refine (num_any _ _).mono ?_
  rintro e w' ⟨rfl, rfl⟩
  go_wp2_with fail
  refine (HP.out g _ HR6.out).mono ?_
  rintro e w7 ⟨v7, rfl, ho7, hr7, hg7⟩
  obtain ⟨ay, cy, rfl, ry, _⟩ := ho7.rowf
  have RY := hide ry
  have z24 : w2.heap.size ≤ w4.heap.size := HB4'.out.size
  have RL7 := hide (RL6.out.grown hg7 (fun b off e h => by have := GL.out b off e; have := Option.some.inj h; omega))
  have RU7 := hide (RU6.out.grown hg7 (fun b off e h => by have := GU.out b off e; have := Option.some.inj h; omega))
  have HB7 := hide (HB6.out.grown hg7 HB6.out.size (fun k e => by have := Option.some.inj e; omega))
  have HR7 := hide hr7
  have HS := hide fun (W : World) (h : W.heap[g]? = w7.heap[g]?) => state_good 3 2 7 5 0 _ g (by decide) W (hr7.keep h)
  have hgl := hr7.lt
  clear ho7 ry hr7 hg7
  go_wp2_with fail
  refine (num_any _ _).mono ?_
  rintro e w' ⟨rfl, rfl⟩
  go_wp2_with fail
  refine (same_yes _ _ _ _ _ _ [1, 1, 1, 0, 1, 1] rfl rfl _ (RL7.out.alloc _) ?hl3).mono ?_
  case hl3 => exact RowA.litAt _ [1, 1, 1, 0, 1, 1] _ (by simp)
  rintro e w' ⟨rfl, rfl⟩
  go_wp2_with fail
  refine (num_any _ _).mono ?_
  rintro e w' ⟨rfl, rfl⟩
  go_wp2_with fail
  refine (same_yes _ _ _ _ _ _ [1] rfl rfl _ ((RU7.out.alloc _).alloc _) ?hl4).mono ?_
  case hl4 => exact RowA.litAt _ [1] _ (by simp)
  rintro e w' ⟨rfl, rfl⟩
  go_wp2_with fail
  refine (num_any _ _).mono ?_
  rintro e w' ⟨rfl, rfl⟩
  go_wp2_with fail
  refine (same_yes _ _ _ _ _ _ [1, 1] rfl rfl _ (((RY.out.alloc _).alloc _).alloc _) ?hl5).mono ?_
  case hl5 => exact RowA.litAt _ [1, 1] _ (by simp)
  rintro e w' ⟨rfl, rfl⟩
  go_wp2_with fail
  refine (HS.out _ ?hg).mono ?_
  case hg => exact (Below.heap_alloc _ _ _ (by simp; omega)).trans ((Below.heap_alloc _ _ _ (by simp; omega)).trans (Below.heap_alloc _ _ _ hgl))
  rintro e w' ⟨rfl, rfl⟩
  go_wp2_with fail
  go_ret
  exact ⟨rfl, ((HB7.out.alloc HB7.out.size _).alloc (by have := HB7.out.size; simp; omega) _).alloc (by have := HB7.out.size; simp; omega) _⟩
end Go.Proofs.Ytmmngcjnofcmmaa
