/- outpostref04.rows, walked. -/
import Derived.Test.YtknkkoemghceeaaDoorRows
import Derived.Test.YtknkkoemghceeaaDoorR4Solv
import Derived.Test.YtknkkoemghceeaaDoorRRev2
namespace Go.Proofs.YtknkkoemghceeaaDoor
open Go.RowKit
open Gf2.BM

theorem take_rows {xs : List Nat} {L j : Nat} (h : j < xs.length - L) : (rowsL xs L).take (j + 1) = (rowsL xs L).take j ++ [Gf2.BM.rowAt xs (L + j) (L + 1)] := by
  rw [List.take_succ_eq_append_getElem (by rw [rowsL_length]; exact h)]
  congr 2
  simp [rowsL]
set_option maxRecDepth 100000 in
set_option maxHeartbeats 1000000 in
theorem rows_any (ad : Option Addr) (cp : Nat) (xs : List Nat) (L : Nat) (hL : L ≤ xs.length) (hlen : xs.length ≤ 63) (hx : ∀ i, xs.getD i 0 ≤ 1) (w : World) (hr : RowA w ad xs) :
    Calls Tryd.prog 69 #[.slice ad xs.length cp, .int .i64 L] w fun e w' => ∃ v, e = .returned v ∧ OwnV 22 w' w.heap.size v (u64L (rowsL xs L)) ∧ Below w.heap.size w w' := by
  have HR := hide hr
  have HX := hide hx
  have HRL := hide (fun k m => rowAt_lt hx k m)
  obtain ⟨n, hn⟩ : ∃ n, xs.length = n := ⟨_, rfl⟩
  rw [hn] at hL hlen ⊢
  have HN := hide hn
  clear hr hx hn
  go_enter Tryd.func69, Tryd.ntmps69
  go_wp2_with fail
  go_loopw [5, 6] (fun v kk u => ∃ (j : Nat) (v' : Value), L + j ≤ n ∧ kk = .int .i64 ((L + j : Nat) : Int) ∧ v' = v ∧ Hid (OwnV 22 u w.heap.size v' (u64L ((rowsL xs L).take j))) ∧ Hid (Below w.heap.size w u)) (fun _ kk _ => n - (intOf kk).toNat)
  case atStart => exact ⟨0, _, by omega, rfl, rfl, hide (OwnV.nil _ _ _), hide (Below.refl _ _)⟩
  case round =>
    rename World => u
    obtain ⟨j, v, hj, rfl, rfl, hO, hB⟩ := hrel
    obtain ⟨k, hk⟩ : ∃ k, L + j = k := ⟨_, rfl⟩
    rw [hk]
    by_cases hkn : k < n
    · have hLk : L ≤ k := by omega
      obtain ⟨bb, off, rfl, _, hcell⟩ := (HR.out.below hB.out).at_ (i := k) (by rw [HN.out]; exact hkn)
      have hxk := HX.out k
      have HROW1 := hide (show xs.getD k 0 = Gf2.BM.rowAt xs k 1 by unfold Gf2.BM.rowAt Gf2.BM.rowAt; simp)
      have HK := hide hk
      clear hk
      generalize xs.getD k 0 = x0 at *
      go_wp2_with fail
      go_loop [7, 8] (fun r ii => ∃ i : Nat, 1 ≤ i ∧ i ≤ L + 1 ∧ r = .int .u64 (Gf2.BM.rowAt xs k i : Nat) ∧ ii = .int .i64 i) (fun _ ii => L + 1 - (intOf ii).toNat)
      case atStart => exact ⟨1, by omega, by omega, by rw [← HROW1.out], rfl⟩
      case round =>
        obtain ⟨i, hi1, hi2, rfl, rfl⟩ := hrel
        by_cases hiL : i ≤ L
        · obtain ⟨_, _, e2, _, hc2⟩ := (HR.out.below hB.out).at_ (i := k - i) (by rw [HN.out]; omega)
          simp only [Option.some.injEq, Addr.mk.injEq, and_true] at e2
          obtain ⟨rfl, rfl⟩ := e2
          have hx2 := HX.out (k - i)
          have hki : IntKind.i64.wrap ((k : Int) - i) = ((k - i : Nat) : Int) := by rw [IntWalk.i64_in _ ⟨by omega, by omega⟩]; omega
          have hki2 : (k : Int) - i = ((k - i : Nat) : Int) := by omega
          have hlt := HRL.out k i
          have hp : 2 ^ i ≤ 2 ^ 63 := Nat.pow_le_pow_right (by omega) (by omega)
          have hNX : Gf2.BM.rowAt xs k (i + 1) = Gf2.BM.rowAt xs k i ||| xs.getD (k - i) 0 * 2 ^ i := rfl
          have hkin : k - i < n := by omega
          generalize xs.getD (k - i) 0 = y at *
          have hsh : IntKind.u64.wrap ((y : Int) * 2 ^ i) = ((y * 2 ^ i : Nat) : Int) := by
            have h1 := shlI64 y i
            rw [h1, shl_small hx2 (by omega)]
          have hyl : y * 2 ^ i ≤ 18446744073709551615 := by
            have := shl_small hx2 (s := i) (by omega)
            have h2 := shl64_le y i
            omega
          have hor := or64 (show Gf2.BM.rowAt xs k i ≤ 18446744073709551615 by omega) hyl
          have hmin : min i 64 = i := by omega
          have HNX := hide hNX
          generalize k - i = q at *
          generalize Gf2.BM.rowAt xs k i = r at *
          clear hNX
          go_wp2_with fail
          go_round
          case rel => exact ⟨i + 1, by omega, by omega, by rw [HNX.out, ← hor, Int.natCast_mul, Int.natCast_pow]; rfl, by simp⟩
          case measure => simp [intOf]; omega
        · obtain rfl : i = L + 1 := by omega
          have hlt := HRL.out k (L + 1)
          have HTK := hide (take_rows (xs := xs) (L := L) (j := j) (by rw [HN.out]; have := HK.out; omega))
          rw [HK.out] at HTK
          have hjl : ((rowsL xs L).take j).length ≤ 63 := by rw [List.length_take, rowsL_length, HN.out]; omega
          have HJL := hide (u64L_length ((rowsL xs L).take j))
          generalize Gf2.BM.rowAt xs k (L + 1) = r at *
          generalize (rowsL xs L).take j = tk at *
          have hwz := hB.out.size
          have HOA := hide (hO.out.alloc (.cells #[.int .u64 r] 22))
          go_wp2_with (first
            | (at_builtin; refine wpList_appV elem_u64 rfl (.tmp 38) (.tmp 40) rfl w.heap.size v (u64L tk) rfl HOA.out (some ⟨u.heap.size, 0, none⟩) 1 1 [.int .u64 r] rfl ?c0 ?c4 rfl ?c1 ?c2 ?c3 ?_)
            | go_in)
          case c0 => exact RowV.one (by simp [go_sem]) (by simp)
          case c4 => first | rfl | (intro z hz; simp at hz; subst hz; rfl)
          case c1 => rw [HJL.out]; (try simp); omega
          case c2 => rw [HJL.out]; (try simp); omega
          case c3 => (try simp); omega
          intro v2 u2 ho2 hgr2 _
          have HO2 := hide (show OwnV 22 u2 w.heap.size v2 (u64L ((rowsL xs L).take (j + 1))) by rw [HTK.out, u64L_app]; exact ho2)
          have HB2 := hide ((hB.out.alloc hB.out.size (.cells #[.int .u64 r] 22)).grown hgr2 (by simp; omega) (fun g e => (hO.out.lt e).1))
          clear ho2 hgr2
          go_wp2_with fail
          go_roundw
          case rel => exact ⟨j + 1, v2, by have := HK.out; omega, by congr 1; have := HK.out; omega, rfl, HO2, HB2⟩
          case measure => simp [intOf]; omega
    · have HF := hide (show (rowsL xs L).take j = rowsL xs L from List.take_of_length_le (by rw [rowsL_length, HN.out]; omega))
      go_wp2_with fail
      go_ret
      exact ⟨v, rfl, by rw [← HF.out]; exact hO.out, hB.out⟩
end Go.Proofs.YtknkkoemghceeaaDoor
