/- outpostref04.Makes where it is so, walked; Right. -/
import Derived.Test.YtknkkoemghceeaaDoorRows
import Derived.Test.YtknkkoemghceeaaDoorLfShort
import Derived.Test.YtknkkoemghceeaaDoorRef2W
namespace Go.Proofs.YtknkkoemghceeaaDoor
open Go.RowKit

set_option maxHeartbeats 2000000 in
theorem makes_ok (ad : Option Addr) (cp : Nat) (xs : List Nat) (L c : Nat) (hl : xs.length ≤ 63) (hL : L ≤ 63) (hx : ∀ i, xs.getD i 0 ≤ 1) (hodd : c % 2 = 1) (hdeg : c < 2 ^ (L + 1)) (hz : ∀ k, L ≤ k → k < xs.length → Gf2.BM.dsc (Gf2.BM.rowN xs) c k = false) (w : World) (hr : RowA w ad xs) :
    Calls Tryd.prog 49 #[.slice ad xs.length cp, .int .i64 L, .int .u64 c] w fun e w' => e = .returned (.bool true) ∧ w = w' := by
  have h64 : c < 2 ^ 64 := Nat.lt_of_lt_of_le hdeg (Nat.pow_le_pow_right (by omega) (by omega))
  have HC := hide (show c ≤ 18446744073709551615 by omega)
  have HD := hide (rdegree_any c HC.out)
  have hlen := Gf2.len_le hdeg
  have hgt : ¬ (L : Int) < (Gf2.len c : Int) - 1 := by omega
  have hrem2 : ((c : Int) % 2 == 0) = false := by
    rw [beq_eq_false_iff_ne]
    omega
  have hng : ¬ (L : Int) < 0 := by omega
  have h63 : ¬ (63 : Int) < L := by omega
  have HO := hide hx
  have HR := hide hr
  have HB := hide fun i => Gf2.BM.rowN_at hx i
  have HZ := hide hz
  have HP := hide fun n => Gf2.BM.part_done (S := Gf2.BM.rowN xs) (n := n) hdeg
  have HBIT := hide fun (j : Nat) (hj : j ≤ 63) => rbit_any c j j HC.out rfl hj
  clear hx hr hz hodd hdeg h64 hlen
  generalize Gf2.len c = lc at *
  generalize Gf2.BM.rowN xs = S at *
  go_enter Tryd.func49, Tryd.ntmps49
  go_wp2_with fail
  refine (HD.out _).mono ?_
  rintro e w' ⟨rfl, rfl⟩
  go_wp2_with fail
  go_loop [7] (fun i => ∃ k : Nat, L ≤ k ∧ i = .int .i64 k) (fun i => xs.length - (intOf i).toNat)
  case atStart => exact ⟨L, Nat.le_refl _, rfl⟩
  case round =>
    obtain ⟨k, hk, rfl⟩ := hrel
    by_cases hlt : k < xs.length
    · go_wp2_with fail
      go_loop [8, 9] (fun d i => ∃ j : Nat, j ≤ L + 1 ∧ d = .int .u8 (Gf2.BM.part S c k j : Nat) ∧ i = .int .i64 j) (fun _ i => L + 1 - (intOf i).toNat)
      case atStart => exact ⟨0, by omega, by rw [Gf2.BM.part_zero]; rfl, rfl⟩
      case round =>
        obtain ⟨j, hj, rfl, rfl⟩ := hrel
        by_cases hjL : j ≤ L
        · have hp1 := Gf2.BM.part_le S c k j
          have HJ := hide (HBIT.out j (by omega))
          by_cases hbit : c / 2 ^ j % 2 = 1
          · have HQ := hide (Gf2.BM.part_yes (S := S) hbit (show j ≤ k by omega))
            rw [HB.out] at HQ
            rw [hbit] at HJ
            obtain ⟨bb, off, rfl, _, hcell⟩ := HR.out.at_ (i := k - j) (by omega)
            have h1 := HO.out (k - j)
            have hki : IntKind.i64.wrap ((k : Int) - j) = ((k - j : Nat) : Int) := by rw [IntWalk.i64_in _ ⟨by omega, by omega⟩]; omega
            have hki2 : (k : Int) - j = ((k - j : Nat) : Int) := by omega
            have hlkj : k - j < xs.length := by omega
            generalize xs.getD (k - j) 0 = y at *
            have hxo := xorB hp1 h1
            rw [← HQ.out] at hxo
            generalize k - j = kj at *
            generalize Gf2.BM.part S c k j = p at *
            clear hbit
            go_wp2_with fail
            refine (HJ.out _).mono ?_
            rintro e w' ⟨rfl, rfl⟩
            go_wp2_with fail
            go_round
            case rel => exact ⟨j + 1, by omega, by first | rfl | rw [hxo], by simp⟩
            case measure => simp [intOf]; omega
          · have hbit0 : c / 2 ^ j % 2 = 0 := by omega
            have HQ := hide (Gf2.BM.part_no (S := S) (n := k) (c := c) (i := j) (.inl hbit0))
            rw [hbit0] at HJ
            generalize Gf2.BM.part S c k j = p at *
            clear hbit hbit0
            go_wp2_with fail
            refine (HJ.out _).mono ?_
            rintro e w' ⟨rfl, rfl⟩
            go_wp2_with fail
            go_round
            case rel => exact ⟨j + 1, by omega, by first | rfl | rw [HQ.out], by simp⟩
            case measure => simp [intOf]; omega
        · obtain rfl : j = L + 1 := by omega
          rw [HP.out k, HZ.out k hk hlt]
          go_wp2_with fail
          go_round
          case rel => exact ⟨k + 1, by omega, by simp⟩
          case measure => simp [intOf]; omega
    · go_wp2_with fail
      go_ret
      exact ⟨rfl, rfl⟩
set_option maxHeartbeats 1000000 in
theorem right_yes (ad : Option Addr) (cp : Nat) (xs : List Nat) (hl : xs.length ≤ 140737488351232) (hx : ∀ i, i < xs.length → xs.getD i 0 ≤ 1) (w : World) (hr : RowA w ad xs) :
    Calls Tryd.prog 46 #[.slice ad xs.length cp] w fun e w' => e = .returned (.bool true) ∧ w = w' := by
  have HO := hide hx
  have HR := hide hr
  clear hx hr
  go_enter Tryd.func46, Tryd.ntmps46
  go_wp2_with fail
  go_loop [3] (fun i => ∃ k : Nat, k ≤ xs.length ∧ i = .int .i64 k) (fun i => xs.length - (intOf i).toNat)
  case atStart => exact ⟨0, by omega, rfl⟩
  case round =>
    obtain ⟨k, hk, rfl⟩ := hrel
    by_cases hlt : k < xs.length
    · obtain ⟨b, off, rfl, _, hc⟩ := HR.out.at_ hlt
      have h1 := HO.out k hlt
      generalize xs.getD k 0 = y at *
      go_wp2_with fail
      go_round
      case rel => exact ⟨k + 1, by omega, by simp⟩
      case measure => simp [intOf]; omega
    · obtain rfl : k = xs.length := by omega
      go_wp2_with fail
      go_ret
      exact ⟨rfl, rfl⟩
set_option maxHeartbeats 1000000 in
theorem right_no (ad : Option Addr) (cp : Nat) (xs : List Nat) (hl : xs.length ≤ 140737488351232) (hx : ¬ ∀ i, xs.getD i 0 ≤ 1) (w : World) (hr : RowA w ad xs) :
    Calls Tryd.prog 46 #[.slice ad xs.length cp] w fun e w' => e = .returned (.bool false) ∧ w = w' := by
  have HR := hide hr
  have HO := hide hx
  clear hx hr
  go_enter Tryd.func46, Tryd.ntmps46
  go_wp2_with fail
  go_loop [3] (fun i => ∃ k : Nat, k ≤ xs.length ∧ i = .int .i64 k ∧ Hid (∀ i, i < k → xs.getD i 0 ≤ 1)) (fun i => xs.length - (intOf i).toNat)
  case atStart => exact ⟨0, by omega, rfl, hide (fun i hi => by omega)⟩
  case round =>
    obtain ⟨k, hk, rfl, HS⟩ := hrel
    by_cases hlt : k < xs.length
    · obtain ⟨b, off, rfl, _, hc⟩ := HR.out.at_ hlt
      by_cases h1 : xs.getD k 0 ≤ 1
      · have HN := hide (show ∀ i, i < k + 1 → xs.getD i 0 ≤ 1 from fun i hi => by
          by_cases e : i = k
          · rw [e]; exact h1
          · exact HS.out i (by omega))
        generalize xs.getD k 0 = y at *
        go_wp2_with fail
        go_round
        case rel => exact ⟨k + 1, by omega, by simp, HN⟩
        case measure => simp [intOf]; omega
      · have h2 : (1 : Int) < ((xs.getD k 0 : Nat) : Int) := by omega
        generalize xs.getD k 0 = y at *
        clear h1
        go_wp2_with fail
        go_ret
        exact ⟨rfl, rfl⟩
    · exact absurd (fun i => by
        by_cases e : i < xs.length
        · exact HS.out i (by omega)
        · rw [List.getD_eq_getElem?_getD, List.getElem?_eq_none (by omega)]; simp) HO.out
end Go.Proofs.YtknkkoemghceeaaDoor
