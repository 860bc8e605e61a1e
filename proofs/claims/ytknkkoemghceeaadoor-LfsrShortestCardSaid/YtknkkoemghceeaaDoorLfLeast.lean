/- lfsr.least, walked. -/
import Derived.Test.YtknkkoemghceeaaDoorRows
import Derived.Test.YtknkkoemghceeaaDoorBMX
import Derived.Test.YtknkkoemghceeaaDoorPoly
import Derived.Test.YtknkkoemghceeaaDoorLit
namespace Go.Proofs.YtknkkoemghceeaaDoor
open Go.RowKit

set_option maxHeartbeats 1000000 in
theorem least_any (c b m L n : Nat) (hc : c ≤ 18446744073709551615) (hb : b ≤ 18446744073709551615) (hb0 : b ≠ 0) (hm : 1 ≤ m ∧ m ≤ 64) (hL : L ≤ 63) (hn : n ≤ 63) (hsh : ∀ sh, sh + n + 1 ≤ m + 2 * L → b * 2 ^ sh < 2 ^ 64) (w : World) :
    Calls Tryd.prog 67 #[.int .u64 c, .int .u64 b, .int .i64 m, .int .i64 L, .int .i64 n] w fun e w' => e = .returned (.int .u64 (if 2 * L ≤ n then c else Gf2.BM.lst b (Gf2.len b - 1) (2 * L - n) (m + 2 * L - n - 1) c : Nat)) ∧ w = w' := by
  by_cases h2 : 2 * L ≤ n
  · have hle : (2 : Int) * L ≤ n := by omega
    rw [if_pos h2]
    clear h2 hsh
    go_enter Tryd.func67, Tryd.ntmps67
    go_wp2_with fail
    go_ret
    exact ⟨rfl, rfl⟩
  · have hle : ¬ (2 : Int) * L ≤ n := by omega
    rw [if_neg h2]
    have HD := hide (degree_any b hb)
    obtain ⟨db, hdb⟩ : ∃ d, Gf2.len b = d + 1 := ⟨_, Gf2.len_pos hb0⟩
    have hdl := len_le64 hb
    have hbp := hide (Gf2.pow_le hb0)
    rw [hdb, Nat.add_sub_cancel] at hbp
    rw [hdb] at HD hdl ⊢
    rw [show ((db + 1 : Nat) : Int) - 1 = db by omega] at HD
    rw [Nat.add_sub_cancel]
    have HSH := hide hsh
    obtain ⟨k0, hk0⟩ : ∃ k0, 2 * L - n = k0 := ⟨_, rfl⟩
    obtain ⟨s0, hs0⟩ : ∃ s0, m + 2 * L - n - 1 = s0 := ⟨_, rfl⟩
    rw [hk0, hs0]
    have hst : IntKind.i64.wrap ((m : Int) + 2 * L - n - 1) = s0 := by rw [IntWalk.i64_in _ ⟨by omega, by omega⟩]; omega
    have hs2 : (m : Int) + 2 * L - n - 1 = s0 := by omega
    have hsk : s0 + 1 = m + k0 := by omega
    have hs1 : s0 + n + 1 ≤ m + 2 * L := by omega
    have hs190 : s0 ≤ 190 := by omega
    clear h2 hsh hdb hb0
    go_enter Tryd.func67, Tryd.ntmps67
    go_wp2_with fail
    go_loop [0, 11] (fun x s => ∃ k cc : Nat, k ≤ k0 ∧ cc ≤ 18446744073709551615 ∧ x = .int .u64 cc ∧ s = .int .i64 ((s0 : Int) - k) ∧ Gf2.BM.lst b db (k0 - k) (s0 - k) cc = Gf2.BM.lst b db k0 s0 c) (fun _ s => (intOf s + 1).toNat)
    case atStart => exact ⟨0, c, by omega, hc, rfl, by simp, rfl⟩
    case round =>
      obtain ⟨k, cc, hk, hcc, rfl, rfl, hr⟩ := hrel
      have HR := hide hr
      clear hr
      by_cases hkk : k = k0
      · have hlt : ¬ (m : Int) ≤ (s0 : Int) - k := by omega
        have HE := hide (show Gf2.BM.lst b db k0 s0 c = cc by have := HR.out; rw [hkk, Nat.sub_self] at this; exact this.symm)
        clear hkk
        go_wp2_with fail
        go_ret
        exact ⟨by rw [HE.out]; rfl, rfl⟩
      · have hlt : (m : Int) ≤ (s0 : Int) - k := by omega
        obtain ⟨sh, hse⟩ : ∃ sh : Nat, (s0 : Int) - k = (sh : Int) := ⟨s0 - k, by omega⟩
        have hshk : s0 - k = sh := by omega
        have hN := Gf2.BM.lst_next b db (k0 - k - 1) sh cc
        rw [show k0 - k - 1 + 1 = k0 - k by omega, ← hshk, HR.out, hshk] at hN
        have hlt64 := HSH.out sh (by omega)
        have hp64 : sh + db < 64 := by
          refine Decidable.byContradiction fun h => ?_
          have h1 : 2 ^ db * 2 ^ sh ≤ b * 2 ^ sh := Nat.mul_le_mul_right _ hbp.out
          rw [← Nat.pow_add] at h1
          have h2 : 2 ^ 64 ≤ 2 ^ (db + sh) := Nat.pow_le_pow_right (by omega) (by omega)
          omega
        have hmin : min (sh + db) 64 = sh + db := by omega
        have hmin2 : min sh 64 = sh := by omega
        have hsw : IntKind.i64.wrap ((sh : Int) + db) = ((sh + db : Nat) : Int) := by rw [IntWalk.i64_in _ ⟨by omega, by omega⟩]; omega
        have hsd : (sh : Int) + db = ((sh + db : Nat) : Int) := by omega
        have hsi : IntKind.i64.wrap ((sh : Int) - 1) = (s0 : Int) - ((k + 1 : Nat) : Int) := by rw [IntWalk.i64_in _ ⟨by omega, by omega⟩]; omega
        have hsi2 : (sh : Int) - 1 = (s0 : Int) - ((k + 1 : Nat) : Int) := by omega
        by_cases hbit : cc / 2 ^ (sh + db) % 2 = 1
        · rw [if_pos hbit] at hN
          have hbt := bit64_ne (sh + db) hcc hbit
          have hsl := shlI64 b sh
          rw [Nat.mod_eq_of_lt hlt64] at hsl
          have hx := xor64 hcc (show b * 2 ^ sh ≤ 18446744073709551615 by omega)
          have hxl := xor64_le hcc (show b * 2 ^ sh ≤ 18446744073709551615 by omega)
          have HX := hide hx
          have HN := hide hN
          generalize hpp : sh + db = pp at *
          clear hbit hN hkk hsd hsi2 hx
          go_wp2_with fail
          refine (HD.out _).mono ?_
          rintro e w' ⟨rfl, rfl⟩
          go_wp2_with fail
          go_round
          case rel => exact ⟨k + 1, cc ^^^ b * 2 ^ sh, by omega, hxl, by rw [← HX.out, Int.natCast_mul, Int.natCast_pow]; rfl, by simp, by rw [HN.out, show k0 - (k + 1) = k0 - k - 1 by omega, show s0 - (k + 1) = sh - 1 by omega]⟩
          case measure => simp [intOf]; omega
        · have hbit0 : cc / 2 ^ (sh + db) % 2 = 0 := by omega
          rw [if_neg hbit] at hN
          have hbt := bit64_ne' (sh + db) hcc hbit0
          have HN := hide hN
          generalize hpp : sh + db = pp at *
          clear hbit hbit0 hN hkk hsd hsi2
          go_wp2_with fail
          refine (HD.out _).mono ?_
          rintro e w' ⟨rfl, rfl⟩
          go_wp2_with fail
          go_round
          case rel => exact ⟨k + 1, cc, by omega, hcc, rfl, by simp, by rw [HN.out, show k0 - (k + 1) = k0 - k - 1 by omega, show s0 - (k + 1) = sh - 1 by omega]⟩
          case measure => simp [intOf]; omega
end Go.Proofs.YtknkkoemghceeaaDoor
