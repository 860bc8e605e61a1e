/- outpostref06.has, Symbol, walked. -/
import Derived.Test.YtmmngcjnofcmmaaRows
import Derived.Test.YtmmngcjnofcmmaaWordAt
namespace Go.Proofs.Ytmmngcjnofcmmaa
open Go.RowKit

theorem bit_and32 {g j : Nat} (hg : g ≤ 4294967295) : bits .and .u32 ((g : Int) / 2 ^ j) 1 = ((g / 2 ^ j % 2 : Nat) : Int) := by
  rw [shrI]
  exact low32 (Nat.le_trans (Nat.div_le_self _ _) hg)
set_option maxHeartbeats 400000 in
theorem rhas_any (K R : Int) (a b c i j : Nat) (hA : a ≤ 4294967295) (hB : b ≤ 4294967295) (hC : c ≤ 4294967295) (hi : i < 3) (hj : j ≤ 31) (v : Bool) (hv : (genN a b c i / 2 ^ j % 2 == 1) = v) (w : World) :
    Calls Try.prog 53 #[.agg #[.int .i64 K, .int .i64 R, .int .u32 a, .int .u32 b, .int .u32 c], .int .i64 i, .int .i64 j] w fun e w' => e = .returned (.bool v) ∧ Below w.heap.size w w' := by
  have hgl := genN_le hA hB hC i
  have HG := hide ((CodeB.new w K R a b c).gen hi)
  have HV := hide (show ((bits .and .u32 ((genN a b c i : Int) / 2 ^ j) 1) == 1) = v by
    rw [bit_and32 hgl, ← hv]
    have : genN a b c i / 2 ^ j % 2 = 0 ∨ genN a b c i / 2 ^ j % 2 = 1 := by omega
    rcases this with h | h <;> rw [h] <;> rfl)
  generalize genN a b c i = g at *
  have hi0 : (0 : Int) ≤ i := by omega
  have hi3 : (i : Int) < 3 := by omega
  have ewj : IntKind.u64.wrap (j : Int) = j := IntWalk.u64_in _ ⟨by omega, by omega⟩
  clear hv hA hB hC
  have hgc := HG.out
  go_enter Try.func53, Try.ntmps53
  go_wp2_with fail
  trace_state
  go_ret
  exact ⟨by rw [← HV.out]; rfl, (Below.refl _ _).alloc (Nat.le_refl _) _⟩
theorem symP_yes {g t k y : Nat} {xs : List Nat} (h : g / 2 ^ k % 2 = 1) (hy : backAt xs t k = y) : symP g xs t (k + 1) = symP g xs t k ^^^ y := by
  show symP g xs t k ^^^ _ = _
  rw [if_pos h, hy]
theorem symP_no {g t k : Nat} {xs : List Nat} (h : ¬ g / 2 ^ k % 2 = 1) : symP g xs t (k + 1) = symP g xs t k := by
  show symP g xs t k ^^^ _ = _
  rw [if_neg h, Nat.xor_zero]
theorem symP_out {g t k : Nat} {xs : List Nat} (hy : backAt xs t k = 0) : symP g xs t (k + 1) = symP g xs t k := by
  show symP g xs t k ^^^ _ = _
  rw [hy]; split <;> exact Nat.xor_zero _
theorem xor_le1 {a b : Nat} (ha : a ≤ 1) (hb : b ≤ 1) : a ^^^ b ≤ 1 := by
  have h1 : a = 0 ∨ a = 1 := by omega
  have h2 : b = 0 ∨ b = 1 := by omega
  rcases h1 with rfl | rfl <;> rcases h2 with rfl | rfl <;> decide
theorem symP_le {g t : Nat} {xs : List Nat} (hx : ∀ i, xs.getD i 0 ≤ 1) : ∀ k, symP g xs t k ≤ 1
  | 0 => by show (0 : Nat) ≤ 1; omega
  | k + 1 => by
    refine xor_le1 (symP_le hx k) ?_
    split
    · unfold backAt; split
      · exact hx _
      · omega
    · omega
set_option maxRecDepth 100000 in
set_option maxHeartbeats 1000000 in
theorem rsymbol_any (n a b c : Nat) (R : Int) (hn : n ≤ 31) (hA : a ≤ 4294967295) (hB : b ≤ 4294967295) (hC : c ≤ 4294967295) (ad : Option Addr) (cap : Nat) (xs : List Nat) (hl : xs.length ≤ 140737488351232) (hb : Bits xs) (i t : Nat) (hi : i < 3) (ht : t ≤ 140737488351232) (w : World) (hx : RowA w ad xs) :
    Calls Try.prog 50 #[.agg #[.int .i64 (n + 1), .int .i64 R, .int .u32 a, .int .u32 b, .int .u32 c], .slice ad xs.length cap, .int .i64 i, .int .i64 t] w fun e w' => e = .returned (.int .u8 (symP (genN a b c i) xs t (n + 1) : Nat)) ∧ Below w.heap.size w w' := by
  have HH := hide fun (k : Nat) (hk : k ≤ 31) (v : Bool) (hv : (genN a b c i / 2 ^ k % 2 == 1) = v) => rhas_any (n + 1) R a b c i k hA hB hC hi hk v hv
  have HX := hide hx
  have HBT := hide hb.all
  have HSL := hide (fun k => symP_le (g := genN a b c i) (t := t) hb.all k)
  have HC0 := hide (CodeB.new w (n + 1) R a b c)
  have HB0 := hide ((Below.refl w.heap.size w).alloc (Nat.le_refl _) (.cells #[.int .i64 (n + 1), .int .i64 R, .int .u32 a, .int .u32 b, .int .u32 c] 25))
  generalize genN a b c i = g at *
  clear hx hb
  go_enter Try.func50, Try.ntmps50
  go_wp2_with fail
  go_loopw [9, 10] (fun s j u => ∃ k : Nat, k ≤ n + 1 ∧ s = .int .u8 (symP g xs t k : Nat) ∧ j = .int .i64 k ∧ Hid (CodeB u w.heap.size (n + 1) R a b c) ∧ Hid (Below w.heap.size w u)) (fun _ j _ => n + 1 - (intOf j).toNat)
  case atStart => exact ⟨0, by omega, rfl, rfl, HC0, HB0⟩
  case round =>
    rename World => wr
    obtain ⟨k, hk, rfl, rfl, hc, hbl⟩ := hrel
    clear HC0 HB0
    obtain ⟨q0, q1, q2, q3, q4⟩ := hc.out.cells
    by_cases hlt : k < n + 1
    · have hs1 := HSL.out k
      by_cases hbit : g / 2 ^ k % 2 = 1
      · have HHk := hide (HH.out k (by omega) true (by rw [hbit]; rfl))
        by_cases hkt : k ≤ t
        · by_cases htl : t - k < xs.length
          · have hyb : backAt xs t k = xs.getD (t - k) 0 := by unfold backAt; rw [if_pos hkt]
            have HS := hide (symP_yes hbit hyb)
            obtain ⟨b', off, had, _, hcx⟩ := (HX.out.below hbl.out).at_ htl
            have hy1 := HBT.out (t - k)
            have HXO := hide (xorU8 (a := symP g xs t k) (b := xs.getD (t - k) 0) (by omega) (by omega))
            have HRW := hide fun (u : World) (hb : Below wr.heap.size wr u) => (bcell hb (b := b') (o := off + (t - k)) (by assumption) hcx)
            have hw : IntKind.i64.wrap ((t : Int) - k) = ((t - k : Nat) : Int) := by rw [IntWalk.i64_in _ (by omega)]; omega
            have hd0 : (0 : Int) ≤ ((t - k : Nat) : Int) := by omega
            have hdl : ((t - k : Nat) : Int) < xs.length := by omega
            generalize xs.getD (t - k) 0 = y at *
            have hdt : (t : Int) - k = ((t - k : Nat) : Int) := by omega
            generalize t - k = d at *
            generalize symP g xs t k = s0 at *
            clear hbit hyb htl hcx
            subst had
            go_wp2_with fail
            refine (HHk.out _).mono ?_
            rintro e w2 ⟨rfl, hb2⟩
            have hcy := HRW.out w2 hb2
            have HC2 := hide (hc.out.keep hb2 hc.out.lt)
            have HB2 := hide (below_then hbl.out hb2)
            clear hb2 q0 q1 q2 q3 q4
            go_wp2_with fail
            rw [HXO.out]
            go_roundw
            case rel => exact ⟨k + 1, by omega, by rw [HS.out], by simp, HC2, HB2⟩
            case measure => simp [intOf]; omega
          · have HS := hide (symP_out (g := g) (show backAt xs t k = 0 by unfold backAt; rw [if_pos hkt]; exact getD_far' (by omega)))
            have hw : IntKind.i64.wrap ((t : Int) - k) = ((t - k : Nat) : Int) := by rw [IntWalk.i64_in _ (by omega)]; omega
            have hdt : (t : Int) - k = ((t - k : Nat) : Int) := by omega
            have hd0 : (0 : Int) ≤ ((t - k : Nat) : Int) := by omega
            have hdl : ¬ ((t - k : Nat) : Int) < xs.length := by omega
            generalize t - k = d at *
            generalize symP g xs t k = s0 at *
            clear hbit htl
            go_wp2_with fail
            refine (HHk.out _).mono ?_
            rintro e w2 ⟨rfl, hb2⟩
            have HC2 := hide (hc.out.keep hb2 hc.out.lt)
            have HB2 := hide (below_then hbl.out hb2)
            clear hb2 q0 q1 q2 q3 q4
            go_wp2_with fail
            go_roundw
            case rel => exact ⟨k + 1, by omega, by rw [HS.out], by simp, HC2, HB2⟩
            case measure => simp [intOf]; omega
        · have HS := hide (symP_out (g := g) (show backAt xs t k = 0 by unfold backAt; rw [if_neg hkt]))
          have hw : IntKind.i64.wrap ((t : Int) - k) = (t : Int) - k := IntWalk.i64_in _ (by omega)
          have hdn : ¬ (0 : Int) ≤ (t : Int) - k := by omega
          generalize symP g xs t k = s0 at *
          clear hbit
          go_wp2_with fail
          refine (HHk.out _).mono ?_
          rintro e w2 ⟨rfl, hb2⟩
          have HC2 := hide (hc.out.keep hb2 hc.out.lt)
          have HB2 := hide (below_then hbl.out hb2)
          clear hb2 q0 q1 q2 q3 q4
          go_wp2_with fail
          go_roundw
          case rel => exact ⟨k + 1, by omega, by rw [HS.out], by simp, HC2, HB2⟩
          case measure => simp [intOf]; omega
      · have HHk := hide (HH.out k (by omega) false (by rw [beq_eq_false_iff_ne]; exact hbit))
        have HS := hide (symP_no (xs := xs) (t := t) hbit)
        generalize symP g xs t k = s0 at *
        clear hbit
        go_wp2_with fail
        refine (HHk.out _).mono ?_
        rintro e w2 ⟨rfl, hb2⟩
        have HC2 := hide (hc.out.keep hb2 hc.out.lt)
        have HB2 := hide (below_then hbl.out hb2)
        clear hb2 q0 q1 q2 q3 q4
        go_wp2_with fail
        go_roundw
        case rel => exact ⟨k + 1, by omega, by rw [HS.out], by simp, HC2, HB2⟩
        case measure => simp [intOf]; omega
    · obtain rfl : k = n + 1 := by omega
      go_wp2_with fail
      go_ret
      exact ⟨rfl, hbl.out⟩
end Go.Proofs.Ytmmngcjnofcmmaa
