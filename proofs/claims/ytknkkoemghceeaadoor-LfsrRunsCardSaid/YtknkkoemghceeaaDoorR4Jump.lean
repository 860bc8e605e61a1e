/- outpostref04.Jump, walked: a jump by the power of x is a jump by steps. -/
import Derived.Test.YtknkkoemghceeaaDoorRows
import Derived.Test.YtknkkoemghceeaaDoorPow2
import Derived.Test.YtknkkoemghceeaaDoorR4Per
import Derived.Test.YtknkkoemghceeaaDoorR4Turn
import Derived.Test.YtknkkoemghceeaaDoorLfLive
namespace Go.Proofs.YtknkkoemghceeaaDoor
open Go.RowKit

set_option maxHeartbeats 400000 in
theorem rjump_bad (D : Int) (T S : Nat) (hT : T ≤ 18446744073709551615) (hS : S ≤ 18446744073709551615) (hne : lchk D T S ≠ 0) (k : Value) (w : World) :
    Calls Tryd.prog 20 #[.agg #[.int .i64 D, .int .u64 T, .int .u64 S], k] w fun e w' => e = .returned (.tuple #[.agg #[.int .i64 0, .int .u64 0, .int .u64 0], .int .i64 (lchk D T S)]) ∧ Below w.heap.size w w' := by
  have HC := hide (rpoly_bad D T S hT hS hne)
  have hb := nzBne hne
  generalize lchk D T S = cf at *
  clear hne
  go_enter Tryd.func20, Tryd.ntmps20
  go_wp2_with fail
  refine (HC.out _).mono ?_
  rintro e w1 ⟨rfl, hb1⟩
  have c0 := bcell hb1 (b := w.heap.size + 1) (o := 0) (v := .int .i64 0) (by simp) (by simp [go_sem])
  have c1 := bcell hb1 (b := w.heap.size + 1) (o := 1) (v := .int .u64 0) (by simp) (by simp [go_sem])
  have c2 := bcell hb1 (b := w.heap.size + 1) (o := 2) (v := .int .u64 0) (by simp) (by simp [go_sem])
  have f0 := bfrozen hb1 (b := w.heap.size + 1) (o := 0) (by simp) (by simp [go_sem])
  have f1 := bfrozen hb1 (b := w.heap.size + 1) (o := 1) (by simp) (by simp [go_sem])
  have f2 := bfrozen hb1 (b := w.heap.size + 1) (o := 2) (by simp) (by simp [go_sem])
  have hz := size_mid hb1
  have HB := hide (below_two hb1)
  clear hb1
  go_wp2_with fail
  refine bodyPost_ret (v := .tuple #[.agg #[.int .i64 0, .int .u64 0, .int .u64 0], .int .i64 cf]) (by simp [results, Tryd.results20, go_sem, c0, c1, c2]) rfl ⟨rfl, ?_⟩
  exact ((HB.out.setCell (by simp) _).setCell (by simp) _).setCell (by simp) _
theorem or_bit64 (X j s : Nat) (hX : X ≤ 1048575) (hj : j ≤ 20) (hs : s = X / 2 ^ j % 2) : bits .or .u64 ((X % 2 ^ j : Nat) : Int) (IntKind.u64.wrap ((s : Int) * 2 ^ j)) = ((X % 2 ^ (j + 1) : Nat) : Int) := by
  have h2 : 2 ^ j ≤ 2 ^ 20 := Nat.pow_le_pow_right (by omega) hj
  have hs1 : s ≤ 1 := by omega
  have hm : s * 2 ^ j ≤ 1 * 2 ^ j := Nat.mul_le_mul_right _ hs1
  have hx : X % 2 ^ j ≤ X := Nat.mod_le _ _
  have e1 : IntKind.u64.wrap ((s : Int) * 2 ^ j) = ((s * 2 ^ j : Nat) : Int) := by
    have e0 : (s : Int) * 2 ^ j = ((s * 2 ^ j : Nat) : Int) := by simp
    rw [e0]
    exact IntWalk.u64_in _ (by omega)
  rw [e1, or64 (by omega) (by omega), Gf2.bit_mod, ← hs, Nat.or_comm, Nat.mul_comm, ← Nat.two_pow_add_eq_or_of_lt (Nat.mod_lt X (Nat.two_pow_pos j)), Nat.add_comm]
/-- a partial sum of what a register tells -/
def sumJ (n T q S j i : Nat) : Nat := Gf2.act n T (q % 2 ^ i) (Gf2.stpN n T j S) % 2
theorem sumJ_zero (n T q S j : Nat) : sumJ n T q S j 0 = 0 := by unfold sumJ; rw [Nat.pow_zero, Nat.mod_one, Gf2.act_zero]
theorem sumJ_le (n T q S j i : Nat) : sumJ n T q S j i ≤ 1 := by unfold sumJ; omega
theorem sumJ_yes {n T q S j i x : Nat} (h : q / 2 ^ i % 2 = 1) (hx : x = Gf2.stpN n T (i + j) S % 2) : sumJ n T q S j i ^^^ x = sumJ n T q S j (i + 1) := by
  unfold sumJ
  rw [Gf2.act_bit2, if_pos h, hx, Nat.add_comm i j, Gf2.stpN_add]
  have ha : Gf2.act n T (q % 2 ^ i) (Gf2.stpN n T j S) % 2 = 0 ∨ Gf2.act n T (q % 2 ^ i) (Gf2.stpN n T j S) % 2 = 1 := by omega
  have hb : Gf2.stpN n T i (Gf2.stpN n T j S) % 2 = 0 ∨ Gf2.stpN n T i (Gf2.stpN n T j S) % 2 = 1 := by omega
  rcases ha with ha | ha <;> rcases hb with hb | hb <;> rw [ha, hb] <;> rfl
theorem sumJ_no {n T q S j i : Nat} (h : q / 2 ^ i % 2 = 0) : sumJ n T q S j (i + 1) = sumJ n T q S j i := by
  unfold sumJ
  rw [Gf2.act_bit2, if_neg (by omega)]; omega
theorem rowA_set {w : World} {ad : Option Addr} {xs : List Nat} (h : RowA w ad xs) {p : Addr} (hne : ∀ b off, ad = some ⟨b, off, none⟩ → b ≠ p.block) (u : Value) : RowA (w.setCell p u) ad xs := h.keep (by simp) (fun b off e _ => Below.heap_setCell _ _ _ _ (hne b off e))
set_option maxRecDepth 100000 in
set_option maxHeartbeats 2000000 in
theorem rjump_good (n T S K : Nat) (hg : GoodL n T S) (hK : K ≤ 18446744073709551615) (w : World) :
    Calls Tryd.prog 20 #[.agg #[.int .i64 n, .int .u64 T, .int .u64 S], .int .u64 K] w fun e w' => e = .returned (.tuple #[.agg #[.int .i64 n, .int .u64 T, .int .u64 (Gf2.stpN n T K S : Nat)], .int .i64 0]) ∧ Below w.heap.size w w' := by
  have h2 := hg.lo
  have h20 := hg.hi
  have HC := hide (rpoly_good n T S hg)
  have HP := hide (rpowmod_any n T K (by omega) (by omega) hg.tap hK)
  have HF := hide (rfirst_ok n T S hg (2 * n) (by omega))
  have HX := hide (fun (q : Nat) (hq : Gf2.Goes n T q K) (hl : q < 2 ^ n) (j : Nat) (hj : j < n) => show sumJ n T q S j n = Gf2.stpN n T K S / 2 ^ j % 2 from hq.bit (by omega) hg.seed hl hj)
  have hxs := (hg.stpN K).small.2
  have p20 := pow20 h20
  have hQ := hide (show ∀ q, q < 2 ^ n → q ≤ 18446744073709551615 by intro q hq; omega)
  have HFL := hide (show ∀ i, i < 2 * n → (firstL n T S (2 * n)).getD i 0 = Gf2.stpN n T i S % 2 from fun i hi => firstL_at n T S hi)
  have HLT := hide (show Gf2.stpN n T K S % 2 ^ n = Gf2.stpN n T K S from Nat.mod_eq_of_lt (hg.stpN K).seed)
  clear hg p20
  generalize hX : Gf2.stpN n T K S = X at *
  have HXX := hide hX
  clear hX
  generalize 2 ^ n + T = P at *
  go_enter Tryd.func20, Tryd.ntmps20
  go_wp2_with fail
  refine (HC.out _).mono ?_
  rintro e w1 ⟨rfl, hb1⟩
  have hz1 := hb1.size
  simp at hz1
  have HR1 := hide (((show RegL (w.alloc (.cells #[.int .i64 n, .int .u64 T, .int .u64 S] 24)) w.heap.size n T S from ⟨_, heap_alloc_new w _⟩).alloc (.cells #[.int .i64 0, .int .u64 0, .int .u64 0] 24)).below hb1 (by simp; omega))
  have HZ1 := hide ((show RegL ((w.alloc (.cells #[.int .i64 n, .int .u64 T, .int .u64 S] 24)).alloc (.cells #[.int .i64 0, .int .u64 0, .int .u64 0] 24)) (w.heap.size + 1) 0 0 0 from ⟨_, by have := heap_alloc_new (w.alloc (.cells #[.int .i64 n, .int .u64 T, .int .u64 S] 24)) (.cells #[.int .i64 0, .int .u64 0, .int .u64 0] 24); simpa using this⟩).below hb1 (by simp))
  have HB1 := hide (below_two hb1)
  clear hb1
  obtain ⟨hl1, q0, q1, q2, -⟩ := HR1.out.parts
  have hwm : IntKind.i64.wrap (2 * (n : Int)) = ((2 * n : Nat) : Int) := by rw [IntWalk.i64_in _ (by omega)]; omega
  obtain ⟨m, hm⟩ : ∃ m, 2 * n = m := ⟨_, rfl⟩
  rw [hm] at HF hwm HFL
  generalize hl : firstL n T S m = l at *
  have hll : l.length = m := by rw [← hl]; simp [firstL]
  have HL := hide hll
  have HM := hide hm
  clear hl hll hm
  go_wp2_with fail
  refine (HP.out _).mono ?_
  rintro e w1' ⟨⟨q, hq1, hq2, rfl⟩, rfl⟩
  have HQ1 := hide (HX.out q hq1 hq2)
  have hq64 := hQ.out q hq2
  clear hq1 hq2 HX
  go_wp2_with fail
  refine (HF.out _).mono ?_
  rintro e w2 ⟨v, rfl, ho, hb2⟩
  obtain ⟨ad, cp, rfl, hrow⟩ := ho.row
  have hz2 := hb2.size
  have hadb := hide (hrow.at_lt (by rw [HL.out]; have := HM.out; omega))
  rw [HL.out]
  have HR2 := hide (HR1.out.below hb2 hl1)
  have HZ2 := hide (HZ1.out.below hb2 (by omega))
  have HB2 := hide (below_then HB1.out hb2)
  have HW2 := hide hrow
  have hl2 : w.heap.size < w2.heap.size := by omega
  clear ho hb2 hrow q0 q1 q2
  obtain ⟨_, q0, q1, q2, -⟩ := HR2.out.parts
  have HR0 := hide (HR2.out.alloc (.cells #[.int .i64 n, .int .u64 T, .int .u64 0] 24))
  have HZ0 := hide (HZ2.out.alloc (.cells #[.int .i64 n, .int .u64 T, .int .u64 0] 24))
  have HO0 := hide (show RegL (w2.alloc (.cells #[.int .i64 n, .int .u64 T, .int .u64 0] 24)) w2.heap.size n T (X % 2 ^ 0) by
    rw [Nat.pow_zero, Nat.mod_one]
    exact ⟨_, heap_alloc_new w2 _⟩)
  have HW0 := hide (HW2.out.alloc (.cells #[.int .i64 n, .int .u64 T, .int .u64 0] 24))
  have HB0 := hide (HB2.out.alloc HB2.out.size (.cells #[.int .i64 n, .int .u64 T, .int .u64 0] 24))
  go_wp2_with fail
  go_loopw [12] (fun i u => ∃ j : Nat, j ≤ n ∧ i = .int .i64 j ∧ Hid (RegL u w2.heap.size n T (X % 2 ^ j)) ∧ Hid (RegL u w.heap.size n T S) ∧ Hid (RegL u (w.heap.size + 1) 0 0 0) ∧ Hid (RowA u ad l) ∧ Hid (Below w.heap.size w u)) (fun i _ => n - (intOf i).toNat)
  case atStart => exact ⟨0, by omega, rfl, HO0, HR0, HZ0, HW0, HB0⟩
  case round =>
    rename World => wr
    obtain ⟨j, hj, rfl, hO, hR, hZ, hA, hB⟩ := hrel
    clear HR0 HZ0 HO0 HW0 HB0 HR2 HZ2 HB2 HW2 q0 q1 q2
    obtain ⟨hlr, q0, q1, q2, -⟩ := hR.out.parts
    obtain ⟨hlo, o0, o1, o2, of⟩ := hO.out.parts
    by_cases hlt : j < n
    · have HEND := hide (HQ1.out j hlt)
      have HOR := hide (or_bit64 X j (sumJ n T q S j n) hxs (by omega) (HQ1.out j hlt))
      have HO2 := hide (hO.out.set (X % 2 ^ (j + 1)))
      have HR2 := hide (hR.out.far (p := ⟨w2.heap.size, 2, none⟩) (by simp; omega) (.int .u64 ((X % 2 ^ (j + 1) : Nat) : Int)))
      have HZ2 := hide (hZ.out.far (p := ⟨w2.heap.size, 2, none⟩) (by simp; omega) (.int .u64 ((X % 2 ^ (j + 1) : Nat) : Int)))
      have HA2 := hide (rowA_set hA.out (p := ⟨w2.heap.size, 2, none⟩) (fun b off e => by have := hadb.out b off e; simp; omega) (.int .u64 ((X % 2 ^ (j + 1) : Nat) : Int)))
      have HB2 := hide (hB.out.setCell (p := ⟨w2.heap.size, 2, none⟩) (by simp; omega) (.int .u64 ((X % 2 ^ (j + 1) : Nat) : Int)))
      generalize hY : X % 2 ^ j = y at *
      generalize hY2 : X % 2 ^ (j + 1) = y2 at *
      have HY2 := hide hY2
      clear hY hY2
      have ewj : IntKind.u64.wrap (j : Int) = j := IntWalk.u64_in _ ⟨by omega, by omega⟩
      go_wp2_with fail
      go_loop [13, 14] (fun s i => ∃ k : Nat, k ≤ n ∧ s = .int .u8 (sumJ n T q S j k : Nat) ∧ i = .int .i64 k) (fun _ i => n - (intOf i).toNat)
      case atStart => exact ⟨0, by omega, by rw [sumJ_zero]; rfl, rfl⟩
      case round =>
        obtain ⟨k, hk, rfl, rfl⟩ := hrel
        by_cases hkn : k < n
        · have hkm : k + j < m := by have := HM.out; omega
          obtain ⟨b, off, hadd, hbl, hcx⟩ := hA.out.at_ (i := k + j) (by rw [HL.out]; exact hkm)
          rw [HFL.out _ hkm] at hcx
          subst hadd
          have hs1 := sumJ_le n T q S j k
          have HBT := hide (rbit_any q k k hq64 rfl (by omega))
          by_cases hbit : q / 2 ^ k % 2 = 1
          · have HY := hide (sumJ_yes (S := S) (j := j) (n := n) (T := T) hbit rfl)
            have hx1 : Gf2.stpN n T (k + j) S % 2 ≤ 1 := by omega
            generalize Gf2.stpN n T (k + j) S % 2 = x at *
            have HXO := hide (xorU8 (a := sumJ n T q S j k) (b := x) (by omega) (by omega))
            rw [hbit] at HBT
            clear hbit
            generalize sumJ n T q S j k = s0 at *
            go_wp2_with fail
            refine (HBT.out _).mono ?_
            rintro e w' ⟨rfl, rfl⟩
            go_wp2_with fail
            go_round
            case rel => exact ⟨k + 1, by omega, by rw [HXO.out, HY.out], by go_num⟩
            case measure => simp [intOf]; omega
          · have hbit0 : q / 2 ^ k % 2 = 0 := by omega
            have HN := hide (sumJ_no (S := S) (j := j) (n := n) (T := T) hbit0)
            rw [hbit0] at HBT
            clear hbit hbit0
            generalize sumJ n T q S j k = s0 at *
            go_wp2_with fail
            refine (HBT.out _).mono ?_
            rintro e w' ⟨rfl, rfl⟩
            go_wp2_with fail
            go_round
            case rel => exact ⟨k + 1, by omega, by rw [HN.out], by go_num⟩
            case measure => simp [intOf]; omega
        · obtain rfl : k = n := by omega
          have hs1 := sumJ_le k T q S j k
          generalize sumJ k T q S j k = s0 at *
          have ews : IntKind.u64.wrap (s0 : Int) = s0 := IntWalk.u64_in _ ⟨by omega, by omega⟩
          go_wp2_with fail
          rw [HOR.out]
          go_roundw
          case rel => exact ⟨j + 1, by omega, by go_num, by rw [HY2.out]; exact HO2, HR2, HZ2, HA2, HB2⟩
          case measure => simp [intOf]; omega
    · obtain rfl : j = n := by omega
      rw [HLT.out] at o2
      obtain ⟨hlz, z0, z1, z2, zf2⟩ := hZ.out.parts
      have zf0 : wr.frozen? ⟨w.heap.size + 1, 0, none⟩ = false := by obtain ⟨ty, h⟩ := hZ.out; exact frozen_of_row wr (w.heap.size + 1) 0 _ ty h
      have zf1 : wr.frozen? ⟨w.heap.size + 1, 1, none⟩ = false := by obtain ⟨ty, h⟩ := hZ.out; exact frozen_of_row wr (w.heap.size + 1) 1 _ ty h
      go_wp2_with fail
      refine bodyPost_ret (v := .tuple #[.agg #[.int .i64 j, .int .u64 T, .int .u64 X], .int .i64 0]) (by simp [results, Tryd.results20, go_sem, z0, z1, z2]) rfl ⟨rfl, ?_⟩
      exact ((hB.out.setCell (by simp) _).setCell (by simp) _).setCell (by simp) _
end Go.Proofs.YtknkkoemghceeaaDoor
