/- outpostlaw25's num, Plain, knows, row, symbols, window, walked. -/
import Derived.Test.YtlbfndibgojbiaaRows
import Derived.Test.YtlbfndibgojbiaaMWin
import Derived.Test.YtlbfndibgojbiaaMC
namespace Go.Proofs.Ytlbfndibgojbiaa
open Go.RowKit
set_option linter.unusedVariables false

theorem num25_any (n : Int) (w : World) : Calls Try.prog 18 #[.int .i64 n] w fun e w' => e = .returned (.int .i64 n) ∧ w = w' := by
  go_enter Try.func18, Try.ntmps18
  go_wp2_with fail
  go_ret
  exact ⟨rfl, rfl⟩
theorem plain25_any (w : World) :
    Calls Try.prog 37 #[] w fun e w' => e = .returned (.agg #[.int .i64 3, .int .i64 2, .int .u32 7, .int .u32 5, .int .u32 0, .int .i64 3, .int .u64 3, .int .u64 1, .int .u64 5, .int .i64 3, .int .i64 1, .int .i64 1]) ∧ Below w.heap.size w w' := by
  go_enter Try.func37, Try.ntmps37
  go_wp2_with fail
  refine bodyPost_ret (v := .agg #[.int .i64 3, .int .i64 2, .int .u32 7, .int .u32 5, .int .u32 0, .int .i64 3, .int .u64 3, .int .u64 1, .int .u64 5, .int .i64 3, .int .i64 1, .int .i64 1]) (by simp [results, Try.results37, go_sem]) rfl ⟨rfl, ?_⟩
  exact (Below.refl _ _).alloc (Nat.le_refl _) _
theorem plain25_good : GMod 2 2 7 5 0 3 3 1 5 3 1 1 :=
  ⟨by decide, by decide, by decide, by decide, okB_ok (K := 3) (R := 2) (by decide +kernel), by decide, by decide, ⟨by decide, by decide, by decide, by decide, by decide, by decide⟩, by decide +kernel, by decide, by decide, by decide⟩
theorem plain25_sym : symL 2 2 7 5 0 3 3 1 5 3 1 1 [1] = [1, 0, 1, 0, 1, 1, 1, 1, 0] := by decide +kernel
set_option maxRecDepth 100000 in
set_option maxHeartbeats 1000000 in
theorem knows25_any (w : World) :
    Calls Try.prog 13 #[] w fun e w' => e = .returned (.bool true) ∧ Below w.heap.size w w' := by
  have HS := hide fun ad cap w hx => symbols_good 2 2 7 5 0 3 3 1 5 3 1 1 plain25_good ad cap [1] rfl (fun i hi => by simp at hi; subst hi; decide) w hx
  have HN := hide fun w => mspan_any 3 2 7 5 0 3 3 1 5 3 1 1 (by decide) (by decide) (by decide) (by decide) (by decide) w
  have h0 : modE 3 2 7 5 0 3 3 1 5 3 1 1 = 0 := plain25_good.ok
  have h9 : spanN 3 2 7 5 0 3 3 1 5 3 1 1 = 9 := by unfold spanN; rw [if_pos h0]; decide
  rw [plain25_sym] at HS
  rw [h0, h9] at HN
  clear h0 h9
  go_enter Try.func13, Try.ntmps13
  go_wp2_with fail
  refine (plain25_any _).mono ?_
  rintro e w1 ⟨rfl, hb1⟩
  go_wp2_with fail
  refine (HS.out _ _ _ ?hl1).mono ?_
  case hl1 => exact RowA.litAt _ [1] _ (by simp)
  rintro e w2 ⟨v2, rfl, ho2, hb2⟩
  obtain ⟨al, cl, rfl, rl, _⟩ := ho2.rowg
  have HB2 := hide (below_mid hb1 hb2)
  have RL := hide rl
  clear ho2 hb1 hb2 rl
  go_wp2_with fail
  refine (plain25_any _).mono ?_
  rintro e w3 ⟨rfl, hb3⟩
  go_wp2_with fail
  refine (HN.out _).mono ?_
  rintro e w4 ⟨rfl, hb4⟩
  have HB34 := hide (below_then hb3 hb4)
  have HB4 := hide (below_then HB2.out HB34.out)
  have RL4 := hide (RL.out.below HB34.out)
  clear hb3 hb4
  go_wp2_with fail
  refine (num25_any _ _).mono ?_
  rintro e w' ⟨rfl, rfl⟩
  go_wp2_with fail
  refine (num25_any _ _).mono ?_
  rintro e w' ⟨rfl, rfl⟩
  have cv1 : (convert 33 9 (.slice al 9 cl)).run Try.prog w4 = .ok (.string (strN [1, 0, 1, 0, 1, 1, 1, 1, 0])) w4 := RL4.out.conv cl
  have cv2 : ∀ t, (convert 33 9 (.slice (some ⟨w4.heap.size, 0, none⟩) 9 9)).run Try.prog (w4.alloc (.cells #[.int .u8 1, .int .u8 0, .int .u8 1, .int .u8 0, .int .u8 1, .int .u8 1, .int .u8 1, .int .u8 1, .int .u8 0] t)) = .ok (.string (strN [1, 0, 1, 0, 1, 1, 1, 1, 0])) (w4.alloc (.cells #[.int .u8 1, .int .u8 0, .int .u8 1, .int .u8 0, .int .u8 1, .int .u8 1, .int .u8 1, .int .u8 1, .int .u8 0] t)) := fun t => (RowA.lit w4 [1, 0, 1, 0, 1, 1, 1, 1, 0] t).conv 9
  generalize strN [1, 0, 1, 0, 1, 1, 1, 1, 0] = sn at *
  go_wp2_with fail
  go_ret
  exact ⟨rfl, HB4.out.alloc HB4.out.size _⟩
theorem fillK_rest {f : Nat → Nat} {n k : Nat} (hk : k ≤ n) (h0 : ∀ i, k ≤ i → i < n → f i = 0) : fillK f n k = (List.range n).map f := by
  apply List.ext_getElem
  · rw [fillK_length hk]; simp
  · intro i h1 h2
    rw [fillK_length hk] at h1
    simp only [fillK, List.getElem_map, List.getElem_range]
    rcases Nat.lt_or_ge i k with h | h
    · rw [List.getElem_append_left (by simpa using h)]; simp
    · rw [List.getElem_append_right (by simpa using h)]; simp [h0 i h h1]
theorem and8 (x : Nat) (h : x ≤ 255) : bits .and .u8 (x : Int) 1 = ((x % 2 : Nat) : Int) := by
  have := u8_and_nat x 1 (by omega) (by omega)
  rwa [and1] at this
/-- how many bits row makes -/
def rowN (z : Int) : Nat := (min (max 0 z) 1024).toNat
def rowL (z : Int) (xs : List Nat) : List Nat := (List.range (rowN z)).map fun i => xs.getD i 0 % 2
theorem rowN_le (z : Int) : rowN z ≤ 1024 := by unfold rowN; omega
theorem rowL_length (z : Int) (xs : List Nat) : (rowL z xs).length = rowN z := by simp [rowL]
theorem rowL_bits (z : Int) (xs : List Nat) : Bits (rowL z xs) := by
  intro i hi
  rw [rowL_length] at hi
  unfold rowL
  rw [fill_at _ hi]
  omega
set_option maxRecDepth 100000 in
set_option maxHeartbeats 2000000 in
theorem row25_any (K R : Int) (a b c : Nat) (D : Int) (T S m : Nat) (l q z : Int) (ad : Option Addr) (cap : Nat) (xs : List Nat) (hl : xs.length ≤ 140737488351232) (h8 : ∀ i, xs.getD i 0 ≤ 255) (w : World) (hx : RowA w ad xs) :
    Calls Try.prog 12 #[.agg #[.int .i64 K, .int .i64 R, .int .u32 a, .int .u32 b, .int .u32 c, .int .i64 D, .int .u64 T, .int .u64 S, .int .u64 m, .int .i64 l, .int .i64 q, .int .i64 z], .slice ad xs.length cap] w fun e w' => ∃ v, e = .returned v ∧ OwnB w' w.heap.size v (rowL z xs) ∧ Below w.heap.size w w' := by
  have HX := hide hx
  have H8 := hide h8
  have hN : min (max 0 z) 1024 = (rowN z : Int) := by unfold rowN; omega
  have hle := rowN_le z
  unfold rowL
  generalize rowN z = N at *
  clear hx h8
  go_enter Try.func12, Try.ntmps12
  go_wp2_with (first
    | (at_make; refine wpList_makeB rfl _ _ rfl (w.heap.size + 1) _ _ N rfl rfl ?c1 ?c2 ?c3 ?c4 ?_)
    | go_in)
  case c1 => rfl
  case c2 => rfl
  case c3 => omega
  case c4 => simp
  intro w2 hown2 hgrow2 hz2
  have HB0 := hide (show Below w.heap.size w (w.alloc (.cells #[.int .i64 K, .int .i64 R, .int .u32 a, .int .u32 b, .int .u32 c, .int .i64 D, .int .u64 T, .int .u64 S, .int .u64 m, .int .i64 l, .int .i64 q, .int .i64 z] 32)) from (Below.refl _ _).alloc (Nat.le_refl _) _)
  have HO2 := hide (show OwnB w2 (w.heap.size + 1) (.slice (some ⟨w.heap.size + 1, 0, none⟩) N N) (fillK (fun i => xs.getD i 0 % 2) N 0) by rw [fillK_zero]; simpa using hown2)
  have HB2 := hide (HB0.out.grown hgrow2 HB0.out.size (fun k e => by cases e))
  clear hown2 hgrow2
  go_wp2_with fail
  go_loopw [6] (fun i u => ∃ k : Nat, k ≤ N ∧ i = .int .i64 k ∧ Hid (OwnB u (w.heap.size + 1) (.slice (some ⟨w.heap.size + 1, 0, none⟩) N N) (fillK (fun i => xs.getD i 0 % 2) N k)) ∧ Hid (Below w.heap.size w u)) (fun i _ => N - (intOf i).toNat)
  case atStart => exact ⟨0, by omega, rfl, HO2, HB2⟩
  case round =>
    rename World => wr
    obtain ⟨k, hk, rfl, ho, hb⟩ := hrel
    clear HO2 HB2 hN
    by_cases hlt : k < N
    · have d1 : decide ((k : Int) < N) = true := decide_eq_true (by omega)
      by_cases hlx : k < xs.length
      · have d2 : decide ((k : Int) < xs.length) = true := decide_eq_true (by omega)
        obtain ⟨b, off, rfl, _, hc⟩ := (HX.out.below hb.out).at_ hlx
        have hcg := ho.out.cell (fillK_length hk).symm hlt
        have hfz := ho.out.frz (fillK_length hk).symm k
        have hset := (ho.out.set (fillK_length hk).symm k (xs.getD k 0 % 2)).1
        have hF : (fillK (fun i => xs.getD i 0 % 2) N k).set k (xs.getD k 0 % 2) = fillK (fun i => xs.getD i 0 % 2) N (k + 1) := fillK_set (f := fun i => xs.getD i 0 % 2) hlt
        rw [hF] at hset
        have HO4 := hide hset
        have HB4 := hide (hb.out.setCell (p := ⟨w.heap.size + 1, k, none⟩) (Nat.le_succ _) (.int .u8 (xs.getD k 0 % 2 : Nat)))
        have h1 := and8 _ (H8.out k)
        clear hset hF
        have hin : (0 : Int) ≤ k := by omega
        have hin2 : (k : Int) < xs.length := by omega
        have hin3 : (k : Int) < N := by omega
        generalize xs.getD k 0 % 2 = y2 at *
        generalize xs.getD k 0 = y at *
        go_wp2_with fail
        go_roundw
        case rel => exact ⟨k + 1, by omega, by simp, HO4, HB4⟩
        case measure => simp [intOf]; omega
      · have d2 : decide ((k : Int) < xs.length) = false := decide_eq_false (by omega)
        have HR := hide (fillK_rest (f := fun i => xs.getD i 0 % 2) hk (fun i h1 _ => by simp only [getD_far' (show xs.length ≤ i by omega)]))
        go_wp2_with fail
        go_ret
        exact ⟨_, rfl, by have := ho.out; rw [HR.out] at this; exact this.mono (Nat.le_succ _), hb.out⟩
    · obtain rfl : k = N := by omega
      have d1 : decide ((k : Int) < k) = false := decide_eq_false (by omega)
      go_wp2_with fail
      go_ret
      exact ⟨_, rfl, by have := ho.out; rw [fillK_full] at this; exact this.mono (Nat.le_succ _), hb.out⟩
end Go.Proofs.Ytlbfndibgojbiaa
