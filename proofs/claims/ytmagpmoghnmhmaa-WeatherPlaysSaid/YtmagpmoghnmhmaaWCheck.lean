/- weather.Check and outpostref37.Check, walked. -/
import Derived.Test.YtmagpmoghnmhmaaRows
import Derived.Test.YtmagpmoghnmhmaaR4Check
import Derived.Test.YtmagpmoghnmhmaaWPass
namespace Go.Proofs.Ytmagpmoghnmhmaa
open Go.RowKit

/-- a number of 256 parts -/
def Of256 (z : Int) : Prop := 0 ≤ z ∧ z ≤ 256
open Classical in
/-- the error of a weather -/
noncomputable def wchk (D : Int) (T S : Nat) (W B C M : Int) : Int :=
  if lchk D T S ≠ 0 then lchk D T S else if Of256 W ∧ Of256 B ∧ Of256 C ∧ Of256 M then 0 else 370
section
variable {D : Int} {T S : Nat} {W B C M : Int}
theorem wchk_reg (h : lchk D T S ≠ 0) : wchk D T S W B C M = lchk D T S := if_pos h
theorem wchk_ok (h : lchk D T S = 0) (h2 : Of256 W ∧ Of256 B ∧ Of256 C ∧ Of256 M) : wchk D T S W B C M = 0 := by unfold wchk; rw [if_neg (by simpa using h), if_pos h2]
theorem wchk_no (h : lchk D T S = 0) (h2 : ¬ (Of256 W ∧ Of256 B ∧ Of256 C ∧ Of256 M)) : wchk D T S W B C M = 370 := by unfold wchk; rw [if_neg (by simpa using h), if_neg h2]
theorem wchk_zero (h : wchk D T S W B C M = 0) : (∃ n : Nat, D = n ∧ GoodL n T S) ∧ Of256 W ∧ Of256 B ∧ Of256 C ∧ Of256 M := by
  by_cases h1 : lchk D T S = 0
  · by_cases h2 : Of256 W ∧ Of256 B ∧ Of256 C ∧ Of256 M
    · exact ⟨lchk_zero h1, h2⟩
    · rw [wchk_no h1 h2] at h; exact absurd h (by decide)
  · rw [wchk_reg h1] at h; exact absurd h h1
end
set_option maxHeartbeats 1000000 in
theorem wcheck_any (D : Int) (T S : Nat) (W B C M : Int) (hT : T ≤ 18446744073709551615) (hS : S ≤ 18446744073709551615) (w : World) :
    Calls Try.prog 24 #[.agg #[.int .i64 D, .int .u64 T, .int .u64 S, .int .i64 W, .int .i64 B, .int .i64 C, .int .i64 M]] w fun e w' => e = .returned (.int .i64 (wchk D T S W B C M)) ∧ Below w.heap.size w w' := by
  have HC := hide (lcheck_any D T S hT hS)
  by_cases h1 : lchk D T S = 0
  · rw [h1] at HC
    have HOK := hide fun h2 => wchk_ok (W := W) (B := B) (C := C) (M := M) h1 h2
    have HNO := hide fun h2 => wchk_no (W := W) (B := B) (C := C) (M := M) h1 h2
    generalize wchk D T S W B C M = res at *
    clear h1
    go_enter Try.func24, Try.ntmps24
    go_wp2_with fail
    refine (HC.out _).mono ?_
    rintro e w1 ⟨rfl, hb1⟩
    have k1 := bk hb1 w.heap.size (by simp)
    have hz1 := hb1.size
    simp at hz1
    have HB1 := hide (below_one hb1)
    clear hb1
    go_wp2_with fail
    go_loop [22] (fun i => (i = .int .i64 0) ∨ (i = .int .i64 1 ∧ Hid (Of256 W)) ∨ (i = .int .i64 2 ∧ Hid (Of256 W ∧ Of256 B)) ∨ (i = .int .i64 3 ∧ Hid (Of256 W ∧ Of256 B ∧ Of256 C)) ∨ (i = .int .i64 4 ∧ Hid (Of256 W ∧ Of256 B ∧ Of256 C ∧ Of256 M))) (fun i => 4 - (intOf i).toNat)
    case atStart => exact .inl rfl
    case round =>
      rcases hrel with rfl | ⟨rfl, hr⟩ | ⟨rfl, hr⟩ | ⟨rfl, hr⟩ | ⟨rfl, hr⟩
      · by_cases hlo : W < 0
        · have HE := hide (HNO.out (fun h => by have := h.1; unfold Of256 at this; omega))
          go_wp2_with fail
          go_ret
          exact ⟨by rw [HE.out]; rfl, HB1.out.alloc HB1.out.size _⟩
        · by_cases hhi : 256 < W
          · have HE := hide (HNO.out (fun h => by have := h.1; unfold Of256 at this; omega))
            go_wp2_with fail
            go_ret
            exact ⟨by rw [HE.out]; rfl, HB1.out.alloc HB1.out.size _⟩
          · have hk : Of256 W := ⟨by omega, by omega⟩
            have HK := hide hk
            clear hk
            go_wp2_with fail
            go_round
            case rel => exact .inr (.inl ⟨rfl, HK⟩)
            case measure => simp [intOf]
      · by_cases hlo : B < 0
        · have HE := hide (HNO.out (fun h => by have := h.2.1; unfold Of256 at this; omega))
          go_wp2_with fail
          go_ret
          exact ⟨by rw [HE.out]; rfl, HB1.out.alloc HB1.out.size _⟩
        · by_cases hhi : 256 < B
          · have HE := hide (HNO.out (fun h => by have := h.2.1; unfold Of256 at this; omega))
            go_wp2_with fail
            go_ret
            exact ⟨by rw [HE.out]; rfl, HB1.out.alloc HB1.out.size _⟩
          · have hk : Of256 B := ⟨by omega, by omega⟩
            have HK := hide hk
            clear hk
            go_wp2_with fail
            go_round
            case rel => exact .inr (.inr (.inl ⟨rfl, hide ⟨hr.out, HK.out⟩⟩))
            case measure => simp [intOf]
      · by_cases hlo : C < 0
        · have HE := hide (HNO.out (fun h => by have := h.2.2.1; unfold Of256 at this; omega))
          go_wp2_with fail
          go_ret
          exact ⟨by rw [HE.out]; rfl, HB1.out.alloc HB1.out.size _⟩
        · by_cases hhi : 256 < C
          · have HE := hide (HNO.out (fun h => by have := h.2.2.1; unfold Of256 at this; omega))
            go_wp2_with fail
            go_ret
            exact ⟨by rw [HE.out]; rfl, HB1.out.alloc HB1.out.size _⟩
          · have hk : Of256 C := ⟨by omega, by omega⟩
            have HK := hide hk
            clear hk
            go_wp2_with fail
            go_round
            case rel => exact .inr (.inr (.inr (.inl ⟨rfl, hide ⟨hr.out.1, hr.out.2, HK.out⟩⟩)))
            case measure => simp [intOf]
      · by_cases hlo : M < 0
        · have HE := hide (HNO.out (fun h => by have := h.2.2.2; unfold Of256 at this; omega))
          go_wp2_with fail
          go_ret
          exact ⟨by rw [HE.out]; rfl, HB1.out.alloc HB1.out.size _⟩
        · by_cases hhi : 256 < M
          · have HE := hide (HNO.out (fun h => by have := h.2.2.2; unfold Of256 at this; omega))
            go_wp2_with fail
            go_ret
            exact ⟨by rw [HE.out]; rfl, HB1.out.alloc HB1.out.size _⟩
          · have hk : Of256 M := ⟨by omega, by omega⟩
            have HK := hide hk
            clear hk
            go_wp2_with fail
            go_round
            case rel => exact .inr (.inr (.inr (.inr (⟨rfl, hide ⟨hr.out.1, hr.out.2.1, hr.out.2.2, HK.out⟩⟩))))
            case measure => simp [intOf]
      · have HE := hide (HOK.out hr.out)
        go_wp2_with fail
        go_ret
        exact ⟨by rw [HE.out]; rfl, HB1.out.alloc HB1.out.size _⟩
  · rw [wchk_reg h1]
    have hb := nzBne h1
    generalize lchk D T S = cf at *
    clear h1
    go_enter Try.func24, Try.ntmps24
    go_wp2_with fail
    refine (HC.out _).mono ?_
    rintro e w1 ⟨rfl, hb1⟩
    go_wp2_with fail
    go_ret
    exact ⟨rfl, below_one hb1⟩
set_option maxHeartbeats 1000000 in
theorem r37check_any (D : Int) (T S : Nat) (W B C M : Int) (hT : T ≤ 18446744073709551615) (hS : S ≤ 18446744073709551615) (w : World) :
    Calls Try.prog 16 #[.agg #[.int .i64 D, .int .u64 T, .int .u64 S, .int .i64 W, .int .i64 B, .int .i64 C, .int .i64 M]] w fun e w' => e = .returned (.int .i64 (wchk D T S W B C M)) ∧ Below w.heap.size w w' := by
  have HC := hide (r4check_any D T S hT hS)
  by_cases h1 : lchk D T S = 0
  · rw [h1] at HC
    have HOK := hide fun h2 => wchk_ok (W := W) (B := B) (C := C) (M := M) h1 h2
    have HNO := hide fun h2 => wchk_no (W := W) (B := B) (C := C) (M := M) h1 h2
    generalize wchk D T S W B C M = res at *
    clear h1
    go_enter Try.func16, Try.ntmps16
    go_wp2_with fail
    refine (HC.out _).mono ?_
    rintro e w1 ⟨rfl, hb1⟩
    have k1 := bk hb1 w.heap.size (by simp)
    have hz1 := hb1.size
    simp at hz1
    have HB1 := hide (below_one hb1)
    clear hb1
    go_wp2_with fail
    go_loop [5] (fun i => (i = .int .i64 0) ∨ (i = .int .i64 1 ∧ Hid (Of256 W)) ∨ (i = .int .i64 2 ∧ Hid (Of256 W ∧ Of256 B)) ∨ (i = .int .i64 3 ∧ Hid (Of256 W ∧ Of256 B ∧ Of256 C)) ∨ (i = .int .i64 4 ∧ Hid (Of256 W ∧ Of256 B ∧ Of256 C ∧ Of256 M))) (fun i => 4 - (intOf i).toNat)
    case atStart => exact .inl rfl
    case round =>
      rcases hrel with rfl | ⟨rfl, hr⟩ | ⟨rfl, hr⟩ | ⟨rfl, hr⟩ | ⟨rfl, hr⟩
      · by_cases hlo : W < 0
        · have HE := hide (HNO.out (fun h => by have := h.1; unfold Of256 at this; omega))
          go_wp2_with fail
          go_ret
          exact ⟨by rw [HE.out]; rfl, HB1.out.alloc HB1.out.size _⟩
        · by_cases hhi : 256 < W
          · have HE := hide (HNO.out (fun h => by have := h.1; unfold Of256 at this; omega))
            go_wp2_with fail
            go_ret
            exact ⟨by rw [HE.out]; rfl, HB1.out.alloc HB1.out.size _⟩
          · have hk : Of256 W := ⟨by omega, by omega⟩
            have HK := hide hk
            clear hk
            go_wp2_with fail
            go_round
            case rel => exact .inr (.inl ⟨rfl, HK⟩)
            case measure => simp [intOf]
      · by_cases hlo : B < 0
        · have HE := hide (HNO.out (fun h => by have := h.2.1; unfold Of256 at this; omega))
          go_wp2_with fail
          go_ret
          exact ⟨by rw [HE.out]; rfl, HB1.out.alloc HB1.out.size _⟩
        · by_cases hhi : 256 < B
          · have HE := hide (HNO.out (fun h => by have := h.2.1; unfold Of256 at this; omega))
            go_wp2_with fail
            go_ret
            exact ⟨by rw [HE.out]; rfl, HB1.out.alloc HB1.out.size _⟩
          · have hk : Of256 B := ⟨by omega, by omega⟩
            have HK := hide hk
            clear hk
            go_wp2_with fail
            go_round
            case rel => exact .inr (.inr (.inl ⟨rfl, hide ⟨hr.out, HK.out⟩⟩))
            case measure => simp [intOf]
      · by_cases hlo : C < 0
        · have HE := hide (HNO.out (fun h => by have := h.2.2.1; unfold Of256 at this; omega))
          go_wp2_with fail
          go_ret
          exact ⟨by rw [HE.out]; rfl, HB1.out.alloc HB1.out.size _⟩
        · by_cases hhi : 256 < C
          · have HE := hide (HNO.out (fun h => by have := h.2.2.1; unfold Of256 at this; omega))
            go_wp2_with fail
            go_ret
            exact ⟨by rw [HE.out]; rfl, HB1.out.alloc HB1.out.size _⟩
          · have hk : Of256 C := ⟨by omega, by omega⟩
            have HK := hide hk
            clear hk
            go_wp2_with fail
            go_round
            case rel => exact .inr (.inr (.inr (.inl ⟨rfl, hide ⟨hr.out.1, hr.out.2, HK.out⟩⟩)))
            case measure => simp [intOf]
      · by_cases hlo : M < 0
        · have HE := hide (HNO.out (fun h => by have := h.2.2.2; unfold Of256 at this; omega))
          go_wp2_with fail
          go_ret
          exact ⟨by rw [HE.out]; rfl, HB1.out.alloc HB1.out.size _⟩
        · by_cases hhi : 256 < M
          · have HE := hide (HNO.out (fun h => by have := h.2.2.2; unfold Of256 at this; omega))
            go_wp2_with fail
            go_ret
            exact ⟨by rw [HE.out]; rfl, HB1.out.alloc HB1.out.size _⟩
          · have hk : Of256 M := ⟨by omega, by omega⟩
            have HK := hide hk
            clear hk
            go_wp2_with fail
            go_round
            case rel => exact .inr (.inr (.inr (.inr (⟨rfl, hide ⟨hr.out.1, hr.out.2.1, hr.out.2.2, HK.out⟩⟩))))
            case measure => simp [intOf]
      · have HE := hide (HOK.out hr.out)
        go_wp2_with fail
        go_ret
        exact ⟨by rw [HE.out]; rfl, HB1.out.alloc HB1.out.size _⟩
  · rw [wchk_reg h1]
    have hb := nzBne h1
    generalize lchk D T S = cf at *
    clear h1
    go_enter Try.func16, Try.ntmps16
    go_wp2_with fail
    refine (HC.out _).mono ?_
    rintro e w1 ⟨rfl, hb1⟩
    go_wp2_with fail
    go_ret
    exact ⟨rfl, below_one hb1⟩
end Go.Proofs.Ytmagpmoghnmhmaa
