/- trellis.Walk and outpostref07.Walk of whatever input. -/
import Derived.Test.YtpmnbdkncmjafaaRows
import Derived.Test.YtpmnbdkncmjafaaWalkGood
import Derived.Test.YtpmnbdkncmjafaaRWalkGood
namespace Go.Proofs.Ytpmnbdkncmjafaa
open Go.RowKit

open Classical in
/-- a walk's error -/
noncomputable def walkE (K R : Int) (a b c s : Nat) (xs : List Nat) : Int :=
  if rightF K R a b c s 0 ≠ 0 then rightF K R a b c s 0
  else if ¬ ∀ i, i < xs.length → xs.getD i 0 ≤ 1 then 10
  else if 1055 < xs.length then 6 else 0
open Classical in
/-- where a walk leads -/
noncomputable def walkS (K R : Int) (a b c s : Nat) (xs : List Nat) : Nat := if walkE K R a b c s xs = 0 then stAt (K - 1).toNat s xs xs.length else 0
open Classical in
/-- a walk's symbols -/
noncomputable def walkO (K R : Int) (a b c s : Nat) (xs : List Nat) : List Nat := if walkE K R a b c s xs = 0 then symsAt R a b c (K - 1).toNat s xs xs.length else []
section
variable {K R : Int} {a b c s : Nat} {xs : List Nat}
theorem walkE_right (h : rightF K R a b c s 0 ≠ 0) : walkE K R a b c s xs = rightF K R a b c s 0 := if_pos h
theorem walkE_bit (h : rightF K R a b c s 0 = 0) (h2 : ¬ ∀ i, i < xs.length → xs.getD i 0 ≤ 1) : walkE K R a b c s xs = 10 := by
  unfold walkE; rw [if_neg (by simpa using h), if_pos h2]
theorem walkE_size (h : rightF K R a b c s 0 = 0) (h2 : ∀ i, i < xs.length → xs.getD i 0 ≤ 1) (h3 : 1055 < xs.length) : walkE K R a b c s xs = 6 := by
  unfold walkE; rw [if_neg (by simpa using h), if_neg (by simpa using h2), if_pos h3]
theorem walkE_good (h : rightF K R a b c s 0 = 0) (h2 : ∀ i, i < xs.length → xs.getD i 0 ≤ 1) (h3 : ¬ 1055 < xs.length) : walkE K R a b c s xs = 0 := by
  unfold walkE; rw [if_neg (by simpa using h), if_neg (by simpa using h2), if_neg h3]
theorem walk_none (h : walkE K R a b c s xs ≠ 0) : walkS K R a b c s xs = 0 ∧ walkO K R a b c s xs = [] := ⟨if_neg h, if_neg h⟩
theorem walk_some (h : walkE K R a b c s xs = 0) : walkS K R a b c s xs = stAt (K - 1).toNat s xs xs.length ∧ walkO K R a b c s xs = symsAt R a b c (K - 1).toNat s xs xs.length := ⟨if_pos h, if_pos h⟩
theorem syms_two (a b c n s : Nat) (xs : List Nat) : ∀ k, (symsAt 2 a b c n s xs k).length = 2 * k
  | 0 => rfl
  | k + 1 => by
    show (symsAt 2 a b c n s xs k ++ _).length = _
    rw [List.length_append, syms_two a b c n s xs k]; simp [symK]; omega
theorem syms_three (a b c n s : Nat) (xs : List Nat) : ∀ k, (symsAt 3 a b c n s xs k).length = 3 * k
  | 0 => rfl
  | k + 1 => by
    show (symsAt 3 a b c n s xs k ++ _).length = _
    rw [List.length_append, syms_three a b c n s xs k]; simp [symK]; omega
end

set_option maxHeartbeats 1000000 in
theorem walk_empty (K R : Int) (a b c s : Nat) (hA : a ≤ 4294967295) (hB : b ≤ 4294967295) (hC : c ≤ 4294967295) (hs : s ≤ 4294967295) (ad : Option Addr) (cap : Nat) (hr : rightF K R a b c s 0 = 0) (w : World) :
    Calls Try.prog 20 #[.agg #[.int .i64 K, .int .i64 R, .int .u32 a, .int .u32 b, .int .u32 c], .int .u32 s, .slice ad 0 cap] w fun e w' => e = .returned (.tuple #[.int .u32 s, .slice none 0 0, .int .i64 0]) ∧ Below w.heap.size w w' := by
  have HC := hide (right_any K R a b c s 0 hA hB hC hs (by omega))
  rw [hr] at HC
  clear hr
  go_enter Try.func20, Try.ntmps20
  go_wp2_with fail
  refine (HC.out _).mono ?_
  rintro e w1 ⟨rfl, hb1⟩
  have hb := below_one hb1
  go_wp2_with fail
  go_loop [24] (fun i => i = .int .i64 0) (fun _ => 0)
  case atStart => rfl
  case round =>
    subst hrel
    go_wp2_with fail
    go_loopw [1, 12, 36] (fun s' v i wr => i = .int .i64 0 ∧ s' = .int .u32 s ∧ v = .slice none 0 0 ∧ wr = w1) (fun _ _ _ _ => 0)
    case atStart => exact ⟨rfl, rfl, rfl, rfl⟩
    case round =>
      obtain ⟨rfl, rfl, rfl, rfl⟩ := hrel
      go_wp2_with fail
      refine bodyPost_ret (v := .tuple #[.int .u32 s, .slice none 0 0, .int .i64 0]) (by simp [results, Try.results20, go_sem]) rfl ⟨rfl, hb⟩
theorem walk_any (K R : Int) (a b c s : Nat) (hA : a ≤ 4294967295) (hB : b ≤ 4294967295) (hC : c ≤ 4294967295) (hs : s ≤ 4294967295) (ad : Option Addr) (cap : Nat) (xs : List Nat) (hn : xs.length ≤ 140737488351232) (w : World) (hx : RowA w ad xs) :
    Calls Try.prog 20 #[.agg #[.int .i64 K, .int .i64 R, .int .u32 a, .int .u32 b, .int .u32 c], .int .u32 s, .slice ad xs.length cap] w fun e w' => ∃ v, e = .returned (.tuple #[.int .u32 (walkS K R a b c s xs), v, .int .i64 (walkE K R a b c s xs)]) ∧ OwnB w' w.heap.size v (walkO K R a b c s xs) ∧ Below w.heap.size w w' := by
  by_cases hr : rightF K R a b c s 0 = 0
  · rcases Nat.eq_zero_or_pos xs.length with h0 | h0
    · obtain rfl : xs = [] := List.eq_nil_of_length_eq_zero h0
      have he : walkE K R a b c s [] = 0 := walkE_good hr (fun i hi => by simp at hi) (by simp)
      rw [(walk_some he).1, (walk_some he).2, he]
      exact (walk_empty K R a b c s hA hB hC hs ad cap hr w).mono fun e w' ⟨h1, h2⟩ => ⟨_, h1, OwnB.nil _ _, h2⟩
    · obtain ⟨bk, off, rfl, hbk, hc⟩ := hx h0
      by_cases hg : ∀ i, i < xs.length → xs.getD i 0 ≤ 1
      · by_cases hl : 1055 < xs.length
        · have he := walkE_size hr hg hl
          rw [(walk_none (by rw [he]; decide)).1, (walk_none (by rw [he]; decide)).2, he]
          exact (walk_size K R a b c s hA hB hC hs xs bk off cap hr hg hl w hc hbk (by omega)).mono fun e w' ⟨h1, h2⟩ => ⟨_, h1, OwnB.nil _ _, h2⟩
        · have he := walkE_good hr hg hl
          obtain ⟨j, rfl, hj, hR, hs2, _⟩ := good_parts hr
          rw [(walk_some he).1, (walk_some he).2, he, show ((j : Int) + 2 - 1).toNat = j + 1 by omega]
          rcases hR with rfl | rfl
          · refine (walk_two j a b c s hj hA hB hC hs2 hs xs bk off cap hr hg (by omega) w hc hbk).mono fun e w' ⟨v, h1, h2, h3⟩ => ⟨v, h1, ?_, h3⟩
            refine OwnB.mono (B := w.heap.size + 1) ?_ (by omega)
            unfold OwnB; rw [syms_two]; exact h2
          · refine (walk_three j a b c s hj hA hB hC hs2 hs xs bk off cap hr hg (by omega) w hc hbk).mono fun e w' ⟨v, h1, h2, h3⟩ => ⟨v, h1, ?_, h3⟩
            refine OwnB.mono (B := w.heap.size + 1) ?_ (by omega)
            unfold OwnB; rw [syms_three]; exact h2
      · have he := walkE_bit hr hg
        rw [(walk_none (by rw [he]; decide)).1, (walk_none (by rw [he]; decide)).2, he]
        exact (walk_bit K R a b c s hA hB hC hs xs bk off cap hr hg w hc hbk (by omega)).mono fun e w' ⟨h1, h2⟩ => ⟨_, h1, OwnB.nil _ _, h2⟩
  · have he : walkE K R a b c s xs = rightF K R a b c s 0 := walkE_right hr
    rw [(walk_none (by rw [he]; exact hr)).1, (walk_none (by rw [he]; exact hr)).2, he]
    exact (walk_right K R a b c s hA hB hC hs _ hr w).mono fun e w' ⟨h1, h2⟩ => ⟨_, h1, OwnB.nil _ _, h2⟩

set_option maxHeartbeats 1000000 in
theorem rwalk_empty (K R : Int) (a b c s : Nat) (hA : a ≤ 4294967295) (hB : b ≤ 4294967295) (hC : c ≤ 4294967295) (hs : s ≤ 4294967295) (ad : Option Addr) (cap : Nat) (hr : rightF K R a b c s 0 = 0) (w : World) :
    Calls Try.prog 21 #[.agg #[.int .i64 K, .int .i64 R, .int .u32 a, .int .u32 b, .int .u32 c], .int .u32 s, .slice ad 0 cap] w fun e w' => e = .returned (.tuple #[.int .u32 s, .slice none 0 0, .int .i64 0]) ∧ Below w.heap.size w w' := by
  have HC := hide (wrong_any K R a b c s 0 hA hB hC hs (by omega))
  rw [hr] at HC
  clear hr
  go_enter Try.func21, Try.ntmps21
  go_wp2_with fail
  refine (HC.out _).mono ?_
  rintro e w1 ⟨rfl, hb1⟩
  have hb := below_one hb1
  go_wp2_with fail
  go_loop [10] (fun i => i = .int .i64 0) (fun _ => 0)
  case atStart => rfl
  case round =>
    subst hrel
    go_wp2_with fail
    go_loopw [1, 11, 12] (fun s' v i wr => i = .int .i64 0 ∧ s' = .int .u32 s ∧ v = .slice none 0 0 ∧ wr = w1) (fun _ _ _ _ => 0)
    case atStart => exact ⟨rfl, rfl, rfl, rfl⟩
    case round =>
      obtain ⟨rfl, rfl, rfl, rfl⟩ := hrel
      go_wp2_with fail
      refine bodyPost_ret (v := .tuple #[.int .u32 s, .slice none 0 0, .int .i64 0]) (by simp [results, Try.results21, go_sem]) rfl ⟨rfl, hb⟩
theorem rwalk_any (K R : Int) (a b c s : Nat) (hA : a ≤ 4294967295) (hB : b ≤ 4294967295) (hC : c ≤ 4294967295) (hs : s ≤ 4294967295) (ad : Option Addr) (cap : Nat) (xs : List Nat) (hn : xs.length ≤ 140737488351232) (w : World) (hx : RowA w ad xs) :
    Calls Try.prog 21 #[.agg #[.int .i64 K, .int .i64 R, .int .u32 a, .int .u32 b, .int .u32 c], .int .u32 s, .slice ad xs.length cap] w fun e w' => ∃ v, e = .returned (.tuple #[.int .u32 (walkS K R a b c s xs), v, .int .i64 (walkE K R a b c s xs)]) ∧ OwnB w' w.heap.size v (walkO K R a b c s xs) ∧ Below w.heap.size w w' := by
  by_cases hr : rightF K R a b c s 0 = 0
  · rcases Nat.eq_zero_or_pos xs.length with h0 | h0
    · obtain rfl : xs = [] := List.eq_nil_of_length_eq_zero h0
      have he : walkE K R a b c s [] = 0 := walkE_good hr (fun i hi => by simp at hi) (by simp)
      rw [(walk_some he).1, (walk_some he).2, he]
      exact (rwalk_empty K R a b c s hA hB hC hs ad cap hr w).mono fun e w' ⟨h1, h2⟩ => ⟨_, h1, OwnB.nil _ _, h2⟩
    · obtain ⟨bk, off, rfl, hbk, hc⟩ := hx h0
      by_cases hg : ∀ i, i < xs.length → xs.getD i 0 ≤ 1
      · by_cases hl : 1055 < xs.length
        · have he := walkE_size hr hg hl
          rw [(walk_none (by rw [he]; decide)).1, (walk_none (by rw [he]; decide)).2, he]
          exact (rwalk_size K R a b c s hA hB hC hs xs bk off cap hr hg hl w hc hbk (by omega)).mono fun e w' ⟨h1, h2⟩ => ⟨_, h1, OwnB.nil _ _, h2⟩
        · have he := walkE_good hr hg hl
          obtain ⟨j, rfl, hj, hR, hs2, _⟩ := good_parts hr
          rw [(walk_some he).1, (walk_some he).2, he, show ((j : Int) + 2 - 1).toNat = j + 1 by omega]
          rcases hR with rfl | rfl
          · refine (rwalk_two j a b c s hj hA hB hC hs2 hs xs bk off cap hr hg (by omega) w hc hbk).mono fun e w' ⟨v, h1, h2, h3⟩ => ⟨v, h1, ?_, h3⟩
            refine OwnB.mono (B := w.heap.size + 1) ?_ (by omega)
            unfold OwnB; rw [syms_two]; exact h2
          · refine (rwalk_three j a b c s hj hA hB hC hs2 hs xs bk off cap hr hg (by omega) w hc hbk).mono fun e w' ⟨v, h1, h2, h3⟩ => ⟨v, h1, ?_, h3⟩
            refine OwnB.mono (B := w.heap.size + 1) ?_ (by omega)
            unfold OwnB; rw [syms_three]; exact h2
      · have he := walkE_bit hr hg
        rw [(walk_none (by rw [he]; decide)).1, (walk_none (by rw [he]; decide)).2, he]
        exact (rwalk_bit K R a b c s hA hB hC hs xs bk off cap hr hg w hc hbk (by omega)).mono fun e w' ⟨h1, h2⟩ => ⟨_, h1, OwnB.nil _ _, h2⟩
  · have he : walkE K R a b c s xs = rightF K R a b c s 0 := walkE_right hr
    rw [(walk_none (by rw [he]; exact hr)).1, (walk_none (by rw [he]; exact hr)).2, he]
    exact (rwalk_right K R a b c s hA hB hC hs _ hr w).mono fun e w' ⟨h1, h2⟩ => ⟨_, h1, OwnB.nil _ _, h2⟩
end Go.Proofs.Ytpmnbdkncmjafaa
