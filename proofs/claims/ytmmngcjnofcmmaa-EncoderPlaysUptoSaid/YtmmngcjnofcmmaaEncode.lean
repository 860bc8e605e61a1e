/- encoder.Encode, walked. -/
import Derived.Test.YtmmngcjnofcmmaaRows
import Derived.Test.YtmmngcjnofcmmaaEnc
namespace Go.Proofs.Ytmmngcjnofcmmaa
open Go.RowKit

set_option maxRecDepth 100000 in
set_option maxHeartbeats 2000000 in
theorem encode_two (n a b c : Nat) (hn : 2 ≤ n ∧ n ≤ 31) (hA : a ≤ 4294967295) (hB : b ≤ 4294967295) (hC : c ≤ 4294967295) (hck : checkF (n + 1) 2 a b c = 0) (ad : Option Addr) (cap : Nat) (xs : List Nat) (hl : xs.length ≤ 1048600) (hb : Bits xs) (w : World) (hx : RowA w ad xs) :
    Calls Try.prog 14 #[.agg #[.int .i64 (n + 1), .int .i64 2, .int .u32 a, .int .u32 b, .int .u32 c], .slice ad xs.length cap] w fun e w' => ∃ v, e = .returned (.tuple #[v, .int .i64 0]) ∧ OwnB w' w.heap.size v (wordF 2 a b c n xs) ∧ Below w.heap.size w w' := by
  have HN := hide (new_good (n + 1) 2 a b c hA hB hC hck)
  have HR := hide fun w hx => erow_yes ad cap xs (by omega) hb w hx
  have HX := hide hx
  have HB := hide hb.all
  have hp : 2 ^ n ≤ 2 ^ 31 := Nat.pow_le_pow_right (by omega) (by omega)
  have HP := hide fun (k bx bo bc g : Nat) (v : Value) (hk : k ≤ xs.length + n) (W : World) (h : PutSt W w.heap.size bx bo bc g (n + 1) 2 a b c (stAt n 0 xs k) v (symsAt 2 a b c n 0 xs k)) =>
    putc_any n a b c (stAt n 0 xs k) (xs.getD k 0) w.heap.size bx bo bc g 2 (.inl rfl) hn hA hB hC (by have := stAt_lt (n := n) (s := 0) (xs := xs) (Nat.two_pow_pos n) k; omega) (hb.all k) v (symsAt 2 a b c n 0 xs k) (by rw [syms_rate]; show k * 2 ≤ _; omega) W h
  clear hx hb hck hp
  go_enter Try.func14, Try.ntmps14
  go_wp2_with fail
  refine (HN.out _).mono ?_
  rintro e w1 ⟨g, rfl, hr1, hg1, hb1⟩
  have k1 := bk hb1 w.heap.size (by simp)
  have hz1 := size_mid hb1
  have hg2 := hr1.lt
  simp at hg1
  have HB1 := hide hb1
  have HR1 := hide hr1
  clear hb1 hr1
  go_wp2_with fail
  refine (HR.out _ ((HX.out.below (below_one HB1.out)).alloc _)).mono ?_
  rintro e w' ⟨rfl, rfl⟩
  go_wp2_with (first
    | (at_make; refine wpList_make0 rfl _ _ rfl w.heap.size _ ((xs.length + n) * 2) rfl rfl ?c1 ?c2 ?c3 ?_)
    | go_in)
  case c1 => simp; omega
  case c2 => omega
  case c3 => simp; omega
  intro w2 hown2 hgrow2 hz2
  try simp at hz2
  have hblk : ∀ q, q < w1.heap.size + 1 → w2.heap[q]? = (w1.alloc (.cells #[.pointer (some ⟨g, 0, none⟩)] 40)).heap[q]? := fun q hq => hgrow2.block q (by simpa using hq) (by simp)
  have HBK := hide hblk
  have HO2 := hide hown2
  have HB2 := hide ((((Below.refl w.heap.size w).trans (below_one HB1.out)).alloc (Nat.le_of_lt hz1) (.cells #[.pointer (some ⟨g, 0, none⟩)] 40)).grown hgrow2 (by simp; omega) (fun k e => by cases e))
  clear hblk hown2 hgrow2
  have hmf : ∀ (fn : Fn) (first cap : Array Value) (w : World), (Instr.makeFunc fn first cap).run Try.prog w = .ok (.func fn first cap) w := fun _ _ _ _ => rfl
  have hst : PutSt (w2.alloc (.cells #[.slice (some ⟨w1.heap.size + 1, 0, none⟩) 0 ((xs.length + n) * 2)] 26)) w.heap.size w1.heap.size w2.heap.size w.heap.size g (n + 1) 2 a b c (stAt n 0 xs 0) (.slice (some ⟨w1.heap.size + 1, 0, none⟩) 0 ((xs.length + n) * 2)) (symsAt 2 a b c n 0 xs 0) := by
    have e1 : (w1.alloc (.cells #[.pointer (some ⟨g, 0, none⟩)] 40)).heap.size = w1.heap.size + 1 := by simp
    have hcell : ∀ q i, q < w1.heap.size + 1 → (w2.alloc (.cells #[.slice (some ⟨w1.heap.size + 1, 0, none⟩) 0 ((xs.length + n) * 2)] 26)).cell? ⟨q, i, none⟩ = (w1.alloc (.cells #[.pointer (some ⟨g, 0, none⟩)] 40)).cell? ⟨q, i, none⟩ := fun q i hq =>
      World.cell?_of_block (a := ⟨q, i, none⟩) ((Below.heap_alloc w2 _ q (by omega)).trans (HBK.out q hq))
    refine ⟨?_, ?_, ?_, ?_, ?_, ?_, ?_, ?_, ?_, ?_, ?_⟩
    · rw [hcell _ _ (by omega)]; simp [go_sem]
    · simp [go_sem]
    · simp [go_sem]
    · rw [hcell _ _ (by omega), World.cell?_alloc_lt _ _ ⟨w.heap.size, 0, none⟩ hz1, k1]; simp [go_sem]
    · rw [hcell _ _ (by omega), World.cell?_alloc_lt _ _ ⟨w.heap.size, 1, none⟩ hz1, k1]; simp [go_sem]
    · exact ((HR1.out.alloc (.cells #[.pointer (some ⟨g, 0, none⟩)] 40)).keep (w' := w2) (HBK.out g (by omega))).alloc _
    · have := HO2.out
      try simp only [e1] at this
      exact this.alloc _
    · intro k e; simp [Value.ownBlock] at e; omega
    · omega
    · omega
    · simp; omega
  have HST := hide hst
  have HB3 := hide (HB2.out.alloc (by have := HB2.out.size; omega) (.cells #[.slice (some ⟨w1.heap.size + 1, 0, none⟩) 0 ((xs.length + n) * 2)] 26))
  clear hst
  go_wp2_with fail
  go_loopw [36] (fun i wr => ∃ (k : Nat) (v : Value), k ≤ xs.length ∧ i = .int .i64 k ∧ Hid (PutSt wr w.heap.size w1.heap.size w2.heap.size w.heap.size g (n + 1) 2 a b c (stAt n 0 xs k) v (symsAt 2 a b c n 0 xs k)) ∧ Hid (Below w.heap.size w wr)) (fun i _ => xs.length - (intOf i).toNat)
  case atStart => exact ⟨0, _, by omega, rfl, HST, HB3⟩
  case round =>
    rename_i wr _
    obtain ⟨k, v, hk, rfl, hs, hbl⟩ := hrel
    by_cases hlt : k < xs.length
    · obtain ⟨b0, off, rfl, _, hc⟩ := (HX.out.below hbl.out).at_ hlt
      have HPk := hide (HP.out k _ _ _ _ v (by omega) wr hs.out)
      have e1 : stAt n 0 xs (k + 1) = (2 * stAt n 0 xs k + xs.getD k 0) % 2 ^ n := rfl
      have e2 : symsAt 2 a b c n 0 xs (k + 1) = symsAt 2 a b c n 0 xs k ++ symK 2 a b c (2 * stAt n 0 xs k + xs.getD k 0) := rfl
      rw [← e1, ← e2] at HPk
      clear e1 e2
      generalize xs.getD k 0 = y at *
      go_wp2_with fail
      refine HPk.out.mono ?_
      rintro e w4 ⟨v', rfl, hs', hb4⟩
      have HS4 := hide hs'
      have HB4 := hide (hbl.out.trans hb4)
      clear hs' hb4
      go_wp2_with fail
      go_roundw
      case rel => exact ⟨k + 1, v', by omega, by simp, HS4, HB4⟩
      case measure => simp [intOf]; omega
    · obtain rfl : k = xs.length := by omega
      have q0 := hs.out.k
      go_wp2_with fail
      go_loopw [47] (fun i wr => ∃ (k : Nat) (v : Value), k ≤ n ∧ i = .int .i64 k ∧ Hid (PutSt wr w.heap.size w1.heap.size w2.heap.size w.heap.size g (n + 1) 2 a b c (stAt n 0 xs (xs.length + k)) v (symsAt 2 a b c n 0 xs (xs.length + k))) ∧ Hid (Below w.heap.size w wr)) (fun i _ => n - (intOf i).toNat)
      case atStart => exact ⟨0, _, by omega, rfl, hs, hbl⟩
      case round =>
        obtain ⟨k, v, hk, rfl, hs, hbl⟩ := hrel
        by_cases hlt : k < n
        · have HPk := hide (HP.out (xs.length + k) _ _ _ _ v (by omega) wr hs.out)
          have e1 : stAt n 0 xs (xs.length + k + 1) = (2 * stAt n 0 xs (xs.length + k) + xs.getD (xs.length + k) 0) % 2 ^ n := rfl
          have e2 : symsAt 2 a b c n 0 xs (xs.length + k + 1) = symsAt 2 a b c n 0 xs (xs.length + k) ++ symK 2 a b c (2 * stAt n 0 xs (xs.length + k) + xs.getD (xs.length + k) 0) := rfl
          rw [← e1, ← e2, getD_far' (Nat.le_add_right _ _)] at HPk
          clear e1 e2
          go_wp2_with fail
          refine HPk.out.mono ?_
          rintro e w4 ⟨v', rfl, hs', hb4⟩
          have HS4 := hide hs'
          have HB4 := hide (hbl.out.trans hb4)
          clear hs' hb4
          go_wp2_with fail
          go_roundw
          case rel => exact ⟨k + 1, v', by omega, by simp, HS4, HB4⟩
          case measure => simp [intOf]; omega
        · obtain rfl : k = n := by omega
          have q1 := hs.out.o
          go_wp2_with fail
          go_ret2
          exact ⟨v, rfl, hs.out.own, hbl.out⟩
set_option maxRecDepth 100000 in
set_option maxHeartbeats 2000000 in
theorem encode_three (n a b c : Nat) (hn : 2 ≤ n ∧ n ≤ 31) (hA : a ≤ 4294967295) (hB : b ≤ 4294967295) (hC : c ≤ 4294967295) (hck : checkF (n + 1) 3 a b c = 0) (ad : Option Addr) (cap : Nat) (xs : List Nat) (hl : xs.length ≤ 1048600) (hb : Bits xs) (w : World) (hx : RowA w ad xs) :
    Calls Try.prog 14 #[.agg #[.int .i64 (n + 1), .int .i64 3, .int .u32 a, .int .u32 b, .int .u32 c], .slice ad xs.length cap] w fun e w' => ∃ v, e = .returned (.tuple #[v, .int .i64 0]) ∧ OwnB w' w.heap.size v (wordF 3 a b c n xs) ∧ Below w.heap.size w w' := by
  have HN := hide (new_good (n + 1) 3 a b c hA hB hC hck)
  have HR := hide fun w hx => erow_yes ad cap xs (by omega) hb w hx
  have HX := hide hx
  have HB := hide hb.all
  have hp : 2 ^ n ≤ 2 ^ 31 := Nat.pow_le_pow_right (by omega) (by omega)
  have HP := hide fun (k bx bo bc g : Nat) (v : Value) (hk : k ≤ xs.length + n) (W : World) (h : PutSt W w.heap.size bx bo bc g (n + 1) 3 a b c (stAt n 0 xs k) v (symsAt 3 a b c n 0 xs k)) =>
    putc_any n a b c (stAt n 0 xs k) (xs.getD k 0) w.heap.size bx bo bc g 3 (.inr rfl) hn hA hB hC (by have := stAt_lt (n := n) (s := 0) (xs := xs) (Nat.two_pow_pos n) k; omega) (hb.all k) v (symsAt 3 a b c n 0 xs k) (by rw [syms_rate]; show k * 3 ≤ _; omega) W h
  clear hx hb hck hp
  go_enter Try.func14, Try.ntmps14
  go_wp2_with fail
  refine (HN.out _).mono ?_
  rintro e w1 ⟨g, rfl, hr1, hg1, hb1⟩
  have k1 := bk hb1 w.heap.size (by simp)
  have hz1 := size_mid hb1
  have hg2 := hr1.lt
  simp at hg1
  have HB1 := hide hb1
  have HR1 := hide hr1
  clear hb1 hr1
  go_wp2_with fail
  refine (HR.out _ ((HX.out.below (below_one HB1.out)).alloc _)).mono ?_
  rintro e w' ⟨rfl, rfl⟩
  go_wp2_with (first
    | (at_make; refine wpList_make0 rfl _ _ rfl w.heap.size _ ((xs.length + n) * 3) rfl rfl ?c1 ?c2 ?c3 ?_)
    | go_in)
  case c1 => simp; omega
  case c2 => omega
  case c3 => simp; omega
  intro w2 hown2 hgrow2 hz2
  try simp at hz2
  have hblk : ∀ q, q < w1.heap.size + 1 → w2.heap[q]? = (w1.alloc (.cells #[.pointer (some ⟨g, 0, none⟩)] 40)).heap[q]? := fun q hq => hgrow2.block q (by simpa using hq) (by simp)
  have HBK := hide hblk
  have HO2 := hide hown2
  have HB2 := hide ((((Below.refl w.heap.size w).trans (below_one HB1.out)).alloc (Nat.le_of_lt hz1) (.cells #[.pointer (some ⟨g, 0, none⟩)] 40)).grown hgrow2 (by simp; omega) (fun k e => by cases e))
  clear hblk hown2 hgrow2
  have hmf : ∀ (fn : Fn) (first cap : Array Value) (w : World), (Instr.makeFunc fn first cap).run Try.prog w = .ok (.func fn first cap) w := fun _ _ _ _ => rfl
  have hst : PutSt (w2.alloc (.cells #[.slice (some ⟨w1.heap.size + 1, 0, none⟩) 0 ((xs.length + n) * 3)] 26)) w.heap.size w1.heap.size w2.heap.size w.heap.size g (n + 1) 3 a b c (stAt n 0 xs 0) (.slice (some ⟨w1.heap.size + 1, 0, none⟩) 0 ((xs.length + n) * 3)) (symsAt 3 a b c n 0 xs 0) := by
    have e1 : (w1.alloc (.cells #[.pointer (some ⟨g, 0, none⟩)] 40)).heap.size = w1.heap.size + 1 := by simp
    have hcell : ∀ q i, q < w1.heap.size + 1 → (w2.alloc (.cells #[.slice (some ⟨w1.heap.size + 1, 0, none⟩) 0 ((xs.length + n) * 3)] 26)).cell? ⟨q, i, none⟩ = (w1.alloc (.cells #[.pointer (some ⟨g, 0, none⟩)] 40)).cell? ⟨q, i, none⟩ := fun q i hq =>
      World.cell?_of_block (a := ⟨q, i, none⟩) ((Below.heap_alloc w2 _ q (by omega)).trans (HBK.out q hq))
    refine ⟨?_, ?_, ?_, ?_, ?_, ?_, ?_, ?_, ?_, ?_, ?_⟩
    · rw [hcell _ _ (by omega)]; simp [go_sem]
    · simp [go_sem]
    · simp [go_sem]
    · rw [hcell _ _ (by omega), World.cell?_alloc_lt _ _ ⟨w.heap.size, 0, none⟩ hz1, k1]; simp [go_sem]
    · rw [hcell _ _ (by omega), World.cell?_alloc_lt _ _ ⟨w.heap.size, 1, none⟩ hz1, k1]; simp [go_sem]
    · exact ((HR1.out.alloc (.cells #[.pointer (some ⟨g, 0, none⟩)] 40)).keep (w' := w2) (HBK.out g (by omega))).alloc _
    · have := HO2.out
      try simp only [e1] at this
      exact this.alloc _
    · intro k e; simp [Value.ownBlock] at e; omega
    · omega
    · omega
    · simp; omega
  have HST := hide hst
  have HB3 := hide (HB2.out.alloc (by have := HB2.out.size; omega) (.cells #[.slice (some ⟨w1.heap.size + 1, 0, none⟩) 0 ((xs.length + n) * 3)] 26))
  clear hst
  go_wp2_with fail
  go_loopw [36] (fun i wr => ∃ (k : Nat) (v : Value), k ≤ xs.length ∧ i = .int .i64 k ∧ Hid (PutSt wr w.heap.size w1.heap.size w2.heap.size w.heap.size g (n + 1) 3 a b c (stAt n 0 xs k) v (symsAt 3 a b c n 0 xs k)) ∧ Hid (Below w.heap.size w wr)) (fun i _ => xs.length - (intOf i).toNat)
  case atStart => exact ⟨0, _, by omega, rfl, HST, HB3⟩
  case round =>
    rename_i wr _
    obtain ⟨k, v, hk, rfl, hs, hbl⟩ := hrel
    by_cases hlt : k < xs.length
    · obtain ⟨b0, off, rfl, _, hc⟩ := (HX.out.below hbl.out).at_ hlt
      have HPk := hide (HP.out k _ _ _ _ v (by omega) wr hs.out)
      have e1 : stAt n 0 xs (k + 1) = (2 * stAt n 0 xs k + xs.getD k 0) % 2 ^ n := rfl
      have e2 : symsAt 3 a b c n 0 xs (k + 1) = symsAt 3 a b c n 0 xs k ++ symK 3 a b c (2 * stAt n 0 xs k + xs.getD k 0) := rfl
      rw [← e1, ← e2] at HPk
      clear e1 e2
      generalize xs.getD k 0 = y at *
      go_wp2_with fail
      refine HPk.out.mono ?_
      rintro e w4 ⟨v', rfl, hs', hb4⟩
      have HS4 := hide hs'
      have HB4 := hide (hbl.out.trans hb4)
      clear hs' hb4
      go_wp2_with fail
      go_roundw
      case rel => exact ⟨k + 1, v', by omega, by simp, HS4, HB4⟩
      case measure => simp [intOf]; omega
    · obtain rfl : k = xs.length := by omega
      have q0 := hs.out.k
      go_wp2_with fail
      go_loopw [47] (fun i wr => ∃ (k : Nat) (v : Value), k ≤ n ∧ i = .int .i64 k ∧ Hid (PutSt wr w.heap.size w1.heap.size w2.heap.size w.heap.size g (n + 1) 3 a b c (stAt n 0 xs (xs.length + k)) v (symsAt 3 a b c n 0 xs (xs.length + k))) ∧ Hid (Below w.heap.size w wr)) (fun i _ => n - (intOf i).toNat)
      case atStart => exact ⟨0, _, by omega, rfl, hs, hbl⟩
      case round =>
        obtain ⟨k, v, hk, rfl, hs, hbl⟩ := hrel
        by_cases hlt : k < n
        · have HPk := hide (HP.out (xs.length + k) _ _ _ _ v (by omega) wr hs.out)
          have e1 : stAt n 0 xs (xs.length + k + 1) = (2 * stAt n 0 xs (xs.length + k) + xs.getD (xs.length + k) 0) % 2 ^ n := rfl
          have e2 : symsAt 3 a b c n 0 xs (xs.length + k + 1) = symsAt 3 a b c n 0 xs (xs.length + k) ++ symK 3 a b c (2 * stAt n 0 xs (xs.length + k) + xs.getD (xs.length + k) 0) := rfl
          rw [← e1, ← e2, getD_far' (Nat.le_add_right _ _)] at HPk
          clear e1 e2
          go_wp2_with fail
          refine HPk.out.mono ?_
          rintro e w4 ⟨v', rfl, hs', hb4⟩
          have HS4 := hide hs'
          have HB4 := hide (hbl.out.trans hb4)
          clear hs' hb4
          go_wp2_with fail
          go_roundw
          case rel => exact ⟨k + 1, v', by omega, by simp, HS4, HB4⟩
          case measure => simp [intOf]; omega
        · obtain rfl : k = n := by omega
          have q1 := hs.out.o
          go_wp2_with fail
          go_ret2
          exact ⟨v, rfl, hs.out.own, hbl.out⟩
open Classical in
/-- Encode's error -/
noncomputable def encE (K R : Int) (a b c : Nat) (xs : List Nat) : Int := if checkF K R a b c ≠ 0 then checkF K R a b c else if Bits xs then 0 else 10
open Classical in
/-- Encode's word -/
noncomputable def encO (K R : Int) (a b c : Nat) (xs : List Nat) : List Nat := if encE K R a b c xs = 0 then wordF R a b c (K - 1).toNat xs else []
section
variable {K R : Int} {a b c : Nat} {xs : List Nat}
theorem encE_bad (h : checkF K R a b c ≠ 0) : encE K R a b c xs = checkF K R a b c := if_pos h
theorem encE_bit (h : checkF K R a b c = 0) (hb : ¬ Bits xs) : encE K R a b c xs = 10 := by unfold encE; rw [if_neg (by simpa using h), if_neg hb]
theorem encE_good (h : checkF K R a b c = 0) (hb : Bits xs) : encE K R a b c xs = 0 := by unfold encE; rw [if_neg (by simpa using h), if_pos hb]
theorem encO_none (h : encE K R a b c xs ≠ 0) : encO K R a b c xs = [] := if_neg h
theorem encO_some (h : encE K R a b c xs = 0) : encO K R a b c xs = wordF R a b c (K - 1).toNat xs := if_pos h
theorem encE_zero (h : encE K R a b c xs = 0) : checkF K R a b c = 0 ∧ Bits xs := by
  by_cases h1 : checkF K R a b c = 0
  · by_cases h2 : Bits xs
    · exact ⟨h1, h2⟩
    · rw [encE_bit h1 h2] at h; exact absurd h (by decide)
  · rw [encE_bad h1] at h; exact absurd h h1
theorem good_code (h : checkF K R a b c = 0) : ∃ n : Nat, K = n + 1 ∧ 2 ≤ n ∧ n ≤ 31 ∧ (R = 2 ∨ R = 3) := by
  obtain ⟨hh, -⟩ := checkF_zero h
  unfold headBad at hh
  simp only [not_or, not_and] at hh
  exact ⟨(K - 1).toNat, by omega, by omega, by omega, by omega⟩
end
set_option maxHeartbeats 400000 in
theorem encode_bad (K R : Int) (a b c : Nat) (hA : a ≤ 4294967295) (hB : b ≤ 4294967295) (hC : c ≤ 4294967295) (hne : checkF K R a b c ≠ 0) (x : Value) (w : World) :
    Calls Try.prog 14 #[.agg #[.int .i64 K, .int .i64 R, .int .u32 a, .int .u32 b, .int .u32 c], x] w fun e w' => e = .returned (.tuple #[.slice none 0 0, .int .i64 (checkF K R a b c)]) ∧ Below w.heap.size w w' := by
  have HN := hide (new_bad K R a b c hA hB hC hne)
  have hb := nzBne hne
  generalize checkF K R a b c = cf at *
  clear hne
  go_enter Try.func14, Try.ntmps14
  go_wp2_with fail
  refine (HN.out _).mono ?_
  rintro e w1 ⟨rfl, hb1⟩
  have hz1 := size_mid hb1
  go_wp2_with fail
  go_ret2
  exact ⟨rfl, (below_one hb1).alloc (Nat.le_of_lt hz1) _⟩
set_option maxHeartbeats 400000 in
theorem encode_bit (K R : Int) (a b c : Nat) (hA : a ≤ 4294967295) (hB : b ≤ 4294967295) (hC : c ≤ 4294967295) (hck : checkF K R a b c = 0) (ad : Option Addr) (cap : Nat) (xs : List Nat) (hl : xs.length ≤ 140737488351232) (hb : ¬ Bits xs) (w : World) (hx : RowA w ad xs) :
    Calls Try.prog 14 #[.agg #[.int .i64 K, .int .i64 R, .int .u32 a, .int .u32 b, .int .u32 c], .slice ad xs.length cap] w fun e w' => e = .returned (.tuple #[.slice none 0 0, .int .i64 10]) ∧ Below w.heap.size w w' := by
  have HN := hide (new_good K R a b c hA hB hC hck)
  have HR := hide fun w hx => erow_no ad cap xs hl hb w hx
  have HX := hide hx
  clear hx hb hck
  go_enter Try.func14, Try.ntmps14
  go_wp2_with fail
  refine (HN.out _).mono ?_
  rintro e w1 ⟨g, rfl, hr1, hg1, hb1⟩
  have hz1 := size_mid hb1
  clear hr1 hg1
  go_wp2_with fail
  refine (HR.out _ ((HX.out.below (below_one hb1)).alloc _)).mono ?_
  rintro e w' ⟨rfl, rfl⟩
  go_wp2_with fail
  go_ret2
  exact ⟨rfl, (below_one hb1).alloc (Nat.le_of_lt hz1) _⟩
theorem encode_any (K R : Int) (a b c : Nat) (hA : a ≤ 4294967295) (hB : b ≤ 4294967295) (hC : c ≤ 4294967295) (ad : Option Addr) (cap : Nat) (xs : List Nat) (hl : xs.length ≤ 1048600) (w : World) (hx : RowA w ad xs) :
    Calls Try.prog 14 #[.agg #[.int .i64 K, .int .i64 R, .int .u32 a, .int .u32 b, .int .u32 c], .slice ad xs.length cap] w fun e w' => ∃ v, e = .returned (.tuple #[v, .int .i64 (encE K R a b c xs)]) ∧ OwnB w' w.heap.size v (encO K R a b c xs) ∧ Below w.heap.size w w' := by
  by_cases h1 : checkF K R a b c = 0
  · by_cases h2 : Bits xs
    · have he := encE_good h1 h2
      obtain ⟨n, rfl, hn1, hn2, hR⟩ := good_code h1
      rw [encO_some he, he, show ((n : Int) + 1 - 1).toNat = n by omega]
      rcases hR with rfl | rfl
      · exact encode_two n a b c ⟨hn1, hn2⟩ hA hB hC h1 ad cap xs hl h2 w hx
      · exact encode_three n a b c ⟨hn1, hn2⟩ hA hB hC h1 ad cap xs hl h2 w hx
    · have he := encE_bit h1 h2
      rw [encO_none (by rw [he]; decide), he]
      exact (encode_bit K R a b c hA hB hC h1 ad cap xs (by omega) h2 w hx).mono fun e w' ⟨e1, e2⟩ => ⟨_, e1, OwnB.nil _ _, e2⟩
  · have he : encE K R a b c xs = checkF K R a b c := encE_bad h1
    rw [encO_none (by rw [he]; exact h1), he]
    exact (encode_bad K R a b c hA hB hC h1 _ w).mono fun e w' ⟨e1, e2⟩ => ⟨_, e1, OwnB.nil _ _, e2⟩
end Go.Proofs.Ytmmngcjnofcmmaa
