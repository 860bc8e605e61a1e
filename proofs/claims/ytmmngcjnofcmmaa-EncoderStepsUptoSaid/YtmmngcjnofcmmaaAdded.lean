/- outpostlaw06.added, walked; and what Encode says of sums and of a 0 ahead or behind. -/
import Derived.Test.YtmmngcjnofcmmaaRows
import Derived.Test.YtmmngcjnofcmmaaEncInv
import Derived.Test.YtmmngcjnofcmmaaLit
namespace Go.Proofs.Ytmmngcjnofcmmaa
open Go.RowKit

/-- two rows' sum, modulo 2 -/
def zipX (xs ys : List Nat) : List Nat := (List.range xs.length).map fun i => xs.getD i 0 ^^^ ys.getD i 0
theorem zipX_length (xs ys : List Nat) : (zipX xs ys).length = xs.length := by simp [zipX]
theorem zipX_at {xs ys : List Nat} (h : xs.length = ys.length) (i : Nat) : (zipX xs ys).getD i 0 = xs.getD i 0 ^^^ ys.getD i 0 := by
  rcases Nat.lt_or_ge i xs.length with hi | hi
  · exact fill_at _ hi
  · rw [getD_far' (l := zipX xs ys) (by rw [zipX_length]; exact hi), getD_far' hi, getD_far' (l := ys) (by omega)]; rfl
theorem zipX_zip {xs ys : List Nat} (h : xs.length = ys.length) : zipX xs ys = List.zipWith (· ^^^ ·) xs ys :=
  getD_ext (by simp [zipX, h]) fun i _ => by rw [zipX_at h, zip_at h]
theorem zipX_bits {xs ys : List Nat} (h : xs.length = ys.length) (hx : Bits xs) (hy : Bits ys) : Bits (zipX xs ys) := fun i _ => by
  rw [zipX_at h]; exact xor_bit (hx.all i) (hy.all i)

set_option maxHeartbeats 1000000 in
theorem added_any (ax ay : Option Addr) (cx cy : Nat) (xs ys : List Nat) (hl : xs.length = ys.length) (hn : xs.length ≤ 140737488351232) (hx8 : ∀ i, xs.getD i 0 ≤ 255) (hy8 : ∀ i, ys.getD i 0 ≤ 255) (w : World) (hx : RowA w ax xs) (hy : RowA w ay ys) :
    Calls Try.prog 16 #[.slice ax xs.length cx, .slice ay ys.length cy] w fun e w' => ∃ v, e = .returned v ∧ OwnB w' w.heap.size v (zipX xs ys) ∧ Below w.heap.size w w' := by
  have HX := hide hx
  have HY := hide hy
  have HX8 := hide hx8
  have HY8 := hide hy8
  have HL := hide hl
  clear hx hy hx8 hy8 hl
  go_enter Try.func16, Try.ntmps16
  go_wp2_with (first
    | (at_make; refine wpList_makeB rfl _ _ rfl w.heap.size _ _ xs.length rfl rfl ?c1 ?c2 ?c3 ?c4 ?_)
    | go_in)
  case c1 => rfl
  case c2 => rfl
  case c3 => omega
  case c4 => exact Nat.le_refl _
  intro w5 hown5 hg5 hz45
  have hb5 : Below w.heap.size w w5 := (Below.refl _ _).grown hg5 (Nat.le_refl _) (fun k e => by cases e)
  rw [← fillK_zero (fun i => xs.getD i 0 ^^^ ys.getD i 0) xs.length] at hown5
  have HO5 := hide hown5
  have HB5 := hide hb5
  clear hown5 hg5
  go_wp2_with fail
  go_loopw [6] (fun i wr => ∃ k : Nat, k ≤ xs.length ∧ i = .int .i64 k ∧ Hid (OwnB wr w.heap.size (.slice (some ⟨w.heap.size, 0, none⟩) xs.length xs.length) (fillK (fun i => xs.getD i 0 ^^^ ys.getD i 0) xs.length k)) ∧ Hid (Below w.heap.size w wr)) (fun i _ => xs.length - (intOf i).toNat)
  case atStart => exact ⟨0, by omega, rfl, HO5, HB5⟩
  case round =>
    rename_i wr _
    obtain ⟨k, hk, rfl, hown, hbl⟩ := hrel
    by_cases hlt : k < xs.length
    · have hlt2 : k < ys.length := by have := HL.out; omega
      have hf := hown.out.frz (fillK_length (by omega)).symm k
      have hc0 := hown.out.cell (fillK_length (by omega)).symm hlt
      have hst := hown.out.set (fillK_length (by omega)).symm k (xs.getD k 0 ^^^ ys.getD k 0)
      rw [fillK_set (f := fun i => xs.getD i 0 ^^^ ys.getD i 0) hlt] at hst
      obtain ⟨bu, ou, rfl, hbu, hcu⟩ := (HX.out.below hbl.out).at_ (i := k) (by omega)
      obtain ⟨bv, ov, rfl, hbv, hcv⟩ := (HY.out.below hbl.out).at_ (i := k) hlt2
      have h1 := xorU8 (a := xs.getD k 0) (b := ys.getD k 0) (HX8.out k) (HY8.out k)
      generalize xs.getD k 0 ^^^ ys.getD k 0 = z at *
      generalize xs.getD k 0 = y1 at *
      generalize ys.getD k 0 = y2 at *
      generalize (fillK (fun i => xs.getD i 0 ^^^ ys.getD i 0) xs.length k).getD k 0 = u at *
      have HS := hide hst
      clear hst
      go_wp2_with fail
      go_region_with (fail)
      all_goals
        go_wp2_with fail
        go_roundw
        case rel => exact ⟨k + 1, by omega, by simp, HS.out.1, (hbl.out.setCell (by simp) _).drew⟩
        case measure => simp [intOf]; omega
    · obtain rfl : k = xs.length := by omega
      rw [fillK_full] at hown
      go_wp2_with fail
      go_ret
      exact ⟨_, rfl, hown.out, hbl.out⟩

section
variable {R : Int} {a b c n : Nat} {xs ys : List Nat}
theorem word_add (hl : xs.length = ys.length) (hx : Bits xs) (hy : Bits ys) : wordF R a b c n (zipX xs ys) = zipX (wordF R a b c n xs) (wordF R a b c n ys) := by
  have h := syms_xor (n := n) (s := 0) (t := 0) R a b c hx.all hy.all (fun i => zipX_at hl i) (xs.length + n)
  rw [Nat.xor_self] at h
  unfold wordF
  rw [zipX_length, h, zipX_zip (by rw [syms_rate, syms_rate, hl]), hl]
theorem st_cons (x : Nat) (xs : List Nat) : ∀ k, stAt n 0 (0 :: xs) (k + 1) = stAt n 0 xs k
  | 0 => by simp [stAt]
  | k + 1 => by
    show (2 * stAt n 0 (0 :: xs) (k + 1) + (0 :: xs).getD (k + 1) 0) % 2 ^ n = (2 * stAt n 0 xs k + xs.getD k 0) % 2 ^ n
    rw [st_cons x xs k]
    simp [List.getD]
theorem outF_zero (g : Nat) : outF 0 g = 0 := by simp [outF, Nat.zero_and, Gf2.par, Gf2.popF_zero]
theorem symK_zero : symK R a b c 0 = List.replicate (rateN R) 0 := by
  unfold symK rateN
  by_cases h : R = 2 <;> simp [h, outF_zero, List.replicate]
theorem syms_cons (xs : List Nat) : ∀ k, symsAt R a b c n 0 (0 :: xs) (k + 1) = List.replicate (rateN R) 0 ++ symsAt R a b c n 0 xs k
  | 0 => by simp [symsAt, stAt, symK_zero]
  | k + 1 => by
    show symsAt R a b c n 0 (0 :: xs) (k + 1) ++ symK R a b c (2 * stAt n 0 (0 :: xs) (k + 1) + (0 :: xs).getD (k + 1) 0) = _ ++ (symsAt R a b c n 0 xs k ++ symK R a b c (2 * stAt n 0 xs k + xs.getD k 0))
    rw [syms_cons xs k, st_cons 0, List.append_assoc]
    simp [List.getD]
theorem st_tail (xs : List Nat) : ∀ j, stAt n 0 xs (xs.length + j) = (2 ^ j * stAt n 0 xs xs.length) % 2 ^ n
  | 0 => by
    rw [Nat.pow_zero, Nat.one_mul, Nat.add_zero, Nat.mod_eq_of_lt (stAt_lt (Nat.two_pow_pos n) _)]
  | j + 1 => by
    show (2 * stAt n 0 xs (xs.length + j) + xs.getD (xs.length + j) 0) % 2 ^ n = _
    rw [st_tail xs j, getD_far' (by omega), Nat.add_zero, Nat.mul_mod, Nat.mod_mod, ← Nat.mul_mod, Nat.pow_succ', Nat.mul_assoc]
theorem st_end (xs : List Nat) : stAt n 0 xs (xs.length + n) = 0 := by
  rw [st_tail, Nat.mul_mod_right]
theorem word_ahead (xs : List Nat) : wordF R a b c n (0 :: xs) = List.replicate (rateN R) 0 ++ wordF R a b c n xs := by
  unfold wordF
  rw [List.length_cons, show xs.length + 1 + n = (xs.length + n) + 1 by omega, syms_cons]
theorem word_behind (xs : List Nat) : wordF R a b c n (xs ++ [0]) = wordF R a b c n xs ++ List.replicate (rateN R) 0 := by
  unfold wordF
  have e : ∀ i, (xs ++ [0]).getD i 0 = xs.getD i 0 := fun i => by
    rw [getD_snoc]
    split
    · rfl
    · rw [getD_far' (l := xs) (by omega)]; split <;> rfl
  rw [List.length_append, show xs.length + [0].length + n = (xs.length + n) + 1 by simp; omega, syms_congr _ (fun i _ => e i)]
  show symsAt R a b c n 0 xs (xs.length + n) ++ symK R a b c (2 * stAt n 0 xs (xs.length + n) + xs.getD (xs.length + n) 0) = _
  rw [st_end, getD_far' (by omega), Nat.mul_zero, Nat.add_zero, symK_zero]
end
end Go.Proofs.Ytmmngcjnofcmmaa
