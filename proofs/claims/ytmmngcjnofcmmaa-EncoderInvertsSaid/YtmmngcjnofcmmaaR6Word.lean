/- outpostref06.word, Encode, walked. -/
import Derived.Test.YtmmngcjnofcmmaaRows
import Derived.Test.YtmmngcjnofcmmaaR6Sym
import Derived.Test.YtmmngcjnofcmmaaGood
import Derived.Test.YtmmngcjnofcmmaaApSe
namespace Go.Proofs.Ytmmngcjnofcmmaa
open Go.RowKit

theorem take_step {L : List Nat} {m : Nat} (h : m < L.length) : L.take m ++ [L.getD m 0] = L.take (m + 1) := by
  rw [List.take_add_one, List.getD_eq_getElem?_getD, List.getElem?_eq_getElem h]
  rfl
set_option maxRecDepth 100000 in
set_option maxHeartbeats 2000000 in
theorem rword_any (n a b c r : Nat) (hr : r = 2 ∨ r = 3) (hn : 2 ≤ n ∧ n ≤ 31) (hA : a ≤ 4294967295) (hB : b ≤ 4294967295) (hC : c ≤ 4294967295) (hck : checkF (n + 1) r a b c = 0) (ad : Option Addr) (cap : Nat) (xs : List Nat) (hmul : (xs.length + n) * r ≤ 140737488351232) (hb : Bits xs) (w : World) (hx : RowA w ad xs) :
    Calls Try.prog 52 #[.agg #[.int .i64 (n + 1), .int .i64 r, .int .u32 a, .int .u32 b, .int .u32 c], .slice ad xs.length cap] w fun e w' => ∃ v, e = .returned v ∧ OwnB w' w.heap.size v (wordF r a b c n xs) ∧ Below w.heap.size w w' := by
  have hrate : rateN r = r := by rcases hr with rfl | rfl <;> rfl
  have hl : xs.length + n ≤ 140737488351232 := Nat.le_trans (Nat.le_mul_of_pos_right _ (by omega)) hmul
  have HSY := hide fun (i t : Nat) (hi : i < 3) (ht : t ≤ 140737488351232) w hx => rsymbol_any n a b c r hn.2 hA hB hC ad cap xs (by omega) hb i t hi ht w hx
  have hlen : (wordF r a b c n xs).length = (xs.length + n) * r := by rw [word_length, hrate]
  have HAT := hide fun (i t : Nat) (hi : i < r) (ht : t < xs.length + n) => show (wordF r a b c n xs).getD (t * r + i) 0 = symP (genN a b c i) xs t (n + 1) by
    have := word_at (R := r) hck hn.2 hb (i := i) (by rw [hrate]; exact hi) ht; rwa [hrate] at this
  have HX := hide hx
  generalize wordF r a b c n xs = ls at *
  have HLN := hide hlen
  have HC0 := hide (CodeB.new w (n + 1) r a b c)
  have HB0 := hide ((Below.refl w.heap.size w).alloc (Nat.le_refl _) (.cells #[.int .i64 (n + 1), .int .i64 r, .int .u32 a, .int .u32 b, .int .u32 c] 25))
  have HML := hide hmul
  clear hx hb hck hrate hlen hmul
  have hE2 : (xs.length : Int) + ((n : Int) + 1) - 1 = (xs.length : Int) + n := by omega
  go_enter Try.func52, Try.ntmps52
  go_wp2_with fail
  go_loopw [5, 6] (fun v t u => ∃ (k : Nat) (vv : Value), k ≤ xs.length + n ∧ vv = v ∧ t = .int .i64 k ∧ Hid (OwnB u (w.heap.size + 1) vv (ls.take (k * r))) ∧ Hid (CodeB u w.heap.size (n + 1) r a b c) ∧ Hid (Below w.heap.size w u)) (fun _ t _ => xs.length + n - (intOf t).toNat)
  case atStart => exact ⟨0, _, by omega, rfl, rfl, hide (by rw [Nat.zero_mul, List.take_zero]; exact OwnB.nil _ _), HC0, HB0⟩
  case round =>
    rename World => wr
    obtain ⟨k, vk, hk, rfl, rfl, hO, hc, hbl⟩ := hrel
    clear HC0 HB0
    obtain ⟨q0, q1, q2, q3, q4⟩ := hc.out.cells
    by_cases hlt : k < xs.length + n
    · have hkI : (k : Int) < xs.length + n := by omega
      have HOa := hide (show OwnB wr (w.heap.size + 1) vk (ls.take (k * r + 0)) from hO.out)
      have hkl := hide (show k * r + r ≤ ls.length by
        rw [HLN.out]
        have : (k + 1) * r ≤ (xs.length + n) * r := Nat.mul_le_mul_right _ hlt
        rw [Nat.succ_mul] at this; exact this)
      have HATk := hide (fun i hi => HAT.out i k hi hlt)
      have HNX := hide (show ls.take (k * r + r) = ls.take ((k + 1) * r) by rw [Nat.succ_mul])
      clear hO
      go_wp2_with fail
      go_loopw [5, 7] (fun v i u => ∃ (j : Nat) (vv : Value), j ≤ r ∧ vv = v ∧ i = .int .i64 j ∧ Hid (OwnB u (w.heap.size + 1) vv (ls.take (k * r + j))) ∧ Hid (CodeB u w.heap.size (n + 1) r a b c) ∧ Hid (Below w.heap.size w u)) (fun _ i _ => r - (intOf i).toNat)
      case atStart => exact ⟨0, vk, by omega, rfl, rfl, HOa, hc, hbl⟩
      case round =>
        rename World => wj
        obtain ⟨j, vj, hj, rfl, rfl, hO, hc2, hbl2⟩ := hrel
        clear HOa hc hbl q0 q1 q2 q3 q4
        obtain ⟨q0, q1, q2, q3, q4⟩ := hc2.out.cells
        by_cases hjr : j < r
        · have hat := HATk.out j hjr
          have HSYj := hide (HSY.out j k (by omega) (by omega) wj (HX.out.below hbl2.out))
          have hm : k * r + j < ls.length := by have := hkl.out; omega
          have hts := take_step hm
          rw [hat] at hts
          have HT := hide hts
          have hml := hide (show (ls.take (k * r + j)).length ≤ 140737488351232 by
            rw [List.length_take]; have := HLN.out; have := HML.out; omega)
          clear hat hts hm
          generalize symP (genN a b c j) xs k (n + 1) = y at *
          go_wp2_with fail
          refine HSYj.out.mono ?_
          rintro e w2 ⟨rfl, hb2⟩
          have HC2 := hide (hc2.out.keep hb2 hc2.out.lt)
          have HO2 := hide (hO.out.below hb2)
          have HB2 := hide (below_then hbl2.out hb2)
          clear hb2 q0 q1 q2 q3 q4
          go_wp2_with (first
            | (at_builtin; refine wpList_appB rfl (.tmp 24) (.tmp 30) rfl (w.heap.size + 1) vj (ls.take (k * r + j)) rfl (HO2.out.alloc _) (some ⟨w2.heap.size, 0, none⟩) 1 1 [y] rfl ?d1 rfl ?d2 ?d3 ?_)
            | go_in)
          case d1 => exact fun _ => ⟨w2.heap.size, 0, rfl, by simp, fun i hi => by
            obtain rfl : i = 0 := by simpa using hi
            simp [go_sem]⟩
          case d2 => have := hml.out; simp only [List.length_cons, List.length_nil]; omega
          case d3 => have := HC2.out.lt; simp; omega
          intro v5 w5 ho5 hg5 _
          rw [HT.out] at ho5
          have HO5 := hide ho5
          have HC5 := hide ((HC2.out.alloc _).grown hg5 (fun e => by have := (HO2.out.lt e.symm).1; omega))
          have HB5 := hide ((HB2.out.alloc HB2.out.size _).grown hg5 (by have := HB2.out.size; simp; omega) (fun g e => by have := (HO2.out.lt e).1; omega))
          clear ho5 hg5
          go_wp2_with fail
          go_roundw
          case rel => exact ⟨j + 1, v5, by omega, rfl, by simp, HO5, HC5, HB5⟩
          case measure => simp [intOf]; omega
        · obtain rfl : j = r := by omega
          rw [HNX.out] at hO
          go_wp2_with fail
          go_roundw
          case rel => exact ⟨k + 1, vj, by omega, rfl, by simp, hO, hc2, hbl2⟩
          case measure => simp [intOf]; omega
    · obtain rfl : k = xs.length + n := by omega
      rw [show ls.take ((xs.length + n) * r) = ls by rw [← HLN.out, List.take_length]] at hO
      go_wp2_with fail
      go_ret
      exact ⟨vk, rfl, OwnB.base hO.out (by omega), hbl.out⟩
set_option maxHeartbeats 400000 in
theorem rencode_bad (K R : Int) (a b c : Nat) (hA : a ≤ 4294967295) (hB : b ≤ 4294967295) (hC : c ≤ 4294967295) (hne : checkF K R a b c ≠ 0) (x : Value) (w : World) :
    Calls Try.prog 33 #[.agg #[.int .i64 K, .int .i64 R, .int .u32 a, .int .u32 b, .int .u32 c], x] w fun e w' => e = .returned (.tuple #[.slice none 0 0, .int .i64 (checkF K R a b c)]) ∧ Below w.heap.size w w' := by
  have HN := hide (rcheck_any K R a b c hA hB hC)
  have hb := nzBne hne
  generalize checkF K R a b c = cf at *
  clear hne
  go_enter Try.func33, Try.ntmps33
  go_wp2_with fail
  refine (HN.out _).mono ?_
  rintro e w1 ⟨rfl, hb1⟩
  go_wp2_with fail
  go_ret2
  exact ⟨rfl, below_one hb1⟩
set_option maxHeartbeats 400000 in
theorem rencode_bit (K R : Int) (a b c : Nat) (hA : a ≤ 4294967295) (hB : b ≤ 4294967295) (hC : c ≤ 4294967295) (hck : checkF K R a b c = 0) (ad : Option Addr) (cap : Nat) (xs : List Nat) (hl : xs.length ≤ 140737488351232) (hb : ¬ Bits xs) (w : World) (hx : RowA w ad xs) :
    Calls Try.prog 33 #[.agg #[.int .i64 K, .int .i64 R, .int .u32 a, .int .u32 b, .int .u32 c], .slice ad xs.length cap] w fun e w' => e = .returned (.tuple #[.slice none 0 0, .int .i64 10]) ∧ Below w.heap.size w w' := by
  have HN := hide (rcheck_any K R a b c hA hB hC)
  rw [hck] at HN
  have HR := hide fun w hx => rright_no ad cap xs hl hb w hx
  have HX := hide hx
  clear hx hb hck
  go_enter Try.func33, Try.ntmps33
  go_wp2_with fail
  refine (HN.out _).mono ?_
  rintro e w1 ⟨rfl, hb1⟩
  go_wp2_with fail
  refine (HR.out _ (HX.out.below (below_one hb1))).mono ?_
  rintro e w' ⟨rfl, rfl⟩
  go_wp2_with fail
  go_ret2
  exact ⟨rfl, below_one hb1⟩
set_option maxHeartbeats 400000 in
theorem rencode_ok (n a b c r : Nat) (hr : r = 2 ∨ r = 3) (hn : 2 ≤ n ∧ n ≤ 31) (hA : a ≤ 4294967295) (hB : b ≤ 4294967295) (hC : c ≤ 4294967295) (hck : checkF (n + 1) r a b c = 0) (ad : Option Addr) (cap : Nat) (xs : List Nat) (hl : xs.length ≤ 1048600) (hb : Bits xs) (w : World) (hx : RowA w ad xs) :
    Calls Try.prog 33 #[.agg #[.int .i64 (n + 1), .int .i64 r, .int .u32 a, .int .u32 b, .int .u32 c], .slice ad xs.length cap] w fun e w' => ∃ v, e = .returned (.tuple #[v, .int .i64 0]) ∧ OwnB w' w.heap.size v (wordF r a b c n xs) ∧ Below w.heap.size w w' := by
  have HN := hide (rcheck_any (n + 1) r a b c hA hB hC)
  rw [hck] at HN
  have HR := hide fun w hx => rright_yes ad cap xs (by omega) hb w hx
  have HW := hide fun w hx => rword_any n a b c r hr hn hA hB hC hck ad cap xs (by have := Nat.mul_le_mul (show xs.length + n ≤ 1048631 by omega) (show r ≤ 3 by omega); omega) hb w hx
  have HX := hide hx
  clear hx hb hck
  go_enter Try.func33, Try.ntmps33
  go_wp2_with fail
  refine (HN.out _).mono ?_
  rintro e w1 ⟨rfl, hb1⟩
  have HC1 := (CodeB.new w (n + 1) r a b c).keep hb1 (by simp)
  obtain ⟨q0, q1, q2, q3, q4⟩ := HC1.cells
  have HB1 := hide (below_one hb1)
  have hz1 := HB1.out.size
  clear hb1 HC1
  go_wp2_with fail
  refine (HR.out _ (HX.out.below HB1.out)).mono ?_
  rintro e w' ⟨rfl, rfl⟩
  go_wp2_with fail
  refine (HW.out _ (HX.out.below HB1.out)).mono ?_
  rintro e w2 ⟨v, rfl, ho, hb2⟩
  go_wp2_with fail
  go_ret2
  exact ⟨v, rfl, OwnB.base ho hz1, below_then HB1.out hb2⟩
end Go.Proofs.Ytmmngcjnofcmmaa
