/- encoder.Invert and Member of whatever input, walked. -/
import Derived.Test.YtmmngcjnofcmmaaRows
import Derived.Test.YtmmngcjnofcmmaaRead3
import Derived.Test.YtmmngcjnofcmmaaReadAny
namespace Go.Proofs.Ytmmngcjnofcmmaa
open Go.RowKit

open Classical in
/-- the error of a row of symbols -/
noncomputable def rdE (K R : Int) (a b c : Nat) (S : List Nat) : Int :=
  if checkF K R a b c ≠ 0 then checkF K R a b c
  else if S.length % rateN R ≠ 0 ∨ S.length / rateN R < (K - 1).toNat then 5
  else if Bits S then 0 else 10
/-- it is a word -/
def HasMsg (K R : Int) (a b c : Nat) (S : List Nat) : Prop := ∃ xs, IsMsg R a b c (K - 1).toNat S xs
open Classical in
noncomputable def invE (K R : Int) (a b c : Nat) (S : List Nat) : Int := if rdE K R a b c S ≠ 0 then rdE K R a b c S else if HasMsg K R a b c S then 0 else 3
open Classical in
noncomputable def invO (K R : Int) (a b c : Nat) (S : List Nat) : List Nat := if h : rdE K R a b c S = 0 ∧ HasMsg K R a b c S then Classical.choose h.2 else []
section
variable {K R : Int} {a b c : Nat} {S : List Nat}
theorem rdE_check (h : checkF K R a b c ≠ 0) : rdE K R a b c S = checkF K R a b c := if_pos h
theorem rdE_shape (h : checkF K R a b c = 0) (h2 : S.length % rateN R ≠ 0 ∨ S.length / rateN R < (K - 1).toNat) : rdE K R a b c S = 5 := by unfold rdE; rw [if_neg (by simpa using h), if_pos h2]
theorem rdE_bit (h : checkF K R a b c = 0) (h2 : ¬ (S.length % rateN R ≠ 0 ∨ S.length / rateN R < (K - 1).toNat)) (h3 : ¬ Bits S) : rdE K R a b c S = 10 := by unfold rdE; rw [if_neg (by simpa using h), if_neg h2, if_neg h3]
theorem rdE_good (h : checkF K R a b c = 0) (h2 : ¬ (S.length % rateN R ≠ 0 ∨ S.length / rateN R < (K - 1).toNat)) (h3 : Bits S) : rdE K R a b c S = 0 := by unfold rdE; rw [if_neg (by simpa using h), if_neg h2, if_pos h3]
theorem rdE_zero (h : rdE K R a b c S = 0) : checkF K R a b c = 0 ∧ ¬ (S.length % rateN R ≠ 0 ∨ S.length / rateN R < (K - 1).toNat) ∧ Bits S := by
  by_cases h1 : checkF K R a b c = 0
  · by_cases h2 : S.length % rateN R ≠ 0 ∨ S.length / rateN R < (K - 1).toNat
    · rw [rdE_shape h1 h2] at h; exact absurd h (by decide)
    · by_cases h3 : Bits S
      · exact ⟨h1, h2, h3⟩
      · rw [rdE_bit h1 h2 h3] at h; exact absurd h (by decide)
  · rw [rdE_check h1] at h; exact absurd h h1
theorem tells_good (h : checkF K R a b c = 0) : Tells R a b c := by
  obtain ⟨hh, _, ho, _⟩ := checkF_zero h
  refine tells_of ?_
  by_cases hR : R = 2
  · have e : orK a b c (countF R) = 0 ||| a ||| b := by unfold countF; rw [if_pos hR]; rfl
    rw [e, Nat.zero_or] at ho
    rcases Nat.mod_two_eq_zero_or_one a with h1 | h1
    · rcases Nat.mod_two_eq_zero_or_one b with h2 | h2
      · exfalso; apply ho
        have := Nat.or_mod_two_pow (a := a) (b := b) (n := 1)
        simp only [Nat.pow_one] at this
        rw [this, h1, h2]; rfl
      · exact .inr (.inl h2)
    · exact .inl h1
  · have e : orK a b c (countF R) = 0 ||| a ||| b ||| c := by unfold countF; rw [if_neg hR]; rfl
    rw [e, Nat.zero_or] at ho
    rcases Nat.mod_two_eq_zero_or_one a with h1 | h1
    · rcases Nat.mod_two_eq_zero_or_one b with h2 | h2
      · rcases Nat.mod_two_eq_zero_or_one c with h3 | h3
        · exfalso; apply ho
          have o1 : (a ||| b) % 2 = 0 := by have := Nat.or_mod_two_pow (a := a) (b := b) (n := 1); simp only [Nat.pow_one] at this; rw [this, h1, h2]; rfl
          have := Nat.or_mod_two_pow (a := a ||| b) (b := c) (n := 1)
          simp only [Nat.pow_one] at this
          rw [this, o1, h3]; rfl
        · exact .inr (.inr ⟨hR, h3⟩)
      · exact .inr (.inl h2)
    · exact .inl h1
theorem invE_err (h : rdE K R a b c S ≠ 0) : invE K R a b c S = rdE K R a b c S ∧ invO K R a b c S = [] := ⟨if_pos h, dif_neg fun h' => h h'.1⟩
theorem invE_no (h : rdE K R a b c S = 0) (h2 : ¬ HasMsg K R a b c S) : invE K R a b c S = 3 ∧ invO K R a b c S = [] := ⟨by unfold invE; rw [if_neg (by simpa using h), if_neg h2], dif_neg fun h' => h2 h'.2⟩
theorem invE_yes (h : rdE K R a b c S = 0) {xs : List Nat} (hm : IsMsg R a b c (K - 1).toNat S xs) : invE K R a b c S = 0 ∧ invO K R a b c S = xs := by
  have h2 : HasMsg K R a b c S := ⟨xs, hm⟩
  refine ⟨by unfold invE; rw [if_neg (by simpa using h), if_pos h2], ?_⟩
  unfold invO
  rw [dif_pos ⟨h, h2⟩]
  exact (Classical.choose_spec h2).unique (tells_good (rdE_zero h).1) hm
end
theorem read_err (K R : Int) (a b c : Nat) (hA : a ≤ 4294967295) (hB : b ≤ 4294967295) (hC : c ≤ 4294967295) (ad : Option Addr) (cap : Nat) (S : List Nat) (hl : S.length ≤ 140737488351232) (hne : rdE K R a b c S ≠ 0) (w : World) (hx : RowA w ad S) :
    Calls Try.prog 43 #[.agg #[.int .i64 K, .int .i64 R, .int .u32 a, .int .u32 b, .int .u32 c], .slice ad S.length cap] w fun e w' => e = .returned (.tuple #[.slice none 0 0, .bool false, .int .i64 (rdE K R a b c S)]) ∧ Below w.heap.size w w' := by
  by_cases h1 : checkF K R a b c = 0
  · obtain ⟨n, rfl, hn1, hn2, hR⟩ := good_code h1
    have en : ((n : Int) + 1 - 1).toNat = n := by omega
    by_cases h2 : S.length % rateN R ≠ 0 ∨ S.length / rateN R < ((n : Int) + 1 - 1).toNat
    · rw [rdE_shape h1 h2]
      rw [en] at h2
      rcases hR with rfl | rfl
      · exact read_shape_two n a b c ⟨hn1, hn2⟩ hA hB hC h1 ad cap S hl h2 w
      · exact read_shape_three n a b c ⟨hn1, hn2⟩ hA hB hC h1 ad cap S hl h2 w
    · by_cases h3 : Bits S
      · exact absurd (rdE_good h1 h2 h3) hne
      · rw [rdE_bit h1 h2 h3]
        rw [en] at h2
        rcases hR with rfl | rfl
        · exact read_bits_two n a b c ⟨hn1, hn2⟩ hA hB hC h1 ad cap S hl (Classical.byContradiction fun h => h2 (.inl h)) (fun h => h2 (.inr h)) h3 w hx
        · exact read_bits_three n a b c ⟨hn1, hn2⟩ hA hB hC h1 ad cap S hl (Classical.byContradiction fun h => h2 (.inl h)) (fun h => h2 (.inr h)) h3 w hx
  · rw [rdE_check h1]
    exact read_check K R a b c hA hB hC h1 _ w
theorem read_ok (K R : Int) (a b c : Nat) (hA : a ≤ 4294967295) (hB : b ≤ 4294967295) (hC : c ≤ 4294967295) (ad : Option Addr) (cap : Nat) (S : List Nat) (hl : S.length ≤ 140737488351232) (hcap : S.length ≤ cap) (hz : rdE K R a b c S = 0) (w : World) (hx : RowA w ad S) :
    Calls Try.prog 43 #[.agg #[.int .i64 K, .int .i64 R, .int .u32 a, .int .u32 b, .int .u32 c], .slice ad S.length cap] w (ReadQ R a b c (K - 1).toNat S w) := by
  obtain ⟨h1, h2, h3⟩ := rdE_zero hz
  obtain ⟨n, rfl, hn1, hn2, hR⟩ := good_code h1
  have en : ((n : Int) + 1 - 1).toNat = n := by omega
  rw [en] at h2 ⊢
  have h4 : S.length % rateN R = 0 := Classical.byContradiction fun h => h2 (.inl h)
  have h5 : ¬ S.length / rateN R < n := fun h => h2 (.inr h)
  have hS : S.length = (S.length / rateN R - n + n) * rateN R := by
    rw [Nat.sub_add_cancel (Nat.le_of_not_lt h5)]
    have := Nat.div_add_mod S.length (rateN R)
    rw [h4, Nat.mul_comm] at this
    omega
  have ht := tells_good h1
  rcases hR with rfl | rfl
  · exact read_two n _ a b c ⟨hn1, hn2⟩ hA hB hC h1 ht ad cap S hl hcap hS h3 w hx
  · exact read_three n _ a b c ⟨hn1, hn2⟩ hA hB hC h1 ht ad cap S hl hcap hS h3 w hx
set_option maxHeartbeats 400000 in
theorem invert_any (K R : Int) (a b c : Nat) (hA : a ≤ 4294967295) (hB : b ≤ 4294967295) (hC : c ≤ 4294967295) (ad : Option Addr) (cap : Nat) (S : List Nat) (hl : S.length ≤ 140737488351232) (hcap : S.length ≤ cap) (w : World) (hx : RowA w ad S) :
    Calls Try.prog 19 #[.agg #[.int .i64 K, .int .i64 R, .int .u32 a, .int .u32 b, .int .u32 c], .slice ad S.length cap] w fun e w' => ∃ v, e = .returned (.tuple #[v, .int .i64 (invE K R a b c S)]) ∧ OwnB w' w.heap.size v (invO K R a b c S) ∧ Below w.heap.size w w' := by
  have HX := hide hx
  clear hx
  by_cases hz : rdE K R a b c S = 0
  · have HRD := hide fun w hx => read_ok K R a b c hA hB hC ad cap S hl hcap hz w hx
    by_cases hm : HasMsg K R a b c S
    · obtain ⟨xs, hm⟩ := hm
      obtain ⟨e1, e2⟩ := invE_yes hz hm
      rw [e1, e2]
      have HT := hide (tells_good (rdE_zero hz).1)
      have HM := hide hm
      clear hm hz e1 e2
      go_enter Try.func19, Try.ntmps19
      go_wp2_with fail
      refine (HRD.out _ (HX.out.alloc _)).mono ?_
      rintro e w1 h
      rcases h with ⟨ys, v, hm2, rfl, ho, hb⟩ | ⟨hno, _, _⟩
      · obtain rfl := hm2.unique HT.out HM.out
        have HO := hide (ho.mono (B' := w.heap.size) (by simp))
        have HB := hide (below_one hb)
        clear ho hb hm2
        go_wp2_with fail
        go_ret2
        exact ⟨v, rfl, HO.out, HB.out⟩
      · exact absurd HM.out (hno xs)
    · obtain ⟨e1, e2⟩ := invE_no hz hm
      rw [e1, e2]
      have HM := hide hm
      clear hm hz e1 e2
      go_enter Try.func19, Try.ntmps19
      go_wp2_with fail
      refine (HRD.out _ (HX.out.alloc _)).mono ?_
      rintro e w1 h
      rcases h with ⟨ys, v, hm2, _⟩ | ⟨_, rfl, hb⟩
      · exact absurd ⟨ys, hm2⟩ HM.out
      · have HB := hide (below_one hb)
        clear hb
        go_wp2_with fail
        go_ret2
        exact ⟨_, rfl, OwnB.nil _ _, HB.out⟩
  · have HRD := hide fun w hx => read_err K R a b c hA hB hC ad cap S hl hz w hx
    obtain ⟨e1, e2⟩ := invE_err hz
    rw [e1, e2]
    have hb0 := nzBeq hz
    generalize rdE K R a b c S = er at *
    clear hz e1 e2
    go_enter Try.func19, Try.ntmps19
    go_wp2_with fail
    refine (HRD.out _ (HX.out.alloc _)).mono ?_
    rintro e w1 ⟨rfl, hb⟩
    have HB := hide (below_one hb)
    clear hb
    go_wp2_with fail
    go_ret2
    exact ⟨_, rfl, OwnB.nil _ _, HB.out⟩
end Go.Proofs.Ytmmngcjnofcmmaa
