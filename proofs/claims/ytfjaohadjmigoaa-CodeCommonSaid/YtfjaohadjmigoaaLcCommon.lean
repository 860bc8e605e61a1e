/- The law CodeCommon, walked: it returns true. -/
import Derived.Test.YtfjaohadjmigoaaKnows
import Derived.Test.YtfjaohadjmigoaaComM
namespace Go.Proofs.Ytfjaohadjmigoaa
open Go.RowKit

/-- behind k rounds of the first loop -/
def ComR (K R : Int) (a b c p q r : Nat) (n i : Value) (w wr : World) : Prop :=
  (i = .int .i64 0 ∧ n = .int .i64 (cntK p q r 0 : Nat) ∧ wr = w.alloc (.cells #[.int .i64 K, .int .i64 R, .int .u32 (a : Nat), .int .u32 (b : Nat), .int .u32 (c : Nat)] 25)) ∨
  (i = .int .i64 1 ∧ n = .int .i64 (cntK p q r 1 : Nat) ∧ wr = w.alloc (.cells #[.int .i64 K, .int .i64 R, .int .u32 (p : Nat), .int .u32 (b : Nat), .int .u32 (c : Nat)] 25)) ∨
  (i = .int .i64 2 ∧ n = .int .i64 (cntK p q r 2 : Nat) ∧ wr = w.alloc (.cells #[.int .i64 K, .int .i64 R, .int .u32 (p : Nat), .int .u32 (q : Nat), .int .u32 (c : Nat)] 25)) ∨
  (i = .int .i64 3 ∧ n = .int .i64 (cntK p q r 3 : Nat) ∧ wr = w.alloc (.cells #[.int .i64 K, .int .i64 R, .int .u32 (p : Nat), .int .u32 (q : Nat), .int .u32 (r : Nat)] 25))

theorem mul_small (a d : Nat) (w : World) :
    Calls Try.prog 19 #[.int .u64 ((a : Int) % 1024), .int .u64 (dOf d)] w fun e w' => e = .returned (.tuple #[.int .u64 0, .int .u64 (prodF a d)]) ∧ w = w' := by
  have h := mul_any (a % 1024) (dOf d) (by omega) (by have := (dOf_lt d).1; omega) w
  rw [prod_high, prod_low] at h
  have e : ((a % 1024 : Nat) : Int) = (a : Int) % 1024 := by omega
  rw [e] at h
  exact h
theorem oneOf_zero {x : Nat} (h : x = 0) : oneOf x = 0 := if_pos h
theorem oneOf_one {x : Nat} (h : x ≠ 0) : oneOf x = 1 := if_neg h

set_option linter.unusedSimpArgs false in
set_option maxHeartbeats 4000000 in
theorem law_common (K R : Int) (a b c d : Nat) (ha : a ≤ 4294967295) (hb : b ≤ 4294967295) (hc : c ≤ 4294967295) (hd : d ≤ 4294967295) (w : World) :
    Calls Try.prog 5 #[.agg #[.int .i64 K, .int .i64 R, .int .u32 a, .int .u32 b, .int .u32 c], .int .u32 d] w fun e w' => e = .returned (.bool true) ∧ Below w.heap.size w w' := by
  have MA := hide (mul_small a d)
  have MB := hide (mul_small b d)
  have MC := hide (mul_small c d)
  have la := prod_lt a d
  have lb := prod_lt b d
  have lc := prod_lt c d
  have hne := multiples_refused K R a b c d
  have hdp := prod_dvd a d
  have hdq := prod_dvd b d
  have hdr := prod_dvd c d
  generalize prodF a d = p at *
  generalize prodF b d = q at *
  generalize prodF c d = r at *
  have hdl := dOf_lt d
  have hde : (2 + (d : Int) % 6) = ((dOf d : Nat) : Int) := by unfold dOf; omega
  have HDE := hide hde
  clear hde
  generalize dOf d = dd at *
  obtain ⟨hdd8, hdd2⟩ := hdl
  have hd8 : dd ≤ 7 := by omega
  clear hdd8
  have HC := hide (check_any K R p q r (by omega) (by omega) (by omega))
  have HCm := hide (common_any K R p q r (by omega) (by omega) (by omega))
  have HL := hide (common_last R p q r)
  have HR := hide (common_rest R p q r)
  have hgd := dvd_gcdK hdp hdq hdr (countF R)
  have HGD := hide (hgd.rem_zero (by omega))
  have hgle := gcdK_le (a := p) (b := q) (c := r) (by omega) (by omega) (by omega) (countF R)
  generalize gcdK p q r (countF R) = g at *
  have hcb := zBneI hne
  generalize checkF K R p q r = cf at *
  clear hne hdp hdq hdr hgd
  replace la : p ≤ 8191 := by omega
  replace lb : q ≤ 8191 := by omega
  replace lc : r ≤ 8191 := by omega
  go_enter Try.func5, Try.ntmps5
  go_wp2_with fail
  rw [HDE.out]
  go_loopw [5, 6] (fun n i wr => ComR K R a b c p q r n i w wr) (fun _ i _ => 3 - (intOf i).toNat)
  case atStart => exact .inl ⟨rfl, rfl, rfl⟩
  case round =>

    rcases hrel with ⟨rfl, rfl, rfl⟩ | ⟨rfl, rfl, rfl⟩ | ⟨rfl, rfl, rfl⟩ | ⟨rfl, rfl, rfl⟩
    · by_cases hz : p = 0
      · have q1 := zBeq hz
        have hcn := hide (show (cntK p q r 0 : Int) = (cntK p q r 1 : Nat) from by simp only [cntK, oneOf_zero hz]; try omega)
        clear hz
        go_wp2_with fail
        refine (MA.out _).mono ?_
        rintro e w' ⟨rfl, rfl⟩
        go_wp2_with fail
        go_roundw
        case rel => exact .inr (.inl ⟨rfl, by rw [hcn.out], rfl⟩)
        case measure => simp [intOf]
      · have q1 := zBne hz
        have hcn := hide (show (cntK p q r 0 : Int) + 1 = (cntK p q r 1 : Nat) from by simp only [cntK, oneOf_one hz]; try omega)
        have hcl := cntK_le p q r 0
        clear hz
        go_wp2_with fail
        refine (MA.out _).mono ?_
        rintro e w' ⟨rfl, rfl⟩
        go_wp2_with fail
        go_roundw
        case rel => exact .inr (.inl ⟨rfl, by rw [hcn.out], rfl⟩)
        case measure => simp [intOf]
    · by_cases hz : q = 0
      · have q1 := zBeq hz
        have hcn := hide (show (cntK p q r 1 : Int) = (cntK p q r 2 : Nat) from by simp only [cntK, oneOf_zero hz]; try omega)
        clear hz
        go_wp2_with fail
        refine (MB.out _).mono ?_
        rintro e w' ⟨rfl, rfl⟩
        go_wp2_with fail
        go_roundw
        case rel => exact .inr (.inr (.inl ⟨rfl, by rw [hcn.out], rfl⟩))
        case measure => simp [intOf]
      · have q1 := zBne hz
        have hcn := hide (show (cntK p q r 1 : Int) + 1 = (cntK p q r 2 : Nat) from by simp only [cntK, oneOf_one hz]; try omega)
        have hcl := cntK_le p q r 1
        clear hz
        go_wp2_with fail
        refine (MB.out _).mono ?_
        rintro e w' ⟨rfl, rfl⟩
        go_wp2_with fail
        go_roundw
        case rel => exact .inr (.inr (.inl ⟨rfl, by rw [hcn.out], rfl⟩))
        case measure => simp [intOf]
    · by_cases hz : r = 0
      · have q1 := zBeq hz
        have hcn := hide (show (cntK p q r 2 : Int) = (cntK p q r 3 : Nat) from by simp only [cntK, oneOf_zero hz]; try omega)
        clear hz
        go_wp2_with fail
        refine (MC.out _).mono ?_
        rintro e w' ⟨rfl, rfl⟩
        go_wp2_with fail
        go_roundw
        case rel => exact .inr (.inr (.inr (⟨rfl, by rw [hcn.out], rfl⟩)))
        case measure => simp [intOf]
      · have q1 := zBne hz
        have hcn := hide (show (cntK p q r 2 : Int) + 1 = (cntK p q r 3 : Nat) from by simp only [cntK, oneOf_one hz]; try omega)
        have hcl := cntK_le p q r 2
        clear hz
        go_wp2_with fail
        refine (MC.out _).mono ?_
        rintro e w' ⟨rfl, rfl⟩
        go_wp2_with fail
        go_roundw
        case rel => exact .inr (.inr (.inr (⟨rfl, by rw [hcn.out], rfl⟩)))
        case measure => simp [intOf]
    · go_wp2_with fail
      refine (HCm.out _).mono ?_
      rintro e w1 ⟨rfl, hb1⟩
      have hz1 : w.heap.size < w1.heap.size := by have := hb1.size; simp at this; omega
      have c0 := bcell hb1 (b := w.heap.size) (o := 0) (v := .int .i64 K) (by simp) (by simp [go_sem])
      have c1 := bcell hb1 (b := w.heap.size) (o := 1) (v := .int .i64 R) (by simp) (by simp [go_sem])
      have c2 := bcell hb1 (b := w.heap.size) (o := 2) (v := .int .u32 p) (by simp) (by simp [go_sem])
      have c3 := bcell hb1 (b := w.heap.size) (o := 3) (v := .int .u32 q) (by simp) (by simp [go_sem])
      have c4 := bcell hb1 (b := w.heap.size) (o := 4) (v := .int .u32 r) (by simp) (by simp [go_sem])
      have HB1 := hide (below_one hb1)
      clear hb1
      obtain ⟨gm, hgm, hgm0, hmx, hgg⟩ : ∃ gm : Nat, gm ≤ 18446744073709551615 ∧ gm ≠ 0 ∧ max (g : Int) 1 = (gm : Int) ∧ (g ≠ 0 → gm = g) := ⟨max g 1, by omega, by omega, by omega, fun h => by omega⟩
      have HDV := hide fun (x : Nat) (hx : x ≤ 18446744073709551615) (u : World) => div_any x gm hx hgm hgm0 u
      have HDG := hide fun (u : World) => div_any g dd (by omega) (by omega) (by omega) u
      have fg : (((g : Int) != 0) = false ∧ ((g : Int) == 0) = true) ∨ (((g : Int) != 0) = true ∧ ((g : Int) == 0) = false) := by
        by_cases e : g = 0
        · exact .inl ⟨zBeq e, zEq e⟩
        · exact .inr ⟨zBne e, zNe e⟩
      have hz : g ≠ 0 → Gf2.rem p gm = 0 ∧ Gf2.rem q gm = 0 ∧ (R ≠ 2 → Gf2.rem r gm = 0) := fun e => by
        rcases HR.out with h | h
        · rw [hgg e]; exact h
        · exact absurd h e
      have gz := zEq HGD.out
      have HGG := hide hgg
      have HMX := hide hmx
      clear hgg hmx hgm0
      have fR : ((R == 2) = true ∧ (R != 2) = false) ∨ ((R == 2) = false ∧ (R != 2) = true ∧ R ≠ 2) := by
        by_cases e : R = 2
        · exact .inl ⟨by simp [e], by simp [e]⟩
        · exact .inr ⟨by simpa using e, by simpa using e, e⟩
      have fr : (((r : Int) == 0) = true ∧ r = 0) ∨ (((r : Int) == 0) = false ∧ r ≠ 0) := by
        by_cases e : r = 0
        · exact .inl ⟨zEq e, e⟩
        · exact .inr ⟨zNe e, e⟩
      have fc : (((cntK p q r 3 : Nat) : Int) == 0) = (((g : Int) == 0) && ((R != 2) || ((r : Int) == 0))) := by
        have h := HL.out
        rw [Bool.eq_iff_iff] at h ⊢
        simp only [decide_eq_true_eq, Bool.and_eq_true, Bool.or_eq_true, beq_iff_eq, bne_iff_ne, ne_eq] at h ⊢
        omega
      have zp : ((g : Int) != 0) = true → ((Gf2.rem p gm : Int) != 0) = false ∧ ((Gf2.rem q gm : Int) != 0) = false ∧ ((R != 2) = true → ((Gf2.rem r gm : Int) != 0) = false) := fun e => by
        have e2 : g ≠ 0 := by rw [bne_iff_ne] at e; omega
        obtain ⟨h1, h2, h3⟩ := hz e2
        exact ⟨zBeq h1, zBeq h2, fun e3 => zBeq (h3 (by simpa using e3))⟩
      clear hz
      have hcases : (((g : Int) != 0) = false ∧ ((g : Int) == 0) = true ∧ True ∧ True) ∨ (((g : Int) != 0) = true ∧ ((g : Int) == 0) = false ∧ ((Gf2.rem p gm : Int) != 0) = false ∧ ((Gf2.rem q gm : Int) != 0) = false) := by
        rcases fg with ⟨e1, e2⟩ | ⟨e1, e2⟩
        · exact .inl ⟨e1, e2, trivial, trivial⟩
        · exact .inr ⟨e1, e2, (zp e1).1, (zp e1).2.1⟩
      have hcases2 : ((R == 2) = true ∧ (R != 2) = false) ∨ ((R == 2) = false ∧ (R != 2) = true ∧ (((g : Int) != 0) = true → ((Gf2.rem r gm : Int) != 0) = false)) := by
        rcases fR with ⟨e1, e2⟩ | ⟨e1, e2, _⟩
        · exact .inl ⟨e1, e2⟩
        · exact .inr ⟨e1, e2, fun h => (zp h).2.2 e2⟩
      clear fg fR zp HL HR
      have HZ3 : ((R != 2) = true → ((g : Int) != 0) = true → ((Gf2.rem r gm : Int) != 0) = false) := fun h1 h2 => by
        rcases hcases2 with ⟨_, e2⟩ | ⟨_, _, e3⟩
        · rw [h1] at e2; cases e2
        · exact e3 h2
      have HZ := hide HZ3
      have hcases3 : ((R == 2) = true ∧ (R != 2) = false) ∨ ((R == 2) = false ∧ (R != 2) = true) := by
        rcases hcases2 with h | ⟨e1, e2, _⟩
        · exact .inl h
        · exact .inr ⟨e1, e2⟩
      clear HZ3 hcases2
      have hcases4 : ((r : Int) == 0) = true ∨ ((r : Int) == 0) = false := by
        rcases fr with h | h
        · exact .inl h.1
        · exact .inr h.1
      clear fr
      have FC := hide fc
      clear fc
      have hmx := HMX.out
      clear HMX
      rcases hcases with ⟨f1, f2, f3, f4⟩ | ⟨f1, f2, f3, f4⟩
      all_goals
        rcases hcases3 with ⟨f5, f6⟩ | ⟨f5, f6⟩
        all_goals
          try have f10 := HZ.out f6 f1
          clear HZ
          go_wp2_with fail
          go_loop [10, 11, 12, 13] (fun i _ _ _ => ∃ k : Nat, k ≤ 3 ∧ i = .int .i64 k) (fun i _ _ _ => 3 - (intOf i).toNat)
          case atStart => exact ⟨0, by omega, rfl⟩
          case round =>
          obtain ⟨k, hk, rfl⟩ := hrel
          have hk4 : k = 0 ∨ k = 1 ∨ k = 2 ∨ k = 3 := by omega
          rcases hk4 with rfl | rfl | rfl | rfl
          · go_wp2_with (first | (go_at_call 20; refine (HDV.out p (by omega) _).mono ?_; rintro e w' ⟨rfl, rfl⟩) | (go_at_call 11; refine (num_any _ _).mono ?_; rintro e w' ⟨rfl, rfl⟩))
            go_round
            case rel => exact ⟨1, by omega, rfl⟩
            case measure => simp [intOf]
          · go_wp2_with (first | (go_at_call 20; refine (HDV.out q (by omega) _).mono ?_; rintro e w' ⟨rfl, rfl⟩) | (go_at_call 11; refine (num_any _ _).mono ?_; rintro e w' ⟨rfl, rfl⟩))
            go_round
            case rel => exact ⟨2, by omega, rfl⟩
            case measure => simp [intOf]
          · go_wp2_with (first | (go_at_call 20; refine (HDV.out r (by omega) _).mono ?_; rintro e w' ⟨rfl, rfl⟩) | (go_at_call 11; refine (num_any _ _).mono ?_; rintro e w' ⟨rfl, rfl⟩))
            go_round
            case rel => exact ⟨3, by omega, rfl⟩
            case measure => simp [intOf]
          · have F9 := FC.out
            rw [f2, f6] at F9
            clear FC
            rcases hcases4 with f8 | f8
            all_goals
              rw [f8] at F9
              have F10 := hide F9
              clear F9
              have f9 := F10.out
              try simp only [Bool.true_and, Bool.false_and, Bool.or_true, Bool.or_false, Bool.false_or, Bool.true_or, Bool.and_true] at f9
              clear F10
              go_wp2_with fail
              refine (HDG.out _).mono ?_
              rintro e w' ⟨rfl, rfl⟩
              go_wp2_with fail
              refine (HC.out _).mono ?_
              rintro e w2 ⟨rfl, hb2⟩
              have d1 := bcell hb2 (by omega) c1
              have d4 := bcell hb2 (by omega) c4
              go_wp2_with (first | (go_at_call 11; refine (num_any _ _).mono ?_; rintro e w' ⟨rfl, rfl⟩) | (go_at_call 16; refine (knows_any _).mono ?_; rintro e w3 ⟨rfl, hb3⟩))
              go_ret
              exact ⟨rfl, HB1.out.trans ((hb2.trans (hb3.mono hb2.size)).mono HB1.out.size)⟩
end Go.Proofs.Ytfjaohadjmigoaa
