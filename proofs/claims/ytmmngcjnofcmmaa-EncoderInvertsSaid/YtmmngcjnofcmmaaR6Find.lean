/- outpostref06.find, walked. -/
import Derived.Test.YtmmngcjnofcmmaaRows
import Derived.Test.YtmmngcjnofcmmaaR6Word
import Derived.Test.YtmmngcjnofcmmaaFindM
import Derived.Test.YtmmngcjnofcmmaaEncInv
import Derived.Deep.RegionHeld3
import Derived.IntWalk
namespace Go.Proofs.Ytmmngcjnofcmmaa
open Go.RowKit

/-- what lies still while a bit is found -/
def FindS (gc q t : Nat) (K R : Int) (a b c : Nat) (bq oq y gv : Nat) (w0 u : World) : Prop :=
  u.cell? ⟨gc, 0, none⟩ = some (.int .i64 K) ∧ u.cell? ⟨gc, 1, none⟩ = some (.int .i64 R) ∧ u.cell? ⟨gc, 2, none⟩ = some (.int .u32 a) ∧ u.cell? ⟨gc, 3, none⟩ = some (.int .u32 b) ∧ u.cell? ⟨gc, 4, none⟩ = some (.int .u32 c)
    ∧ u.cell? ⟨bq, oq + q, none⟩ = some (.int .u8 y) ∧ u.cell? ⟨gv, t, none⟩ = some (.int .u8 0) ∧ u.frozen? ⟨gv, t, none⟩ = false ∧ Below w0.heap.size w0 u
theorem FindS.keep {gc q t : Nat} {K R : Int} {a b c bq oq y gv : Nat} {w0 u u' : World} (h : FindS gc q t K R a b c bq oq y gv w0 u) (h1 : gc < w0.heap.size) (h2 : bq < w0.heap.size) (h3 : gv < w0.heap.size) (hb : Below u.heap.size u u') : FindS gc q t K R a b c bq oq y gv w0 u' := by
  obtain ⟨c0, c1, c2, c3, c4, c5, c6, c7, c8⟩ := h
  have hz := c8.size
  have g1 := Nat.lt_of_lt_of_le h1 hz
  have g2 := Nat.lt_of_lt_of_le h2 hz
  have g3 := Nat.lt_of_lt_of_le h3 hz
  exact ⟨bcell hb g1 c0, bcell hb g1 c1, bcell hb g1 c2, bcell hb g1 c3, bcell hb g1 c4, bcell hb g2 c5, bcell hb g3 c6, (hb.frozen (p := ⟨gv, t, none⟩) g3).trans c7, below_then c8 hb⟩
set_option maxRecDepth 100000 in
set_option maxHeartbeats 2000000 in
theorem rfind_any (n a b c r m : Nat) (hr : r = 2 ∨ r = 3) (hn : 2 ≤ n ∧ n ≤ 31) (hA : a ≤ 4294967295) (hB : b ≤ 4294967295) (hC : c ≤ 4294967295) (hck : checkF (n + 1) r a b c = 0) (ad : Option Addr) (cap : Nat) (S : List Nat) (hl : S.length = (m + n) * r) (hl2 : S.length ≤ 140737488351232) (hb : Bits S) (w : World) (hx : RowA w ad S) :
    Calls Try.prog 47 #[.agg #[.int .i64 (n + 1), .int .i64 r, .int .u32 a, .int .u32 b, .int .u32 c], .slice ad S.length cap] w fun e w' => ∃ v bs, bs.length = m ∧ e = .returned (.tuple #[v, .bool (sameB (wordF r a b c n bs) S)]) ∧ OwnB w' w.heap.size v bs ∧ (∀ i, bs.getD i 0 ≤ 1) ∧ (∀ ys, IsMsg r a b c n S ys → bs = ys ∧ wordF r a b c n bs = S) ∧ Below w.heap.size w w' := by
  obtain ⟨f, hf, hodd, heven⟩ := first_odd hr hck
  have hr2 : 2 ≤ r := by omega
  have hr3 : r ≤ 3 := by omega
  have hmn : m + n ≤ 140737488351232 := Nat.le_trans (Nat.le_mul_of_pos_right _ (show 0 < r by omega)) (by omega)
  have HH := hide fun (i : Nat) (hi : i < 3) (v : Bool) (hv : (genN a b c i % 2 == 1) = v) => rhas_any (n + 1) r a b c i 0 hA hB hC hi (by omega) v (by rw [Nat.pow_zero, Nat.div_one]; exact hv)
  have HSY := hide fun (ad : Option Addr) (cap : Nat) (xs : List Nat) (hl : xs.length ≤ 140737488351232) (hb : Bits xs) (t : Nat) (ht : t ≤ 140737488351232) w hx => rsymbol_any n a b c r hn.2 hA hB hC ad cap xs hl hb f t (by omega) ht w hx
  have HW := hide fun (ad : Option Addr) (cap : Nat) (xs : List Nat) (h : xs.length = m) (hb : Bits xs) w hx => rword_any n a b c r hr hn hA hB hC hck ad cap xs (by rw [h, ← hl]; exact hl2) hb w hx
  have HFR := hide fun (bs : List Nat) (h1 : bs.length = m) (h : FindR (genN a b c f) n f r S bs) => FindR.has hr hn.2 hck hf hodd hb hl h1 h
  have HFB := hide fun (bs : List Nat) (h : FindR (genN a b c f) n f r S bs) => h.bits hb
  have HX := hide hx
  have HSB := hide hb.all
  have HO := hide (And.intro hodd heven)
  have HLL := hide hl
  have hq : (S.length : Int).tdiv r = ((m + n : Nat) : Int) := by
    rw [hl, Int.natCast_mul, Int.mul_tdiv_cancel _ (by omega)]
  have hrn : ¬ (r : Int) = 0 := by omega
  have hrb : ((r : Int) == 0) = false := by rw [beq_eq_false_iff_ne]; omega
  have HC0 := hide (CodeB.new w (n + 1) r a b c)
  have HB0 := hide ((Below.refl w.heap.size w).alloc (Nat.le_refl _) (.cells #[.int .i64 (n + 1), .int .i64 r, .int .u32 a, .int .u32 b, .int .u32 c] 25))
  clear hodd heven hck hb hx hl hr
  go_enter Try.func47, Try.ntmps47
  go_wp2_with fail
  go_loopw [6] (fun i u => ∃ k : Nat, k ≤ f ∧ i = .int .i64 k ∧ Hid (CodeB u w.heap.size (n + 1) r a b c) ∧ Hid (Below w.heap.size w u)) (fun i _ => f - (intOf i).toNat)
  case atStart => exact ⟨0, by omega, rfl, HC0, HB0⟩
  case round =>
    rename World => wr
    obtain ⟨k, hk, rfl, hc, hbl⟩ := hrel
    clear HC0 HB0
    obtain ⟨q0, q1, q2, q3, q4⟩ := hc.out.cells
    by_cases hlt : k < f
    · have HHk := hide (HH.out k (by omega) false (by rw [HO.out.2 k hlt]; rfl))
      go_wp2_with fail
      refine (HHk.out _).mono ?_
      rintro e w2 ⟨rfl, hb2⟩
      have HC2 := hide (hc.out.keep hb2 hc.out.lt)
      have HB2 := hide (below_then hbl.out hb2)
      clear hb2 q0 q1 q2 q3 q4
      go_wp2_with fail
      go_roundw
      case rel => exact ⟨k + 1, by omega, by simp, HC2, HB2⟩
      case measure => simp [intOf]; omega
    · obtain rfl : f = k := by omega
      have HHk := hide (HH.out f (by omega) true (by rw [HO.out.1]; rfl))
      go_wp2_with fail
      refine (HHk.out _).mono ?_
      rintro e w2 ⟨rfl, hb2⟩
      have HC2 := hide (hc.out.keep hb2 hc.out.lt)
      have HB2 := hide (below_then hbl.out hb2)
      clear hb2 q0 q1 q2 q3 q4 hc hbl
      obtain ⟨q0, q1, q2, q3, q4⟩ := HC2.out.cells
      have hE : (m : Int) + n - ((n : Int) + 1) + 1 = m := by omega
      go_wp2_with fail
      go_loopw [8, 9] (fun v i u => ∃ (t : Nat) (vv : Value) (bs : List Nat), t ≤ m ∧ vv = v ∧ i = .int .i64 t ∧ Hid (bs.length = t) ∧ Hid (FindR (genN a b c f) n f r S bs) ∧ Hid (OwnB u (w.heap.size + 1) vv bs) ∧ Hid (CodeB u w.heap.size (n + 1) r a b c) ∧ Hid (Below w.heap.size w u)) (fun _ i _ => m - (intOf i).toNat)
      case atStart => exact ⟨0, _, [], by omega, rfl, rfl, hide rfl, hide (FindR.nil _ _ _ _ _), hide (OwnB.nil _ _), HC2, HB2⟩
      case round =>
        rename World => wt
        obtain ⟨t, vt, bs, ht, rfl, rfl, hbs, hF, hO, hc, hbl⟩ := hrel
        clear HC2 HB2 q0 q1 q2 q3 q4
        obtain ⟨q0, q1, q2, q3, q4⟩ := hc.out.cells
        by_cases htm : t < m
        · have hz := hc.out.lt
          go_wp2_with (first
            | (at_builtin; refine wpList_appB rfl (.tmp 30) (.tmp 31) rfl (w.heap.size + 1) vt bs rfl (hO.out.alloc _) (some ⟨wt.heap.size, 0, none⟩) 1 1 [0] rfl ?d1 rfl ?d2 ?d3 ?_)
            | go_in)
          case d1 => exact fun _ => ⟨wt.heap.size, 0, rfl, by simp, fun i hi => by
            obtain rfl : i = 0 := by simpa using hi
            simp [go_sem]⟩
          case d2 => have := hbs.out; simp only [List.length_cons, List.length_nil]; omega
          case d3 => simp; omega
          intro v5 w5 ho5 hg5 _
          have HC5 := hide ((hc.out.alloc _).grown hg5 (fun e => by have := (hO.out.lt e.symm).1; omega))
          have HB5 := hide ((hbl.out.alloc hbl.out.size _).grown hg5 (by have := hbl.out.size; simp; omega) (fun g e => by have := (hO.out.lt e).1; omega))
          obtain ⟨g, cg, hv5, hBg, hgl, _⟩ := ho5.full (by simp)
          have hcl : (bs ++ [0]).length = t + 1 := by rw [List.length_append, hbs.out]; rfl
          rw [hcl] at hv5
          subst hv5
          have hc0 : (bs ++ [0]).getD t 0 = 0 := by rw [← hbs.out, getD_snoc, if_neg (by omega), if_pos rfl]
          have hcb : Bits (bs ++ [0]) := fun i _ => by
            rw [getD_snoc]
            have := HFB.out bs hF.out i
            split
            · exact this
            · split <;> omega
          have HSYM := hide (HSY.out (some ⟨g, 0, none⟩) cg (bs ++ [0]) (by omega) hcb t (by omega))
          rw [symP_zero hbs.out, hcl] at HSYM
          have hqs : t * r + f < S.length := by
            rw [HLL.out]
            have : (t + 1) * r ≤ (m + n) * r := Nat.mul_le_mul_right _ (by omega)
            rw [Nat.succ_mul] at this; omega
          have hNEW := hide (show (bs ++ [0]).set t (symP (genN a b c f) bs t (n + 1) ^^^ S.getD (t * r + f) 0) = bs ++ [symP (genN a b c f) bs bs.length (n + 1) ^^^ S.getD (bs.length * r + f) 0] by
            rw [← hbs.out, List.set_append_right _ _ (Nat.le_refl _), Nat.sub_self]; rfl)
          have hFN0 := hF.out.next
          obtain ⟨BN, hBN⟩ : ∃ BN, BN = bs ++ [symP (genN a b c f) bs bs.length (n + 1) ^^^ S.getD (bs.length * r + f) 0] := ⟨_, rfl⟩
          rw [← hBN] at hFN0 hNEW
          have hlBN := hide (show BN.length = t + 1 by rw [hBN, List.length_append, hbs.out]; rfl)
          have hFN := hide hFN0
          clear hBN hFN0
          have hsl := symP_le (g := genN a b c f) (t := t) (HFB.out bs hF.out) (n + 1)
          have hyl := HSB.out (t * r + f)
          obtain ⟨bq, oq, had, hbq, hcq⟩ := HX.out.at_ hqs
          have hcq5 := bcell HB5.out hbq hcq
          have hct := ho5.cell hcl.symm (show t < t + 1 by omega)
          have hft := ho5.frz hcl.symm t
          rw [hc0] at hct
          have HO5 := hide ho5
          have HRW5 := hide (show RowA w5 (some ⟨g, 0, none⟩) (bs ++ [0]) from fun _ => ⟨g, 0, rfl, hgl, fun i hi => by rw [Nat.zero_add]; exact ho5.cell hcl.symm (by omega)⟩)
          have HCL := hide hcl
          clear hcl
          have hw1 : IntKind.i64.wrap ((t : Int) * r) = ((t * r : Nat) : Int) := by
            rw [show (t : Int) * r = ((t * r : Nat) : Int) by simp]
            exact IntWalk.i64_in _ (by omega)
          have hw2 : IntKind.i64.wrap (((t * r : Nat) : Int) + f) = ((t * r + f : Nat) : Int) := by
            rw [show ((t * r : Nat) : Int) + f = ((t * r + f : Nat) : Int) by omega]
            exact IntWalk.i64_in _ (by omega)
          generalize bs ++ [0] = cs at *
          generalize S.getD (t * r + f) 0 = y at *
          generalize symP (genN a b c f) bs t (n + 1) = sg at *
          generalize t * r = tr at *
          generalize tr + f = q at *
          have HXO := hide (xorU8 (a := sg) (b := y) (by omega) (by omega))
          have ht0 : (0 : Int) ≤ t := by omega
          have hq0 : (0 : Int) ≤ q := by omega
          have hqS : (q : Int) < S.length := by omega
          have HS5 := hide (show FindS w.heap.size q t (n + 1) r a b c bq oq y g w5 w5 from
            let h := HC5.out.cells
            ⟨h.1, h.2.1, h.2.2.1, h.2.2.2.1, h.2.2.2.2, hcq5, hct, hft, Below.refl _ _⟩)
          have hz5 := HC5.out.lt
          have hb5 : bq < w5.heap.size := Nat.lt_of_lt_of_le hbq HB5.out.size
          have HA := hide (fun u (hb : Below w5.drew.heap.size w5.drew u) => HS5.out.keep hz5 hb5 hgl (show Below w5.heap.size w5 u from ((Below.refl _ w5).drew).trans hb))
          have HFIN := hide (fun u (hb : Below w5.heap.size w5 u) => show OwnB (u.setCell ⟨g, t, none⟩ (.int .u8 ((sg ^^^ y : Nat) : Int))) (w.heap.size + 1) (.slice (some ⟨g, 0, none⟩) (t + 1) cg) BN ∧ CodeB (u.setCell ⟨g, t, none⟩ (.int .u8 ((sg ^^^ y : Nat) : Int))) w.heap.size (n + 1) r a b c ∧ Below w.heap.size w (u.setCell ⟨g, t, none⟩ (.int .u8 ((sg ^^^ y : Nat) : Int))) from
            ⟨by rw [← hNEW.out]; exact ((HO5.out.below hb).set HCL.out.symm t (sg ^^^ y)).1, (HC5.out.keep hb hz5).far (by show w.heap.size ≠ g; omega) _, (below_then HB5.out hb).setCell (by show w.heap.size ≤ g; omega) _⟩)
          obtain ⟨r0, r1, r2, r3, r4⟩ := HC5.out.cells
          clear q0 q1 q2 q3 q4 ho5 hg5
          subst had
          go_wp2_with fail
          go_region_with (go_at_call 50; refine (HSYM.out _ (HRW5.out.below ((Below.refl _ _).drew))).mono ?_; rintro e w6 ⟨rfl, hb6⟩; obtain ⟨p0, p1, p2, p3, p4, p5, p6, p7, p8⟩ := HA.out w6 hb6)
          all_goals (
            rw [HXO.out]
            obtain ⟨ho7, hc7, hb7⟩ := HFIN.out w6 p8
            generalize w6.setCell ⟨g, t, none⟩ (.int .u8 ((sg ^^^ y : Nat) : Int)) = w7 at *
            have HO7 := hide ho7
            have HC7 := hide hc7
            have HB7 := hide hb7
            clear ho7 hc7 hb7 p0 p1 p2 p3 p4 p5 p6 p7 p8
            go_wp2_with fail
            go_roundw
            case rel => exact ⟨t + 1, _, BN, by omega, rfl, by simp, hlBN, hFN, HO7, HC7, HB7⟩
            case measure => simp [intOf]; omega)
        · obtain rfl : t = m := by omega
          obtain ⟨hno, hyes⟩ := HFR.out bs hbs.out hF.out
          have HYES := hide hyes
          have hbb := HFB.out bs hF.out
          have HBB := hide hbb
          obtain ⟨a2, c2, rfl, hrw⟩ := hO.out.row
          have HWB := hide (HW.out a2 c2 bs hbs.out (fun i _ => hbb i) wt.drew (hrw.below ((Below.refl _ _).drew)))
          have hcvS := (HX.out.below hbl.out.drew).conv cap
          have HCV := hide (fun u (hb : Below wt.drew.heap.size wt.drew u) => (HX.out.below (hbl.out.drew.trans (hb.mono hbl.out.drew.size))).conv cap)
          have hz := hc.out.lt
          have hes : ∀ l : List Nat, ((strN l).toList == (strN S).toList) = sameB l S := fun l => rfl
          have HES := hide (hes (wordF r a b c n bs))
          have HFIN := hide (fun u (hb : Below wt.drew.heap.size wt.drew u) => show OwnB u w.heap.size (.slice a2 t c2) bs ∧ Below w.heap.size w u from
            ⟨by have := OwnB.base (hO.out.below (((Below.refl wt.heap.size wt).drew).trans hb)) (show w.heap.size ≤ w.heap.size + 1 by omega); rwa [hbs.out] at this, below_then hbl.out (((Below.refl wt.heap.size wt).drew).trans hb)⟩)
          have hbn := hide (hbs.out)
          rw [hbs.out] at HWB
          rw [hbs.out]
          generalize hls : wordF r a b c n bs = ls at *
          have HLS := hide hls
          clear hls
          have hgs : ∃ sS, strN S = sS := ⟨_, rfl⟩
          obtain ⟨sS, hsS⟩ := hgs
          rw [hsS] at hcvS HCV HES
          clear hno hyes hbb hrw hes hsS
          go_wp2_with fail
          go_region_with (go_at_call 52; refine HWB.out.mono ?_; rintro e w6 ⟨v6, rfl, ho6, hb6⟩; obtain ⟨a6, c6, rfl, r6⟩ := ho6.row; have k1 := r6.conv c6; have k2 := HCV.out w6 hb6)
          all_goals (
            rw [HES.out]
            obtain ⟨ho7, hb7⟩ := HFIN.out w6 hb6
            have HO7 := hide ho7
            have HB7 := hide hb7
            clear ho7 hb7 k1 k2 r6 ho6
            go_wp2_with fail
            go_ret2
            exact ⟨.slice a2 t c2, bs, hbn.out, by rw [HLS.out]; rfl, HO7.out, HBB.out, fun ys hy => by have := HYES.out ys hy; rwa [← HLS.out] at this, HB7.out⟩)
end Go.Proofs.Ytmmngcjnofcmmaa
