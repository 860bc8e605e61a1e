/- modem.Window and outpostref25.Window, walked. -/
import Derived.Test.YtlbfndibgojbiaaRows
import Derived.Test.YtlbfndibgojbiaaMRSym
namespace Go.Proofs.Ytlbfndibgojbiaa
open Go.RowKit
set_option linter.unusedVariables false

/-- a body as the decoders take it -/
def winL (d T S q L : Nat) (xs : List Nat) : List Nat := unshL q (turnL d T S L xs)
theorem winL_length (d T S q L : Nat) (xs : List Nat) : (winL d T S q L xs).length = xs.length := by unfold winL; rw [unshL_length, turnL_length]
open Classical in
/-- the error of Window -/
noncomputable def winE (K R : Int) (a b c : Nat) (D : Int) (T S m : Nat) (l q z : Int) (L : Int) (xs : List Nat) : Int := if modE K R a b c D T S m l q z ≠ 0 then modE K R a b c D T S m l q z else if L < 2 ∨ 16 < L then 1 else if (xs.length : Int) ≠ bodyI K R z then 5 else if ¬ Lev L.toNat xs then 91 else 0
open Classical in
noncomputable def winO (K R : Int) (a b c : Nat) (D : Int) (T S m : Nat) (l q z : Int) (L : Int) (xs : List Nat) : List Nat := if winE K R a b c D T S m l q z L xs = 0 then winL D.toNat T S q.toNat L.toNat xs else []
section
variable {K R : Int} {a b c : Nat} {D : Int} {T S m : Nat} {l q z L : Int} {xs : List Nat}
theorem winE_bad (h : modE K R a b c D T S m l q z ≠ 0) : winE K R a b c D T S m l q z L xs = modE K R a b c D T S m l q z := if_pos h
theorem winE_arg (h : modE K R a b c D T S m l q z = 0) (h2 : L < 2 ∨ 16 < L) : winE K R a b c D T S m l q z L xs = 1 := by unfold winE; rw [if_neg (by simpa using h), if_pos h2]
theorem winE_len (h : modE K R a b c D T S m l q z = 0) (h2 : ¬ (L < 2 ∨ 16 < L)) (h3 : (xs.length : Int) ≠ bodyI K R z) : winE K R a b c D T S m l q z L xs = 5 := by unfold winE; rw [if_neg (by simpa using h), if_neg h2, if_pos h3]
theorem winE_lev (h : modE K R a b c D T S m l q z = 0) (h2 : ¬ (L < 2 ∨ 16 < L)) (h3 : (xs.length : Int) = bodyI K R z) (h4 : ¬ Lev L.toNat xs) : winE K R a b c D T S m l q z L xs = 91 := by unfold winE; rw [if_neg (by simpa using h), if_neg h2, if_neg (by simpa using h3), if_pos h4]
theorem winE_ok (h : modE K R a b c D T S m l q z = 0) (h2 : ¬ (L < 2 ∨ 16 < L)) (h3 : (xs.length : Int) = bodyI K R z) (h4 : Lev L.toNat xs) : winE K R a b c D T S m l q z L xs = 0 := by unfold winE; rw [if_neg (by simpa using h), if_neg h2, if_neg (by simpa using h3), if_neg (by simpa using h4)]
theorem winO_none (h : winE K R a b c D T S m l q z L xs ≠ 0) : winO K R a b c D T S m l q z L xs = [] := if_neg h
theorem winO_some (h : winE K R a b c D T S m l q z L xs = 0) : winO K R a b c D T S m l q z L xs = winL D.toNat T S q.toNat L.toNat xs := if_pos h
end
theorem winO_good (n r a b c d T S m l q z : Nat) (hg : GMod n r a b c d T S m l q z) (L : Nat) (hL : 2 ≤ L ∧ L ≤ 16) (xs : List Nat) (hl : xs.length = (z + n) * r) (hb : Lev L xs) : winE (n + 1) r a b c d T S m l q z L xs = 0 ∧ winO (n + 1) r a b c d T S m l q z L xs = winL d T S q L xs := by
  have h : winE (n + 1) r a b c d T S m l q z L xs = 0 := winE_ok hg.ok (by omega) (by rw [hg.body, hl]) (by simpa using hb)
  exact ⟨h, by rw [winO_some h]; simp only [Int.toNat_natCast]⟩
set_option maxRecDepth 100000 in
set_option maxHeartbeats 2000000 in
theorem window_good (n r a b c d T S m l q z : Nat) (hg : GMod n r a b c d T S m l q z) (L : Nat) (hL : 2 ≤ L ∧ L ≤ 16) (ad : Option Addr) (cap : Nat) (xs : List Nat) (hl : xs.length = (z + n) * r) (hb : Lev L xs) (w : World) (hx : RowA w ad xs) :
    Calls Try.prog 29 #[.agg #[.int .i64 (n + 1), .int .i64 r, .int .u32 a, .int .u32 b, .int .u32 c, .int .i64 d, .int .u64 T, .int .u64 S, .int .u64 m, .int .i64 l, .int .i64 q, .int .i64 z], .int .i64 L, .slice ad xs.length cap] w fun e w' => ∃ v, e = .returned (.tuple #[v, .int .i64 0]) ∧ OwnB w' w.heap.size v (winL d T S q L xs) ∧ Below w.heap.size w w' := by
  have hmf : ∀ (fn : Fn) (first cap : Array Value) (w : World), (Instr.makeFunc fn first cap).run Try.prog w = .ok (.func fn first cap) w := fun _ _ _ _ => rfl
  have HC := hide (modcheck_any (n + 1) r a b c d T S m l q z hg.hA hg.hB hg.hC hg.regs.1 hg.regs.2)
  rw [hg.ok] at HC
  have HBD := hide (body_any (n + 1) r a b c d T S m l q z (by have := hg.hn; omega) (by rcases hg.hr with e | e <;> rw [e]; exact .inl rfl; exact .inr rfl) (by have := hg.hz; omega))
  rw [hg.body] at HBD
  have hwl := hg.body_le
  have HR0 := hide (mright_nil L hL)
  have HR1 := hide fun w hx => mright_yes L hL ad cap xs (by omega) (fun i => by have := hb.all (by omega) i; omega) hb w hx
  have HS1 := hide fun B g g2 w0 hm hgB hbx hgB2 => wstage1 n r a b c d T S m l q z hg B g g2 L hL w0 hm hgB hbx hgB2 xs (by omega) (hb.all (by omega))
  have HS2 := hide fun B g w0 hm hgB => wstage2 n r a b c d T S m l q z hg B g w0 hm hgB (turnL d T S L xs) (by rw [turnL_length]; omega)
  have hne : ((xs.length : Int) != (((z + n) * r : Nat) : Int)) = false := by rw [hl]; simp
  have HX := hide hx
  unfold winL
  generalize turnL d T S L xs = x1 at *
  generalize unshL q x1 = x2 at *
  generalize (z + n) * r = bd at *
  clear hl hb hx hg
  obtain ⟨l1, l2⟩ := hL
  go_enter Try.func29, Try.ntmps29
  go_wp2_with fail
  have hM0 := (ModB.new (K := n + 1) (R := r) (a := a) (b := b) (c := c) (D := d) (T := T) (S := S) (m := m) (l := l) (q := q) (z := z) w).alloc (.cells #[.int .i64 L] 3)
  have hbx0 := BoxAt.new (w.alloc (.cells #[.int .i64 (n + 1), .int .i64 r, .int .u32 a, .int .u32 b, .int .u32 c, .int .i64 d, .int .u64 T, .int .u64 S, .int .u64 m, .int .i64 l, .int .i64 q, .int .i64 z] 32)) (.int .i64 L) 3
  rw [size_al] at hbx0
  have hb0 : Below w.heap.size w ((w.alloc (.cells #[.int .i64 (n + 1), .int .i64 r, .int .u32 a, .int .u32 b, .int .u32 c, .int .i64 d, .int .u64 T, .int .u64 S, .int .u64 m, .int .i64 l, .int .i64 q, .int .i64 z] 32)).alloc (.cells #[.int .i64 L] 3)) := ((Below.refl _ _).alloc (Nat.le_refl _) _).alloc (by simp) _
  generalize (w.alloc (.cells #[.int .i64 (n + 1), .int .i64 r, .int .u32 a, .int .u32 b, .int .u32 c, .int .i64 d, .int .u64 T, .int .u64 S, .int .u64 m, .int .i64 l, .int .i64 q, .int .i64 z] 32)).alloc (.cells #[.int .i64 L] 3) = W0 at *
  have HU := hide fun (u : World) (hb : Below W0.heap.size W0 u) => hM0.keep hb hM0.lt
  have HUB := hide fun (u : World) (hb : Below W0.heap.size W0 u) => hbx0.below hb hbx0.lt
  have HB0 := hide hb0
  have hz0 := hbx0.lt
  clear hM0 hb0 hbx0
  refine (HC.out _).mono ?_
  rintro e w1 ⟨rfl, hb1⟩
  have HB1 := hide hb1
  have hz2 := hb1.size
  obtain ⟨s0, s1, s2, s3, s4, s5, s6, s7, s8, s9, s10, s11⟩ := (HU.out _ hb1).cells
  have q0 := (HUB.out _ hb1).cell
  clear hb1
  go_wp2_with fail
  refine (HR0.out _).mono ?_
  rintro e w' ⟨rfl, rfl⟩
  go_wp2_with fail
  refine (HBD.out _).mono ?_
  rintro e w2 ⟨rfl, hb2⟩
  have HB2 := hide (below_then HB1.out hb2)
  have hz3 := hb2.size
  clear hb2 s0 s1 s2 s3 s4 s5 s6 s7 s8 s9 s10 s11 q0
  have q0 := (HUB.out _ HB2.out).cell
  go_wp2_with fail
  refine (HR1.out _ (HX.out.below (below_then HB0.out HB2.out))).mono ?_
  rintro e w' ⟨rfl, rfl⟩
  go_wp2_with fail
  clear q0
  have hg0 : w.heap.size + 1 < w2.heap.size := by omega
  refine (thru2 (w2.heap.size + 1) w2.heap.size w.heap.size (w.heap.size + 1) _ xs x1 x2 (HS1.out _ _ _ _ ((HU.out _ HB2.out).alloc _) (by omega) ((HUB.out _ HB2.out).alloc _) (by omega)) (HS2.out _ _ _ ((HU.out _ HB2.out).alloc _) (by omega)) (by omega) ?hf ad cap (by simp) (RowA.alloc (HX.out.below (below_then HB0.out HB2.out)) _)).mono ?_
  case hf => refine ⟨?_, ?_⟩ <;> simp [go_sem]
  rintro e w3 ⟨v, rfl, ho, hb3⟩
  go_wp2_with fail
  go_ret2
  refine ⟨_, rfl, ho.mono (by omega), below_then HB0.out (below_then HB2.out ?_)⟩
  exact ((Below.refl _ _).alloc (Nat.le_refl _) _).trans (hb3.mono (by omega))
set_option maxRecDepth 100000 in
set_option maxHeartbeats 2000000 in
theorem rwindow_good (n r a b c d T S m l q z : Nat) (hg : GMod n r a b c d T S m l q z) (L : Nat) (hL : 2 ≤ L ∧ L ≤ 16) (ad : Option Addr) (cap : Nat) (xs : List Nat) (hl : xs.length = (z + n) * r) (hb : Lev L xs) (w : World) (hx : RowA w ad xs) :
    Calls Try.prog 49 #[.agg #[.int .i64 (n + 1), .int .i64 r, .int .u32 a, .int .u32 b, .int .u32 c, .int .i64 d, .int .u64 T, .int .u64 S, .int .u64 m, .int .i64 l, .int .i64 q, .int .i64 z], .int .i64 L, .slice ad xs.length cap] w fun e w' => ∃ v, e = .returned (.tuple #[v, .int .i64 0]) ∧ OwnB w' w.heap.size v (winL d T S q L xs) ∧ Below w.heap.size w w' := by
  have HC := hide (rbody_any (n + 1) r a b c d T S m l q z hg.hA hg.hB hg.hC hg.regs.1 hg.regs.2)
  unfold bodyN at HC
  rw [hg.ok, if_pos rfl, hg.body] at HC
  have hwl := hg.body_le
  have HR1 := hide fun w hx => levelled_yes L hL ad cap xs (by omega) (fun i => by have := hb.all (by omega) i; omega) hb w hx
  have HS1 := hide fun w' hx => rturn_ok d T S L hg.reg hL ad cap xs (by omega) (fun i _ => hb.all (by omega) i) w' hx
  have HS2 := hide fun ad cap w' hx => runsh_ok q hg.hq ad cap (turnL d T S L xs) (by rw [turnL_length]; omega) w' hx
  have hne : ((xs.length : Int) != (((z + n) * r : Nat) : Int)) = false := by rw [hl]; simp
  have HX := hide hx
  unfold winL
  generalize turnL d T S L xs = x1 at *
  generalize unshL q x1 = x2 at *
  generalize (z + n) * r = bd at *
  clear hl hb hx hg
  obtain ⟨l1, l2⟩ := hL
  have dl : decide ((L : Int) < 2) = false := decide_eq_false (by omega)
  have dh : decide ((16 : Int) < L) = false := decide_eq_false (by omega)
  go_enter Try.func49, Try.ntmps49
  go_wp2_with fail
  have hM0 := ModB.new (K := n + 1) (R := r) (a := a) (b := b) (c := c) (D := d) (T := T) (S := S) (m := m) (l := l) (q := q) (z := z) w
  have hb0 : Below w.heap.size w (w.alloc (.cells #[.int .i64 (n + 1), .int .i64 r, .int .u32 a, .int .u32 b, .int .u32 c, .int .i64 d, .int .u64 T, .int .u64 S, .int .u64 m, .int .i64 l, .int .i64 q, .int .i64 z] 32)) := (Below.refl _ _).alloc (Nat.le_refl _) _
  generalize w.alloc (.cells #[.int .i64 (n + 1), .int .i64 r, .int .u32 a, .int .u32 b, .int .u32 c, .int .i64 d, .int .u64 T, .int .u64 S, .int .u64 m, .int .i64 l, .int .i64 q, .int .i64 z] 32) = W0 at *
  have HU := hide fun (u : World) (hb : Below W0.heap.size W0 u) => (hM0.keep hb hM0.lt).cells
  have HB0 := hide hb0
  have hz0 := hM0.lt
  clear hM0 hb0
  refine (HC.out _).mono ?_
  rintro e w1 ⟨rfl, hb1⟩
  have HB1 := hide hb1
  have HX1 := hide (HX.out.below (below_then HB0.out hb1))
  obtain ⟨s0, s1, s2, s3, s4, s5, s6, s7, s8, s9, s10, s11⟩ := HU.out _ hb1
  clear hb1
  go_wp2_with fail
  refine (HR1.out _ HX1.out).mono ?_
  rintro e w' ⟨rfl, rfl⟩
  go_wp2_with fail
  refine (HS1.out _ HX1.out).mono ?_
  rintro e w2 ⟨v2, rfl, ho2, hb2⟩
  obtain ⟨a2, c2, rfl, r2, _⟩ := ho2.rowg
  have HB2 := hide (below_then HB1.out hb2)
  have hzz := (below_then HB0.out HB2.out).size
  have HR2 := hide r2
  clear s0 s1 s2 s3 s4 s5 s6 s7 s8 s9 s10 s11 hb2 ho2 r2
  obtain ⟨s0, s1, s2, s3, s4, s5, s6, s7, s8, s9, s10, s11⟩ := HU.out _ HB2.out
  go_wp2_with fail
  refine (HS2.out _ _ _ HR2.out).mono ?_
  rintro e w3 ⟨v3, rfl, ho3, hb3⟩
  go_wp2_with fail
  go_ret2
  exact ⟨_, rfl, ho3.mono hzz, below_then HB0.out (below_then HB2.out hb3)⟩
set_option maxRecDepth 100000 in
set_option maxHeartbeats 4000000 in
theorem window_any (K R : Int) (a b c : Nat) (D : Int) (T S m : Nat) (l q z : Int) (hA : a ≤ 4294967295) (hB : b ≤ 4294967295) (hC : c ≤ 4294967295) (hT : T ≤ 18446744073709551615) (hS : S ≤ 18446744073709551615) (hM : m ≤ 18446744073709551615) (L : Int) (ad : Option Addr) (cap : Nat) (xs : List Nat) (hx47 : xs.length ≤ 140737488351232) (h8 : ∀ i, xs.getD i 0 ≤ 255) (w : World) (hx : RowA w ad xs) :
    Calls Try.prog 29 #[.agg #[.int .i64 K, .int .i64 R, .int .u32 a, .int .u32 b, .int .u32 c, .int .i64 D, .int .u64 T, .int .u64 S, .int .u64 m, .int .i64 l, .int .i64 q, .int .i64 z], .int .i64 L, .slice ad xs.length cap] w fun e w' => ∃ v, e = .returned (.tuple #[v, .int .i64 (winE K R a b c D T S m l q z L xs)]) ∧ OwnB w' w.heap.size v (winO K R a b c D T S m l q z L xs) ∧ Below w.heap.size w w' := by
  have HC := hide (modcheck_any K R a b c D T S m l q z hA hB hC hT hS)
  by_cases h : modE K R a b c D T S m l q z = 0
  · by_cases h2 : L < 2 ∨ 16 < L
    · rw [winO_none (by rw [winE_arg h h2]; decide), winE_arg h h2]
      rw [h] at HC
      have HA := hide (mright_arg L h2 (.slice none 0 0))
      clear h h2
      go_enter Try.func29, Try.ntmps29
      go_wp2_with fail
      refine (HC.out _).mono ?_
      rintro e w1 ⟨rfl, hb1⟩
      have k1 := bk hb1 w.heap.size (by simp; omega)
      have k1b := bk hb1 (w.heap.size + 1) (by simp)
      have hz1 : w.heap.size + 1 < w1.heap.size := by have := hb1.size; simp at this; omega
      have HB1 := hide (below_two hb1)
      clear hb1
      go_wp2_with fail
      refine (HA.out _).mono ?_
      rintro e w' ⟨rfl, rfl⟩
      go_wp2_with fail
      go_ret2
      exact ⟨_, rfl, OwnB.nil _ _, HB1.out⟩
    · obtain ⟨L, rfl⟩ : ∃ n : Nat, L = n := ⟨L.toNat, by omega⟩
      have hL : 2 ≤ L ∧ L ≤ 16 := by omega
      by_cases h3 : (xs.length : Int) = bodyI K R z
      · by_cases h4 : Lev L xs
        · obtain ⟨n, r, d, l', q', z', rfl, rfl, rfl, rfl, rfl, rfl, hg⟩ := modE_gmod K R a b c D T S m l q z hA hB hC hT hS hM h
          have hl : xs.length = (z' + n) * r := by rw [hg.body] at h3; exact Int.ofNat_inj.1 h3
          obtain ⟨e1, e2⟩ := winO_good _ _ _ _ _ _ _ _ _ _ _ _ hg L hL xs hl h4
          rw [e1, e2]
          exact window_good n r a b c d T S m l' q' z' hg L hL ad cap xs hl h4 w hx
        · rw [winO_none (by rw [winE_lev h h2 h3 (by simpa using h4)]; decide), winE_lev h h2 h3 (by simpa using h4)]
          obtain ⟨_, _, _, hK, hR, _, _, hz⟩ := modE_good K R a b c D T S m l q z h
          have HBD := hide (body_any K R a b c D T S m l q z hK hR hz)
          have HR0 := hide (mright_nil L hL)
          rw [h] at HC
          have hne : ((xs.length : Int) != bodyI K R z) = false := by rw [h3]; simp
          have HNO := hide fun w hx => mright_no L hL ad cap xs hx47 h8 h4 w hx
          have HX := hide hx
          obtain ⟨l1, l2⟩ := hL
          generalize bodyI K R z = bi at *
          clear h h2 h3 h4 hx hK hR hz
          go_enter Try.func29, Try.ntmps29
          go_wp2_with fail
          refine (HC.out _).mono ?_
          rintro e w1 ⟨rfl, hb1⟩
          have k1 := bk hb1 w.heap.size (by simp; omega)
          have k1b := bk hb1 (w.heap.size + 1) (by simp)
          have hz1 : w.heap.size + 1 < w1.heap.size := by have := hb1.size; simp at this; omega
          have HB1 := hide (below_two hb1)
          clear hb1
          go_wp2_with fail
          refine (HR0.out _).mono ?_
          rintro e w' ⟨rfl, rfl⟩
          go_wp2_with fail
          refine (HBD.out _).mono ?_
          rintro e w2 ⟨rfl, hb2⟩
          have k2 := bk hb2 (w.heap.size + 1) (by omega)
          have HB2 := hide (below_then HB1.out hb2)
          clear hb2
          go_wp2_with fail
          refine (HNO.out _ (HX.out.below HB2.out)).mono ?_
          rintro e w' ⟨rfl, rfl⟩
          go_wp2_with fail
          go_ret2
          exact ⟨_, rfl, OwnB.nil _ _, HB2.out⟩
      · rw [winO_none (by rw [winE_len h h2 h3]; decide), winE_len h h2 h3]
        obtain ⟨_, _, _, hK, hR, _, _, hz⟩ := modE_good K R a b c D T S m l q z h
        have HBD := hide (body_any K R a b c D T S m l q z hK hR hz)
        have HR0 := hide (mright_nil L hL)
        rw [h] at HC
        have hne : ((xs.length : Int) != bodyI K R z) = true := bne_iff_ne.2 h3
        obtain ⟨l1, l2⟩ := hL
        generalize bodyI K R z = bi at *
        clear h h2 h3 hx hK hR hz
        go_enter Try.func29, Try.ntmps29
        go_wp2_with fail
        refine (HC.out _).mono ?_
        rintro e w1 ⟨rfl, hb1⟩
        have k1 := bk hb1 w.heap.size (by simp; omega)
        have k1b := bk hb1 (w.heap.size + 1) (by simp)
        have hz1 : w.heap.size + 1 < w1.heap.size := by have := hb1.size; simp at this; omega
        have HB1 := hide (below_two hb1)
        clear hb1
        go_wp2_with fail
        refine (HR0.out _).mono ?_
        rintro e w' ⟨rfl, rfl⟩
        go_wp2_with fail
        refine (HBD.out _).mono ?_
        rintro e w2 ⟨rfl, hb2⟩
        have k2 := bk hb2 (w.heap.size + 1) (by omega)
        have HB2 := hide (below_then HB1.out hb2)
        clear hb2
        go_wp2_with fail
        go_ret2
        exact ⟨_, rfl, OwnB.nil _ _, HB2.out⟩
  · rw [winO_none (by rw [winE_bad h]; exact h), winE_bad h]
    have nz := nzBne h
    generalize modE K R a b c D T S m l q z = ef at *
    clear h
    go_enter Try.func29, Try.ntmps29
    go_wp2_with fail
    refine (HC.out _).mono ?_
    rintro e w1 ⟨rfl, hb1⟩
    go_wp2_with fail
    go_ret2
    exact ⟨_, rfl, OwnB.nil _ _, below_two hb1⟩
set_option maxRecDepth 100000 in
set_option maxHeartbeats 4000000 in
theorem rwindow_any (K R : Int) (a b c : Nat) (D : Int) (T S m : Nat) (l q z : Int) (hA : a ≤ 4294967295) (hB : b ≤ 4294967295) (hC : c ≤ 4294967295) (hT : T ≤ 18446744073709551615) (hS : S ≤ 18446744073709551615) (hM : m ≤ 18446744073709551615) (L : Int) (ad : Option Addr) (cap : Nat) (xs : List Nat) (hx47 : xs.length ≤ 140737488351232) (h8 : ∀ i, xs.getD i 0 ≤ 255) (w : World) (hx : RowA w ad xs) :
    Calls Try.prog 49 #[.agg #[.int .i64 K, .int .i64 R, .int .u32 a, .int .u32 b, .int .u32 c, .int .i64 D, .int .u64 T, .int .u64 S, .int .u64 m, .int .i64 l, .int .i64 q, .int .i64 z], .int .i64 L, .slice ad xs.length cap] w fun e w' => ∃ v, e = .returned (.tuple #[v, .int .i64 (winE K R a b c D T S m l q z L xs)]) ∧ OwnB w' w.heap.size v (winO K R a b c D T S m l q z L xs) ∧ Below w.heap.size w w' := by
  have HC := hide (rbody_any K R a b c D T S m l q z hA hB hC hT hS)
  unfold bodyN at HC
  by_cases h : modE K R a b c D T S m l q z = 0
  · by_cases h2 : L < 2 ∨ 16 < L
    · rw [winO_none (by rw [winE_arg h h2]; decide), winE_arg h h2]
      rw [h, if_pos rfl] at HC
      generalize bodyI K R z = bi at *
      rcases h2 with h2 | h2
      · clear h
        go_enter Try.func49, Try.ntmps49
        go_wp2_with fail
        refine (HC.out _).mono ?_
        rintro e w1 ⟨rfl, hb1⟩
        have k1 := bk hb1 w.heap.size (by simp)
        have HB1 := hide (below_one hb1)
        clear hb1
        go_wp2_with fail
        go_ret2
        exact ⟨_, rfl, OwnB.nil _ _, HB1.out⟩
      · clear h
        have e2 : ¬ L < 2 := by omega
        go_enter Try.func49, Try.ntmps49
        go_wp2_with fail
        refine (HC.out _).mono ?_
        rintro e w1 ⟨rfl, hb1⟩
        have k1 := bk hb1 w.heap.size (by simp)
        have HB1 := hide (below_one hb1)
        clear hb1
        go_wp2_with fail
        go_ret2
        exact ⟨_, rfl, OwnB.nil _ _, HB1.out⟩
    · obtain ⟨L, rfl⟩ : ∃ n : Nat, L = n := ⟨L.toNat, by omega⟩
      have hL : 2 ≤ L ∧ L ≤ 16 := by omega
      by_cases h3 : (xs.length : Int) = bodyI K R z
      · by_cases h4 : Lev L xs
        · obtain ⟨n, r, d, l', q', z', rfl, rfl, rfl, rfl, rfl, rfl, hg⟩ := modE_gmod K R a b c D T S m l q z hA hB hC hT hS hM h
          have hl : xs.length = (z' + n) * r := by rw [hg.body] at h3; exact Int.ofNat_inj.1 h3
          obtain ⟨e1, e2⟩ := winO_good _ _ _ _ _ _ _ _ _ _ _ _ hg L hL xs hl h4
          rw [e1, e2]
          exact rwindow_good n r a b c d T S m l' q' z' hg L hL ad cap xs hl h4 w hx
        · rw [winO_none (by rw [winE_lev h h2 h3 (by simpa using h4)]; decide), winE_lev h h2 h3 (by simpa using h4)]
          rw [h, if_pos rfl] at HC
          have hne : ((xs.length : Int) != bodyI K R z) = false := by rw [h3]; simp
          have HNO := hide fun w hx => levelled_no L hL ad cap xs hx47 h8 h4 w hx
          have HX := hide hx
          obtain ⟨l1, l2⟩ := hL
          generalize bodyI K R z = bi at *
          clear h h2 h3 h4 hx
          have dl : decide ((L : Int) < 2) = false := decide_eq_false (by omega)
          have dh : decide ((16 : Int) < L) = false := decide_eq_false (by omega)
          go_enter Try.func49, Try.ntmps49
          go_wp2_with fail
          refine (HC.out _).mono ?_
          rintro e w1 ⟨rfl, hb1⟩
          have k1 := bk hb1 w.heap.size (by simp)
          have HB1 := hide (below_one hb1)
          clear hb1
          go_wp2_with fail
          refine (HNO.out _ (HX.out.below HB1.out)).mono ?_
          rintro e w' ⟨rfl, rfl⟩
          go_wp2_with fail
          go_ret2
          exact ⟨_, rfl, OwnB.nil _ _, HB1.out⟩
      · rw [winO_none (by rw [winE_len h h2 h3]; decide), winE_len h h2 h3]
        rw [h, if_pos rfl] at HC
        have hne : ((xs.length : Int) != bodyI K R z) = true := bne_iff_ne.2 h3
        obtain ⟨l1, l2⟩ := hL
        generalize bodyI K R z = bi at *
        clear h h2 h3 hx
        have dl : decide ((L : Int) < 2) = false := decide_eq_false (by omega)
        have dh : decide ((16 : Int) < L) = false := decide_eq_false (by omega)
        go_enter Try.func49, Try.ntmps49
        go_wp2_with fail
        refine (HC.out _).mono ?_
        rintro e w1 ⟨rfl, hb1⟩
        have k1 := bk hb1 w.heap.size (by simp)
        have HB1 := hide (below_one hb1)
        clear hb1
        go_wp2_with fail
        go_ret2
        exact ⟨_, rfl, OwnB.nil _ _, HB1.out⟩
  · rw [winO_none (by rw [winE_bad h]; exact h), winE_bad h]
    rw [if_neg h] at HC
    have nz := nzBne h
    generalize modE K R a b c D T S m l q z = ef at *
    clear h
    go_enter Try.func49, Try.ntmps49
    go_wp2_with fail
    refine (HC.out _).mono ?_
    rintro e w1 ⟨rfl, hb1⟩
    go_wp2_with fail
    go_ret2
    exact ⟨_, rfl, OwnB.nil _ _, below_one hb1⟩
end Go.Proofs.Ytlbfndibgojbiaa
