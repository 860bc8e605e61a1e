/- A good modem in plain numbers; the stages of Symbols and Window, and through, walked. -/
import Derived.Test.YtlbfndibgojbiaaRows
import Derived.Test.YtlbfndibgojbiaaMBody
import Derived.Test.YtlbfndibgojbiaaMRow
import Derived.Test.YtlbfndibgojbiaaShuf
import Derived.Test.YtlbfndibgojbiaaMC
import Derived.Test.YtlbfndibgojbiaaMB
namespace Go.Proofs.Ytlbfndibgojbiaa
open Go.RowKit
set_option linter.unusedVariables false

/-- a modem that may be, in plain numbers -/
structure GMod (n r a b c d T S m l q z : Nat) : Prop where
  hA : a ≤ 4294967295
  hB : b ≤ 4294967295
  hC : c ≤ 4294967295
  hm : m ≤ 18446744073709551615
  ck : checkF (n + 1) r a b c = 0
  hn : 2 ≤ n ∧ n ≤ 31
  hr : r = 2 ∨ r = 3
  reg : GoodL d T S
  mkr : markF m l = 0
  hl : 1 ≤ l ∧ l ≤ 64
  hq : 1 ≤ q ∧ q ≤ 64
  hz : 1 ≤ z ∧ z ≤ 1024
theorem modE_gmod (K R : Int) (a b c : Nat) (D : Int) (T S m : Nat) (l q z : Int) (hA : a ≤ 4294967295) (hB : b ≤ 4294967295) (hC : c ≤ 4294967295) (hT : T ≤ 18446744073709551615) (hS : S ≤ 18446744073709551615) (hM : m ≤ 18446744073709551615) (h : modE K R a b c D T S m l q z = 0) : ∃ n r d l' q' z' : Nat, K = n + 1 ∧ R = r ∧ D = d ∧ l = l' ∧ q = q' ∧ z = z' ∧ GMod n r a b c d T S m l' q' z' := by
  obtain ⟨h1, h2, h3, h4⟩ := modE_zero h
  obtain ⟨n, rfl, hn1, hn2, hR⟩ := good_code h1
  obtain ⟨d, rfl, hg⟩ := lchk_zero h2
  obtain ⟨k, rfl, hk1, hk2, _⟩ := markF_zero h3
  have hr : R = (R.toNat : Int) := by omega
  rw [hr] at h1
  exact ⟨n, R.toNat, d, k, q.toNat, z.toNat, rfl, hr, rfl, rfl, by omega, by omega, hA, hB, hC, hM, h1, ⟨hn1, hn2⟩, by omega, hg, h3, ⟨hk1, hk2⟩, by omega, by omega⟩
section
variable {n r a b c d T S m l q z : Nat}
theorem GMod.ok (h : GMod n r a b c d T S m l q z) : modE (n + 1) r a b c d T S m l q z = 0 :=
  modE_ok h.ck (lchk_good h.reg) h.mkr (by have := h.hq; have := h.hz; omega)
theorem GMod.body (h : GMod n r a b c d T S m l q z) : bodyI (n + 1) r z = (((z + n) * r : Nat) : Int) := by
  unfold bodyI
  rw [show (z : Int) + (n + 1) - 1 = ((z + n : Nat) : Int) by omega]
  simp
theorem GMod.rate (h : GMod n r a b c d T S m l q z) : rateN r = r := by
  unfold rateN
  rcases h.hr with e | e
  · rw [e]; rfl
  · rw [e]; rfl
theorem GMod.body_le (h : GMod n r a b c d T S m l q z) : (z + n) * r ≤ 3165 := by
  have h1 := h.hz
  have h2 := h.hn
  rcases h.hr with e | e
  · rw [e]; omega
  · rw [e]; omega
theorem GMod.regs (h : GMod n r a b c d T S m l q z) : T ≤ 18446744073709551615 ∧ S ≤ 18446744073709551615 := by have := h.reg.small; omega
end
theorem wordF_le (R : Int) (a b c n : Nat) (xs : List Nat) (i : Nat) : (wordF R a b c n xs).getD i 0 ≤ 1 := by
  unfold wordF
  rcases Nat.lt_or_ge i (symsAt R a b c n 0 xs (xs.length + n)).length with h | h
  · refine syms_le R a b c n 0 xs (xs.length + n) _ ?_
    rw [List.getD, List.getElem?_eq_getElem h]
    exact List.getElem_mem h
  · rw [getD_far' h]; omega
theorem shufL_length (r : Nat) (xs : List Nat) : (shufL r xs).length = xs.length := by simp [shufL]
theorem unshL_length (r : Nat) (xs : List Nat) : (unshL r xs).length = xs.length := by simp [unshL]
theorem shufL_all {P : Nat → Prop} {r : Nat} {xs : List Nat} (h0 : P 0) (h : ∀ i, P (xs.getD i 0)) (i : Nat) : P ((shufL r xs).getD i 0) := by
  unfold shufL
  rcases Nat.lt_or_ge i xs.length with hi | hi
  · rw [fill_at _ hi]; exact h _
  · rw [fill_far _ hi]; exact h0
theorem unshL_all {P : Nat → Prop} {r : Nat} {xs : List Nat} (h0 : P 0) (h : ∀ i, P (xs.getD i 0)) (i : Nat) : P ((unshL r xs).getD i 0) := by
  unfold unshL
  rcases Nat.lt_or_ge i xs.length with hi | hi
  · rw [fill_at _ hi]; exact h _
  · rw [fill_far _ hi]; exact h0
/-- what a stage does -/
def Stage (f : FuncId) (ps : Array Value) (B : Nat) (w0 : World) (xs ys : List Nat) : Prop :=
  ∀ u ad cap, Below B w0 u → RowA u ad xs → Calls Try.prog f (#[.slice ad xs.length cap] ++ ps) u fun e u' => ∃ v, e = .returned (.tuple #[v, .int .i64 0]) ∧ OwnB u' u.heap.size v ys ∧ Below u.heap.size u u'
set_option maxHeartbeats 1000000 in
theorem stage1 (n r a b c d T S m l q z : Nat) (hg : GMod n r a b c d T S m l q z) (B g : Nat) (w0 : World) (hm : ModB w0 g (n + 1) r a b c d T S m l q z) (hgB : g < B) (xs : List Nat) (hl : xs.length = z) (hb : Bits xs) :
    Stage 55 #[.pointer (some ⟨g, 0, none⟩)] B w0 xs (wordF r a b c n xs) := by
  intro u ad cap hbl hx
  have HE := hide fun w' hx => encode_any (n + 1) r a b c hg.hA hg.hB hg.hC ad cap xs (by have := hg.hz; omega) w' hx
  rw [encE_good hg.ck hb, encO_some (encE_good hg.ck hb), show ((n : Int) + 1 - 1).toNat = n by omega] at HE
  obtain ⟨s0, s1, s2, s3, s4, s5, s6, s7, s8, s9, s10, s11⟩ := (hm.keep hbl hgB).cells
  have HX := hide hx
  clear hx hm hg hb hbl hl
  generalize wordF r a b c n xs = ys at *
  show Calls _ _ #[.slice ad xs.length cap, .pointer (some ⟨g, 0, none⟩)] _ _
  go_enter Try.func55, Try.ntmps55
  go_wp2_with fail
  refine (HE.out _ HX.out).mono ?_
  rintro e w1 ⟨v, rfl, ho, hb1⟩
  go_wp2_with fail
  go_ret2
  exact ⟨_, rfl, ho, hb1⟩
set_option maxHeartbeats 1000000 in
theorem stage2 (n r a b c d T S m l q z : Nat) (hg : GMod n r a b c d T S m l q z) (B g : Nat) (w0 : World) (hm : ModB w0 g (n + 1) r a b c d T S m l q z) (hgB : g < B) (xs : List Nat) (hl : xs.length ≤ 3165) :
    Stage 56 #[.pointer (some ⟨g, 0, none⟩)] B w0 xs (shufL q xs) := by
  intro u ad cap hbl hx
  have HE := hide fun w' hx => shuf_ok q hg.hq ad cap xs (by omega) w' hx
  obtain ⟨s0, s1, s2, s3, s4, s5, s6, s7, s8, s9, s10, s11⟩ := (hm.keep hbl hgB).cells
  have HX := hide hx
  clear hx hm hg hbl hl
  generalize shufL q xs = ys at *
  show Calls _ _ #[.slice ad xs.length cap, .pointer (some ⟨g, 0, none⟩)] _ _
  go_enter Try.func56, Try.ntmps56
  go_wp2_with fail
  refine (HE.out _ HX.out).mono ?_
  rintro e w1 ⟨v, rfl, ho, hb1⟩
  go_wp2_with fail
  go_ret2
  exact ⟨_, rfl, ho, hb1⟩
set_option maxHeartbeats 1000000 in
theorem stage3 (n r a b c d T S m l q z : Nat) (hg : GMod n r a b c d T S m l q z) (B g : Nat) (w0 : World) (hm : ModB w0 g (n + 1) r a b c d T S m l q z) (hgB : g < B) (xs : List Nat) (hl : xs.length ≤ 3165) (hb : ∀ i, xs.getD i 0 ≤ 1) :
    Stage 58 #[.pointer (some ⟨g, 0, none⟩)] B w0 xs (whiteL d T S xs) := by
  intro u ad cap hbl hx
  have HE := hide fun w' hx => lwhiten_ok d T S hg.reg ad cap xs (by omega) (fun i _ => hb i) w' hx
  obtain ⟨s0, s1, s2, s3, s4, s5, s6, s7, s8, s9, s10, s11⟩ := (hm.keep hbl hgB).cells
  have HX := hide hx
  clear hx hm hg hbl hl hb
  generalize whiteL d T S xs = ys at *
  show Calls _ _ #[.slice ad xs.length cap, .pointer (some ⟨g, 0, none⟩)] _ _
  go_enter Try.func58, Try.ntmps58
  go_wp2_with fail
  refine (HE.out _ HX.out).mono ?_
  rintro e w1 ⟨v, rfl, ho, hb1⟩
  go_wp2_with fail
  go_ret2
  exact ⟨_, rfl, ho, hb1⟩
theorem markL_length (m l : Nat) : (markL m l).length = l := by simp [markL]
set_option maxHeartbeats 1000000 in
theorem stage4 (n r a b c d T S m l q z : Nat) (hg : GMod n r a b c d T S m l q z) (B g : Nat) (w0 : World) (hm : ModB w0 g (n + 1) r a b c d T S m l q z) (hgB : g < B) (xs : List Nat) (hl : xs.length ≤ 3165) :
    Stage 60 #[.pointer (some ⟨g, 0, none⟩)] B w0 xs (markL m l ++ xs) := by
  intro u ad cap hbl hx
  have HE := hide fun w' => mrow_ok m l hg.hm hg.mkr w'
  have hl64 := hg.hl
  have hml := markL_length m l
  obtain ⟨s0, s1, s2, s3, s4, s5, s6, s7, s8, s9, s10, s11⟩ := (hm.keep hbl hgB).cells
  have HX := hide hx
  clear hx hm hg hbl
  generalize markL m l = ys at *
  have HML := hide hml
  clear hml
  show Calls _ _ #[.slice ad xs.length cap, .pointer (some ⟨g, 0, none⟩)] _ _
  go_enter Try.func60, Try.ntmps60
  go_wp2_with fail
  refine (HE.out _).mono ?_
  rintro e w1 ⟨v, rfl, ho, hb1⟩
  have hz1 := hb1.size
  have HB1 := hide hb1
  have HO := hide ho
  clear hb1 ho s0 s1 s2 s3 s4 s5 s6 s7 s8 s9 s10 s11
  go_wp2_with (first
    | (at_builtin; refine wpList_appB rfl _ _ rfl u.heap.size _ ys rfl HO.out ad xs.length cap xs rfl (HX.out.below HB1.out) rfl ?c1 ?c2 ?_)
    | go_in)
  case c1 => rw [HML.out]; omega
  case c2 => exact hz1
  intro v2 w2 hown2 hgrow2 _
  go_wp2_with fail
  go_ret2
  exact ⟨_, rfl, hown2, HB1.out.grown hgrow2 hz1 (fun k e => (HO.out.lt e).1)⟩
set_option maxHeartbeats 1000000 in
theorem wstage1 (n r a b c d T S m l q z : Nat) (hg : GMod n r a b c d T S m l q z) (B g g2 : Nat) (L : Nat) (hL : 2 ≤ L ∧ L ≤ 16) (w0 : World) (hm : ModB w0 g (n + 1) r a b c d T S m l q z) (hgB : g < B) (hbx : BoxAt w0 g2 (.int .i64 L)) (hgB2 : g2 < B) (xs : List Nat) (hl : xs.length ≤ 3165) (hb : ∀ i, xs.getD i 0 < L) :
    Stage 51 #[.pointer (some ⟨g, 0, none⟩), .pointer (some ⟨g2, 0, none⟩)] B w0 xs (turnL d T S L xs) := by
  intro u ad cap hbl hx
  have HE := hide fun w' hx => lturn_ok d T S L hg.reg hL ad cap xs (by omega) (fun i _ => hb i) w' hx
  obtain ⟨s0, s1, s2, s3, s4, s5, s6, s7, s8, s9, s10, s11⟩ := (hm.keep hbl hgB).cells
  have q0 := (hbx.below hbl hgB2).cell
  have HX := hide hx
  clear hx hm hg hbl hl hb hbx
  generalize turnL d T S L xs = ys at *
  show Calls _ _ #[.slice ad xs.length cap, .pointer (some ⟨g, 0, none⟩), .pointer (some ⟨g2, 0, none⟩)] _ _
  go_enter Try.func51, Try.ntmps51
  go_wp2_with fail
  refine (HE.out _ HX.out).mono ?_
  rintro e w1 ⟨v, rfl, ho, hb1⟩
  go_wp2_with fail
  go_ret2
  exact ⟨_, rfl, ho, hb1⟩
set_option maxHeartbeats 1000000 in
theorem wstage2 (n r a b c d T S m l q z : Nat) (hg : GMod n r a b c d T S m l q z) (B g : Nat) (w0 : World) (hm : ModB w0 g (n + 1) r a b c d T S m l q z) (hgB : g < B) (xs : List Nat) (hl : xs.length ≤ 3165) :
    Stage 53 #[.pointer (some ⟨g, 0, none⟩)] B w0 xs (unshL q xs) := by
  intro u ad cap hbl hx
  have HE := hide fun w' hx => unsh_ok q hg.hq ad cap xs (by omega) w' hx
  obtain ⟨s0, s1, s2, s3, s4, s5, s6, s7, s8, s9, s10, s11⟩ := (hm.keep hbl hgB).cells
  have HX := hide hx
  clear hx hm hg hbl hl
  generalize unshL q xs = ys at *
  show Calls _ _ #[.slice ad xs.length cap, .pointer (some ⟨g, 0, none⟩)] _ _
  go_enter Try.func53, Try.ntmps53
  go_wp2_with fail
  refine (HE.out _ HX.out).mono ?_
  rintro e w1 ⟨v, rfl, ho, hb1⟩
  go_wp2_with fail
  go_ret2
  exact ⟨_, rfl, ho, hb1⟩
end Go.Proofs.Ytlbfndibgojbiaa
