/- The closure of trellis.Spectrum: ways are counted or put in. -/
import Derived.Test.YtpmnbdkncmjafaaRows
import Derived.Test.YtpmnbdkncmjafaaSpecSt
namespace Go.Proofs.Ytpmnbdkncmjafaa
open Go.RowKit

/-- w' is w but for the row of counts, the maps and what is new -/
structure KeptS (X : SpecFix) (most : Nat) (lab : Nat → Nat) (w w' : World) : Prop where
  os : w'.os = w.os
  tape : w'.tape = w.tape
  output : w'.output = w.output
  size : w.heap.size ≤ w'.heap.size
  block : ∀ k, k < w.heap.size → k ≠ X.go → (∀ v, v ≤ most → k ≠ lab v) → w'.heap[k]? = w.heap[k]?
theorem KeptS.of {X : SpecFix} {most : Nat} {lab : Nat → Nat} {w w' : World} {row : Option Nat} (h : w.grownBy w' row) (hr : ∀ k, row = some k → k = X.go ∨ ∃ v, v ≤ most ∧ k = lab v) : KeptS X most lab w w' :=
  ⟨h.os, h.tape, h.output, h.size, fun k hk h1 h2 => h.block k hk fun e => by
    rcases hr k e.symm with h3 | ⟨v, hv, h3⟩
    · exact h1 h3
    · exact h2 v hv h3⟩
set_option maxHeartbeats 2000000 in
theorem specput_any (X : SpecFix) (n a b c s x w0 most : Nat) (R : Int) (q : Int) (hR : R = 2 ∨ R = 3) (hn : 2 ≤ n ∧ n ≤ 31) (hA : a ≤ 4294967295) (hB : b ≤ 4294967295) (hC : c ≤ 4294967295) (hs : s ≤ 2147483647) (hx : x ≤ 1) (hw0 : w0 ≤ most) (hmost : most ≤ 24)
    (wr : World) (lab : Nat → Nat) (f : Nat → Nat → Option Int) (out : Nat → Int) (h : SpecSt X n R a b c most wr lab f out) :
    Calls Try.prog 47 #[.int .u32 s, .int .u8 x, .int .i64 w0, .int .i64 q, .pointer (some ⟨X.bc, 0, none⟩), .pointer (some ⟨X.bm, 0, none⟩), .pointer (some ⟨X.bo, 0, none⟩), .pointer (some ⟨X.bp, 0, none⟩)] wr fun e w' =>
      e = .returned (.tuple #[]) ∧ SpecSt X n R a b c most w' lab (putF most f (w0 + wtF R a b c s x) (nxF n s x) q) (putO most out (w0 + wtF R a b c s x) (nxF n s x) q) ∧ KeptS X most lab wr w' := by
  have HS := hide (step_any n a b c s x R hR hn hA hB hC hs hx)
  have HWt := hide (weight_any (outF (2 * s + x) a) (outF (2 * s + x) b) (third R (outF (2 * s + x) c)) (outF_le _ _) (outF_le _ _) (third_le1 _ (outF_le _ _)))
  have htl : nxF n s x < 2 ^ n := nxF_lt n s x
  have hp : 2 ^ n ≤ 2 ^ 31 := Nat.pow_le_pow_right (by omega) hn.2
  have hwl := wtF_le R a b c s x
  change Hid (∀ w, Calls Try.prog 43 _ w fun e w' => e = .returned (.int .i64 ((wtF R a b c s x : Nat) : Int)) ∧ Below w.heap.size w w') at HWt
  change Hid (∀ w, Calls Try.prog 35 _ w fun e w' => e = .returned (.tuple #[.int .u32 ((nxF n s x : Nat) : Int), _]) ∧ Below w.heap.size w w') at HS
  generalize nxF n s x = t at *
  generalize wtF R a b c s x = wt at *
  generalize outF (2 * s + x) a = y0 at *
  generalize outF (2 * s + x) b = y1 at *
  generalize third R (outF (2 * s + x) c) = y2 at *
  have HT := hide htl
  have ht : t ≤ 4294967295 := by omega
  clear htl hp
  obtain ⟨d, hd⟩ : ∃ d, d = w0 + wt := ⟨_, rfl⟩
  have ed : (w0 : Int) + (wt : Int) = (d : Int) := by omega
  have hdl : d ≤ 27 := by omega
  rw [← hd]
  clear hd
  have c0 := h.c0
  have c1 := h.c1
  have c2 := h.c2
  have c3 := h.c3
  have c4 := h.c4
  have HH := hide h
  clear h
  go_enter Try.func47, Try.ntmps47
  go_wp2_with fail
  refine (HS.out _).mono ?_
  rintro e w1 ⟨rfl, hb1⟩
  have r0 : (w1.alloc (.cells #[.int .u8 y0, .int .u8 y1, .int .u8 y2] 26)).cell? ⟨w1.heap.size, 0, none⟩ = some (.int .u8 y0) := by simp [go_sem]
  go_wp2_with fail
  refine (HWt.out _).mono ?_
  rintro e w2 ⟨rfl, hb2⟩
  have hb02 := below_mid hb1 hb2
  have H2 := hide (HH.out.below hb02)
  have HB := hide hb02
  clear hb02 c0 c1 c2 c3 c4 r0 hb1 hb2
  have m0 := H2.out.m0
  have o0 := H2.out.o0
  have p0 := H2.out.p0
  by_cases hd : most < d
  · have hdI : (most : Int) < (d : Int) := by omega
    have e1 := hide (show putF most f d t q = f from if_pos (.inl hd))
    have e2 := hide (show putO most out d t q = out from if_pos (.inl hd))
    clear hd
    go_wp2_with fail
    go_end0
    exact ⟨rfl, by rw [e1.out, e2.out]; exact H2.out, KeptS.of (grownBy_of (row := none) HB.out) (fun k e => by cases e)⟩
  · have hdI : ¬ (most : Int) < (d : Int) := by omega
    have hdm : d ≤ most := by omega
    have hdI2 : (d : Int) < (most : Int) + 1 := by omega
    have hd0 : (0 : Int) ≤ (d : Int) := by omega
    by_cases h0 : t = 0
    · subst h0
      have e1 := hide (show putF most f d 0 q = f from if_pos (.inr rfl))
      have e2 := hide (show putO most out d 0 q = fun w => if w = d then wrap64 (out d + q) else out w from if_neg (by omega))
      have hset := hide (H2.out.set hdm (wrap64 (out d + q)) (wrap_range _))
      have ov := H2.out.ov d hdm
      have fz := H2.out.of d hdm
      generalize hgo : out d = od at *
      have HG := hide hgo
      clear hgo hd
      go_wp2_with fail
      go_end0
      rw [← HG.out] at hset
      refine ⟨rfl, ?_, ?_⟩
      · rw [e1.out, e2.out, ← HG.out]; exact hset.out
      · refine KeptS.of (row := some X.go) (grownBy_set (grownBy_of HB.out) _ _ (.inl rfl)) (fun k e => .inl (by cases e; rfl))
    · have h0I : ((t : Int) == 0) = false := by rw [beq_eq_false_iff_ne]; omega
      have h0J : ¬ (t : Int) = 0 := by omega
      have e1 := hide (show putF most f d t q = fun w s => if w = d ∧ s = t then some (wrap64 (valO (f d t) + q)) else f w s from if_neg (by omega))
      have e2 := hide (show putO most out d t q = out from if_pos (.inr h0))
      have pv := H2.out.pv d hdm
      have hm := hide (H2.out.mp d hdm)
      clear hd
      go_wp2_with (first | (at_lookup; refine wpList_lookF_get mapI rfl _ _ rfl rfl hm.out t rfl ht (.int .i64 (valO (f d t))) rfl ?_) | (at_mapUpdate; refine wpList_putF mapI rfl _ _ _ rfl rfl hm.out (by decide) t rfl ht (wrap64 (valO (f d t) + q)) rfl trivial ?_; intro w3 hm3 hg3) | fail)
      go_end0
      refine ⟨rfl, ?_, KeptS.of (row := some (lab d)) ((grownBy_of HB.out).andThen hg3 (fun j e => .inr e)) (fun k e => .inr ⟨d, hdm, by cases e; rfl⟩)⟩
      rw [e1.out, e2.out]
      exact H2.out.put hdm hn.2 h0 HT.out (wrap_range _) hm3 hg3
end Go.Proofs.Ytpmnbdkncmjafaa
