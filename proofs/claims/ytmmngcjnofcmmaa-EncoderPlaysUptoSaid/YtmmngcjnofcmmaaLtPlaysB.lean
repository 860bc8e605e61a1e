/- The law EncoderPlays on a code that is refused. -/
import Derived.Test.YtmmngcjnofcmmaaRows
import Derived.Test.YtmmngcjnofcmmaaPlayMk
import Derived.Test.YtmmngcjnofcmmaaLive
import Derived.Test.YtmmngcjnofcmmaaRCheck
import Derived.Test.YtmmngcjnofcmmaaApartWe
import Derived.IntWalk
import Derived.BigQuiet
import Derived.Deep.QuietTactic
import Derived.Deep.RegionWith
import Derived.Deep.RegionHeld3
namespace Go.Proofs.Ytmmngcjnofcmmaa
open Go.RowKit

/-- the code's box, in every later world -/
def BoxC (g : Nat) (K R : Int) (a b c : Nat) (w0 u : World) : Prop :=
  u.cell? ⟨g, 0, none⟩ = some (.int .i64 K) ∧ u.cell? ⟨g, 1, none⟩ = some (.int .i64 R) ∧ u.cell? ⟨g, 2, none⟩ = some (.int .u32 a) ∧ u.cell? ⟨g, 3, none⟩ = some (.int .u32 b) ∧ u.cell? ⟨g, 4, none⟩ = some (.int .u32 c) ∧ Below w0.heap.size w0 u
theorem BoxC.keep {g : Nat} {K R : Int} {a b c : Nat} {w0 u u' : World} (h : BoxC g K R a b c w0 u) (hg : g < w0.heap.size) (hb : Below u.heap.size u u') : BoxC g K R a b c w0 u' := by
  obtain ⟨c0, c1, c2, c3, c4, c8⟩ := h
  have h1 := Nat.lt_of_lt_of_le hg c8.size
  exact ⟨bcell hb h1 c0, bcell hb h1 c1, bcell hb h1 c2, bcell hb h1 c3, bcell hb h1 c4, below_then c8 hb⟩
set_option maxRecDepth 100000 in
set_option maxHeartbeats 1000000 in
theorem plays_bad (K R : Int) (a b c : Nat) (hA : a ≤ 4294967295) (hB : b ≤ 4294967295) (hC : c ≤ 4294967295) (hne : checkF K R a b c ≠ 0) (A1 : Option Addr) (l1 c1 : Nat) (w : World) :
    Calls Try.prog 7 #[.agg #[.int .i64 K, .int .i64 R, .int .u32 a, .int .u32 b, .int .u32 c], .slice A1 l1 c1] w fun e w' => e = .returned (.bool true) ∧ Below w.heap.size w w' := by
  have HNW := hide (new_bad K R a b c hA hB hC hne)
  have HCK := hide (rcheck_any K R a b c hA hB hC)
  have hcb := nzBne hne
  have hcb2 := nzBeq hne
  have hcn : ¬ checkF K R a b c = 0 := hne
  generalize checkF K R a b c = cf at *
  clear hne hA hB hC
  go_enter Try.func7, Try.ntmps7
  go_wp2_with fail
  refine (HNW.out _).mono ?_
  rintro e w1 ⟨rfl, hb1⟩
  have hl1 : w.heap.size < w1.heap.size := by have := hb1.size; simp at this; omega
  have q0 := bcell hb1 (b := w.heap.size) (o := 0) (v := .int .i64 K) (by simp) (by simp [go_sem])
  have q1 := bcell hb1 (b := w.heap.size) (o := 1) (v := .int .i64 R) (by simp) (by simp [go_sem])
  have q2 := bcell hb1 (b := w.heap.size) (o := 2) (v := .int .u32 a) (by simp) (by simp [go_sem])
  have q3 := bcell hb1 (b := w.heap.size) (o := 3) (v := .int .u32 b) (by simp) (by simp [go_sem])
  have q4 := bcell hb1 (b := w.heap.size) (o := 4) (v := .int .u32 c) (by simp) (by simp [go_sem])
  have HB1 := hide (below_one hb1)
  have HK := hide (fun u u' (h : BoxC w.heap.size K R a b c w1 u) (hb : Below u.heap.size u u') => h.keep hl1 hb)
  clear hb1
  go_wp2_with fail
  go_region_held3 (fun u => u.cell? ⟨w.heap.size, 0, none⟩ = some (.int .i64 K) ∧ u.cell? ⟨w.heap.size, 1, none⟩ = some (.int .i64 R) ∧ u.cell? ⟨w.heap.size, 2, none⟩ = some (.int .u32 a) ∧ u.cell? ⟨w.heap.size, 3, none⟩ = some (.int .u32 b) ∧ u.cell? ⟨w.heap.size, 4, none⟩ = some (.int .u32 c) ∧ Below w1.heap.size w1 u)
    (first | exact ⟨q0, q1, q2, q3, q4, (Below.refl _ _).drew⟩ | exact ⟨q0, q1, q2, q3, q4, Below.refl _ _⟩ | assumption | exact HK.out _ _ (by assumption) (by assumption) | exact HK.out _ _ (by assumption) (Below.refl _ _))
    ((first
      | (go_at_call 17; refine (num_any _ _).mono ?_; rintro e w' ⟨rfl, rfl⟩)
      | (go_at_call 29; refine (HCK.out _).mono ?_; rintro e w' ⟨rfl, hb'⟩)
      | (go_at_call 13; refine (live_any _).mono ?_; rintro e w' ⟨rfl, hb''⟩)))
  rename_i hh
  have hb4 := hh.2.2.2.2.2
  clear hh
  go_wp2_with fail
  go_ret
  exact ⟨rfl, below_then HB1.out hb4⟩
end Go.Proofs.Ytmmngcjnofcmmaa
