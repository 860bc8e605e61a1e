/- Weathers that nobody made: what they answer; asks, looks of them. -/
import Derived.Test.YtmagpmoghnmhmaaRows
import Derived.Test.YtmagpmoghnmhmaaWTurn
import Derived.Test.YtmagpmoghnmhmaaWNew
import Derived.Test.YtmagpmoghnmhmaaLentb
import Derived.BigQuiet
import Derived.Deep.QuietTactic
namespace Go.Proofs.Ytmagpmoghnmhmaa
open Go.RowKit

/-- no weather, or one that nobody made -/
def NoWea (w : World) (p : Option Addr) : Prop := p = none ∨ ∃ x, p = some ⟨x, 0, none⟩ ∧ x < w.heap.size ∧ w.cell? ⟨x, 7, none⟩ = some .nilFunc
theorem NoWea.below {w w' : World} {p : Option Addr} (h : NoWea w p) (hb : Below w.heap.size w w') : NoWea w' p := by
  rcases h with h | ⟨x, h1, h2, h3⟩
  · exact .inl h
  · exact .inr ⟨x, h1, Nat.lt_of_lt_of_le h2 hb.size, bcell hb h2 h3⟩
theorem gnone_any (p : Option Addr) (w : World) (h : NoWea w p) :
    Calls Try.prog 37 #[.pointer p] w fun e w' => e = .returned (.bool false) ∧ w = w' := by
  rcases h with rfl | ⟨x, rfl, hlt, q7⟩
  · go_enter Try.func37, Try.ntmps37
    go_wp2_with fail
    go_ret
    exact ⟨rfl, rfl⟩
  · have hneq := run_neq_nilfunc
    clear hlt
    go_enter Try.func37, Try.ntmps37
    go_wp2_with fail
    go_ret
    exact ⟨rfl, rfl⟩
theorem tnone_any (p : Option Addr) (n r : Value) (w : World) (h : NoWea w p) :
    Calls Try.prog 18 #[.pointer p, n, r] w fun e w' => e = .returned (.tuple #[.slice none 0 0, .int .i64 1]) ∧ w = w' := by
  have HG := hide fun w h => gnone_any p w h
  have HN := hide h
  clear h
  go_enter Try.func18, Try.ntmps18
  go_wp2_with fail
  refine (HG.out _ HN.out).mono ?_
  rintro e w' ⟨rfl, rfl⟩
  go_wp2_with fail
  go_ret2
  exact ⟨rfl, rfl⟩
theorem snone_any (p : Option Addr) (n : Value) (w : World) (h : NoWea w p) :
    Calls Try.prog 21 #[.pointer p, n] w fun e w' => e = .returned (.int .i64 1) ∧ w = w' := by
  have HG := hide fun w h => gnone_any p w h
  have HN := hide h
  clear h
  go_enter Try.func21, Try.ntmps21
  go_wp2_with fail
  refine (HG.out _ HN.out).mono ?_
  rintro e w' ⟨rfl, rfl⟩
  go_wp2_with fail
  go_ret
  exact ⟨rfl, rfl⟩
theorem bnone_any (p : Option Addr) (w : World) (h : NoWea w p) :
    Calls Try.prog 20 #[.pointer p] w fun e w' => e = .returned (.bool false) ∧ w = w' := by
  have HG := hide fun w h => gnone_any p w h
  have HN := hide h
  clear h
  go_enter Try.func20, Try.ntmps20
  go_wp2_with fail
  refine (HG.out _ HN.out).mono ?_
  rintro e w' ⟨rfl, rfl⟩
  go_wp2_with fail
  go_ret
  exact ⟨rfl, rfl⟩
theorem anone_any (p : Option Addr) (w : World) (h : NoWea w p) :
    Calls Try.prog 19 #[.pointer p] w fun e w' => e = .returned (.int .u64 0) ∧ w = w' := by
  have HG := hide fun w h => gnone_any p w h
  have HN := hide h
  clear h
  go_enter Try.func19, Try.ntmps19
  go_wp2_with fail
  refine (HG.out _ HN.out).mono ?_
  rintro e w' ⟨rfl, rfl⟩
  go_wp2_with fail
  go_ret
  exact ⟨rfl, rfl⟩
theorem rtnone_any (n r : Value) (w : World) :
    Calls Try.prog 32 #[.pointer none, n, r] w fun e w' => e = .returned (.tuple #[.slice none 0 0, .int .i64 1]) ∧ w = w' := by
  go_enter Try.func32, Try.ntmps32
  go_wp2_with fail
  go_ret2
  exact ⟨rfl, rfl⟩
theorem rsnone_any (n : Value) (w : World) :
    Calls Try.prog 35 #[.pointer none, n] w fun e w' => e = .returned (.int .i64 1) ∧ w = w' := by
  go_enter Try.func35, Try.ntmps35
  go_wp2_with fail
  go_ret
  exact ⟨rfl, rfl⟩
theorem rbnone_any (w : World) :
    Calls Try.prog 29 #[.pointer none] w fun e w' => e = .returned (.bool false) ∧ w = w' := by
  go_enter Try.func29, Try.ntmps29
  go_wp2_with fail
  go_ret
  exact ⟨rfl, rfl⟩
theorem ranone_any (w : World) :
    Calls Try.prog 30 #[.pointer none] w fun e w' => e = .returned (.int .u64 0) ∧ w = w' := by
  go_enter Try.func30, Try.ntmps30
  go_wp2_with fail
  go_ret
  exact ⟨rfl, rfl⟩
theorem looksn_any (p : Option Addr) (w : World) (h : NoWea w p) :
    Calls Try.prog 13 #[.pointer p, .pointer none] w fun e w' => e = .returned (.bool true) ∧ w = w' := by
  have HB := hide (bnone_any p w h)
  have HA := hide (anone_any p w h)
  clear h
  go_enter Try.func13, Try.ntmps13
  go_wp2_with fail
  refine HB.out.mono ?_
  rintro e w' ⟨rfl, rfl⟩
  go_wp2_with fail
  refine (rbnone_any _).mono ?_
  rintro e w' ⟨rfl, rfl⟩
  go_wp2_with fail
  refine HA.out.mono ?_
  rintro e w' ⟨rfl, rfl⟩
  go_wp2_with fail
  refine (ranone_any _).mono ?_
  rintro e w' ⟨rfl, rfl⟩
  go_wp2_with fail
  go_ret
  exact ⟨rfl, rfl⟩
set_option maxRecDepth 100000 in
set_option maxHeartbeats 1000000 in
theorem asksn_any (p : Option Addr) (k n : Int) (ai : Option Addr) (ci : Nat) (xs : List Nat) (hl : xs.length ≤ 140737488351232) (h8 : ∀ i, i < xs.length → xs.getD i 0 ≤ 255) (w : World) (hx : RowA w ai xs) (h : NoWea w p) :
    Calls Try.prog 15 #[.pointer p, .pointer none, .agg #[.int .i64 k, .int .i64 n, .slice ai xs.length ci]] w fun e w' => e = .returned (.bool true) ∧ Below w.heap.size w w' := by
  have HX := hide hx
  have HN := hide h
  have HB0 := hide ((Below.refl w.heap.size w).alloc (Nat.le_refl _) (.cells #[.int .i64 k, .int .i64 n, .slice ai xs.length ci] 42))
  have hcv : ∀ u : World, (convert 40 9 (.slice none 0 0)).run Try.prog u = .ok (.string (strN [])) u := fun u => (RowA.nil u none).conv 0
  generalize strN [] = s0 at *
  clear hx h
  by_cases h1 : k = 1
  · subst h1
    have HL := hide fun w hx => lent_any ai ci xs hl w hx
    go_enter Try.func15, Try.ntmps15
    go_wp2_with fail
    refine (HL.out _ (HX.out.alloc _)).mono ?_
    rintro e w1 ⟨L, cl, rfl, hl1, hb1⟩
    have HB1 := hide (below_one hb1)
    have c1 := bcell hb1 (b := w.heap.size) (o := 1) (v := .int .i64 n) (by simp) (by simp [go_sem])
    have c2 := bcell hb1 (b := w.heap.size) (o := 2) (v := .slice ai xs.length ci) (by simp) (by simp [go_sem])
    have HLB := hide hl1
    have hlt := hl1.lt
    have hlB : w.heap.size ≤ L := by have := hlt.1; simp at this; omega
    have hLs := hlt.2.1
    have HN1 := hide (HN.out.below HB1.out)
    clear hb1 hl1 hlt HL
    go_wp2_with fail
    refine (tnone_any p _ _ _ HN1.out).mono ?_
    rintro e w' ⟨rfl, rfl⟩
    go_wp2_with fail
    refine (rtnone_any _ _ _).mono ?_
    rintro e w' ⟨rfl, rfl⟩
    go_wp2_with fail
    refine (num_any _ _).mono ?_
    rintro e w' ⟨rfl, rfl⟩
    go_wp2_with fail
    refine (stays_any ai ci _ L cl xs hl w1 HLB.out (HX.out.below HB1.out)).mono ?_
    rintro e w' ⟨rfl, m, rfl⟩
    go_wp2_with fail
    refine (spoil_any _ L cl xs h8 hl (w1.drewN m) (OwnB.keep HLB.out fun _ _ => rfl)).mono ?_
    rintro e w3 ⟨rfl, hg⟩
    have HB3 := hide ((below_drewN HB1.out m).grown hg (by have := HB1.out.size; exact this) (fun g e => by have := Option.some.inj e; omega))
    have HN3 := hide (HN.out.below HB3.out)
    clear hg c1 c2
    go_wp2_with fail
    refine (looksn_any p _ HN3.out).mono ?_
    rintro e w' ⟨rfl, rfl⟩
    go_wp2_with fail
    go_ret
    exact ⟨rfl, HB3.out⟩
  · have hk1 : ¬ k = 1 := h1
    have hb1 : (k == 1) = false := by rw [beq_eq_false_iff_ne]; exact h1
    have HN0 := hide (HN.out.below HB0.out)
    by_cases h2 : k = 2
    · subst h2
      have HSK := hide fun (v : Value) (u : World) (hu : NoWea u p) => snone_any p v u hu
      clear hk1 hb1 h1
      go_enter Try.func15, Try.ntmps15
      go_wp2_with fail
      go_quiet (first
        | (go_at_call 21; exact quiet_eq (HSK.out _ _ HN0.out))
        | (go_at_call 12; exact quiet_eq (num_any _ _))
        | (go_at_call 35; exact quiet_eq (rsnone_any _ _)))
      go_wp2_with fail
      refine (looksn_any p _ (HN0.out.below (below_drewN (Below.refl _ _) nq))).mono ?_
      rintro e w' ⟨rfl, rfl⟩
      go_wp2_with fail
      go_ret
      exact ⟨rfl, below_drewN HB0.out nq⟩
    · have hb2 : (k == 2) = false := by rw [beq_eq_false_iff_ne]; exact h2
      go_enter Try.func15, Try.ntmps15
      go_wp2_with fail
      refine (looksn_any p _ HN0.out).mono ?_
      rintro e w' ⟨rfl, rfl⟩
      go_wp2_with fail
      go_ret
      exact ⟨rfl, HB0.out⟩
end Go.Proofs.Ytmagpmoghnmhmaa
