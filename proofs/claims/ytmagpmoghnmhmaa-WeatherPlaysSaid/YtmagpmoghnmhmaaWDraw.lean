/- weather.eight and what it makes, walked: eight bits drawn. -/
import Derived.Test.YtmagpmoghnmhmaaRows
import Derived.Test.YtmagpmoghnmhmaaLfRun
import Derived.Test.YtmagpmoghnmhmaaWth
namespace Go.Proofs.Ytmagpmoghnmhmaa
open Go.RowKit

/-- block b holds the source of bits of the runner in block g -/
def NextB (w : World) (b g : Nat) : Prop := ∃ ty, w.heap[b]? = some (.cells #[.func (.func 28) #[.pointer (some ⟨g, 0, none⟩)] #[]] ty (0, 0))
section
variable {w w' : World} {b g : Nat}
theorem NextB.cell (h : NextB w b g) : w.cell? ⟨b, 0, none⟩ = some (.func (.func 28) #[.pointer (some ⟨g, 0, none⟩)] #[]) := by
  obtain ⟨ty, h⟩ := h
  exact cell_of_row w b 0 _ ty (0, 0) h
theorem NextB.lt (h : NextB w b g) : b < w.heap.size := by
  obtain ⟨ty, h⟩ := h
  exact (Array.getElem?_eq_some_iff.1 h).1
theorem NextB.keep (h : NextB w b g) (hk : w'.heap[b]? = w.heap[b]?) : NextB w' b g := by
  obtain ⟨ty, h⟩ := h
  exact ⟨ty, hk.trans h⟩
theorem NextB.grown {row : Option Nat} (h : NextB w b g) (hb : w.grownBy w' row) (hne : some b ≠ row) : NextB w' b g := h.keep (hb.block b h.lt hne)
theorem NextB.below {B : Nat} (h : NextB w b g) (hb : Below B w w') (hg : b < B) : NextB w' b g := h.keep (hb.block b hg)
end
theorem grownBy_trans {w u v : World} {row : Option Nat} (h : w.grownBy u row) (h2 : u.grownBy v row) : w.grownBy v row :=
  ⟨h2.os.trans h.os, h2.tape.trans h.tape, h2.output.trans h.output, Nat.le_trans h.size h2.size, fun k hk hne => (h2.block k (Nat.lt_of_lt_of_le hk h.size) hne).trans (h.block k hk hne)⟩
set_option maxHeartbeats 1000000 in
theorem draw_any (n T S b g : Nat) (hg : GoodL n T S) (hbg : b ≠ g) (w : World) (hr : RegL w g n T S) (hn : NextB w b g) :
    Calls Try.prog 43 #[.pointer (some ⟨b, 0, none⟩)] w fun e w' => e = .returned (.int .i64 (Gf2.drw n T 8 S : Nat)) ∧ RegL w' g n T (Gf2.stpN n T 8 S) ∧ w.grownBy w' (some g) := by
  have HN := hide fun (k : Nat) (W : World) (h : RegL W g n T (Gf2.stpN n T k S)) => lnext_good n T _ g (hg.stpN k) W h
  have HR := hide hr
  have HB := hide hn
  clear hr hg hn
  go_enter Try.func43, Try.ntmps43
  go_wp2_with fail
  go_loopw [2, 3] (fun v i u => ∃ k : Nat, k ≤ 8 ∧ i = .int .i64 k ∧ v = .int .i64 (Gf2.drw n T k S : Nat) ∧ Hid (RegL u g n T (Gf2.stpN n T k S)) ∧ Hid (w.grownBy u (some g))) (fun _ i _ => 8 - (intOf i).toNat)
  case atStart => exact ⟨0, by omega, rfl, rfl, HR, hide (World.grownBy.refl w _)⟩
  case round =>
    obtain ⟨k, hk, rfl, rfl, hr, hw⟩ := hrel
    by_cases hlt : k < 8
    · have hc := (HB.out.grown hw.out (by simpa using hbg)).cell
      have HK := hide (HN.out k _ hr.out)
      have hd := Gf2.drw_lt n T k S
      have hp : 2 ^ k ≤ 2 ^ 8 := Nat.pow_le_pow_right (by omega) (by omega)
      have hd2 : Gf2.drw n T k S ≤ 255 := by omega
      have e1 : Gf2.drw n T (k + 1) S = 2 * Gf2.drw n T k S + Gf2.stpN n T k S % 2 := rfl
      have e2 : Gf2.stpN n T (k + 1) S = Gf2.stp n T (Gf2.stpN n T k S) := Gf2.stpN_succ k S
      have hm : Gf2.stpN n T k S % 2 ≤ 1 := by omega
      have E1 := hide e1
      have E2 := hide e2
      clear hd hp e1 e2
      generalize hq : Gf2.stpN n T k S % 2 = q at *
      have HQ := hide hq
      clear hq
      go_wp2_with fail
      refine HK.out.mono ?_
      rintro e w1 ⟨rfl, hr1, hg1⟩
      have HR1 := hide (show RegL w1 g n T (Gf2.stpN n T (k + 1) S) by rw [E2.out]; exact hr1)
      have HG1 := hide (grownBy_trans hw.out hg1)
      clear hr1 hg1
      go_wp2_with fail
      go_roundw
      case rel => exact ⟨k + 1, by omega, by simp, by rw [E1.out]; simp, HR1, HG1⟩
      case measure => simp [intOf]; omega
    · obtain rfl : k = 8 := by omega
      go_wp2_with fail
      go_ret
      exact ⟨rfl, hr.out, hw.out⟩
end Go.Proofs.Ytmagpmoghnmhmaa
