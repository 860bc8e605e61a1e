/- outpostlaw01.SameInts, walked: of two rows that hold the same it says so. -/
import Derived.Test.YtpmnbdkncmjafaaRows
import Derived.Test.YtpmnbdkncmjafaaProf
namespace Go.Proofs.Ytpmnbdkncmjafaa
open Go.RowKit

theorem RowV.at_ {w : World} {ad : Option Addr} {xs : List Int} (h : RowV w ad (xs.map (Value.int .i64))) {i : Nat} (hi : i < xs.length) : ∃ b off, ad = some ⟨b, off, none⟩ ∧ b < w.heap.size ∧ w.cell? ⟨b, off + i, none⟩ = some (.int .i64 (xs.getD i 0)) := by
  obtain ⟨b, off, e, hl, hc⟩ := h (by simp; omega)
  exact ⟨b, off, e, hl, hc i _ (by simp [hi, List.getD])⟩
set_option maxHeartbeats 1000000 in
theorem same_eq (a1 a2 : Option Addr) (p1 p2 : Nat) (xs : List Int) (w : World) (h1 : RowV w a1 (xs.map (Value.int .i64))) (h2 : RowV w a2 (xs.map (Value.int .i64))) (hl : xs.length ≤ 1000000) :
    Calls Try.prog 27 #[.slice a1 xs.length p1, .slice a2 xs.length p2] w fun e w' => e = .returned (.bool true) ∧ ∃ n, w' = w.drewN n := by
  have H1 := hide h1
  have H2 := hide h2
  clear h1 h2
  generalize hL : xs.length = L at *
  have HL := hide hL
  clear hL
  go_enter Try.func27, Try.ntmps27
  go_wp2_with fail
  go_loopw [5] (fun i wr => ∃ (k n : Nat), k ≤ L ∧ i = .int .i64 k ∧ wr = w.drewN n) (fun i _ => L - (intOf i).toNat)
  case atStart => exact ⟨0, 0, by omega, rfl, rfl⟩
  case round =>
    obtain ⟨k, n, hk, rfl, rfl⟩ := hrel
    by_cases hlt : k < L
    · obtain ⟨b1, o1, rfl, _, d1⟩ := RowV.at_ H1.out (i := k) (by rw [HL.out]; exact hlt)
      obtain ⟨b2, o2, rfl, _, d2⟩ := RowV.at_ H2.out (i := k) (by rw [HL.out]; exact hlt)
      have hkI : (k : Int) < L := by omega
      have hk0 : (0 : Int) ≤ k := by omega
      generalize xs.getD k 0 = x at *
      go_wp2_with fail
      go_region_with (fail)
      all_goals (
        go_wp2_with fail
        go_roundw
        case rel => exact ⟨k + 1, n + 1, by omega, by simp, rfl⟩
        case measure => simp [intOf]; omega)
    · obtain rfl : k = L := by omega
      go_wp2_with fail
      go_ret
      exact ⟨rfl, n, rfl⟩
end Go.Proofs.Ytpmnbdkncmjafaa
