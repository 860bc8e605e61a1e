/- The law WeatherNil, walked: it returns true. -/
import Derived.Test.YtmagpmoghnmhmaaRows
import Derived.Test.YtmagpmoghnmhmaaWNil
import Derived.Test.YtmagpmoghnmhmaaWKnows
import Derived.Test.YtmagpmoghnmhmaaOpenOps
namespace Go.Proofs.Ytmagpmoghnmhmaa
open Go.RowKit

theorem OpAt.below {w w' : World} {b o : Nat} {k n : Int} {ai : Option Addr} {ci : Nat} {xs : List Nat} (h : OpAt w b o k n ai ci xs) (hb : Below w.heap.size w w') (hlt : b < w.heap.size) : OpAt w' b o k n ai ci xs :=
  ⟨bcell hb hlt h.c0, bcell hb hlt h.c1, bcell hb hlt h.c2, h.row.below hb, h.small, h.len⟩
set_option maxRecDepth 100000 in
set_option maxHeartbeats 1000000 in
theorem law_wnil (ad : Option Addr) (len cap : Nat) (hl : len ≤ 140737488351232) (w : World) (hops : OpsA w ad len) :
    Calls Try.prog 4 #[.slice ad len cap] w fun e w' => e = .returned (.bool true) ∧ Below w.heap.size w w' := by
  have HOP := hide hops
  clear hops
  go_enter Try.func4, Try.ntmps4
  go_wp2_with fail
  have HZ0 := hide (show NoWea (w.alloc (.cells #[.int .i64 0, .int .u64 0, .int .u64 0, .int .i64 0, .int .i64 0, .int .i64 0, .int .i64 0, .nilFunc, .bool false, .int .u64 0] 46)) (some ⟨w.heap.size, 0, none⟩) from .inr ⟨w.heap.size, rfl, by simp, cell_of_row _ w.heap.size 7 _ _ (0, 0) (heap_alloc_new w _)⟩)
  have HB0 := hide ((Below.refl w.heap.size w).alloc (Nat.le_refl _) (.cells #[.int .i64 0, .int .u64 0, .int .u64 0, .int .i64 0, .int .i64 0, .int .i64 0, .int .i64 0, .nilFunc, .bool false, .int .u64 0] 46))
  go_loopw [5] (fun i u => ∃ k : Nat, k ≤ len ∧ i = .int .i64 k ∧ Hid (NoWea u (some ⟨w.heap.size, 0, none⟩)) ∧ Hid (Below w.heap.size w u)) (fun i _ => len - (intOf i).toNat)
  case atStart => exact ⟨0, by omega, rfl, HZ0, HB0⟩
  case round =>
    rename World => wr
    obtain ⟨k, hk, rfl, hz, hbl⟩ := hrel
    clear HZ0 HB0
    by_cases hlt : k < len
    · obtain ⟨b, off, had, hbw, kk, n, ai, ci, xs, hop⟩ := HOP.out k hlt
      have hop1 := hop.below hbl.out hbw
      have HP := hide hop1
      have hb1 : b < wr.heap.size := Nat.lt_of_lt_of_le hbw hbl.out.size
      have HA := hide fun (p : Option Addr) (u : World) (h : RowA u ai xs) (h2 : NoWea u p) => asksn_any p kk n ai ci xs hop.len hop.small u h h2
      obtain ⟨q0, q1, q2, _, _, _⟩ := hop1
      subst had
      clear hop
      go_wp2_with fail
      refine (HA.out none _ HP.out.row (.inl rfl)).mono ?_
      rintro e w2 ⟨rfl, hb2⟩
      have HZ2 := hide (hz.out.below hb2)
      have HP2 := hide (HP.out.below hb2 hb1)
      have HB2 := hide (below_then hbl.out hb2)
      clear hb2 q0 q1 q2
      obtain ⟨q0, q1, q2, _, _, _⟩ := HP2.out
      go_wp2_with fail
      refine (HA.out _ _ HP2.out.row HZ2.out).mono ?_
      rintro e w3 ⟨rfl, hb3⟩
      have HZ3 := hide (HZ2.out.below hb3)
      have HB3 := hide (below_then HB2.out hb3)
      clear hb3 q0 q1 q2
      go_wp2_with fail
      go_roundw
      case rel => exact ⟨k + 1, by omega, by simp, HZ3, HB3⟩
      case measure => simp [intOf]; omega
    · obtain rfl : k = len := by omega
      go_wp2_with fail
      refine (looksn_any none _ (.inl rfl)).mono ?_
      rintro e w' ⟨rfl, rfl⟩
      go_wp2_with fail
      refine (looksn_any _ _ hz.out).mono ?_
      rintro e w' ⟨rfl, rfl⟩
      go_wp2_with fail
      refine (knows_any _).mono ?_
      rintro e w2 ⟨rfl, hb2⟩
      go_wp2_with fail
      go_ret
      exact ⟨rfl, below_then hbl.out hb2⟩
end Go.Proofs.Ytmagpmoghnmhmaa
