/- The rows that were told lie apart: also where there are none. -/
import Derived.Test.YtmmngcjnofcmmaaRows
import Derived.Test.YtmmngcjnofcmmaaPlayOp
import Derived.Test.YtmmngcjnofcmmaaApartWe
import Derived.IntWalk
namespace Go.Proofs.Ytmmngcjnofcmmaa
open Go.RowKit
set_option maxHeartbeats 400000 in
theorem apart_none (w : World) :
    Calls Try.prog 28 #[.slice none 0 0] w fun e w' => e = .returned (.bool true) ∧ Below w.heap.size w w' := by
  go_enter Try.func28, Try.ntmps28
  go_wp2_with fail
  go_loopw [3] (fun i u => i = .int .i64 0 ∧ w = u) (fun _ _ => 0)
  case atStart => exact ⟨rfl, rfl⟩
  case round =>
    obtain ⟨rfl, rfl⟩ := hrel
    go_wp2_with fail
    go_loopw [5] (fun i u => i = .int .i64 0 ∧ w = u) (fun _ _ => 0)
    case atStart => exact ⟨rfl, rfl⟩
    case round =>
      obtain ⟨rfl, rfl⟩ := hrel
      go_wp2_with fail
      go_loopw [8] (fun i u => i = .int .i64 0 ∧ w = u) (fun _ _ => 0)
      case atStart => exact ⟨rfl, rfl⟩
      case round =>
        obtain ⟨rfl, rfl⟩ := hrel
        go_wp2_with fail
        go_ret
        exact ⟨rfl, Below.refl _ _⟩
theorem PlaySt.last {n r a b c : Nat} {w u : World} {va vb vl : Value} {d : Gh} (h : PlaySt n r a b c w u va vb vl d) (hp : d.p ≤ 1048576) :
    Calls Try.prog 28 #[vl] u fun e w' => e = .returned (.bool true) ∧ Below w.heap.size w w' := by
  rcases h.ll.form with ⟨rfl, _⟩ | ⟨g, cap, rfl, h1, h2, h3⟩
  · exact (apart_none u).mono fun e w' ⟨he, hb⟩ => ⟨he, below_then h.below hb⟩
  · rw [lst_length] at h ⊢
    refine (apart_any w.heap.size g d.p cap d.vs d.cs hp (fun i hi => by have := h.cl i (Nat.lt_of_lt_of_le hi h.pq); omega) u (h.apart rfl)).mono fun e w' ⟨he, hm⟩ => ⟨he, ?_⟩
    exact hm.then_ h.below (fun i k hi e => ((h.ro i (Nat.lt_of_lt_of_le hi h.pq)).lt e).1) h.below.size
end Go.Proofs.Ytmmngcjnofcmmaa
