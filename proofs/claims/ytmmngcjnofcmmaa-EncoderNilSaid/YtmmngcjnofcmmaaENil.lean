/- The methods of a nil encoder, and of one that nobody made; the law EncoderNil. -/
import Derived.Test.YtmmngcjnofcmmaaRows
import Derived.Test.YtmmngcjnofcmmaaLive
namespace Go.Proofs.Ytmmngcjnofcmmaa
open Go.RowKit

theorem none_nil (w : World) : Calls Try.prog 45 #[.pointer none] w fun e w' => e = .returned (.bool true) ∧ w = w' := by
  go_enter Try.func45, Try.ntmps45
  go_wp2_with fail
  go_ret
  exact ⟨rfl, rfl⟩
theorem none_zero (R : Int) (a b c s g : Nat) (w : World) (hr : RegB w g 0 R a b c s) : Calls Try.prog 45 #[.pointer (some ⟨g, 0, none⟩)] w fun e w' => e = .returned (.bool true) ∧ w = w' := by
  obtain ⟨l1, q0, q1, q2, q3, q4, q5, fz⟩ := hr.parts
  clear hr
  go_enter Try.func45, Try.ntmps45
  go_wp2_with fail
  go_ret
  exact ⟨rfl, rfl⟩
def IsNone (v : Value) (w : World) : Prop := Calls Try.prog 45 #[v] w fun e w' => e = .returned (.bool true) ∧ w = w'
theorem reset_none (v : Value) (w : World) (h : IsNone v w) : Calls Try.prog 32 #[v] w fun e w' => e = .returned (.tuple #[]) ∧ w = w' := by
  have HN := hide (show Calls _ _ _ _ _ from h)
  go_enter Try.func32, Try.ntmps32
  go_wp2_with fail
  refine HN.out.mono ?_
  rintro e w' ⟨rfl, rfl⟩
  go_wp2_with fail
  go_end0
  exact ⟨rfl, rfl⟩
theorem put_none (v : Value) (x : Int) (w : World) (h : IsNone v w) : Calls Try.prog 22 #[v, .int .u8 x] w fun e w' => e = .returned (.tuple #[.slice none 0 0, .int .i64 1]) ∧ w = w' := by
  have HN := hide (show Calls _ _ _ _ _ from h)
  go_enter Try.func22, Try.ntmps22
  go_wp2_with fail
  refine HN.out.mono ?_
  rintro e w' ⟨rfl, rfl⟩
  go_wp2_with fail
  go_ret2
  exact ⟨rfl, rfl⟩
theorem state_none (v : Value) (w : World) (h : IsNone v w) : Calls Try.prog 23 #[v] w fun e w' => e = .returned (.int .u32 0) ∧ w = w' := by
  have HN := hide (show Calls _ _ _ _ _ from h)
  go_enter Try.func23, Try.ntmps23
  go_wp2_with fail
  refine HN.out.mono ?_
  rintro e w' ⟨rfl, rfl⟩
  go_wp2_with fail
  go_ret
  exact ⟨rfl, rfl⟩
theorem fork_none (v : Value) (w : World) (h : IsNone v w) : Calls Try.prog 21 #[v] w fun e w' => e = .returned (.pointer none) ∧ w = w' := by
  have HN := hide (show Calls _ _ _ _ _ from h)
  go_enter Try.func21, Try.ntmps21
  go_wp2_with fail
  refine HN.out.mono ?_
  rintro e w' ⟨rfl, rfl⟩
  go_wp2_with fail
  go_ret
  exact ⟨rfl, rfl⟩
set_option maxHeartbeats 1000000 in
theorem law_nil (w : World) :
    Calls Try.prog 8 #[] w fun e w' => e = .returned (.bool true) ∧ Below w.heap.size w w' := by
  have H0 := hide (show IsNone (.pointer none) w from none_nil w)
  go_enter Try.func8, Try.ntmps8
  go_wp2_with fail
  go_loopw [1, 2] (fun x i wr => ∃ k : Nat, k ≤ 2 ∧ i = .int .i64 k ∧ Hid (IsNone x wr) ∧ Hid (Below w.heap.size w wr)) (fun _ i _ => 2 - (intOf i).toNat)
  case atStart => exact ⟨0, by omega, rfl, H0, hide (Below.refl _ _)⟩
  case round =>
    rename_i wr _
    obtain ⟨k, hk, rfl, hx, hbl⟩ := hrel
    by_cases hlt : k < 2
    · go_wp2_with fail
      refine (reset_none _ _ hx.out).mono ?_
      rintro e w' ⟨rfl, rfl⟩
      go_wp2_with fail
      refine (put_none _ _ _ hx.out).mono ?_
      rintro e w' ⟨rfl, rfl⟩
      go_wp2_with fail
      refine (num_any _ _).mono ?_
      rintro e w' ⟨rfl, rfl⟩
      go_wp2_with fail
      refine (state_none _ _ hx.out).mono ?_
      rintro e w' ⟨rfl, rfl⟩
      go_wp2_with fail
      refine (fork_none _ _ hx.out).mono ?_
      rintro e w' ⟨rfl, rfl⟩
      go_wp2_with fail
      go_roundw
      case rel => exact ⟨k + 1, by omega, by simp, none_zero 0 0 0 0 0 _ _ ⟨_, heap_alloc_new wr _⟩, hbl.out.alloc hbl.out.size _⟩
      case measure => simp [intOf]; omega
    · go_wp2_with fail
      refine (live_any _).mono ?_
      rintro e w' ⟨rfl, hb⟩
      go_wp2_with fail
      go_ret
      exact ⟨rfl, below_then hbl.out hb⟩
end Go.Proofs.Ytmmngcjnofcmmaa
