/- What Named and the reference's Named answer. -/
import Derived.Test.YtfjaohadjmigoaaNames
import Derived.Test.YtfjaohadjmigoaaShelf
namespace Go.Proofs.Ytfjaohadjmigoaa
open Go.RowKit

/-- the first place of a name -/
def hitAt (x : ByteArray) (k : Nat) : Prop := k < 9 ∧ nmL.getD k ByteArray.empty = x ∧ ∀ j, j < k → nmL.getD j ByteArray.empty ≠ x
def missed (x : ByteArray) : Prop := ∀ j, j < 9 → nmL.getD j ByteArray.empty ≠ x

set_option maxHeartbeats 1000000 in
theorem named_hit (x : ByteArray) (k : Nat) (hx : hitAt x k) (w : World) :
    Calls Try.prog 9 #[.string x] w fun e w' => e = .returned (.tuple #[cdV k, .int .i64 0]) ∧ Below w.heap.size w w' := by
  have hi := hide (Lib.idxOfS_hit nmL 9 k x hx.1 (by decide) hx.2.1 hx.2.2)
  obtain ⟨c0, c1, c2, c3, c4⟩ := cdArr_at k hx.1
  have hk := hx.1
  clear hx
  go_enter Try.func9, Try.ntmps9
  go_wp2_with fail
  refine (names_any _).mono ?_
  rintro e w' ⟨rfl, rfl⟩
  go_wp2_with fail
  refine (Try.slices_Index_string _ _ 9 9 nmL x _ (by decide) (by decide) ?_).mono ?_
  · intro j hj
    have := nmArr_at j hj
    simp [go_sem, this]
  rw [hi.out]
  rintro e w' ⟨rfl, hw⟩
  subst hw
  go_wp2_with fail
  exact bodyPost_ret (v := .tuple #[cdV k, .int .i64 0]) (by simp [results, Try.results9, go_sem, cdV]) rfl ⟨rfl, (((Below.refl _ _).alloc (Nat.le_refl _) _).alloc (by simp) _).alloc (by simp; omega) _⟩

set_option maxHeartbeats 1000000 in
theorem named_miss (x : ByteArray) (hx : missed x) (w : World) :
    Calls Try.prog 9 #[.string x] w fun e w' => e = .returned (.tuple #[cdV 9, .int .i64 3]) ∧ Below w.heap.size w w' := by
  have hi := hide (Lib.idxOfS_miss nmL 9 x hx)
  clear hx
  go_enter Try.func9, Try.ntmps9
  go_wp2_with fail
  refine (names_any _).mono ?_
  rintro e w' ⟨rfl, rfl⟩
  go_wp2_with fail
  refine (Try.slices_Index_string _ _ 9 9 nmL x _ (by decide) (by decide) ?_).mono ?_
  · intro j hj
    have := nmArr_at j hj
    simp [go_sem, this]
  rw [hi.out]
  rintro e w' ⟨rfl, hw⟩
  subst hw
  go_wp2_with fail
  exact bodyPost_ret (v := .tuple #[cdV 9, .int .i64 3]) (by simp [results, Try.results9, go_sem]; rfl) rfl ⟨rfl, (((Below.refl _ _).alloc (Nat.le_refl _) _).alloc (by simp) _).alloc (by simp; omega) _⟩

theorem strEq {a b : ByteArray} (h : a = b) : (a.toList == b.toList) = true := by rw [h]; exact beq_self_eq_true _
theorem strNe {a b : ByteArray} (h : a ≠ b) : (a.toList == b.toList) = false := by
  rw [beq_eq_false_iff_ne]
  intro e
  rw [ByteArray.toList_eq, ByteArray.toList_eq] at e
  exact h (ByteArray.ext (Array.toList_inj.mp e))
set_option maxHeartbeats 1000000 in
theorem rnamed_any (x : ByteArray) (w : World) :
    Calls Try.prog 10 #[.string x] w fun e w' => (∃ k, hitAt x k ∧ e = .returned (.tuple #[cdV k, .int .i64 0]) ∧ Below w.heap.size w w') ∨ (missed x ∧ e = .returned (.tuple #[cdV 9, .int .i64 3]) ∧ Below w.heap.size w w') := by
  go_enter Try.func10, Try.ntmps10
  go_wp2_with fail
  refine (rall_any _).mono ?_
  rintro e w' ⟨rfl, rfl⟩
  go_wp2_with fail
  go_loop [6] (fun i => ∃ k : Nat, k ≤ 9 ∧ i = .int .i64 k ∧ (∀ j, j < k → nmL.getD j ByteArray.empty ≠ x)) (fun i => 9 - (intOf i).toNat)
  case atStart => exact ⟨0, by omega, rfl, fun j hj => absurd hj (by omega)⟩
  case round =>
    obtain ⟨k, hk, rfl, hno⟩ := hrel
    have hN := hide hno
    clear hno
    obtain ⟨y, hy⟩ : ∃ y, nmL.getD k ByteArray.empty = y := ⟨_, rfl⟩
    by_cases hk9 : k < 9
    · obtain ⟨c0, c1, c2, c3, c4⟩ := cdArr_at k hk9
      have n0 := nmArr_at k hk9
      rw [hy] at n0
      by_cases he : y = x
      · have hE := hide (show hitAt x k from ⟨hk9, hy.trans he, hN.out⟩)
        have hb := strEq he
        clear he hy
        go_wp2_with fail
        exact bodyPost_ret (v := .tuple #[cdV k, .int .i64 0]) (by simp [results, Try.results10, go_sem, cdV]) rfl (.inl ⟨k, hE.out, rfl, (((Below.refl _ _).alloc (Nat.le_refl _) _).alloc (by simp) _).alloc (by simp; omega) _⟩)
      · have hE := hide (show ∀ j, j < k + 1 → nmL.getD j ByteArray.empty ≠ x from fun j hj => by
          by_cases e : j = k
          · rw [e, hy]; exact he
          · exact hN.out j (by omega))
        have hb := strNe he
        clear he hy
        go_wp2_with fail
        go_round
        case rel => exact ⟨k + 1, by omega, by go_num, hE.out⟩
        case measure => simp [intOf]; omega
    · have hm := hide (show missed x from fun j hj => hN.out j (by omega))
      clear hy
      go_wp2_with fail
      exact bodyPost_ret (v := .tuple #[cdV 9, .int .i64 3]) (by simp [results, Try.results10, go_sem]; rfl) rfl (.inr ⟨hm.out, rfl, (((Below.refl _ _).alloc (Nat.le_refl _) _).alloc (by simp) _).alloc (by simp; omega) _⟩)

theorem hit_or_miss (x : ByteArray) : (∃ k, hitAt x k) ∨ missed x := by
  have h (n : Nat) : n ≤ 9 → (∃ k, k < n ∧ hitAt x k) ∨ ∀ j, j < n → nmL.getD j ByteArray.empty ≠ x := by
    induction n with
    | zero => exact fun _ => .inr fun j hj => absurd hj (by omega)
    | succ n ih =>
      intro hn
      rcases ih (by omega) with ⟨k, hk, h⟩ | h
      · exact .inl ⟨k, by omega, h⟩
      · by_cases e : nmL.getD n ByteArray.empty = x
        · exact .inl ⟨n, by omega, by omega, e, h⟩
        · exact .inr fun j hj => by
            by_cases e2 : j = n
            · rw [e2]; exact e
            · exact h j (by omega)
  rcases h 9 (by omega) with ⟨k, _, h⟩ | h
  · exact .inl ⟨k, h⟩
  · exact .inr h
theorem hit_same {x : ByteArray} {k j : Nat} (h : hitAt x k) (h' : hitAt x j) : j = k := by
  by_cases e : j < k
  · exact absurd h'.2.1 (h.2.2 j e)
  · by_cases e2 : k < j
    · exact absurd h.2.1 (h'.2.2 k e2)
    · omega
/-- of each name both say the same -/
theorem named_ex (x : ByteArray) : ∃ (k : Nat) (er : Int),
    (∀ w, Calls Try.prog 9 #[.string x] w fun e w' => e = .returned (.tuple #[cdV k, .int .i64 er]) ∧ Below w.heap.size w w') ∧
    (∀ w, Calls Try.prog 10 #[.string x] w fun e w' => e = .returned (.tuple #[cdV k, .int .i64 er]) ∧ Below w.heap.size w w') := by
  rcases hit_or_miss x with ⟨k, h⟩ | h
  · refine ⟨k, 0, fun w => named_hit x k h w, fun w => (rnamed_any x w).mono fun e w' h' => ?_⟩
    rcases h' with ⟨j, hj, h1, h2⟩ | ⟨hm, _, _⟩
    · rw [hit_same h hj] at h1; exact ⟨h1, h2⟩
    · exact absurd h.2.1 (hm k h.1)
  · refine ⟨9, 3, fun w => named_miss x h w, fun w => (rnamed_any x w).mono fun e w' h' => ?_⟩
    rcases h' with ⟨j, hj, _, _⟩ | ⟨_, h1, h2⟩
    · exact absurd hj.2.1 (h j hj.1)
    · exact ⟨h1, h2⟩
end Go.Proofs.Ytfjaohadjmigoaa
