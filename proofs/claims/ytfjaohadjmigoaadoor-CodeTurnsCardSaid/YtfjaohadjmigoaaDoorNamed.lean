/- What Named and the reference's Named answer. -/
import Derived.Test.YtfjaohadjmigoaaDoorRows
import Derived.Test.YtfjaohadjmigoaaDoorGf2
import Derived.Test.YtfjaohadjmigoaaDoorWord
import Derived.Test.YtfjaohadjmigoaaDoorLong
import Derived.Test.YtfjaohadjmigoaaDoorPoly
import Derived.Test.YtfjaohadjmigoaaDoorMul
import Derived.Test.YtfjaohadjmigoaaDoorDiv
import Derived.Test.YtfjaohadjmigoaaDoorRef2W
import Derived.Test.YtfjaohadjmigoaaDoorRef2
import Derived.Test.YtfjaohadjmigoaaDoorCheckF
import Derived.Test.YtfjaohadjmigoaaDoorEval
import Derived.Test.YtfjaohadjmigoaaDoorCode
import Derived.Test.YtfjaohadjmigoaaDoorRCheck
import Derived.Test.YtfjaohadjmigoaaDoorNames
import Derived.Test.YtfjaohadjmigoaaDoorShelf
namespace Go.Proofs.YtfjaohadjmigoaaDoor
open Go.RowKit

/-- the first place of a name -/
def hitAt (x : ByteArray) (k : Nat) : Prop := k < 9 ∧ nmL.getD k ByteArray.empty = x ∧ ∀ j, j < k → nmL.getD j ByteArray.empty ≠ x
def missed (x : ByteArray) : Prop := ∀ j, j < 9 → nmL.getD j ByteArray.empty ≠ x

set_option maxHeartbeats 1000000 in
theorem named_hit (x : ByteArray) (k : Nat) (hx : hitAt x k) (w : World) :
    Calls Tryd.prog 17 #[.string x] w fun e w' => e = .returned (.tuple #[cdV k, .int .i64 0]) ∧ Below w.heap.size w w' := by
  have hi := hide (Lib.idxOfS_hit nmL 9 k x hx.1 (by decide) hx.2.1 hx.2.2)
  obtain ⟨c0, c1, c2, c3, c4⟩ := cdArr_at k hx.1
  have hk := hx.1
  clear hx
  go_enter Tryd.func17, Tryd.ntmps17
  go_wp2_with fail
  refine (names_any _).mono ?_
  rintro e w' ⟨rfl, rfl⟩
  go_wp2_with fail
  refine (Tryd.slices_Index_string _ _ 9 9 nmL x _ (by decide) (by decide) ?_).mono ?_
  · intro j hj
    have := nmArr_at j hj
    simp [go_sem, this]
  rw [hi.out]
  rintro e w' ⟨rfl, hw⟩
  subst hw
  go_wp2_with fail
  exact bodyPost_ret (v := .tuple #[cdV k, .int .i64 0]) (by simp [results, Tryd.results17, go_sem, cdV]) rfl ⟨rfl, (((Below.refl _ _).alloc (Nat.le_refl _) _).alloc (by simp) _).alloc (by simp; omega) _⟩

set_option maxHeartbeats 1000000 in
theorem named_miss (x : ByteArray) (hx : missed x) (w : World) :
    Calls Tryd.prog 17 #[.string x] w fun e w' => e = .returned (.tuple #[cdV 9, .int .i64 3]) ∧ Below w.heap.size w w' := by
  have hi := hide (Lib.idxOfS_miss nmL 9 x hx)
  clear hx
  go_enter Tryd.func17, Tryd.ntmps17
  go_wp2_with fail
  refine (names_any _).mono ?_
  rintro e w' ⟨rfl, rfl⟩
  go_wp2_with fail
  refine (Tryd.slices_Index_string _ _ 9 9 nmL x _ (by decide) (by decide) ?_).mono ?_
  · intro j hj
    have := nmArr_at j hj
    simp [go_sem, this]
  rw [hi.out]
  rintro e w' ⟨rfl, hw⟩
  subst hw
  go_wp2_with fail
  exact bodyPost_ret (v := .tuple #[cdV 9, .int .i64 3]) (by simp [results, Tryd.results17, go_sem]; rfl) rfl ⟨rfl, (((Below.refl _ _).alloc (Nat.le_refl _) _).alloc (by simp) _).alloc (by simp; omega) _⟩

theorem strEq {a b : ByteArray} (h : a = b) : (a.toList == b.toList) = true := by rw [h]; exact beq_self_eq_true _
theorem strNe {a b : ByteArray} (h : a ≠ b) : (a.toList == b.toList) = false := by
  rw [beq_eq_false_iff_ne]
  intro e
  rw [ByteArray.toList_eq, ByteArray.toList_eq] at e
  exact h (ByteArray.ext (Array.toList_inj.mp e))
theorem hit_or_miss (x : ByteArray) : (∃ k, hitAt x k) ∨ missed x := by
  have h (n : Nat) : n ≤ 9 → (∃ k, k < n ∧ hitAt x k) ∨ ∀ j, j < n → nmL.getD j ByteArray.empty ≠ x := by
    induction n with
    | zero => exact fun _ => .inr fun j hj => absurd hj (by omega)
    | succ n ih =>
      intro hn
      rcases ih (by omega) with ⟨k, hk, h⟩ | h
      · exact .inl ⟨k, by omega, h⟩
      · by_cases e : nmL.getD n ByteArray.empty = x
        · exact .inl ⟨n, by omega, by omega, e, h⟩
        · exact .inr fun j hj => by
            by_cases e2 : j = n
            · rw [e2]; exact e
            · exact h j (by omega)
  rcases h 9 (by omega) with ⟨k, _, h⟩ | h
  · exact .inl ⟨k, h⟩
  · exact .inr h
theorem hit_same {x : ByteArray} {k j : Nat} (h : hitAt x k) (h' : hitAt x j) : j = k := by
  by_cases e : j < k
  · exact absurd h'.2.1 (h.2.2 j e)
  · by_cases e2 : k < j
    · exact absurd h.2.1 (h'.2.2 k e2)
    · omega
end Go.Proofs.YtfjaohadjmigoaaDoor
