/- The law LfsrNamed, walked: it returns true. -/
import Derived.Test.YtknkkoemghceeaaDoorRows
import Derived.Test.YtknkkoemghceeaaDoorR4Named
import Derived.Test.YtknkkoemghceeaaDoorLfNamed
import Derived.Test.YtknkkoemghceeaaDoorLfLive
import Derived.Test.YtknkkoemghceeaaDoorEqL
namespace Go.Proofs.YtknkkoemghceeaaDoor
open Go.RowKit

theorem lnm_inj : ∀ a b : Fin 7, lnm a.val = lnm b.val → a = b := by decide
set_option maxHeartbeats 400000 in
theorem lnamed_core (x : ByteArray) (n T S f : Nat)
    (HA : ∀ u : World, Calls Tryd.prog 38 #[.string x] u fun e w' => e = .returned (.tuple #[.agg #[.int .i64 n, .int .u64 T, .int .u64 S], .int .i64 f]) ∧ Below u.heap.size u w')
    (HR : ∀ u : World, Calls Tryd.prog 39 #[.string x] u fun e w' => e = .returned (.tuple #[.agg #[.int .i64 n, .int .u64 T, .int .u64 S], .int .i64 f]) ∧ Below u.heap.size u w')
    (w : World) (ht : TabW w) :
    Calls Tryd.prog 8 #[.string x] w fun e w' => e = .returned (.bool true) ∧ Below w.heap.size w w' := by
  have H1 := hide HA
  have H2 := hide HR
  have HL := hide (fun u (h : Below w.heap.size w u) => llive_any u (ht.below h))
  have heq : ∀ u : World, (Op.equalIn 10000 24 (.agg #[.int .i64 n, .int .u64 T, .int .u64 S]) (.agg #[.int .i64 n, .int .u64 T, .int .u64 S])).run Tryd.prog u = .ok true u := fun u => eq_lfsr_same n T S u
  clear HA HR ht
  go_enter Tryd.func8, Tryd.ntmps8
  go_wp2_with fail
  refine (H1.out _).mono ?_
  rintro e w1 ⟨rfl, hb1⟩
  have HB1 := hide hb1
  have hz1 := hb1.size
  clear hb1
  go_wp2_with fail
  refine (H2.out _).mono ?_
  rintro e w2 ⟨rfl, hb2⟩
  have hr1 := hide ((show RegL (w1.alloc (.cells #[.int .i64 n, .int .u64 T, .int .u64 S] 24)) w1.heap.size n T S from ⟨_, heap_alloc_new w1 _⟩).below hb2 (by simp))
  have HB2 := hide (below_then (HB1.out.alloc HB1.out.size _) hb2)
  have hz2 : w1.heap.size < w2.heap.size := by have := hb2.size; simp at this; omega
  obtain ⟨hl1, q0, q1, q2, -⟩ := hr1.out.parts
  clear hb2
  go_wp2_with fail
  refine (num_any _ _).mono ?_
  rintro e w' ⟨rfl, rfl⟩
  go_wp2_with fail
  refine (HL.out _ (HB2.out.alloc HB2.out.size _)).mono ?_
  rintro e w3 ⟨rfl, hb3⟩
  go_wp2_with fail
  go_ret
  exact ⟨rfl, below_then (HB2.out.alloc HB2.out.size _) hb3⟩
theorem law_named (x : ByteArray) (w : World) (ht : TabW w) :
    Calls Tryd.prog 8 #[.string x] w fun e w' => e = .returned (.bool true) ∧ Below w.heap.size w w' := by
  by_cases h : ∃ i, i < 7 ∧ lnm i = x
  · obtain ⟨i, hi, hx⟩ := h
    have he : ∀ j, j < 7 → lnm j = x → j = i := fun j hj hjx => by
      have := lnm_inj ⟨j, hj⟩ ⟨i, hi⟩ (by show lnm j = lnm i; rw [hjx, hx])
      exact congrArg Fin.val this
    refine lnamed_core x (lnd i) (lnt i) (2 ^ lnd i - 1) 0 (fun u => (lnamed_any x u).mono ?_) (fun u => (rnamed_any x u).mono ?_) w ht
    · rintro e w' ⟨⟨j, hj, hjx, rfl⟩ | ⟨hno, -⟩, hb⟩
      · obtain rfl := he j hj hjx
        exact ⟨rfl, hb⟩
      · exact absurd hx (hno i hi)
    · rintro e w' ⟨⟨j, hj, ⟨hjx, -⟩, rfl⟩ | ⟨hno, -⟩, hb⟩
      · obtain rfl := he j hj hjx
        exact ⟨rfl, hb⟩
      · exact absurd hx (hno i hi)
  · have hno : ∀ i, i < 7 → lnm i ≠ x := fun i hi e => h ⟨i, hi, e⟩
    refine lnamed_core x 0 0 0 3 (fun u => (lnamed_any x u).mono ?_) (fun u => (rnamed_any x u).mono ?_) w ht
    · rintro e w' ⟨⟨j, hj, hjx, rfl⟩ | ⟨-, rfl⟩, hb⟩
      · exact absurd hjx (hno j hj)
      · exact ⟨rfl, hb⟩
    · rintro e w' ⟨⟨j, hj, ⟨hjx, -⟩, rfl⟩ | ⟨-, rfl⟩, hb⟩
      · exact absurd hjx (hno j hj)
      · exact ⟨rfl, hb⟩
end Go.Proofs.YtknkkoemghceeaaDoor
