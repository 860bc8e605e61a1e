/- outpostref04.Named, walked. -/
import Derived.Test.YtknkkoemghceeaaDoorRows
import Derived.Test.YtknkkoemghceeaaDoorLfNamed
import Derived.Test.YtknkkoemghceeaaDoorBytes
import Derived.StillTailTactics
namespace Go.Proofs.YtknkkoemghceeaaDoor
open Go.RowKit

theorem strEq4 {a b : ByteArray} (h : a = b) : (a.toList == b.toList) = true := by rw [h]; exact beq_self_eq_true _
theorem strNe4 {a b : ByteArray} (h : a ≠ b) : (a.toList == b.toList) = false := by
  rw [beq_eq_false_iff_ne]
  intro e
  rw [ByteArray.toList_eq, ByteArray.toList_eq] at e
  exact h (ByteArray.ext (Array.toList_inj.mp e))
/-- the three lists of the reference -/
def nmC : Array Value := #[.string ⟨#[112, 110, 55]⟩, .string ⟨#[112, 110, 56]⟩, .string ⟨#[112, 110, 57]⟩, .string ⟨#[112, 110, 49, 49]⟩, .string ⟨#[112, 110, 49, 53]⟩, .string ⟨#[112, 110, 49, 55]⟩, .string ⟨#[112, 110, 50, 48]⟩]
def ndC : Array Value := #[.int .i64 7, .int .i64 8, .int .i64 9, .int .i64 11, .int .i64 15, .int .i64 17, .int .i64 20]
def ntC : Array Value := #[.int .u64 65, .int .u64 169, .int .u64 33, .int .u64 513, .int .u64 16385, .int .u64 16385, .int .u64 131073]
theorem c7_at : ∀ k : Fin 7, nmC[k.val]? = some (.string (lnm k.val)) ∧ ndC[k.val]? = some (.int .i64 (lnd k.val : Nat)) ∧ ntC[k.val]? = some (.int .u64 (lnt k.val : Nat)) := fun k => by
  obtain ⟨k, hk⟩ := k
  have h : k = 0 ∨ k = 1 ∨ k = 2 ∨ k = 3 ∨ k = 4 ∨ k = 5 ∨ k = 6 := by omega
  rcases h with rfl | rfl | rfl | rfl | rfl | rfl | rfl <;> exact ⟨rfl, rfl, rfl⟩
/-- the world with the three lists -/
def W4 (w : World) : World := (((w.alloc (.cells #[.int .i64 0, .int .u64 0, .int .u64 0] 24)).alloc (.cells nmC 9)).alloc (.cells ndC 3)).alloc (.cells ntC 22)
theorem w4_facts (w : World) : (∀ k, k < 7 → (W4 w).cell? ⟨w.heap.size + 1, k, none⟩ = some (.string (lnm k)) ∧ (W4 w).cell? ⟨w.heap.size + 1 + 1, k, none⟩ = some (.int .i64 (lnd k : Nat)) ∧ (W4 w).cell? ⟨w.heap.size + 1 + 1 + 1, k, none⟩ = some (.int .u64 (lnt k : Nat))) ∧ RegL (W4 w) w.heap.size 0 0 0 ∧ Below w.heap.size w (W4 w) := by
  have hb0 := heap_alloc_new w (.cells #[.int .i64 0, .int .u64 0, .int .u64 0] 24)
  have hb1 := heap_alloc_new (w.alloc (.cells #[.int .i64 0, .int .u64 0, .int .u64 0] 24)) (.cells nmC 9)
  have hb2 := heap_alloc_new ((w.alloc (.cells #[.int .i64 0, .int .u64 0, .int .u64 0] 24)).alloc (.cells nmC 9)) (.cells ndC 3)
  have hb3 := heap_alloc_new (((w.alloc (.cells #[.int .i64 0, .int .u64 0, .int .u64 0] 24)).alloc (.cells nmC 9)).alloc (.cells ndC 3)) (.cells ntC 22)
  simp only [World.size_alloc] at hb1 hb2 hb3
  refine ⟨fun k hk => ?_, ?_, ?_⟩
  · obtain ⟨c1, c2, c3⟩ := c7_at ⟨k, hk⟩
    refine ⟨?_, ?_, ?_⟩
    · unfold W4
      rw [World.cell?_alloc_lt _ _ _ (by simp), World.cell?_alloc_lt _ _ _ (by simp)]
      simp only [World.cell?, hb1]
      simpa using c1
    · unfold W4
      rw [World.cell?_alloc_lt _ _ _ (by simp)]
      simp only [World.cell?, hb2]
      simpa using c2
    · unfold W4
      simp only [World.cell?, hb3]
      simpa using c3
  · exact (((show RegL (w.alloc (.cells #[.int .i64 0, .int .u64 0, .int .u64 0] 24)) w.heap.size 0 0 0 from ⟨_, hb0⟩).alloc _).alloc _).alloc _
  · exact ((((Below.refl _ _).alloc (Nat.le_refl _) _).alloc (by simp) _).alloc (by simp; omega) _).alloc (by simp; omega) _
set_option maxRecDepth 100000 in
set_option maxHeartbeats 1000000 in
theorem rnamed_any (x : ByteArray) (w : World) :
    Calls Tryd.prog 39 #[.string x] w fun e w' => ((∃ i, i < 7 ∧ (lnm i = x ∧ ∀ j, j < i → lnm j ≠ x) ∧ e = .returned (.tuple #[.agg #[.int .i64 (lnd i : Nat), .int .u64 (lnt i : Nat), .int .u64 ((2 ^ lnd i - 1 : Nat) : Int)], .int .i64 0])) ∨ ((∀ i, i < 7 → lnm i ≠ x) ∧ e = .returned (.tuple #[.agg #[.int .i64 0, .int .u64 0, .int .u64 0], .int .i64 3]))) ∧ Below w.heap.size w w' := by
  go_enter Tryd.func39, Tryd.ntmps39
  go_wp2_with fail
  have hf := w4_facts w
  change Code.wp _ _ _ _ (W4 w)
  generalize W4 w = W0 at *
  obtain ⟨hc, hr, hb⟩ := hf
  have HC := hide hc
  have HR := hide hr
  have HB := hide hb
  clear hc hr hb
  go_loop [7] (fun i => ∃ k : Nat, k ≤ 7 ∧ i = .int .i64 k ∧ (∀ j, j < k → lnm j ≠ x)) (fun i => 7 - (intOf i).toNat)
  case atStart => exact ⟨0, by omega, rfl, fun j hj => absurd hj (by omega)⟩
  case round =>
    obtain ⟨k, hk, rfl, hno⟩ := hrel
    have HNO := hide hno
    clear hno
    by_cases hlt : k < 7
    · obtain ⟨c1, c2, c3⟩ := HC.out k hlt
      have hk0 : (0 : Int) ≤ k := by omega
      have hk7 : (k : Int) < 7 := by omega
      by_cases he : lnm k = x
      · have hs := strEq4 he
        obtain ⟨hl0, q0, q1, q2, f2⟩ := HR.out.parts
        have f0 : W0.frozen? ⟨w.heap.size, 0, none⟩ = false := by obtain ⟨ty, h⟩ := HR.out; exact frozen_of_row W0 w.heap.size 0 _ ty h
        have f1 : W0.frozen? ⟨w.heap.size, 1, none⟩ = false := by obtain ⟨ty, h⟩ := HR.out; exact frozen_of_row W0 w.heap.size 1 _ ty h
        have HE := hide he
        clear he
        obtain ⟨D, T, M, hD, hT, hM, hD0, hD1, hw⟩ : ∃ D T M : Nat, D = lnd k ∧ T = lnt k ∧ M = 2 ^ lnd k - 1 ∧ 7 ≤ D ∧ D ≤ 20 ∧ IntKind.u64.wrap (IntKind.u64.wrap (2 ^ min (IntKind.u64.wrap (D : Int)).toNat 64) - 1) = (M : Int) := by
          have h : k = 0 ∨ k = 1 ∨ k = 2 ∨ k = 3 ∨ k = 4 ∨ k = 5 ∨ k = 6 := by omega
          rcases h with rfl | rfl | rfl | rfl | rfl | rfl | rfl <;> exact ⟨_, _, _, rfl, rfl, rfl, by decide, by decide, by decide⟩
        rw [← hD] at c2
        rw [← hT] at c3
        have HV := hide (And.intro hD (And.intro hT hM))
        clear hD hT hM
        go_wp2_with fail
        go_still_tail 16, (by kernel_rfl)
        change wpList _ _ _ _ _ W0.drew
        go_wp2_with fail
        obtain ⟨e1, e2, e3⟩ := HV.out
        refine bodyPost_ret (v := .tuple #[.agg #[.int .i64 D, .int .u64 T, .int .u64 M], .int .i64 0]) (by simp [results, Tryd.results39, go_sem, q0, q1, q2]) rfl ⟨.inl ⟨k, hlt, ⟨HE.out, HNO.out⟩, by rw [e1, e2, e3]⟩, ?_⟩
        exact (((HB.out.drew).setCell (p := ⟨w.heap.size, 0, none⟩) (Nat.le_refl _) _).setCell (p := ⟨w.heap.size, 1, none⟩) (Nat.le_refl _) _).setCell (p := ⟨w.heap.size, 2, none⟩) (Nat.le_refl _) _
      · have hs := strNe4 he
        have HE := hide he
        clear he
        go_wp2_with fail
        go_round
        case rel => exact ⟨k + 1, by omega, by simp, fun j hj => by
          by_cases e : j = k
          · rw [e]; exact HE.out
          · exact HNO.out j (by omega)⟩
        case measure => simp [intOf]; omega
    · obtain rfl : k = 7 := by omega
      obtain ⟨hl0, q0, q1, q2, f2⟩ := HR.out.parts
      have f0 : W0.frozen? ⟨w.heap.size, 0, none⟩ = false := by obtain ⟨ty, h⟩ := HR.out; exact frozen_of_row W0 w.heap.size 0 _ ty h
      have f1 : W0.frozen? ⟨w.heap.size, 1, none⟩ = false := by obtain ⟨ty, h⟩ := HR.out; exact frozen_of_row W0 w.heap.size 1 _ ty h
      go_wp2_with fail
      refine bodyPost_ret (v := .tuple #[.agg #[.int .i64 0, .int .u64 0, .int .u64 0], .int .i64 3]) (by simp [results, Tryd.results39, go_sem, q0, q1, q2]) rfl ⟨.inr ⟨HNO.out, rfl⟩, ?_⟩
      exact ((HB.out.setCell (p := ⟨w.heap.size, 0, none⟩) (Nat.le_refl _) _).setCell (p := ⟨w.heap.size, 1, none⟩) (Nat.le_refl _) _).setCell (p := ⟨w.heap.size, 2, none⟩) (Nat.le_refl _) _
end Go.Proofs.YtknkkoemghceeaaDoor
