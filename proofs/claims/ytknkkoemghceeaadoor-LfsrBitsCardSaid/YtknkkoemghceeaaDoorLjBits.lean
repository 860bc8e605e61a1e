/- The law LfsrBits, walked: it returns true. -/
import Derived.Test.YtknkkoemghceeaaDoorRows
import Derived.Test.YtknkkoemghceeaaDoorLfLive
import Derived.Test.YtknkkoemghceeaaDoorR4Bits
import Derived.Test.YtknkkoemghceeaaDoorR4Jump
import Derived.Test.YtknkkoemghceeaaDoorLfJump
import Derived.Test.YtknkkoemghceeaaDoorEqL
import Derived.Test.YtknkkoemghceeaaDoorApart4W
import Derived.Test.YtknkkoemghceeaaDoorTwoRows
namespace Go.Proofs.YtknkkoemghceeaaDoor
open Go.RowKit

set_option maxRecDepth 100000 in
set_option maxHeartbeats 1000000 in
theorem lbits_core (D : Int) (T S : Nat) (R : List Nat) (c : Int) (m k : Value) (D2 : Int) (T2 S2 : Nat) (f : Int) (hR : R.length + 64 ≤ 140737488355328)
    (h1 : ∀ u, Calls Tryd.prog 17 #[.agg #[.int .i64 D, .int .u64 T, .int .u64 S], m] u fun e u' => ∃ v, e = .returned (.tuple #[v, .int .i64 c]) ∧ OwnB u' u.heap.size v R ∧ Below u.heap.size u u')
    (h2 : ∀ u, Calls Tryd.prog 18 #[.agg #[.int .i64 D, .int .u64 T, .int .u64 S], m] u fun e u' => ∃ v, e = .returned (.tuple #[v, .int .i64 c]) ∧ OwnB u' u.heap.size v R ∧ Below u.heap.size u u')
    (h3 : ∀ u, TabW u → Calls Tryd.prog 19 #[.agg #[.int .i64 D, .int .u64 T, .int .u64 S], k] u fun e u' => e = .returned (.tuple #[.agg #[.int .i64 D2, .int .u64 T2, .int .u64 S2], .int .i64 f]) ∧ Below u.heap.size u u')
    (h4 : ∀ u, Calls Tryd.prog 20 #[.agg #[.int .i64 D, .int .u64 T, .int .u64 S], k] u fun e u' => e = .returned (.tuple #[.agg #[.int .i64 D2, .int .u64 T2, .int .u64 S2], .int .i64 f]) ∧ Below u.heap.size u u')
    (w : World) (ht : TabW w) :
    Calls Tryd.prog 3 #[.agg #[.int .i64 D, .int .u64 T, .int .u64 S], m, k] w fun e w' => e = .returned (.bool true) ∧ Below w.heap.size w w' := by
  have H1 := hide h1
  have H2 := hide h2
  have H3 := hide (fun u (h : Below w.heap.size w u) => h3 u (ht.below h))
  have H4 := hide h4
  have HL := hide (fun u (h : Below w.heap.size w u) => llive_any u (ht.below h))
  have heq : ∀ u : World, (Op.equalIn 10000 24 (.agg #[.int .i64 D2, .int .u64 T2, .int .u64 S2]) (.agg #[.int .i64 D2, .int .u64 T2, .int .u64 S2])).run Tryd.prog u = .ok true u := fun u => eq_lfsr_same D2 T2 S2 u
  clear h1 h2 h3 h4 ht
  go_enter Tryd.func3, Tryd.ntmps3
  go_wp2_with fail
  refine (H1.out _).mono ?_
  rintro e w1 ⟨va, rfl, hoa, hb1⟩
  have z1 := hb1.size
  simp at z1
  obtain ⟨aa, ca, rfl, ra⟩ := hoa.row
  have hr1 : RegL w1 w.heap.size D T S := ⟨_, (hb1.block w.heap.size (by simp)).trans (heap_alloc_new w _)⟩
  have HR1 := hide hr1
  have HA1 := hide (show Oat w1 (w.heap.size + 1) w1.heap.size (.slice aa R.length ca) R from Oat.new (by simpa using hoa))
  have RA1 := hide ra
  have HB1 := hide (below_one hb1)
  obtain ⟨hl1, q0, q1, q2, -⟩ := hr1.parts
  clear hr1 hb1 hoa ra
  go_wp2_with fail
  refine (H1.out _).mono ?_
  rintro e w2 ⟨vb, rfl, hob, hb2⟩
  have z2 := hb2.size
  obtain ⟨ab, cb, rfl, rb⟩ := hob.row
  have HR2 := hide (HR1.out.below hb2 hl1)
  have HA2 := hide (HA1.out.below hb2)
  have RA2 := hide (RA1.out.below hb2)
  have HB2 := hide (below_then HB1.out hb2)
  have HBB2 := hide (Oat.new hob)
  have RB2 := hide rb
  have hl2 : w.heap.size < w2.heap.size := by omega
  clear hob hb2 rb q0 q1 q2
  obtain ⟨_, q0, q1, q2, -⟩ := HR2.out.parts
  go_wp2_with fail
  refine (H2.out _).mono ?_
  rintro e w3 ⟨vx, rfl, hox, hb3⟩
  have z3 := hb3.size
  obtain ⟨ax, cx, rfl, rx⟩ := hox.row
  have HR3 := hide (HR2.out.below hb3 hl2)
  have HA3 := hide (HA2.out.below hb3)
  have RA3 := hide (RA2.out.below hb3)
  have HB3 := hide (below_then HB2.out hb3)
  have HBB3 := hide (HBB2.out.below hb3)
  have RB3 := hide (RB2.out.below hb3)
  have RX3 := hide rx
  have hl3 : w.heap.size < w3.heap.size := by omega
  clear hox hb3 rx q0 q1 q2
  obtain ⟨_, q0, q1, q2, -⟩ := HR3.out.parts
  go_wp2_with fail
  refine (H3.out _ HB3.out).mono ?_
  rintro e w4 ⟨rfl, hb4⟩
  have z4 := hb4.size
  have HR4 := hide ((HR3.out.below hb4 hl3).alloc (.cells #[.int .i64 D2, .int .u64 T2, .int .u64 S2] 24))
  have HA4 := hide ((HA3.out.below hb4).below ((Below.refl _ _).alloc (Nat.le_refl _) (.cells #[.int .i64 D2, .int .u64 T2, .int .u64 S2] 24)))
  have RA4 := hide ((RA3.out.below hb4).alloc (.cells #[.int .i64 D2, .int .u64 T2, .int .u64 S2] 24))
  have HB4 := hide ((below_then HB3.out hb4).alloc (below_then HB3.out hb4).size (.cells #[.int .i64 D2, .int .u64 T2, .int .u64 S2] 24))
  have HBB4 := hide ((HBB3.out.below hb4).below ((Below.refl _ _).alloc (Nat.le_refl _) (.cells #[.int .i64 D2, .int .u64 T2, .int .u64 S2] 24)))
  have RB4 := hide ((RB3.out.below hb4).alloc (.cells #[.int .i64 D2, .int .u64 T2, .int .u64 S2] 24))
  have RX4 := hide ((RX3.out.below hb4).alloc (.cells #[.int .i64 D2, .int .u64 T2, .int .u64 S2] 24))
  have HN4 := hide (show RegL (w4.alloc (.cells #[.int .i64 D2, .int .u64 T2, .int .u64 S2] 24)) w4.heap.size D2 T2 S2 from ⟨_, heap_alloc_new w4 _⟩)
  have hl4 : w.heap.size < w4.heap.size := by omega
  clear hb4 q0 q1 q2
  obtain ⟨_, q0, q1, q2, -⟩ := HR4.out.parts
  go_wp2_with fail
  refine (H4.out _).mono ?_
  rintro e w5 ⟨rfl, hb5⟩
  have z5 := hb5.size
  simp at z5
  have hl5 : w4.heap.size < w5.heap.size := by omega
  have HA5 := hide ((HA4.out.below hb5).below ((Below.refl _ _).alloc (Nat.le_refl _) (.cells #[.int .i64 D2, .int .u64 T2, .int .u64 S2] 24)))
  have RA5 := hide ((RA4.out.below hb5).alloc (.cells #[.int .i64 D2, .int .u64 T2, .int .u64 S2] 24))
  have HB5 := hide ((below_then HB4.out hb5).alloc (below_then HB4.out hb5).size (.cells #[.int .i64 D2, .int .u64 T2, .int .u64 S2] 24))
  have HBB5 := hide ((HBB4.out.below hb5).below ((Below.refl _ _).alloc (Nat.le_refl _) (.cells #[.int .i64 D2, .int .u64 T2, .int .u64 S2] 24)))
  have RB5 := hide ((RB4.out.below hb5).alloc (.cells #[.int .i64 D2, .int .u64 T2, .int .u64 S2] 24))
  have RX5 := hide ((RX4.out.below hb5).alloc (.cells #[.int .i64 D2, .int .u64 T2, .int .u64 S2] 24))
  have HN5 := hide ((HN4.out.below hb5 (by simp)).alloc (.cells #[.int .i64 D2, .int .u64 T2, .int .u64 S2] 24))
  have HM5 := hide (show RegL (w5.alloc (.cells #[.int .i64 D2, .int .u64 T2, .int .u64 S2] 24)) w5.heap.size D2 T2 S2 from ⟨_, heap_alloc_new w5 _⟩)
  clear hb5 q0 q1 q2
  have hw5 := HM5.out.lt
  obtain ⟨_, q0, q1, q2, -⟩ := HN5.out.parts
  obtain ⟨_, p0, p1, p2, -⟩ := HM5.out.parts
  go_wp2_with fail
  generalize w5.alloc (.cells #[.int .i64 D2, .int .u64 T2, .int .u64 S2] 24) = W5 at *
  have h3 := two_own (B := w.heap.size) HA5.out HBB5.out (by omega) (by omega) (by omega) 25
  have HAP := hide (apart4_any w.heap.size W5.heap.size 2 2 _ _ (by omega) (fun i hi => by
    rcases two_cases hi with rfl | rfl <;> simp [two] <;> omega) _ h3)
  clear h3
  refine (num_any _ _).mono ?_
  rintro e w' ⟨rfl, rfl⟩
  go_wp2_with fail
  refine (same_yes _ _ _ _ _ _ R rfl rfl _ RA5.out RX5.out).mono ?_
  rintro e w' ⟨rfl, rfl⟩
  go_wp2_with fail
  refine (same_yes _ _ _ _ _ _ R rfl rfl _ RB5.out RX5.out).mono ?_
  rintro e w' ⟨rfl, rfl⟩
  go_wp2_with fail
  refine (num_any _ _).mono ?_
  rintro e w' ⟨rfl, rfl⟩
  go_wp2_with fail
  refine HAP.out.mono ?_
  rintro e w6 ⟨rfl, hb6⟩
  have HB6 := hide ((HB5.out.alloc HB5.out.size (.cells #[.slice aa R.length ca, .slice ab R.length cb] 25)).trans hb6)
  clear hb6
  go_wp2_with fail
  refine (HL.out _ HB6.out).mono ?_
  rintro e w7 ⟨rfl, hb7⟩
  go_wp2_with fail
  go_ret
  exact ⟨rfl, below_then HB6.out hb7⟩
theorem law_bits (D : Int) (T S K : Nat) (m : Int) (hT : T ≤ 18446744073709551615) (hS : S ≤ 18446744073709551615) (hK : K ≤ 18446744073709551615) (w : World) (ht : TabW w) :
    Calls Tryd.prog 3 #[.agg #[.int .i64 D, .int .u64 T, .int .u64 S], .int .i64 m, .int .u64 K] w fun e w' => e = .returned (.bool true) ∧ Below w.heap.size w w' := by
  by_cases h : lchk D T S = 0
  · obtain ⟨n, rfl, hg⟩ := lchk_zero h
    by_cases hx : sizeF m = 0
    · obtain ⟨M, rfl, hM⟩ : ∃ M : Nat, m = M ∧ M ≤ 1048576 := by
        unfold sizeF at hx
        split at hx
        · exact absurd hx (by decide)
        · split at hx
          · exact absurd hx (by decide)
          · exact ⟨m.toNat, by omega, by omega⟩
      exact lbits_core n T S (firstL n T S M) 0 _ _ n T (Gf2.stpN n T K S) 0 (by simp [firstL]; omega) (fun u => lbits_ok n T S hg M hM u) (fun u => rbits_ok n T S hg M hM u) (fun u hu => jump_good n T S K hg hK u hu) (fun u => rjump_good n T S K hg hK u) w ht
    · refine lbits_core n T S [] (sizeF m) _ _ n T (Gf2.stpN n T K S) 0 (by simp) (fun u => (lbits_size n T S hg m hx u).mono ?_) (fun u => (rbits_size n T S hg m hx u).mono ?_) (fun u hu => jump_good n T S K hg hK u hu) (fun u => rjump_good n T S K hg hK u) w ht <;>
        (rintro e u' ⟨rfl, hb⟩; exact ⟨_, rfl, OwnB.nil _ _, hb⟩)
  · refine lbits_core D T S [] (lchk D T S) _ _ 0 0 0 (lchk D T S) (by simp) (fun u => (lbits_bad D T S hT hS h _ u).mono ?_) (fun u => (rbits_bad D T S hT hS h _ u).mono ?_) (fun u _ => jump_bad D T S hT hS h _ u) (fun u => rjump_bad D T S hT hS h _ u) w ht <;>
      (rintro e u' ⟨rfl, hb⟩; exact ⟨_, rfl, OwnB.nil _ _, hb⟩)
end Go.Proofs.YtknkkoemghceeaaDoor
