/- The law CodeNil, walked: it returns true. -/
import Derived.Test.YtfjaohadjmigoaaRows
import Derived.Test.YtfjaohadjmigoaaBNil
namespace Go.Proofs.Ytfjaohadjmigoaa
open Go.RowKit

/-- a call's box -/
def CopS (g : Nat) (k : Int) (s : ByteArray) (K R : Int) (x y z : Nat) (w0 u : World) : Prop :=
  u.cell? ⟨g, 0, none⟩ = some (.int .i64 k) ∧ u.cell? ⟨g, 1, none⟩ = some (.string s) ∧ u.cell? ⟨g, 2, none⟩ = some (.int .i64 K) ∧ u.cell? ⟨g, 3, none⟩ = some (.int .i64 R) ∧ u.cell? ⟨g, 4, none⟩ = some (.int .u32 x) ∧ u.cell? ⟨g, 5, none⟩ = some (.int .u32 y) ∧ u.cell? ⟨g, 6, none⟩ = some (.int .u32 z) ∧ Below w0.heap.size w0 u
theorem CopS.keep {g : Nat} {k : Int} {s : ByteArray} {K R : Int} {x y z : Nat} {w0 u u' : World} (h : CopS g k s K R x y z w0 u) (hg : g < w0.heap.size) (hb : Below u.heap.size u u') : CopS g k s K R x y z w0 u' := by
  obtain ⟨c0, c1, c2, c3, c4, c5, c6, c8⟩ := h
  have h1 := Nat.lt_of_lt_of_le hg c8.size
  exact ⟨bcell hb h1 c0, bcell hb h1 c1, bcell hb h1 c2, bcell hb h1 c3, bcell hb h1 c4, bcell hb h1 c5, bcell hb h1 c6, below_then c8 hb⟩
theorem CopS.new (w : World) (k : Int) (s : ByteArray) (K R : Int) (x y z : Nat) : CopS w.heap.size k s K R x y z (w.alloc (.cells #[.int .i64 k, .string s, .int .i64 K, .int .i64 R, .int .u32 x, .int .u32 y, .int .u32 z] 57)) (w.alloc (.cells #[.int .i64 k, .string s, .int .i64 K, .int .i64 R, .int .u32 x, .int .u32 y, .int .u32 z] 57)) := by
  have h := heap_alloc_new w (.cells #[.int .i64 k, .string s, .int .i64 K, .int .i64 R, .int .u32 x, .int .u32 y, .int .u32 z] 57)
  exact ⟨cell_of_row _ _ 0 _ _ (0, 0) h, cell_of_row _ _ 1 _ _ (0, 0) h, cell_of_row _ _ 2 _ _ (0, 0) h, cell_of_row _ _ 3 _ _ (0, 0) h, cell_of_row _ _ 4 _ _ (0, 0) h, cell_of_row _ _ 5 _ _ (0, 0) h, cell_of_row _ _ 6 _ _ (0, 0) h, Below.refl _ _⟩
set_option maxRecDepth 100000 in
set_option maxHeartbeats 1000000 in
theorem basks_none (p : Option Addr) (k : Int) (s : ByteArray) (K R : Int) (x y z : Nat) (w : World) (h : NoBook w p) :
    Calls Try.prog 22 #[.pointer p, .pointer none, .agg #[.int .i64 k, .string s, .int .i64 K, .int .i64 R, .int .u32 x, .int .u32 y, .int .u32 z]] w fun e w' => e = .returned (.bool true) ∧ Below w.heap.size w w' := by
  have HS0 := hide (CopS.new w k s K R x y z)
  have HB0 := hide ((Below.refl w.heap.size w).alloc (Nat.le_refl _) (.cells #[.int .i64 k, .string s, .int .i64 K, .int .i64 R, .int .u32 x, .int .u32 y, .int .u32 z] 57))
  have HN0 := hide (h.below HB0.out)
  have hlt : w.heap.size < (w.alloc (.cells #[.int .i64 k, .string s, .int .i64 K, .int .i64 R, .int .u32 x, .int .u32 y, .int .u32 z] 57)).heap.size := by simp
  clear h
  by_cases h1 : k = 1
  · subst h1
    go_enter Try.func22, Try.ntmps22
    go_wp2_with fail
    generalize w.alloc (.cells #[.int .i64 1, .string s, .int .i64 K, .int .i64 R, .int .u32 x, .int .u32 y, .int .u32 z] 57) = W at *
    have HN := hide (fun u (h : CopS w.heap.size 1 s K R x y z W u) => badd_none p s K R x y z u (HN0.out.below h.2.2.2.2.2.2.2))
    have HR := hide (fun (u : World) => rbadd_none s K R x y z u)
    have HK := hide (fun u u' (h : CopS w.heap.size 1 s K R x y z W u) (hb : Below u.heap.size u u') => h.keep hlt hb)
    obtain ⟨c0, c1, c2, c3, c4, c5, c6, _⟩ := HS0.out
    go_region_held3 (fun u => u.cell? ⟨w.heap.size, 0, none⟩ = some (.int .i64 1) ∧ u.cell? ⟨w.heap.size, 1, none⟩ = some (.string s) ∧ u.cell? ⟨w.heap.size, 2, none⟩ = some (.int .i64 K) ∧ u.cell? ⟨w.heap.size, 3, none⟩ = some (.int .i64 R) ∧ u.cell? ⟨w.heap.size, 4, none⟩ = some (.int .u32 x) ∧ u.cell? ⟨w.heap.size, 5, none⟩ = some (.int .u32 y) ∧ u.cell? ⟨w.heap.size, 6, none⟩ = some (.int .u32 z) ∧ Below W.heap.size W u)
      (first | exact ⟨c0, c1, c2, c3, c4, c5, c6, (Below.refl _ _).drew⟩ | exact ⟨c0, c1, c2, c3, c4, c5, c6, Below.refl _ _⟩ | assumption | exact HK.out _ _ (by assumption) (by assumption) | exact HK.out _ _ (by assumption) (Below.refl _ _))
      ((first
        | (go_at_call 11; refine (num_any _ _).mono ?_; rintro e w' ⟨rfl, rfl⟩)
        | (go_at_call 36; refine (HN.out _ (by assumption)).mono ?_; rintro e w' ⟨rfl, hb'⟩)
        | (go_at_call 37; refine (HR.out _).mono ?_; rintro e w' ⟨rfl, hb'⟩)))
    rename_i hh
    have HB1 := hide hh.2.2.2.2.2.2.2
    clear hh hb' c0 c1 c2 c3 c4 c5 c6
    go_wp2_with fail
    go_ret
    exact ⟨rfl, below_then HB0.out HB1.out⟩
  · have hb1 : (k == 1) = false := by rw [beq_eq_false_iff_ne]; exact h1
    by_cases h2 : k = 2
    · subst h2
      clear h1 hb1
      go_enter Try.func22, Try.ntmps22
      go_wp2_with fail
      refine (bfind_none p K R x y z _ HN0.out).mono ?_
      rintro e w1 ⟨rfl, hb1⟩
      have HS1 := hide (HS0.out.keep hlt hb1)
      have HB1 := hide (below_then HB0.out hb1)
      clear hb1
      obtain ⟨c0, c1, c2, c3, c4, c5, c6, _⟩ := HS1.out
      go_wp2_with fail
      refine (rbfind_none K R x y z _).mono ?_
      rintro e w2 ⟨rfl, hb2⟩
      go_wp2_with fail
      go_ret
      exact ⟨rfl, below_then HB1.out hb2⟩
    · have hb2 : (k == 2) = false := by rw [beq_eq_false_iff_ne]; exact h2
      by_cases h3 : k = 3
      · subst h3
        clear h1 hb1 h2 hb2
        have eqg := eq_same 0 0 0
        go_enter Try.func22, Try.ntmps22
        go_wp2_with fail
        refine (bget_none p s _ HN0.out).mono ?_
        rintro e w1 ⟨rfl, hb1⟩
        have HS1 := hide ((HS0.out.keep hlt hb1).keep hlt ((Below.refl _ _).alloc (Nat.le_refl _) (.cells #[.int .i64 0, .int .i64 0, .int .u32 0, .int .u32 0, .int .u32 0] 25)))
        have HB1 := hide ((below_then HB0.out hb1).alloc (below_then HB0.out hb1).size (.cells #[.int .i64 0, .int .i64 0, .int .u32 0, .int .u32 0, .int .u32 0] 25))
        clear hb1
        obtain ⟨c0, c1, c2, c3, c4, c5, c6, _⟩ := HS1.out
        have n0 := heap_alloc_new w1 (.cells #[.int .i64 0, .int .i64 0, .int .u32 0, .int .u32 0, .int .u32 0] 25)
        have hl1 : w1.heap.size < (w1.alloc (.cells #[.int .i64 0, .int .i64 0, .int .u32 0, .int .u32 0, .int .u32 0] 25)).heap.size := by simp
        go_wp2_with fail
        refine (rbget_none s _).mono ?_
        rintro e w2 ⟨rfl, hb2⟩
        have HB2 := hide (below_then HB1.out hb2)
        have d0 := bcell hb2 (b := w1.heap.size) (o := 0) hl1 (cell_of_row _ _ 0 _ _ (0, 0) n0)
        have d1 := bcell hb2 (b := w1.heap.size) (o := 1) hl1 (cell_of_row _ _ 1 _ _ (0, 0) n0)
        have d2 := bcell hb2 (b := w1.heap.size) (o := 2) hl1 (cell_of_row _ _ 2 _ _ (0, 0) n0)
        have d3 := bcell hb2 (b := w1.heap.size) (o := 3) hl1 (cell_of_row _ _ 3 _ _ (0, 0) n0)
        have d4 := bcell hb2 (b := w1.heap.size) (o := 4) hl1 (cell_of_row _ _ 4 _ _ (0, 0) n0)
        have hl2 : w1.heap.size < w2.heap.size := Nat.lt_of_lt_of_le hl1 hb2.size
        clear hb2 n0 c0 c1 c2 c3 c4 c5 c6
        go_wp2_with fail
        go_ret
        exact ⟨rfl, HB2.out.alloc HB2.out.size _⟩
      · have hb3 : (k == 3) = false := by rw [beq_eq_false_iff_ne]; exact h3
        by_cases h4 : k = 4
        · subst h4
          clear h1 hb1 h2 hb2 h3 hb3
          have HA := hide (ball_none p _ HN0.out)
          go_enter Try.func22, Try.ntmps22
          go_wp2_with fail
          refine HA.out.mono ?_
          rintro e w' ⟨rfl, rfl⟩
          go_wp2_with fail
          refine HA.out.mono ?_
          rintro e w' ⟨rfl, rfl⟩
          go_wp2_with fail
          refine (rball_none _).mono ?_
          rintro e w' ⟨rfl, rfl⟩
          go_wp2_with fail
          refine (names_none _).mono ?_
          rintro e w' ⟨rfl, rfl⟩
          go_wp2_with fail
          refine (rball_none _).mono ?_
          rintro e w' ⟨rfl, rfl⟩
          go_wp2_with fail
          refine (names_none _).mono ?_
          rintro e w' ⟨rfl, rfl⟩
          go_wp2_with fail
          go_loop [18] (fun i => i = .int .i64 0) (fun _ => 0)
          case atStart => rfl
          case round =>
            subst hrel
            go_wp2_with fail
            refine (rball_none _).mono ?_
            rintro e w' ⟨rfl, rfl⟩
            go_wp2_with fail
            refine (names_none _).mono ?_
            rintro e w' ⟨rfl, rfl⟩
            go_wp2_with fail
            go_ret
            exact ⟨rfl, HB0.out⟩
        · have hb4 : (k == 4) = false := by rw [beq_eq_false_iff_ne]; exact h4
          go_enter Try.func22, Try.ntmps22
          go_wp2_with fail
          go_ret
          exact ⟨rfl, HB0.out⟩
theorem COpAt.below {w w' : World} {b o : Nat} {k : Int} {s : ByteArray} {K R : Int} {x y z : Nat} (h : COpAt w b o k s K R x y z) (hb : Below w.heap.size w w') (hlt : b < w.heap.size) : COpAt w' b o k s K R x y z :=
  ⟨bcell hb hlt h.c0, bcell hb hlt h.c1, bcell hb hlt h.c2, bcell hb hlt h.c3, bcell hb hlt h.c4, bcell hb hlt h.c5, bcell hb hlt h.c6, h.small⟩
set_option maxRecDepth 100000 in
set_option maxHeartbeats 1000000 in
theorem law_cnil (ad : Option Addr) (len cap : Nat) (hl : len ≤ maxLen) (w : World) (hops : COpsA w ad len) :
    Calls Try.prog 7 #[.slice ad len cap] w fun e w' => e = .returned (.bool true) ∧ Below w.heap.size w w' := by
  have HOP := hide hops
  clear hops
  unfold maxLen at hl
  have HZ0 := hide (show NoBook (w.alloc (.cells #[.map none, .map none] 54)) (some ⟨w.heap.size, 0, none⟩) from .inr ⟨w.heap.size, rfl, by simp, cell_of_row _ w.heap.size 0 _ _ (0, 0) (heap_alloc_new w _)⟩)
  have HB0 := hide ((Below.refl w.heap.size w).alloc (Nat.le_refl _) (.cells #[.map none, .map none] 54))
  go_enter Try.func7, Try.ntmps7
  go_wp2_with fail
  go_loopw [5] (fun i u => ∃ k : Nat, k ≤ len ∧ i = .int .i64 k ∧ Hid (NoBook u (some ⟨w.heap.size, 0, none⟩)) ∧ Hid (Below w.heap.size w u)) (fun i _ => len - (intOf i).toNat)
  case atStart => exact ⟨0, by omega, rfl, HZ0, HB0⟩
  case round =>
    rename World => wr
    obtain ⟨k, hk, rfl, hz, hbl⟩ := hrel
    clear HZ0 HB0
    by_cases hlt : k < len
    · obtain ⟨b, off, had, hbw, kk, s, K, R, x, y, z, hop⟩ := HOP.out k hlt
      have hop1 := hop.below hbl.out hbw
      have HP := hide hop1
      have hb1 : b < wr.heap.size := Nat.lt_of_lt_of_le hbw hbl.out.size
      have HA := hide fun (p : Option Addr) (u : World) (h2 : NoBook u p) => basks_none p kk s K R x y z u h2
      obtain ⟨q0, q1, q2, q3, q4, q5, q6, _⟩ := hop1
      subst had
      clear hop
      go_wp2_with fail
      refine (HA.out none _ (.inl rfl)).mono ?_
      rintro e w2 ⟨rfl, hb2⟩
      have HZ2 := hide (hz.out.below hb2)
      have HP2 := hide (HP.out.below hb2 hb1)
      have HB2 := hide (below_then hbl.out hb2)
      clear hb2 q0 q1 q2 q3 q4 q5 q6
      obtain ⟨q0, q1, q2, q3, q4, q5, q6, _⟩ := HP2.out
      go_wp2_with fail
      refine (HA.out _ _ HZ2.out).mono ?_
      rintro e w3 ⟨rfl, hb3⟩
      have HZ3 := hide (HZ2.out.below hb3)
      have HB3 := hide (below_then HB2.out hb3)
      clear hb3 q0 q1 q2 q3 q4 q5 q6
      go_wp2_with fail
      go_roundw
      case rel => exact ⟨k + 1, by omega, by simp, HZ3, HB3⟩
      case measure => simp [intOf]; omega
    · obtain rfl : k = len := by omega
      go_wp2_with fail
      refine (knows_any _).mono ?_
      rintro e w2 ⟨rfl, hb2⟩
      go_wp2_with fail
      go_ret
      exact ⟨rfl, below_then hbl.out hb2⟩
end Go.Proofs.Ytfjaohadjmigoaa
