/- Books that nobody made: what they answer; asks of them. -/
import Derived.Test.YtfjaohadjmigoaaRows
import Derived.Test.YtfjaohadjmigoaaKnows
import Derived.Test.YtfjaohadjmigoaaOpenCops
import Derived.Deep.RegionHeld3
namespace Go.Proofs.Ytfjaohadjmigoaa
open Go.RowKit

/-- no book, or one that nobody made -/
def NoBook (w : World) (p : Option Addr) : Prop := p = none ∨ ∃ x, p = some ⟨x, 0, none⟩ ∧ x < w.heap.size ∧ w.cell? ⟨x, 0, none⟩ = some (.map none)
theorem NoBook.below {w w' : World} {p : Option Addr} (h : NoBook w p) (hb : Below w.heap.size w w') : NoBook w' p := by
  rcases h with h | ⟨x, h1, h2, h3⟩
  · exact .inl h
  · exact .inr ⟨x, h1, Nat.lt_of_lt_of_le h2 hb.size, bcell hb h2 h3⟩
theorem below_then {w u v : World} (h : Below w.heap.size w u) (h2 : Below u.heap.size u v) : Below w.heap.size w v := h.trans (h2.mono h.size)
theorem run_neq_map (w : World) : (binOp .neq 51 (.map none) (.map none)).run Try.prog w = .ok (.bool false) w := by kernel_rfl
theorem gbook_any (p : Option Addr) (w : World) (h : NoBook w p) :
    Calls Try.prog 42 #[.pointer p] w fun e w' => e = .returned (.bool false) ∧ w = w' := by
  rcases h with rfl | ⟨x, rfl, hlt, q0⟩
  · go_enter Try.func42, Try.ntmps42
    go_wp2_with fail
    go_ret
    exact ⟨rfl, rfl⟩
  · have hneq := run_neq_map
    clear hlt
    go_enter Try.func42, Try.ntmps42
    go_wp2_with fail
    go_ret
    exact ⟨rfl, rfl⟩
theorem badd_none (p : Option Addr) (s : ByteArray) (K R : Int) (x y z : Nat) (w : World) (h : NoBook w p) :
    Calls Try.prog 36 #[.pointer p, .string s, .agg #[.int .i64 K, .int .i64 R, .int .u32 x, .int .u32 y, .int .u32 z]] w fun e w' => e = .returned (.int .i64 1) ∧ Below w.heap.size w w' := by
  have HG := hide fun w h => gbook_any p w h
  have HN := hide h
  clear h
  go_enter Try.func36, Try.ntmps36
  go_wp2_with fail
  refine (HG.out _ (HN.out.below ((Below.refl _ _).alloc (Nat.le_refl _) _))).mono ?_
  rintro e w' ⟨rfl, rfl⟩
  go_wp2_with fail
  go_ret
  exact ⟨rfl, (Below.refl _ _).alloc (Nat.le_refl _) _⟩
theorem bfind_none (p : Option Addr) (K R : Int) (x y z : Nat) (w : World) (h : NoBook w p) :
    Calls Try.prog 38 #[.pointer p, .agg #[.int .i64 K, .int .i64 R, .int .u32 x, .int .u32 y, .int .u32 z]] w fun e w' => e = .returned (.tuple #[.string ⟨#[]⟩, .bool false]) ∧ Below w.heap.size w w' := by
  have HG := hide fun w h => gbook_any p w h
  have HN := hide h
  clear h
  go_enter Try.func38, Try.ntmps38
  go_wp2_with fail
  refine (HG.out _ (HN.out.below ((Below.refl _ _).alloc (Nat.le_refl _) _))).mono ?_
  rintro e w' ⟨rfl, rfl⟩
  go_wp2_with fail
  go_ret2
  exact ⟨rfl, (Below.refl _ _).alloc (Nat.le_refl _) _⟩
theorem bget_none (p : Option Addr) (s : ByteArray) (w : World) (h : NoBook w p) :
    Calls Try.prog 40 #[.pointer p, .string s] w fun e w' => e = .returned (.tuple #[.agg #[.int .i64 0, .int .i64 0, .int .u32 0, .int .u32 0, .int .u32 0], .bool false]) ∧ Below w.heap.size w w' := by
  have HG := hide fun w h => gbook_any p w h
  have HN := hide h
  clear h
  go_enter Try.func40, Try.ntmps40
  go_wp2_with fail
  refine (HG.out _ (HN.out.below ((Below.refl _ _).alloc (Nat.le_refl _) _))).mono ?_
  rintro e w' ⟨rfl, rfl⟩
  go_wp2_with fail
  refine bodyPost_ret (v := .tuple #[.agg #[.int .i64 0, .int .i64 0, .int .u32 0, .int .u32 0, .int .u32 0], .bool false]) (by simp [results, Try.results40, go_sem]) rfl ⟨rfl, ?_⟩
  exact (Below.refl _ _).alloc (Nat.le_refl _) _
theorem ball_none (p : Option Addr)  (w : World) (h : NoBook w p) :
    Calls Try.prog 25 #[.pointer p] w fun e w' => e = .returned (.slice none 0 0) ∧ w = w' := by
  have HG := hide fun w h => gbook_any p w h
  have HN := hide h
  clear h
  go_enter Try.func25, Try.ntmps25
  go_wp2_with fail
  refine (HG.out _ (HN.out)).mono ?_
  rintro e w' ⟨rfl, rfl⟩
  go_wp2_with fail
  go_ret
  exact ⟨rfl, rfl⟩
theorem rbadd_none (s : ByteArray) (K R : Int) (x y z : Nat) (w : World) :
    Calls Try.prog 37 #[.pointer none, .string s, .agg #[.int .i64 K, .int .i64 R, .int .u32 x, .int .u32 y, .int .u32 z]] w fun e w' => e = .returned (.int .i64 1) ∧ Below w.heap.size w w' := by
  go_enter Try.func37, Try.ntmps37
  go_wp2_with fail
  go_ret
  exact ⟨rfl, (Below.refl _ _).alloc (Nat.le_refl _) _⟩
theorem rbfind_none (K R : Int) (x y z : Nat) (w : World) :
    Calls Try.prog 39 #[.pointer none, .agg #[.int .i64 K, .int .i64 R, .int .u32 x, .int .u32 y, .int .u32 z]] w fun e w' => e = .returned (.tuple #[.string ⟨#[]⟩, .bool false]) ∧ Below w.heap.size w w' := by
  go_enter Try.func39, Try.ntmps39
  go_wp2_with fail
  go_loop [6] (fun i => i = .int .i64 0) (fun _ => 0)
  case atStart => rfl
  case round =>
    subst hrel
    go_wp2_with fail
    go_ret2
    exact ⟨rfl, (Below.refl _ _).alloc (Nat.le_refl _) _⟩
theorem rbget_none (s : ByteArray) (w : World) :
    Calls Try.prog 41 #[.pointer none, .string s] w fun e w' => e = .returned (.tuple #[.agg #[.int .i64 0, .int .i64 0, .int .u32 0, .int .u32 0, .int .u32 0], .bool false]) ∧ Below w.heap.size w w' := by
  go_enter Try.func41, Try.ntmps41
  go_wp2_with fail
  go_loop [6] (fun i => i = .int .i64 0) (fun _ => 0)
  case atStart => rfl
  case round =>
    subst hrel
    go_wp2_with fail
    refine bodyPost_ret (v := .tuple #[.agg #[.int .i64 0, .int .i64 0, .int .u32 0, .int .u32 0, .int .u32 0], .bool false]) (by simp [results, Try.results41, go_sem]) rfl ⟨rfl, ?_⟩
    exact (Below.refl _ _).alloc (Nat.le_refl _) _
theorem rball_none  (w : World) :
    Calls Try.prog 26 #[.pointer none] w fun e w' => e = .returned (.slice none 0 0) ∧ w = w' := by
  go_enter Try.func26, Try.ntmps26
  go_wp2_with fail
  go_loop [3, 4] (fun o i => o = .slice none 0 0 ∧ i = .int .i64 0) (fun _ _ => 0)
  case atStart => exact ⟨rfl, rfl⟩
  case round =>
    obtain ⟨rfl, rfl⟩ := hrel
    go_wp2_with fail
    go_ret
    exact ⟨rfl, rfl⟩
theorem names_none (w : World) :
    Calls Try.prog 24 #[.slice none 0 0, .slice none 0 0] w fun e w' => e = .returned (.bool true) ∧ w = w' := by
  go_enter Try.func24, Try.ntmps24
  go_wp2_with fail
  go_loop [5] (fun i => i = .int .i64 0) (fun _ => 0)
  case atStart => rfl
  case round =>
    subst hrel
    go_wp2_with fail
    go_ret
    exact ⟨rfl, rfl⟩
end Go.Proofs.Ytfjaohadjmigoaa
