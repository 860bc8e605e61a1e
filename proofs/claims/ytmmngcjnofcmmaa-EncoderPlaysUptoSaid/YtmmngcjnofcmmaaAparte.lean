/- outpostlaw01.mark, and rows that are marked. -/
import Derived.Test.YtmmngcjnofcmmaaRows
import Derived.Test.YtmmngcjnofcmmaaApSe
import Derived.StillTailTactics
import Derived.BigQuiet
import Derived.Deep.QuietTactic
import Derived.Deep.DeepCutAuto
namespace Go.Proofs.Ytmmngcjnofcmmaa
open Go.RowKit

theorem quiet_eq {P : Program} {f : FuncId} {args : Array Value} {w : World} {n : Nat} {v : Value}
    (h : Calls P f args (w.drewN n) fun e w' => e = .returned v ∧ w.drewN n = w') : Calls P f args (w.drewN n) fun e w'' => e = .returned v ∧ ∃ m, w'' = w.drewN m :=
  h.mono fun _ _ ⟨he, hm⟩ => ⟨he, n, hm.symm⟩

/-- the mark of a place -/
def markN (i j : Nat) : Nat := (31 * i + 7 * j + 1) % 256
set_option maxHeartbeats 400000 in
theorem mark_any (i j : Nat) (hi : i ≤ 1048576) (hj : j ≤ 140737488355328) (w : World) :
    Calls Try.prog 48 #[.int .i64 i, .int .i64 j] w fun e w' => e = .returned (.int .u8 (markN i j : Nat)) ∧ w = w' := by
  have he : ((31 : Int) * i + 7 * j + 1) % 256 = (markN i j : Nat) := by unfold markN; omega
  go_enter Try.func48, Try.ntmps48
  go_wp2_with fail
  go_ret
  exact ⟨rfl, rfl⟩
theorem mark_still (i j : Nat) (hi : i ≤ 1048576) (hj : j ≤ 140737488355328) (w : World) :
    Calls Try.prog 48 #[.int .i64 i, .int .i64 j] w fun e w' => e = .returned (.int .u8 (markN i j : Nat)) ∧ w' = w :=
  (mark_any i j hi hj w).mono fun _ _ h => ⟨h.1, h.2.symm⟩
/-- a row of which m places are marked -/
def markK (i m : Nat) (xs : List Nat) : List Nat := (List.range m).map (markN i) ++ xs.drop m
theorem markK_zero (i : Nat) (xs : List Nat) : markK i 0 xs = xs := by simp [markK]
theorem markK_length {i m : Nat} {xs : List Nat} (h : m ≤ xs.length) : (markK i m xs).length = xs.length := by simp [markK]; omega
theorem markK_set {i m : Nat} {xs : List Nat} (h : m < xs.length) : (markK i m xs).set m (markN i m) = markK i (m + 1) xs := by
  unfold markK
  have hl : ((List.range m).map (markN i)).length = m := by simp
  rw [List.set_append_right _ _ (by rw [hl]; exact Nat.le_refl _), hl, Nat.sub_self, List.drop_eq_getElem_cons h, List.set_cons_zero, List.range_succ, List.map_append, List.append_assoc]
  rfl
theorem markK_at {i j : Nat} {xs : List Nat} (h : j < xs.length) : (markK i xs.length xs).getD j 0 = markN i j := by
  unfold markK
  simp [List.getD, h]
end Go.Proofs.Ytmmngcjnofcmmaa
