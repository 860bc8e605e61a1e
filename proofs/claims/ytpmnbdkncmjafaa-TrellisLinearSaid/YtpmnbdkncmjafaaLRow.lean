/- outpostlaw07.row: bits out of any bytes. -/
import Derived.Test.YtpmnbdkncmjafaaRows
import Derived.Test.YtpmnbdkncmjafaaBytes
import Derived.Test.YtpmnbdkncmjafaaCode
import Derived.OwnWalk
namespace Go.Proofs.Ytpmnbdkncmjafaa
open Go.RowKit

theorem andLow8 (x : Nat) (h : x ≤ 255) : bits .and .u8 (x : Int) 1 = ((x % 2 : Nat) : Int) := by
  have := u8_and_nat x 1 (by omega) (by omega)
  rw [and1] at this
  exact this
/-- the lowest bits of the first k bytes, zeros behind -/
def lowK (xs : List Nat) (n k : Nat) : List Nat := ((xs.take k).map (· % 2)) ++ List.replicate (n - k) 0
theorem lowK_length {xs : List Nat} {n k : Nat} (hk : k ≤ n) (hn : n ≤ xs.length) : (lowK xs n k).length = n := by simp [lowK]; omega
theorem lowK_zero (xs : List Nat) (n : Nat) : lowK xs n 0 = List.replicate n 0 := by simp [lowK]
theorem lowK_full (xs : List Nat) (n : Nat) : lowK xs n n = (xs.take n).map (· % 2) := by simp [lowK]
theorem lowK_set {xs : List Nat} {n k : Nat} (hk : k < n) (hn : n ≤ xs.length) : (lowK xs n k).set k (xs.getD k 0 % 2) = lowK xs n (k + 1) := by
  unfold lowK
  have e : n - k = (n - (k + 1)) + 1 := by omega
  have hl : ((xs.take k).map (· % 2)).length = k := by simp; omega
  rw [List.set_append_right _ _ (by rw [hl]; exact Nat.le_refl _), hl, Nat.sub_self, e, List.replicate_succ, List.set_cons_zero, List.take_succ_eq_append_getElem (by omega), List.map_append, List.append_assoc]
  simp [List.getD, show k < xs.length by omega]
set_option maxHeartbeats 1000000 in
theorem lrow_any (ad : Option Addr) (cap n : Nat) (m : Int) (xs : List Nat) (hm : m = n) (hn : n ≤ xs.length) (h8 : ∀ i, i < xs.length → xs.getD i 0 ≤ 255) (hx : xs.length ≤ 140737488351232) (w : World) (hr : RowA w ad xs) :
    Calls Try.prog 24 #[.slice ad xs.length cap, .int .i64 m] w fun e w' => ∃ v, e = .returned v ∧ OwnB w' w.heap.size v ((xs.take n).map (· % 2)) ∧ Below w.heap.size w w' := by
  subst hm
  have HR := hide hr
  have H8 := hide h8
  have hmin : min (xs.length : Int) (n : Int) = n := by omega
  have hmin2 : ((n : Int) < (xs.length : Int)) ∨ n = xs.length := by omega
  clear hr h8
  go_enter Try.func24, Try.ntmps24
  go_wp2_with (first
    | (at_make; refine wpList_makeB rfl _ _ rfl w.heap.size _ _ n rfl rfl ?c1 ?c2 ?c3 ?c4 ?_)
    | go_in)
  case c1 => first | rfl | omega
  case c2 => first | rfl | omega
  case c3 => omega
  case c4 => exact Nat.le_refl _
  · intro w1 hown1 hg1 hz1
    have hb1 : Below w.heap.size w w1 := (Below.refl _ _).grown hg1 (Nat.le_refl _) (fun k e => by cases e)
    rw [← lowK_zero xs n] at hown1
    have HO := hide hown1
    have HB := hide hb1
    clear hown1 hg1 hb1
    go_wp2_with fail
    go_loopw [6] (fun i wr => ∃ k : Nat, k ≤ n ∧ i = .int .i64 k ∧ Hid (OwnB wr w.heap.size (.slice (some ⟨w.heap.size, 0, none⟩) n n) (lowK xs n k)) ∧ Hid (Below w.heap.size w wr)) (fun i _ => n - (intOf i).toNat)
    case atStart => exact ⟨0, by omega, rfl, HO, HB⟩
    case round =>
      rename_i wr _
      obtain ⟨k, hk, rfl, hown, hbl⟩ := hrel
      by_cases hlt : k < n
      · have hf := hown.out.frz (lowK_length (by omega) hn).symm k
        have hc0 := hown.out.cell (lowK_length (by omega) hn).symm hlt
        have hst := hown.out.set (lowK_length (by omega) hn).symm k (xs.getD k 0 % 2)
        rw [lowK_set hlt hn] at hst
        obtain ⟨b, off, rfl, hb, hck⟩ := (HR.out.below hbl.out).at_ (i := k) (by omega)
        have h1 := andLow8 _ (H8.out k (by omega))
        generalize xs.getD k 0 % 2 = z at *
        generalize xs.getD k 0 = y at *
        generalize (lowK xs n k).getD k 0 = u at *
        have HS := hide hst
        clear hst
        have hlt2 : (k : Int) < xs.length := by omega
        go_wp2_with fail
        go_roundw
        case rel => exact ⟨k + 1, by omega, by simp, HS.out.1, hbl.out.setCell (by simp) _⟩
        case measure => simp [intOf]; omega
      · obtain rfl : k = n := by omega
        rw [lowK_full] at hown
        go_wp2_with fail
        go_ret
        exact ⟨_, rfl, hown.out, hbl.out⟩
end Go.Proofs.Ytpmnbdkncmjafaa
