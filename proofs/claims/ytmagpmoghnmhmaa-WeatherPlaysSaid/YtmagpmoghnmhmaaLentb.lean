/- outpostlaw01.Lent, Stays, Spoil. -/
import Derived.Test.YtmagpmoghnmhmaaRows
import Derived.Test.YtmagpmoghnmhmaaBytes
import Derived.Test.YtmagpmoghnmhmaaBase
import Derived.BigQuiet
import Derived.Deep.QuietTactic
import Derived.Outline
namespace Go.Proofs.Ytmagpmoghnmhmaa
open Go.RowKit

def marksK (k : Nat) : List Nat := (List.range k).map fun i => 200 + i
theorem marksK_succ (k : Nat) : marksK (k + 1) = marksK k ++ [200 + k] := by simp [marksK, List.range_succ]
theorem marksK_length (k : Nat) : (marksK k).length = k := by simp [marksK]
/-- block L is a lent copy of xs: the marks behind it -/
def LentB (w : World) (B L cap : Nat) (xs : List Nat) : Prop := OwnB w B (.slice (some ⟨L, 0, none⟩) (xs.length + 8) cap) (xs ++ marksK 8)
set_option maxHeartbeats 1000000 in
theorem lent_any (ad : Option Addr) (c : Nat) (xs : List Nat) (hn : xs.length ≤ 140737488351232) (w : World) (hx : RowA w ad xs) :
    Calls Try.prog 31 #[.slice ad xs.length c] w fun e w' => ∃ L cap, e = .returned (.slice (some ⟨L, 0, none⟩) xs.length cap) ∧ LentB w' w.heap.size L cap xs ∧ Below w.heap.size w w' := by
  have HX := hide hx
  have h0 : OwnB (w.alloc (.cells #[] 5)) w.heap.size (.slice (some ⟨w.heap.size, 0, none⟩) 0 0) [] := World.ownsRow_lit w #[] 0 (Nat.le_refl _) (by unfold maxLen; omega) rfl
  have H0 := hide h0
  clear hx h0
  go_enter Try.func31, Try.ntmps31
  go_wp2_with (first
    | (at_builtin; refine wpList_appB rfl _ _ rfl w.heap.size _ [] rfl H0.out ad xs.length c xs rfl (HX.out.alloc _) rfl ?c1 ?c2 ?_)
    | go_in)
  case c1 => simp; omega
  case c2 => simp
  · intro v1 w1 hown1 hgrow1 _
    have hb1 : Below w.heap.size w w1 := ((Below.refl w.heap.size w).alloc (Nat.le_refl _) (.cells #[] 5)).grown hgrow1 (by simp) (fun k e => by simp [Value.ownBlock] at e; omega)
    go_wp2_with fail
    go_loopw [3, 4] (fun v i wr => ∃ k : Nat, k ≤ 8 ∧ i = .int .i64 k ∧ OwnB wr w.heap.size v (xs ++ marksK k) ∧ Below w.heap.size w wr) (fun _ i _ => 8 - (intOf i).toNat)
    case atStart => exact ⟨0, by omega, rfl, by simpa [marksK] using hown1, hb1⟩
    case round =>
      rename_i wr _
      obtain ⟨k, hk, rfl, hown, hbl⟩ := hrel
      by_cases hlt : k < 8
      · have hw : ((200 : Int) + k) % 256 = ((200 + k : Nat) : Int) := by omega
        have HB := hide hbl
        have HO := hide hown
        clear hbl hown
        go_wp2_with (first
          | (at_builtin; refine wpList_appB rfl _ _ rfl w.heap.size _ (xs ++ marksK k) rfl (HO.out.alloc _) (some ⟨wr.heap.size, 0, none⟩) 1 1 [200 + k] rfl ?c1 rfl ?c2 ?c3 ?_)
          | go_in)
        case c1 => exact fun _ => ⟨wr.heap.size, 0, rfl, by simp, fun i hi => by obtain rfl : i = 0 := by simp at hi; omega
                                                                                 simp [go_sem]⟩
        case c2 => simp [marksK_length]; omega
        case c3 => have := HB.out.size; simp; omega
        · intro v2 w2 hown2 hgrow2 _
          have hb2 : Below w.heap.size w w2 := (HB.out.alloc HB.out.size _).grown hgrow2 (by have := HB.out.size; simp; omega) (fun g e => (HO.out.lt e).1)
          go_wp2_with fail
          go_roundw
          case rel => exact ⟨k + 1, by omega, by simp, by rw [marksK_succ]; exact hown2, hb2⟩
          case measure => simp [intOf]; omega
      · obtain rfl : k = 8 := by omega
        have HB := hide hbl
        obtain ⟨g, cap, rfl, hg1, hg2, hg3, hg4⟩ := hown.full (by simp [marksK_length])
        have hg5 := hg3
        rw [List.length_append, marksK_length] at hown hg5
        have HO := hide hown
        have h5 : (xs.length : Int) ≤ cap := by omega
        clear hbl hown
        go_wp2_with fail
        go_ret
        refine ⟨g, cap, rfl, HO.out, HB.out⟩
theorem LentB.row {w : World} {B L cap : Nat} {xs : List Nat} (h : LentB w B L cap xs) : RowA w (some ⟨L, 0, none⟩) (xs ++ marksK 8) := by
  have hl : (xs ++ marksK 8).length = xs.length + 8 := by rw [List.length_append, marksK_length]
  obtain ⟨ad, c, e, hr⟩ := OwnB.row h
  simp only [Value.slice.injEq] at e
  rw [e.1]; exact hr
theorem LentB.rowx {w : World} {B L cap : Nat} {xs : List Nat} (h : LentB w B L cap xs) : RowA w (some ⟨L, 0, none⟩) xs := by
  have := h.row.take xs.length
  rwa [List.take_left] at this
theorem LentB.lt {w : World} {B L cap : Nat} {xs : List Nat} (h : LentB w B L cap xs) : B ≤ L ∧ L < w.heap.size ∧ xs.length + 8 ≤ cap ∧ cap ≤ maxLen := by
  have hl : (xs ++ marksK 8).length = xs.length + 8 := by rw [List.length_append, marksK_length]
  obtain ⟨g, c, e, h1, h2, h3, h4⟩ := OwnB.full h (by omega)
  simp only [Value.slice.injEq, Option.some.injEq, Addr.mk.injEq, and_true] at e
  rw [hl] at h3
  omega
theorem marks_at (k : Nat) (h : k < 8) (xs : List Nat) : (xs ++ marksK 8).getD (xs.length + k) 0 = 200 + k := by
  simp [List.getD, List.getElem?_append_right, marksK, List.getElem?_range h]
set_option maxHeartbeats 1000000 in
theorem stays_any (ad : Option Addr) (c B L cap : Nat) (xs : List Nat) (hn : xs.length ≤ 140737488351232) (w : World) (hL : LentB w B L cap xs) (hx : RowA w ad xs) :
    Calls Try.prog 33 #[.slice (some ⟨L, 0, none⟩) xs.length cap, .slice ad xs.length c] w fun e w' => e = .returned (.bool true) ∧ ∃ n, w' = w.drewN n := by
  have hlt := hL.lt
  have hcap : (xs.length : Int) + 8 ≤ cap := by omega
  have hcap2 : (xs.length : Int) ≤ cap := by omega
  clear hlt
  have HR1 := hide hL.rowx
  have HR2 := hide hx
  have HM := hide fun k (hk : k < 8) => show w.cell? ⟨L, xs.length + k, none⟩ = some (.int .u8 (200 + (k : Int))) by
    obtain ⟨b, off, e, _, hc⟩ := hL.row.at_ (i := xs.length + k) (by rw [List.length_append, marksK_length]; omega)
    simp only [Option.some.injEq, Addr.mk.injEq, and_true] at e
    obtain ⟨rfl, rfl⟩ := e
    rw [Nat.zero_add] at hc
    rw [hc, marks_at k hk, Int.natCast_add]; rfl
  have hn2 : (xs.length : Int) ≤ 9223372036854775799 := by omega
  clear hx hL hn
  go_enter Try.func33, Try.ntmps33
  go_wp2_with fail
  go_loop [6] (fun i => ∃ k : Nat, k ≤ 8 ∧ i = .int .i64 k) (fun i => 8 - (intOf i).toNat)
  case atStart => exact ⟨0, by omega, rfl⟩
  case round =>
    obtain ⟨k, hk, rfl⟩ := hrel
    by_cases hlt : k < 8
    · have hw : ((200 : Int) + k) % 256 = 200 + k := by omega
      have hck := HM.out k hlt
      go_wp2_with fail
      go_round
      case rel => exact ⟨k + 1, by omega, by simp⟩
      case measure => simp [intOf]; omega
    · go_wp2_with fail
      have cv1 := fun n => RowA.conv (w := w.drewN n) HR1.out cap
      have cv2 := fun n => RowA.conv (w := w.drewN n) HR2.out c
      go_quiet (fail)
      go_wp2_with fail
      go_ret
      exact ⟨rfl, _, rfl⟩
theorem xor85 (x : Nat) (h : x ≤ 255) : bits .xor .u8 (x : Int) 85 = ((x ^^^ 85 : Nat) : Int) := u8_xor_nat x 85 (by omega) (by omega)
set_option maxHeartbeats 1000000 in
theorem spoil_any (B L cap : Nat) (xs : List Nat) (h8 : ∀ i, i < xs.length → xs.getD i 0 ≤ 255) (hn : xs.length ≤ 140737488351232) (w : World) (hL : LentB w B L cap xs) :
    Calls Try.prog 34 #[.slice (some ⟨L, 0, none⟩) xs.length cap] w fun e w' => e = .returned (.tuple #[]) ∧ w.grownBy w' (some L) := by
  have HL := hide hL
  have H8 := hide h8
  clear hL h8
  go_enter Try.func34, Try.ntmps34
  go_wp2_with fail
  go_loopw [2] (fun i wr => ∃ (k : Nat) (ys : List Value), k ≤ xs.length ∧ i = .int .i64 k ∧ wr.ownsRow B 5 1 (.slice (some ⟨L, 0, none⟩) (xs.length + 8) cap) (xs.length + 8) ys ∧ w.grownBy wr (some L) ∧ Hid (∀ i, k ≤ i → i < xs.length → wr.cell? ⟨L, i, none⟩ = some (.int .u8 (xs.getD i 0 : Nat)))) (fun i _ => xs.length - (intOf i).toNat)
  case atStart => exact ⟨0, _, by omega, rfl, by have := HL.out; unfold LentB OwnB at this; rwa [List.length_append, marksK_length] at this, World.grownBy.refl _ _, hide fun i _ hi => by
    obtain ⟨b, off, e, _, hc⟩ := HL.out.rowx.at_ hi
    simp only [Option.some.injEq, Addr.mk.injEq, and_true] at e
    obtain ⟨rfl, rfl⟩ := e
    rw [Nat.zero_add] at hc
    exact hc⟩
  case round =>
    obtain ⟨k, ys, hk, rfl, hown, hg, hcell⟩ := hrel
    by_cases hlt : k < xs.length
    · have hck := hcell.out k (Nat.le_refl _) hlt
      have hfk := hown.frozenAt k
      have h85 := xor85 (xs.getD k 0) (H8.out k hlt)
      have hst := hown.stored k (.int .u8 ((xs.getD k 0 ^^^ 85 : Nat) : Int))
      generalize xs.getD k 0 ^^^ 85 = z at *
      generalize xs.getD k 0 = y at *
      have HO := hide hown
      have HG := hide hg
      have HS := hide hst
      clear hst hg hown
      go_wp2_with fail
      go_roundw
      case rel =>
        refine ⟨k + 1, _, by omega, by simp, HS.out.1, World.grownBy.trans HG.out HS.out.2, hide fun i h1 h2 => ?_⟩
        have hne : (⟨L, k, none⟩ : Addr) ≠ ⟨L, i, none⟩ := fun e => by cases e; omega
        rw [World.cell?_setCell_other _ _ _ _ hne]
        exact hcell.out i (by omega) h2
      case measure => simp [intOf]; omega
    · go_wp2_with fail
      go_end0
      exact ⟨rfl, hg⟩
end Go.Proofs.Ytmagpmoghnmhmaa
