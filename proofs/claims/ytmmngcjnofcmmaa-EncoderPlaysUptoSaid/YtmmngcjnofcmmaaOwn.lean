/- num, same, own, kept of outpostlaw06. -/
import Derived.Test.YtmmngcjnofcmmaaRows
import Derived.Test.YtmmngcjnofcmmaaBytes
import Derived.Test.YtmmngcjnofcmmaaCode
import Derived.BigQuiet
import Derived.Deep.QuietTactic
import Derived.Deep.DeepCutAuto
namespace Go.Proofs.Ytmmngcjnofcmmaa
open Go.RowKit

theorem num_any (x : Int) (w : World) :
    Calls Try.prog 17 #[.int .i64 x] w fun e w' => e = .returned (.int .i64 x) ∧ w = w' := by
  go_enter Try.func17, Try.ntmps17
  go_wp2_with fail
  go_ret
  exact ⟨rfl, rfl⟩
/-- are two rows the same, as Go tells it -/
def sameB (xs ys : List Nat) : Bool := (strN xs).toList == (strN ys).toList
theorem sameB_self (xs : List Nat) : sameB xs xs = true := by unfold sameB; exact beq_self_eq_true _
set_option maxHeartbeats 400000 in
theorem same_any (a b : Option Addr) (c d n m : Nat) (xs ys : List Nat) (hn : n = xs.length) (hm : m = ys.length) (w : World) (hx : RowA w a xs) (hy : RowA w b ys) :
    Calls Try.prog 18 #[.slice a n c, .slice b m d] w fun e w' => e = .returned (.bool (sameB xs ys)) ∧ w = w' := by
  subst hn hm
  have c1 := hx.conv c
  have c2 := hy.conv d
  have e : ((strN xs).toList == (strN ys).toList) = sameB xs ys := rfl
  generalize strN xs = s1 at *
  generalize strN ys = s2 at *
  generalize sameB xs ys = b0 at *
  clear hx hy
  go_enter Try.func18, Try.ntmps18
  go_wp2_with fail
  go_ret
  exact ⟨rfl, rfl⟩
theorem same_yes (a b : Option Addr) (c d n m : Nat) (xs : List Nat) (hn : n = xs.length) (hm : m = xs.length) (w : World) (hx : RowA w a xs) (hy : RowA w b xs) :
    Calls Try.prog 18 #[.slice a n c, .slice b m d] w fun e w' => e = .returned (.bool true) ∧ w = w' := by
  have h := same_any a b c d n m xs xs hn hm w hx hy
  rw [sameB_self] at h
  exact h
/-- block L is a copy of xs with two marks behind -/
def OwnedB (w : World) (B L cap : Nat) (xs : List Nat) : Prop := OwnB w B (.slice (some ⟨L, 0, none⟩) (xs.length + 2) cap) (xs ++ [201, 202])
section
variable {w w' : World} {B L cap : Nat} {xs : List Nat}
theorem OwnedB.lt (h : OwnedB w B L cap xs) : B ≤ L ∧ L < w.heap.size ∧ xs.length + 2 ≤ cap ∧ cap ≤ maxLen := by
  obtain ⟨g, c, e, h1, h2, h3, h4⟩ := OwnB.full h (by simp)
  simp only [Value.slice.injEq, Option.some.injEq, Addr.mk.injEq, and_true] at e
  simp at h3
  omega
theorem OwnedB.row (h : OwnedB w B L cap xs) : RowA w (some ⟨L, 0, none⟩) (xs ++ [201, 202]) := by
  obtain ⟨ad, c, e, hr⟩ := OwnB.row h
  simp only [Value.slice.injEq] at e
  rw [e.1]; exact hr
theorem OwnedB.rowx (h : OwnedB w B L cap xs) : RowA w (some ⟨L, 0, none⟩) xs := by
  have := h.row.take xs.length
  rwa [List.take_left] at this
theorem OwnedB.below (h : OwnedB w B L cap xs) (hb : Below w.heap.size w w') : OwnedB w' B L cap xs := OwnB.below h hb
end
set_option maxHeartbeats 1000000 in
theorem own_any (ad : Option Addr) (c : Nat) (xs : List Nat) (hn : xs.length ≤ 140737488351232) (w : World) (hx : RowA w ad xs) :
    Calls Try.prog 15 #[.slice ad xs.length c] w fun e w' => ∃ L cap, e = .returned (.slice (some ⟨L, 0, none⟩) xs.length cap) ∧ OwnedB w' w.heap.size L cap xs ∧ Below w.heap.size w w' := by
  have HX := hide hx
  have h0 : OwnB (w.alloc (.cells #[] 5)) w.heap.size (.slice (some ⟨w.heap.size, 0, none⟩) 0 0) [] := World.ownsRow_lit w #[] 0 (Nat.le_refl _) (by unfold maxLen; omega) rfl
  have H0 := hide h0
  clear hx h0
  go_enter Try.func15, Try.ntmps15
  go_wp2_with (first
    | (at_builtin; refine wpList_appB rfl (.tmp 3) (.tmp 4) rfl w.heap.size _ [] rfl H0.out ad xs.length c xs rfl (HX.out.alloc _) rfl ?c1 ?c2 ?_)
    | go_in)
  case c1 => simp; omega
  case c2 => simp
  · intro v1 w1 hown1 hgrow1 _
    have hb1 : Below w.heap.size w w1 := ((Below.refl w.heap.size w).alloc (Nat.le_refl _) (.cells #[] 5)).grown hgrow1 (by simp) (fun k e => by simp [Value.ownBlock] at e; omega)
    have HB := hide hb1
    have HO := hide hown1
    have hl : v1.ownBlock = v1.ownBlock := rfl
    clear hgrow1 hb1 hown1 hl
    go_wp2_with (first
      | (at_builtin; refine wpList_appB rfl (.tmp 5) (.tmp 6) rfl w.heap.size _ xs rfl (HO.out.alloc _) (some ⟨w1.heap.size, 0, none⟩) 2 2 [201, 202] rfl ?d1 rfl ?d2 ?d3 ?_)
      | go_in)
    case d1 => exact fun _ => ⟨w1.heap.size, 0, rfl, by simp, fun i hi => by
      have : i = 0 ∨ i = 1 := by simp at hi; omega
      rcases this with rfl | rfl <;> simp [go_sem]⟩
    case d2 => simp; omega
    case d3 => have := HB.out.size; simp; omega
    · intro v2 w2 hown2 hgrow2 _
      have hb2 : Below w.heap.size w w2 := (HB.out.alloc HB.out.size _).grown hgrow2 (by have := HB.out.size; simp; omega) (fun g e => (HO.out.lt e).1)
      obtain ⟨g, cap, rfl, hg1, hg2, hg3, hg4⟩ := hown2.full (by simp)
      have hg5 := hg3
      rw [List.length_append] at hown2 hg5
      simp only [List.length_cons, List.length_nil, Nat.zero_add, Nat.reduceAdd] at hown2 hg5
      have HO2 := hide hown2
      have HB2 := hide hb2
      have h5 : (xs.length : Int) ≤ cap := by omega
      clear hown2 hb2 hgrow2 hg4 hg3
      go_wp2_with fail
      go_ret
      exact ⟨g, cap, rfl, HO2.out, HB2.out⟩
set_option maxHeartbeats 1000000 in
theorem kept_any (ad : Option Addr) (c B L cap : Nat) (xs : List Nat) (hn : xs.length ≤ 140737488351232) (w : World) (hL : OwnedB w B L cap xs) (hx : RowA w ad xs) :
    Calls Try.prog 27 #[.slice (some ⟨L, 0, none⟩) xs.length cap, .slice ad xs.length c] w fun e w' => e = .returned (.bool true) ∧ w = w' := by
  have hlt := hL.lt
  have hcap : (xs.length : Int) + 2 ≤ cap := by omega
  have hcap2 : (xs.length : Int) ≤ cap := by omega
  have HS := hide fun cp => same_yes (some ⟨L, 0, none⟩) ad cp c xs.length xs.length xs rfl rfl w hL.rowx hx
  have hat : ∀ k, k < xs.length + 2 → w.cell? ⟨L, k, none⟩ = some (.int .u8 ((xs ++ [201, 202]).getD k 0 : Nat)) := fun k hk => by
    obtain ⟨b, off, e, _, hc⟩ := hL.row.at_ (i := k) (by simpa using hk)
    simp only [Option.some.injEq, Addr.mk.injEq, and_true] at e
    obtain ⟨rfl, rfl⟩ := e
    rw [Nat.zero_add] at hc
    exact hc
  have c1 := hat xs.length (by omega)
  have c2 := hat (xs.length + 1) (by omega)
  have e1 : (xs ++ [201, 202]).getD xs.length 0 = 201 := by simp [List.getD]
  have e2 : (xs ++ [201, 202]).getD (xs.length + 1) 0 = 202 := by simp [List.getD]
  rw [e1] at c1
  rw [e2] at c2
  clear e1 e2
  have hn2 : (xs.length : Int) ≤ 9223372036854775799 := by omega
  clear hlt hat hx hL hn
  go_enter Try.func27, Try.ntmps27
  go_wp2_with fail
  refine (HS.out _).mono ?_
  rintro e w' ⟨rfl, rfl⟩
  go_wp2_with fail
  go_ret
  exact ⟨rfl, rfl⟩
end Go.Proofs.Ytmmngcjnofcmmaa
