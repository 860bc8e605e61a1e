/- bitrow.columns, Shuffle, Unshuffle, walked. -/
import Derived.Test.YtlbfndibgojbiaaRows
import Derived.Test.YtlbfndibgojbiaaSpan
import Derived.Test.YtlbfndibgojbiaaShufM
namespace Go.Proofs.Ytlbfndibgojbiaa
open Go.RowKit

/-- how many columns -/
def colC (n r : Nat) : Nat := (n + r - 1) / r
theorem colC_pos {n r : Nat} (hn : 0 < n) (hr : 0 < r) : 0 < colC n r ∧ colC n r ≤ n := by
  unfold colC
  refine ⟨Nat.div_pos (by omega) hr, ?_⟩
  rcases Nat.lt_or_ge r 2 with h | h
  · have : r = 1 := by omega
    subst this
    simp
  · have h1 : (n + r - 1) / r ≤ (n * r) / r := Nat.div_le_div_right (by
      have : n * 1 ≤ n * (r - 1) := Nat.mul_le_mul_left n (by omega)
      have e : n * r = n * (r - 1) + n := by
        obtain ⟨s, rfl⟩ : ∃ s, r = s + 1 := ⟨r - 1, by omega⟩
        rw [Nat.add_sub_cancel, Nat.mul_succ]
      have : r - 1 ≤ n * (r - 1) := Nat.le_mul_of_pos_left _ hn
      omega)
    rwa [Nat.mul_div_cancel _ hr] at h1
theorem colC_int (n r : Nat) (hn : 0 < n ∨ 0 < r) : ((n : Int) + r - 1).tdiv r = (colC n r : Nat) := by
  unfold colC
  rw [Int.tdiv_eq_ediv_of_nonneg (by omega)]
  have : ((n : Int) + r - 1) = ((n + r - 1 : Nat) : Int) := by omega
  rw [this]
  simp
/-- what the source of places holds ahead of its k-th answer -/
def colSt (n c : Nat) : Nat → Nat × Nat
  | 0 => (0, 0)
  | k + 1 => ((ordS n c k).1, (ordS n c k).2 + c)
/-- the boxes of a source of places -/
structure ColS (u : World) (b n c : Nat) (s : Nat × Nat) : Prop where
  b0 : BoxAt u b (.int .i64 n)
  b1 : BoxAt u (b + 1) (.int .i64 c)
  b2 : BoxAt u (b + 2) (.int .i64 s.1)
  b3 : BoxAt u (b + 3) (.int .i64 s.2)
section
variable {u v : World} {b n c : Nat} {s : Nat × Nat}
theorem ColS.keep (h : ColS u b n c s) (hk : ∀ j, b ≤ j → j < b + 4 → v.heap[j]? = u.heap[j]?) : ColS v b n c s :=
  ⟨h.b0.keep (hk _ (by omega) (by omega)), h.b1.keep (hk _ (by omega) (by omega)), h.b2.keep (hk _ (by omega) (by omega)), h.b3.keep (hk _ (by omega) (by omega))⟩
theorem ColS.lt (h : ColS u b n c s) : b + 4 ≤ u.heap.size := by have := h.b3.lt; omega
theorem ColS.next (h : ColS u b n c s) (a : Nat) : ColS (u.setCell ⟨b + 3, 0, none⟩ (.int .i64 (a : Nat))) b n c (s.1, a) :=
  ⟨h.b0.far (by simp) _, h.b1.far (by simp) _, h.b2.far (by simp) _, h.b3.set _⟩
theorem ColS.col (h : ColS u b n c s) (j : Nat) : ColS (u.setCell ⟨b + 2, 0, none⟩ (.int .i64 (j : Nat))) b n c (j, s.2) :=
  ⟨h.b0.far (by simp) _, h.b1.far (by simp) _, h.b2.set _, h.b3.far (by simp) _⟩
end
theorem size_al (u : World) (o : Obj) : (u.alloc o).heap.size = u.heap.size + 1 := by simp
set_option maxHeartbeats 1000000 in
theorem columns_any (n r : Nat) (hn : n ≤ 140737488351232) (hcl : colC n r ≤ 140737488351232) (hr : 1 ≤ r ∧ r ≤ 64) (w : World) :
    Calls Try.prog 81 #[.int .i64 n, .int .i64 r] w fun e w' => e = .returned (.func (.func 96) #[] #[.pointer (some ⟨w.heap.size + 3, 0, none⟩), .pointer (some ⟨w.heap.size, 0, none⟩), .pointer (some ⟨w.heap.size + 2, 0, none⟩), .pointer (some ⟨w.heap.size + 1, 0, none⟩)]) ∧ ColS w' w.heap.size n (colC n r) (0, 0) ∧ Below w.heap.size w w' := by
  have hmf : ∀ (fn : Fn) (first cap : Array Value) (w : World), (Instr.makeFunc fn first cap).run Try.prog w = .ok (.func fn first cap) w := fun _ _ _ _ => rfl
  have hd := colC_int n r (.inr hr.1)
  obtain ⟨h1, h2⟩ := hr
  generalize colC n r = c at *
  go_enter Try.func81, Try.ntmps81
  go_wp2_with fail
  go_ret
  refine ⟨by simp, ⟨?_, ?_, ?_, ?_⟩, ?_⟩
  · exact (((BoxAt.new w _ _).alloc _).alloc _).alloc _
  · have h := BoxAt.new (w.alloc (.cells #[.int .i64 n] 3)) (.int .i64 c) 3
    simp only [size_al] at h
    exact (h.alloc _).alloc _
  · have h := BoxAt.new ((w.alloc (.cells #[.int .i64 n] 3)).alloc (.cells #[.int .i64 c] 3)) (.int .i64 0) 3
    simp only [size_al] at h
    exact h.alloc _
  · have h := BoxAt.new (((w.alloc (.cells #[.int .i64 n] 3)).alloc (.cells #[.int .i64 c] 3)).alloc (.cells #[.int .i64 0] 3)) (.int .i64 0) 3
    simp only [size_al] at h
    exact h
  · exact ((((Below.refl _ _).alloc (Nat.le_refl _) _).alloc (by simp) _).alloc (by simp; omega) _).alloc (by simp; omega) _
theorem colSt_succ (n c k : Nat) (h : (colSt n c k).2 < n → ordS n c k = colSt n c k) (h2 : ¬ (colSt n c k).2 < n → ordS n c k = ((colSt n c k).1 + 1, (colSt n c k).1 + 1)) : colSt n c (k + 1) = if (colSt n c k).2 < n then ((colSt n c k).1, (colSt n c k).2 + c) else ((colSt n c k).1 + 1, (colSt n c k).1 + 1 + c) := by
  show ((ordS n c k).1, (ordS n c k).2 + c) = _
  split
  · rw [h ‹_›]
  · rw [h2 ‹_›]
theorem colSt_ord {n c k : Nat} (hk : k < n) : ordS n c k = if (colSt n c k).2 < n then colSt n c k else ((colSt n c k).1 + 1, (colSt n c k).1 + 1) := by
  cases k with
  | zero => simp [ordS, colSt, hk]
  | succ k => rfl
set_option maxHeartbeats 1000000 in
theorem cnext_any (b n c k : Nat) (hn : n ≤ 140737488351232) (hc : 0 < c) (hcn : c ≤ n) (hk : k < n) (w : World) (h : ColS w b n c (colSt n c k)) :
    Calls Try.prog 96 #[.pointer (some ⟨b + 3, 0, none⟩), .pointer (some ⟨b, 0, none⟩), .pointer (some ⟨b + 2, 0, none⟩), .pointer (some ⟨b + 1, 0, none⟩)] w fun e w' => e = .returned (.int .i64 (ord n c k : Nat)) ∧ ColS w' b n c (colSt n c (k + 1)) ∧ Span b (b + 4) w w' := by
  have h1 := ord_lt hc hcn hk
  have h2 := (ordS_inv hc hcn k hk).2.2.1
  have h3 := colSt_ord (c := c) hk
  have h4 : colSt n c (k + 1) = ((ordS n c k).1, ord n c k + c) := rfl
  have h5 : (ordS n c k).2 = ord n c k := rfl
  rw [h4]
  clear h4
  generalize ordS n c k = o at *
  generalize ord n c k = p at *
  generalize colSt n c k = s at *
  obtain ⟨o1, o2⟩ := o
  obtain ⟨s1, s2⟩ := s
  simp only at h1 h2 h3 h5
  subst h5
  have HS := hide h
  have q0 := h.b0.cell
  have q1 := h.b1.cell
  have q2 := h.b2.cell
  have q3 := h.b3.cell
  have f2 := h.b2.frz
  have f3 := h.b3.frz
  simp only at q2 q3
  clear h
  by_cases hs : s2 < n
  · rw [if_pos hs] at h3
    simp only [Prod.mk.injEq] at h3
    obtain ⟨rfl, rfl⟩ := h3
    have hN := hide (HS.out.next (o2 + c))
    have hSp := hide ((Span.refl b (b + 4) w).set (b := b + 3) (by omega) 0 (.int .i64 ((o2 + c : Nat) : Int)))
    have hd : decide ((n : Int) ≤ o2) = false := decide_eq_false (by omega)
    go_enter Try.func96, Try.ntmps96
    go_wp2_with fail
    go_loopw [] (fun u => u = w) (fun _ => 0)
    case atStart => rfl
    case round =>
      subst hrel
      go_wp2_with fail
      go_ret
      exact ⟨rfl, hN.out, hSp.out⟩
  · rw [if_neg hs] at h3
    simp only [Prod.mk.injEq] at h3
    obtain ⟨rfl, rfl⟩ := h3
    have hd : decide ((n : Int) ≤ s2) = true := decide_eq_true (by omega)
    obtain ⟨W, hW⟩ : ∃ W, W = (w.setCell ⟨b + 2, 0, none⟩ (.int .i64 ((s1 + 1 : Nat) : Int))).setCell ⟨b + 3, 0, none⟩ (.int .i64 ((s1 + 1 : Nat) : Int)) := ⟨_, rfl⟩
    have hcs : ColS W b n c (s1 + 1, s1 + 1) := by rw [hW]; exact (HS.out.col (s1 + 1)).next (s1 + 1)
    have hsp : Span b (b + 4) w W := by rw [hW]; exact ((Span.refl b (b + 4) w).set (b := b + 2) (by omega) 0 _).set (b := b + 3) (by omega) 0 _
    have HN := hide (hcs.next (s1 + 1 + c))
    have HSp := hide (hsp.set (b := b + 3) (by omega) 0 (.int .i64 ((s1 + 1 + c : Nat) : Int)))
    have HW := hide hW
    have r0 := hcs.b0.cell
    have r1 := hcs.b1.cell
    have r2 := hcs.b2.cell
    have r3 := hcs.b3.cell
    have g3 := hcs.b3.frz
    have hd2 : decide ((n : Int) ≤ ((s1 + 1 : Nat) : Int)) = false := decide_eq_false (by omega)
    simp only at r2 r3
    clear hcs hsp hW
    go_enter Try.func96, Try.ntmps96
    go_wp2_with fail
    go_loopw [] (fun u => u = w ∨ u = W) (fun u => match u.cell? ⟨b + 3, 0, none⟩ with | some (.int _ a) => if a < n then 0 else 1 | _ => 1)
    case atStart => exact .inl rfl
    case round =>
      rcases hrel with rfl | rfl
      · go_wp2_with fail
        go_roundw
        case rel => exact .inr (by rw [HW.out]; rfl)
        case measure =>
          have e := r3
          rw [HW.out] at e
          have hq := q3
          simp only [Int.natCast_add, Int.cast_ofNat_Int] at e ⊢
          rw [hq]
          refine Nat.lt_of_le_of_lt (m := 0) (Nat.le_of_eq ?_) (by show 0 < if ((s2 : Nat) : Int) < n then 0 else 1; rw [if_neg (by omega)]; omega)
          erw [e]
          exact if_pos (by omega)
      · go_wp2_with fail
        go_ret
        exact ⟨rfl, HN.out, HSp.out⟩
/-- a row shuffled, and back -/
def shufL (r : Nat) (xs : List Nat) : List Nat := (List.range xs.length).map fun k => xs.getD (ord xs.length (colC xs.length r) k) 0
def unshL (r : Nat) (xs : List Nat) : List Nat := (List.range xs.length).map fun p => xs.getD (pos xs.length (colC xs.length r) p) 0
def unshK (n c : Nat) (xs : List Nat) (k : Nat) : List Nat := (List.range n).map fun p => if pos n c p < k then xs.getD (pos n c p) 0 else 0
theorem unshK_length (n c : Nat) (xs : List Nat) (k : Nat) : (unshK n c xs k).length = n := by simp [unshK]
theorem unshK_zero (n c : Nat) (xs : List Nat) : unshK n c xs 0 = List.replicate n 0 := by
  apply List.ext_getElem <;> simp [unshK]
theorem unshK_full {n c : Nat} (hc : 0 < c) (xs : List Nat) : unshK n c xs n = (List.range n).map fun p => xs.getD (pos n c p) 0 := by
  apply List.ext_getElem
  · simp [unshK]
  · intro i h1 h2
    simp only [unshK_length] at h1
    simp only [unshK, List.getElem_map, List.getElem_range]
    rw [if_pos (pos_lt hc h1)]
theorem unshK_set {n c k : Nat} (hc : 0 < c) (hcn : c ≤ n) (hk : k < n) (xs : List Nat) : (unshK n c xs k).set (ord n c k) (xs.getD k 0) = unshK n c xs (k + 1) := by
  apply List.ext_getElem
  · simp [unshK]
  · intro i h1 h2
    simp only [List.length_set, unshK_length] at h1
    rw [List.getElem_set]
    simp only [unshK, List.getElem_map, List.getElem_range]
    split
    · rename_i e
      subst e
      rw [pos_ord hc hcn hk, if_pos (by omega)]
    · rename_i e
      by_cases h3 : pos n c i < k
      · rw [if_pos h3, if_pos (by omega)]
      · rw [if_neg h3, if_neg]
        intro h4
        have h5 : pos n c i = k := by omega
        exact e (by rw [← h5, ord_pos hc hcn h1])
set_option maxRecDepth 100000 in
set_option maxHeartbeats 2000000 in
theorem shuf_ok (r : Nat) (hr : 1 ≤ r ∧ r ≤ 64) (ad : Option Addr) (cap : Nat) (xs : List Nat) (hl : xs.length ≤ 140737488351232) (w : World) (hx : RowA w ad xs) :
    Calls Try.prog 57 #[.slice ad xs.length cap, .int .i64 r] w fun e w' => ∃ v, e = .returned (.tuple #[v, .int .i64 0]) ∧ OwnB w' w.heap.size v (shufL r xs) ∧ Below w.heap.size w w' := by
  have hcl : colC xs.length r ≤ 140737488351232 := by
    rcases Nat.eq_zero_or_pos xs.length with h | h
    · rw [h]
      unfold colC
      rw [Nat.div_eq_of_lt (by omega)]
      omega
    · exact Nat.le_trans (colC_pos h hr.1).2 hl
  have HC := hide (columns_any xs.length r hl hcl hr)
  have HP := hide fun (h : 0 < xs.length) => colC_pos h hr.1
  have HR := hide hx
  obtain ⟨r1, r64⟩ := hr
  have dl : decide ((r : Int) < 1) = false := decide_eq_false (by omega)
  have dh : decide ((64 : Int) < r) = false := decide_eq_false (by omega)
  unfold shufL
  generalize colC xs.length r = c at *
  clear hx
  go_enter Try.func57, Try.ntmps57
  go_wp2_with fail
  refine (HC.out _).mono ?_
  rintro e w1 ⟨rfl, hs1, hb1⟩
  have HS1 := hide hs1
  have HB1 := hide hb1
  have hlt1 := hs1.lt
  clear hs1 hb1
  go_wp2_with (first
    | (at_make; refine wpList_makeB rfl _ _ rfl w1.heap.size _ _ xs.length rfl rfl ?c1 ?c2 ?c3 ?c4 ?_)
    | go_in)
  case c1 => rfl
  case c2 => rfl
  case c3 => omega
  case c4 => exact Nat.le_refl _
  intro w2 hown2 hgrow2 hz2
  have HO2 := hide (show OwnB w2 w1.heap.size (.slice (some ⟨w1.heap.size, 0, none⟩) xs.length xs.length) (fillK (fun k => xs.getD (ord xs.length c k) 0) xs.length 0) by rw [fillK_zero]; exact hown2)
  have HS2 := hide (show ColS w2 w.heap.size xs.length c (colSt xs.length c 0) from HS1.out.keep (fun j h1 h2 => hgrow2.block j (by omega) (by simp)))
  have HB2 := hide (HB1.out.grown hgrow2 HB1.out.size (fun k e => by cases e))
  clear hown2 hgrow2
  go_wp2_with fail
  go_loopw [24] (fun i u => ∃ k : Nat, k ≤ xs.length ∧ i = .int .i64 k ∧ Hid (OwnB u w1.heap.size (.slice (some ⟨w1.heap.size, 0, none⟩) xs.length xs.length) (fillK (fun k => xs.getD (ord xs.length c k) 0) xs.length k)) ∧ Hid (ColS u w.heap.size xs.length c (colSt xs.length c k)) ∧ Hid (Below w.heap.size w u)) (fun i _ => xs.length - (intOf i).toNat)
  case atStart => exact ⟨0, by omega, rfl, HO2, HS2, HB2⟩
  case round =>
    rename World => wr
    obtain ⟨k, hk, rfl, ho, hs, hb⟩ := hrel
    clear HO2 HS2 HB2
    by_cases hlt : k < xs.length
    · obtain ⟨hc0, hcn⟩ := HP.out (by omega)
      have HN := hide (cnext_any w.heap.size xs.length c k hl hc0 hcn hlt wr hs.out)
      have hol := ord_lt hc0 hcn hlt
      have HF := hide (fillK_set (f := fun k => xs.getD (ord xs.length c k) 0) hlt)
      generalize hoe : ord xs.length c k = o at *
      have HOE := hide hoe
      clear hoe
      go_wp2_with fail
      refine HN.out.mono ?_
      rintro e w3 ⟨rfl, hs3, hsp⟩
      have ho3 := OwnB.span ho.out hsp hlt1
      have HB3 := hide (hsp.toBelow hb.out (Nat.le_refl _) hb.out.size)
      obtain ⟨b, off, rfl, _, hc⟩ := (HR.out.below HB3.out).at_ hol
      have hcg := ho3.cell (fillK_length hk).symm hlt
      have hfz := ho3.frz (fillK_length hk).symm k
      have hset := (ho3.set (fillK_length hk).symm k (xs.getD o 0)).1
      have hF := HF.out
      rw [hF] at hset
      have HO4 := hide hset
      have HS4 := hide (hs3.keep (v := w3.setCell ⟨w1.heap.size, k, none⟩ (.int .u8 (xs.getD o 0 : Nat))) (fun j h1 h2 => Below.heap_setCell _ _ _ _ (by simp; omega)))
      have HB4 := hide (HB3.out.setCell (p := ⟨w1.heap.size, k, none⟩) HB1.out.size (.int .u8 (xs.getD o 0 : Nat)))
      have hin : (0 : Int) ≤ k := by omega
      have hin2 : (k : Int) < xs.length := by omega
      have hin3 : (o : Int) < xs.length := by omega
      clear hs3 hsp ho3 hset hF
      generalize xs.getD o 0 = y at *
      go_wp2_with fail
      go_roundw
      case rel => exact ⟨k + 1, by omega, by simp, HO4, HS4, HB4⟩
      case measure => simp [intOf]; omega
    · obtain rfl : k = xs.length := by omega
      go_wp2_with fail
      go_ret2
      exact ⟨_, rfl, by have := ho.out; rw [fillK_full] at this; exact OwnB.mono this HB1.out.size, hb.out⟩
set_option maxRecDepth 100000 in
set_option maxHeartbeats 2000000 in
theorem unsh_ok (r : Nat) (hr : 1 ≤ r ∧ r ≤ 64) (ad : Option Addr) (cap : Nat) (xs : List Nat) (hl : xs.length ≤ 140737488351232) (w : World) (hx : RowA w ad xs) :
    Calls Try.prog 54 #[.slice ad xs.length cap, .int .i64 r] w fun e w' => ∃ v, e = .returned (.tuple #[v, .int .i64 0]) ∧ OwnB w' w.heap.size v (unshL r xs) ∧ Below w.heap.size w w' := by
  have hcl : colC xs.length r ≤ 140737488351232 := by
    rcases Nat.eq_zero_or_pos xs.length with h | h
    · rw [h]
      unfold colC
      rw [Nat.div_eq_of_lt (by omega)]
      omega
    · exact Nat.le_trans (colC_pos h hr.1).2 hl
  have HC := hide (columns_any xs.length r hl hcl hr)
  have HP := hide fun (h : 0 < xs.length) => colC_pos h hr.1
  have HR := hide hx
  obtain ⟨r1, r64⟩ := hr
  have dl : decide ((r : Int) < 1) = false := decide_eq_false (by omega)
  have dh : decide ((64 : Int) < r) = false := decide_eq_false (by omega)
  unfold unshL
  generalize colC xs.length r = c at *
  clear hx
  go_enter Try.func54, Try.ntmps54
  go_wp2_with fail
  refine (HC.out _).mono ?_
  rintro e w1 ⟨rfl, hs1, hb1⟩
  have HS1 := hide hs1
  have HB1 := hide hb1
  have hlt1 := hs1.lt
  clear hs1 hb1
  go_wp2_with (first
    | (at_make; refine wpList_makeB rfl _ _ rfl w1.heap.size _ _ xs.length rfl rfl ?c1 ?c2 ?c3 ?c4 ?_)
    | go_in)
  case c1 => rfl
  case c2 => rfl
  case c3 => omega
  case c4 => exact Nat.le_refl _
  intro w2 hown2 hgrow2 hz2
  have HO2 := hide (show OwnB w2 w1.heap.size (.slice (some ⟨w1.heap.size, 0, none⟩) xs.length xs.length) (unshK xs.length c xs 0) by rw [unshK_zero]; exact hown2)
  have HS2 := hide (show ColS w2 w.heap.size xs.length c (colSt xs.length c 0) from HS1.out.keep (fun j h1 h2 => hgrow2.block j (by omega) (by simp)))
  have HB2 := hide (HB1.out.grown hgrow2 HB1.out.size (fun k e => by cases e))
  clear hown2 hgrow2
  go_wp2_with fail
  go_loopw [24] (fun i u => ∃ k : Nat, k ≤ xs.length ∧ i = .int .i64 k ∧ Hid (OwnB u w1.heap.size (.slice (some ⟨w1.heap.size, 0, none⟩) xs.length xs.length) (unshK xs.length c xs k)) ∧ Hid (ColS u w.heap.size xs.length c (colSt xs.length c k)) ∧ Hid (Below w.heap.size w u)) (fun i _ => xs.length - (intOf i).toNat)
  case atStart => exact ⟨0, by omega, rfl, HO2, HS2, HB2⟩
  case round =>
    rename World => wr
    obtain ⟨k, hk, rfl, ho, hs, hb⟩ := hrel
    clear HO2 HS2 HB2
    by_cases hlt : k < xs.length
    · obtain ⟨hc0, hcn⟩ := HP.out (by omega)
      have HN := hide (cnext_any w.heap.size xs.length c k hl hc0 hcn hlt wr.drew (hs.out.keep (fun _ _ _ => rfl)))
      have hol := ord_lt hc0 hcn hlt
      have HF := hide (unshK_set hc0 hcn hlt xs)
      obtain ⟨b, off, rfl, hbw, hc⟩ := (HR.out.below hb.out).at_ hlt
      obtain ⟨b', off', e', hb0, _⟩ := HR.out.at_ hlt
      cases e'
      have HBW := hide (show b < w.heap.size from hb0)
      generalize hoe : ord xs.length c k = o at *
      clear hoe
      have hin : (0 : Int) ≤ k := by omega
      have hin2 : (k : Int) < xs.length := by omega
      have hin3 : (o : Int) < xs.length := by omega
      have hin4 : (0 : Int) ≤ o := by omega
      have HC3 := hide fun (w3 : World) (hsp : Span w.heap.size (w.heap.size + 4) wr.drew w3) => hsp.cell (b := b) (o := off + k) hbw (.inl HBW.out) hc
      have HL := hide (show (unshK xs.length c xs k).length = xs.length from unshK_length _ _ _ _)
      have HO := hide ho.out
      have HFZ := hide fun (w3 : World) (hsp : Span w.heap.size (w.heap.size + 4) wr.drew w3) => (OwnB.span (w := wr.drew) (OwnB.keep (w' := wr.drew) HO.out fun _ _ => rfl) hsp hlt1).frz (HL.out.symm) o
      have HCG := hide fun (w3 : World) (hsp : Span w.heap.size (w.heap.size + 4) wr.drew w3) => (OwnB.span (w := wr.drew) (OwnB.keep (w' := wr.drew) HO.out fun _ _ => rfl) hsp hlt1).cell (HL.out.symm) hol
      generalize xs.getD k 0 = y at *
      go_wp2_with fail
      go_region_with (go_at_call 96; refine HN.out.mono ?_; rintro e w3 ⟨rfl, hs3, hsp⟩; have hc3 := HC3.out w3 hsp; have hfz := HFZ.out w3 hsp; have hcg := HCG.out w3 hsp)
      all_goals (
        have hset := ((OwnB.span (w := wr.drew) (OwnB.keep (w' := wr.drew) HO.out fun _ _ => rfl) hsp hlt1).set (HL.out.symm) o y).1
        rw [HF.out] at hset
        have HO4 := hide hset
        have HS4 := hide (hs3.keep (v := w3.setCell ⟨w1.heap.size, o, none⟩ (.int .u8 (y : Nat))) (fun j h1 h2 => Below.heap_setCell _ _ _ _ (by simp; omega)))
        have HB4 := hide ((hsp.toBelow hb.out.drew (Nat.le_refl _) hb.out.size).setCell (p := ⟨w1.heap.size, o, none⟩) HB1.out.size (.int .u8 (y : Nat)))
        clear hset hs3 hsp
        go_wp2_with fail
        go_roundw
        case rel => exact ⟨k + 1, by omega, by simp, HO4, HS4, HB4⟩
        case measure => simp [intOf]; omega)
    · obtain rfl : k = xs.length := by omega
      go_wp2_with fail
      go_ret2
      refine ⟨_, rfl, ?_, hb.out⟩
      rcases Nat.eq_zero_or_pos xs.length with h0 | h0
      · have := ho.out
        have e1 : unshK xs.length c xs xs.length = (List.range xs.length).map fun p => xs.getD (pos xs.length c p) 0 := by
          rw [h0]; rfl
        rw [e1] at this
        exact OwnB.mono this HB1.out.size
      · have := ho.out
        rw [unshK_full (HP.out h0).1] at this
        exact OwnB.mono this HB1.out.size
end Go.Proofs.Ytlbfndibgojbiaa
