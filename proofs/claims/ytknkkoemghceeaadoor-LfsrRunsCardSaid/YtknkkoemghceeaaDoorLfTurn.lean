/- lfsr.Whiten and lfsr.Turn, walked. -/
import Derived.Test.YtknkkoemghceeaaDoorRows
import Derived.Test.YtknkkoemghceeaaDoorLfBits
import Derived.StillTailTactics
import Derived.IntWalk
namespace Go.Proofs.YtknkkoemghceeaaDoor
open Go.RowKit

/-- a box holds one value -/
def BoxAt (u : World) (b : Nat) (v : Value) : Prop := ∃ ty, u.heap[b]? = some (.cells #[v] ty (0, 0))
section
variable {u u' : World} {b : Nat} {v : Value}
theorem BoxAt.cell (h : BoxAt u b v) : u.cell? ⟨b, 0, none⟩ = some v := by
  obtain ⟨ty, h⟩ := h
  exact cell_of_row u b 0 _ ty (0, 0) h
theorem BoxAt.lt (h : BoxAt u b v) : b < u.heap.size := by
  obtain ⟨ty, h⟩ := h
  exact (Array.getElem?_eq_some_iff.1 h).1
theorem BoxAt.keep (h : BoxAt u b v) (hk : u'.heap[b]? = u.heap[b]?) : BoxAt u' b v := by
  obtain ⟨ty, h⟩ := h
  exact ⟨ty, hk.trans h⟩
theorem BoxAt.below (h : BoxAt u b v) {B : Nat} (hb : Below B u u') (hl : b < B) : BoxAt u' b v := h.keep (hb.block b hl)
theorem BoxAt.grown (h : BoxAt u b v) {row : Option Nat} (hg : u.grownBy u' row) (hne : some b ≠ row) : BoxAt u' b v := h.keep (hg.block b h.lt hne)
theorem BoxAt.far (h : BoxAt u b v) {p : Addr} (hp : b ≠ p.block) (x : Value) : BoxAt (u.setCell p x) b v := h.keep (Below.heap_setCell _ _ _ _ hp)
theorem BoxAt.alloc (h : BoxAt u b v) (o : Obj) : BoxAt (u.alloc o) b v := h.keep (Below.heap_alloc _ _ _ h.lt)
theorem BoxAt.drew (h : BoxAt u b v) : BoxAt u.drew b v := h
theorem BoxAt.drewN (h : BoxAt u b v) (n : Nat) : BoxAt (u.drewN n) b v := h
end
theorem FillSt.drew {w u : World} {bo g1 m k : Nat} {f : Nat → Nat} (h : FillSt w u bo g1 m f k) : FillSt w u.drew bo g1 m f k := ⟨h.own.keep fun _ _ => rfl, h.box, h.below.drew⟩
theorem FillSt.set2 {w u : World} {bo g1 m k : Nat} {f : Nat → Nat} (h : FillSt w u bo g1 m f k) (hk : k < m) (hne : bo ≠ g1) (hg : w.heap.size ≤ g1) (x : Nat) :
    FillSt w (((u.setCell ⟨g1, k, none⟩ (.int .u8 (x : Nat))).drew).setCell ⟨g1, k, none⟩ (.int .u8 (f k : Nat))) bo g1 m f (k + 1) := by
  have hl := (fillK_length (f := f) (Nat.le_of_lt hk)).symm
  have h1 := (h.own.set hl k x).1
  have h2 : OwnB (u.setCell ⟨g1, k, none⟩ (.int .u8 (x : Nat))).drew w.heap.size (.slice (some ⟨g1, 0, none⟩) m m) ((fillK f m k).set k x) := h1.keep fun _ _ => rfl
  have h3 := (h2.set (by rw [List.length_set]; exact hl) k (f k)).1
  rw [List.set_set, fillK_set hk] at h3
  refine ⟨h3, ?_, ((h.below.setCell hg _).drew).setCell hg _⟩
  obtain ⟨ty, hb⟩ := h.box
  exact ⟨ty, (Below.heap_setCell _ _ _ _ hne).trans ((Below.heap_setCell u ⟨g1, k, none⟩ (.int .u8 (x : Nat)) _ hne).trans hb)⟩
/-- a bit of a sequence -/
def bitL (n T S k : Nat) : Nat := Gf2.stpN n T k S % 2
set_option maxRecDepth 100000 in
set_option maxHeartbeats 1000000 in
theorem whiten_one {w u1 : World} {bo g1 gr m k T S' br cp q y : Nat} {f : Nat → Nat} {D : Int} {ad : Option Addr} {xs : List Nat} (hS : FillSt w u1 bo g1 m f k) (hB : BoxAt u1 br (.slice ad m cp)) (hx : RowA u1 ad xs) (hm : m = xs.length)
    (hr : RegL u1 gr D T S') (hk : k < m) (hne : bo ≠ g1 ∧ gr ≠ g1 ∧ br ≠ g1) (hg : w.heap.size ≤ g1) (hq : q ≤ 1) (hy : xs.getD k 0 = y) (hy1 : y ≤ 1) (hf : f k = y ^^^ q) :
    Calls Tryd.prog 65 #[.int .i64 k, .int .u8 q, .pointer (some ⟨br, 0, none⟩), .pointer (some ⟨bo, 0, none⟩)] u1 fun e u2 => e = .returned (.tuple #[]) ∧ RegL u2 gr D T S' ∧ FillSt w u2 bo g1 m f (k + 1) ∧ BoxAt u2 br (.slice ad m cp) := by
  have hc := hS.cell
  have hc2 := hB.cell
  obtain ⟨ho, hfz⟩ := hS.out hk
  have HS := hide (hS.set hk hne.1 hg)
  rw [hf] at HS
  have HR := hide (hr.far (p := ⟨g1, k, none⟩) hne.2.1 (.int .u8 ((y ^^^ q : Nat) : Int)))
  have HBX := hide (hB.far (p := ⟨g1, k, none⟩) hne.2.2 (.int .u8 ((y ^^^ q : Nat) : Int)))
  obtain ⟨b, off, rfl, _, hcx⟩ := hx.at_ (i := k) (by omega)
  rw [hy] at hcx
  have h1 := xorU8 (a := y) (b := q) (by omega) (by omega)
  have hin : (0 : Int) ≤ k := by omega
  have hin2 : (k : Int) < m := by omega
  clear hS hr hB hx hf hy hm
  generalize y ^^^ q = z at *
  go_enter Tryd.func65, Tryd.ntmps65
  go_wp2_with fail
  go_still_tail 9, (by kernel_rfl)
  change wpList _ _ _ _ _ u1.drew
  go_wp2_with fail
  go_end0
  exact ⟨rfl, HR.out, HS.out.drew, HBX.out⟩
set_option maxRecDepth 100000 in
set_option maxHeartbeats 1000000 in
theorem turn_one {w u1 : World} {bo g1 gr m k T S' br cp q y bl L : Nat} {f : Nat → Nat} {D : Int} {ad : Option Addr} {xs : List Nat} (hS : FillSt w u1 bo g1 m f k) (hB : BoxAt u1 br (.slice ad m cp)) (hBL : BoxAt u1 bl (.int .i64 L)) (hx : RowA u1 ad xs) (hfar : ∀ b off, ad = some ⟨b, off, none⟩ → b ≠ g1) (hm : m = xs.length)
    (hr : RegL u1 gr D T S') (hk : k < m) (hne : bo ≠ g1 ∧ gr ≠ g1 ∧ br ≠ g1 ∧ bl ≠ g1) (hg : w.heap.size ≤ g1) (hq : q ≤ 1) (hL : 2 ≤ L ∧ L ≤ 16) (hy : xs.getD k 0 = y) (hy1 : y < L) (hf : f k = if q = 1 then L - 1 - y else y) :
    Calls Tryd.prog 66 #[.int .i64 k, .int .u8 q, .pointer (some ⟨br, 0, none⟩), .pointer (some ⟨bo, 0, none⟩), .pointer (some ⟨bl, 0, none⟩)] u1 fun e u2 => e = .returned (.tuple #[]) ∧ RegL u2 gr D T S' ∧ FillSt w u2 bo g1 m f (k + 1) ∧ BoxAt u2 br (.slice ad m cp) ∧ BoxAt u2 bl (.int .i64 L) := by
  have hc := hS.cell
  have hc2 := hB.cell
  have hc3 := hBL.cell
  obtain ⟨ho, hfz⟩ := hS.out hk
  have HX1 := hide (hx.keep (w' := (u1.setCell ⟨g1, k, none⟩ (.int .u8 (y : Nat))).drew) (by simp) (fun b off e _ => by
    have := hfar b off e
    exact Below.heap_setCell u1 ⟨g1, k, none⟩ _ _ this))
  have HR := hide (hr.far (p := ⟨g1, k, none⟩) hne.2.1 (.int .u8 (y : Nat)))
  have HBX := hide (hB.far (p := ⟨g1, k, none⟩) hne.2.2.1 (.int .u8 (y : Nat)))
  have HBL := hide (hBL.far (p := ⟨g1, k, none⟩) hne.2.2.2 (.int .u8 (y : Nat)))
  have HF := hide hS
  have HFK := hide hf
  obtain ⟨b, off, rfl, _, hcx⟩ := hx.at_ (i := k) (by omega)
  have hcx2 := HX1.out.at_ (i := k) (by omega)
  rw [hy] at hcx hcx2
  have hin : (0 : Int) ≤ k := by omega
  have hin2 : (k : Int) < m := by omega
  clear hS hr hB hx hf hBL hm hy
  go_enter Tryd.func66, Tryd.ntmps66
  go_wp2_with fail
  go_still_tail 7, (by kernel_rfl)
  change wpList _ _ _ _ _ u1.drew
  by_cases h1 : q = 1
  · subst h1
    have HS := hide (HF.out.set2 hk hne.1 hg y)
    have hz : L - 1 - y ≤ 255 := by omega
    have HR2 := hide ((show RegL (u1.setCell ⟨g1, k, none⟩ (.int .u8 (y : Nat))).drew gr D T S' from HR.out).far (p := ⟨g1, k, none⟩) hne.2.1 (.int .u8 ((L - 1 - y : Nat) : Int)))
    have HBX2 := hide (HBX.out.drew.far (p := ⟨g1, k, none⟩) hne.2.2.1 (.int .u8 ((L - 1 - y : Nat) : Int)))
    have HBL2 := hide (HBL.out.drew.far (p := ⟨g1, k, none⟩) hne.2.2.2 (.int .u8 ((L - 1 - y : Nat) : Int)))
    rw [HFK.out, if_pos rfl] at HS
    have e3 : IntKind.u8.wrap (((L : Int) - 1) - y) = ((L - 1 - y : Nat) : Int) := by rw [IntKind.wrap_u8]; omega
    have e1 : IntKind.i64.wrap ((L : Int) - 1) = (L : Int) - 1 := IntWalk.i64_in _ (by omega)
    have e2 : IntKind.u8.wrap ((L : Int) - 1) = (L : Int) - 1 := IntWalk.u8_in _ (by omega)
    have hl := (fillK_length (f := f) (Nat.le_of_lt hk)).symm
    have o1 := (HF.out.own.set hl k y).1
    have p0 : (u1.setCell ⟨g1, k, none⟩ (.int .u8 (y : Nat))).drew.cell? ⟨g1, k, none⟩ = some (.int .u8 (((fillK f m k).set k y).getD k 0 : Nat)) := o1.cell (by rw [List.length_set]; exact hl) hk
    have p1 : (u1.setCell ⟨g1, k, none⟩ (.int .u8 (y : Nat))).drew.frozen? ⟨g1, k, none⟩ = false := o1.frz (by rw [List.length_set]; exact hl) k
    have p2 : (u1.setCell ⟨g1, k, none⟩ (.int .u8 (y : Nat))).drew.cell? ⟨bo, 0, none⟩ = some (.slice (some ⟨g1, 0, none⟩) m m) := by
      obtain ⟨ty, hb⟩ := HF.out.box
      exact cell_of_row _ bo 0 _ ty (0, 0) ((Below.heap_setCell u1 ⟨g1, k, none⟩ (.int .u8 (y : Nat)) _ hne.1).trans hb)
    have p3 := HBX.out.drew.cell
    have p4 := HBL.out.drew.cell
    obtain ⟨b', off', e', _, p5⟩ := hcx2
    simp only [Option.some.injEq, Addr.mk.injEq, and_true] at e'
    obtain ⟨rfl, rfl⟩ := e'
    generalize ((fillK f m k).set k y).getD k 0 = yy at *
    clear o1 HX1 HF HFK HR HBX HBL hne hfar hl hg
    go_wp2_with fail
    change Code.wp _ _ _ _ (u1.setCell ⟨g1, k, none⟩ (.int .u8 (y : Nat))).drew
    generalize (u1.setCell ⟨g1, k, none⟩ (.int .u8 (y : Nat))).drew = W1 at *
    clear hc hc2 hc3 ho hfz hcx
    go_still_tail 11, (by kernel_rfl)
    change wpList _ _ _ _ _ W1.drew
    go_wp2_with fail
    go_end0
    exact ⟨rfl, HR2.out, HS.out.drew, HBX2.out, HBL2.out⟩
  · have HS := hide (HF.out.set hk hne.1 hg)
    rw [HFK.out, if_neg h1] at HS
    obtain rfl : q = 0 := by omega
    go_wp2_with fail
    go_end0
    exact ⟨rfl, HR.out, HS.out.drew, HBX.out, HBL.out⟩
/-- a row, whitened -/
def whiteL (n T S : Nat) (xs : List Nat) : List Nat := (List.range xs.length).map fun i => xs.getD i 0 ^^^ (Gf2.stpN n T i S % 2)
/-- a row of levels, turned -/
def turnL (n T S L : Nat) (xs : List Nat) : List Nat := (List.range xs.length).map fun i => if Gf2.stpN n T i S % 2 = 1 then L - 1 - xs.getD i 0 else xs.getD i 0
theorem whiteL_length (n T S : Nat) (xs : List Nat) : (whiteL n T S xs).length = xs.length := by simp [whiteL]
theorem turnL_length (n T S L : Nat) (xs : List Nat) : (turnL n T S L xs).length = xs.length := by simp [turnL]
theorem whiteL_at (n T S : Nat) (xs : List Nat) {i : Nat} (h : i < xs.length) : (whiteL n T S xs).getD i 0 = xs.getD i 0 ^^^ (Gf2.stpN n T i S % 2) := by simp [whiteL, List.getD, h]
theorem turnL_at (n T S L : Nat) (xs : List Nat) {i : Nat} (h : i < xs.length) : (turnL n T S L xs).getD i 0 = if Gf2.stpN n T i S % 2 = 1 then L - 1 - xs.getD i 0 else xs.getD i 0 := by simp [turnL, List.getD, h]
theorem ext_getD {xs ys : List Nat} (hl : xs.length = ys.length) (h : ∀ i, i < xs.length → xs.getD i 0 = ys.getD i 0) : xs = ys := by
  refine List.ext_getElem hl fun i h1 h2 => ?_
  have := h i h1
  simpa [List.getD, h1, h2] using this
theorem xor_le1 {a b : Nat} (ha : a ≤ 1) (hb : b ≤ 1) : a ^^^ b ≤ 1 := by
  have h1 : a = 0 ∨ a = 1 := by omega
  have h2 : b = 0 ∨ b = 1 := by omega
  rcases h1 with rfl | rfl <;> rcases h2 with rfl | rfl <;> decide
theorem whiteL_le (n T S : Nat) (xs : List Nat) (h : ∀ i, i < xs.length → xs.getD i 0 ≤ 1) : ∀ i, i < (whiteL n T S xs).length → (whiteL n T S xs).getD i 0 ≤ 1 := fun i hi => by
  rw [whiteL_length] at hi
  rw [whiteL_at _ _ _ _ hi]
  exact xor_le1 (h i hi) (by omega)
theorem whiteL_back (n T S : Nat) (xs : List Nat) : whiteL n T S (whiteL n T S xs) = xs := by
  refine ext_getD (by simp [whiteL_length]) fun i hi => ?_
  rw [whiteL_length, whiteL_length] at hi
  rw [whiteL_at _ _ _ _ (by rw [whiteL_length]; exact hi), whiteL_at _ _ _ _ hi, Nat.xor_assoc, Nat.xor_self, Nat.xor_zero]
theorem turnL_lt (n T S L : Nat) (xs : List Nat) (h : ∀ i, i < xs.length → xs.getD i 0 < L) : ∀ i, i < (turnL n T S L xs).length → (turnL n T S L xs).getD i 0 < L := fun i hi => by
  rw [turnL_length] at hi
  rw [turnL_at _ _ _ _ _ hi]
  have := h i hi
  split <;> omega
theorem turnL_back (n T S L : Nat) (xs : List Nat) (h : ∀ i, i < xs.length → xs.getD i 0 < L) : turnL n T S L (turnL n T S L xs) = xs := by
  refine ext_getD (by simp [turnL_length]) fun i hi => ?_
  rw [turnL_length, turnL_length] at hi
  have h1 := h i hi
  rw [turnL_at _ _ _ _ _ (by rw [turnL_length]; exact hi), turnL_at _ _ _ _ _ hi]
  split <;> omega
/-- the first place where a row is not as it should be -/
theorem first_bad {P : Nat → Prop} [DecidablePred P] {m : Nat} (h : ¬ ∀ i, i < m → P i) : ∃ j, j < m ∧ ¬ P j ∧ ∀ i, i < j → P i := by
  have h2 : ∃ j, j < m ∧ ¬ P j := by
    refine Classical.byContradiction fun hc => h fun i hi => Classical.byContradiction fun hp => hc ⟨i, hi, hp⟩
  obtain ⟨j, hj, hmin⟩ := Gf2.least_of (P := fun j => j < m ∧ ¬ P j) h2
  exact ⟨j, hj.1, hj.2, fun i hi => Classical.byContradiction fun hp => hmin i hi ⟨by omega, hp⟩⟩
theorem below_three {w u : World} {o1 o2 o3 : Obj} (h : Below (((w.alloc o1).alloc o2).alloc o3).heap.size (((w.alloc o1).alloc o2).alloc o3) u) : Below w.heap.size w u := below_then ((((Below.refl _ _).alloc (Nat.le_refl _) _).alloc (by simp) _).alloc (by simp; omega) _) h
set_option maxHeartbeats 400000 in
theorem lwhiten_bad (D : Int) (T S : Nat) (hT : T ≤ 18446744073709551615) (hS : S ≤ 18446744073709551615) (hne : lchk D T S ≠ 0) (ad : Option Addr) (m cp : Nat) (w : World) :
    Calls Tryd.prog 41 #[.agg #[.int .i64 D, .int .u64 T, .int .u64 S], .slice ad m cp] w fun e w' => e = .returned (.tuple #[.slice none 0 0, .int .i64 (lchk D T S)]) ∧ Below w.heap.size w w' := by
  have HC := hide (lseries_bad D T S hT hS hne)
  have hb := nzBne hne
  generalize lchk D T S = cf at *
  clear hne
  go_enter Tryd.func41, Tryd.ntmps41
  go_wp2_with fail
  refine (HC.out _).mono ?_
  rintro e w1 ⟨rfl, hb1⟩
  go_wp2_with fail
  go_ret2
  exact ⟨rfl, below_two hb1⟩
set_option maxHeartbeats 400000 in
theorem lturn_bad (D : Int) (T S : Nat) (hT : T ≤ 18446744073709551615) (hS : S ≤ 18446744073709551615) (hne : lchk D T S ≠ 0) (L : Int) (ad : Option Addr) (m cp : Nat) (w : World) :
    Calls Tryd.prog 44 #[.agg #[.int .i64 D, .int .u64 T, .int .u64 S], .int .i64 L, .slice ad m cp] w fun e w' => e = .returned (.tuple #[.slice none 0 0, .int .i64 (lchk D T S)]) ∧ Below w.heap.size w w' := by
  have HC := hide (lseries_bad D T S hT hS hne)
  have hb := nzBne hne
  generalize lchk D T S = cf at *
  clear hne
  go_enter Tryd.func44, Tryd.ntmps44
  go_wp2_with fail
  refine (HC.out _).mono ?_
  rintro e w1 ⟨rfl, hb1⟩
  go_wp2_with fail
  go_ret2
  exact ⟨rfl, below_three hb1⟩
set_option maxHeartbeats 400000 in
theorem lturn_arg (n T S : Nat) (hg : GoodL n T S) (L : Int) (hL : L < 2 ∨ 16 < L) (ad : Option Addr) (m cp : Nat) (w : World) :
    Calls Tryd.prog 44 #[.agg #[.int .i64 n, .int .u64 T, .int .u64 S], .int .i64 L, .slice ad m cp] w fun e w' => e = .returned (.tuple #[.slice none 0 0, .int .i64 1]) ∧ Below w.heap.size w w' := by
  have HC := hide (lseries_good n T S hg)
  clear hg
  go_enter Tryd.func44, Tryd.ntmps44
  go_wp2_with fail
  refine (HC.out _).mono ?_
  rintro e w1 ⟨g, rfl, -, -, hb1⟩
  have c1 := bcell hb1 (b := w.heap.size + 1) (o := 0) (v := .int .i64 L) (by simp) (by simp [go_sem])
  rcases hL with hL | hL
  · have hd : decide (L < 2) = true := decide_eq_true hL
    go_wp2_with fail
    go_ret2
    exact ⟨rfl, below_three hb1⟩
  · have hd : decide (L < 2) = false := decide_eq_false (by omega)
    have hd2 : decide (16 < L) = true := decide_eq_true hL
    go_wp2_with fail
    go_ret2
    exact ⟨rfl, below_three hb1⟩
set_option maxRecDepth 100000 in
set_option maxHeartbeats 1000000 in
theorem lwhiten_err (n T S : Nat) (hg : GoodL n T S) (ad : Option Addr) (cp : Nat) (xs : List Nat) (hl : xs.length ≤ 140737488351232) (hx : ¬ ∀ i, i < xs.length → xs.getD i 0 ≤ 1) (w : World) (hr : RowA w ad xs) :
    Calls Tryd.prog 41 #[.agg #[.int .i64 n, .int .u64 T, .int .u64 S], .slice ad xs.length cp] w fun e w' => e = .returned (.tuple #[.slice none 0 0, .int .i64 10]) ∧ Below w.heap.size w w' := by
  have HC := hide (lseries_good n T S hg)
  obtain ⟨j, hj, hjb, hjo⟩ := first_bad hx
  have HO := hide hjo
  have HR := hide hr
  clear hg hx hjo hr
  go_enter Tryd.func41, Tryd.ntmps41
  go_wp2_with fail
  refine (HC.out _).mono ?_
  rintro e w1 ⟨g, rfl, -, -, hb1⟩
  have c1 := bcell hb1 (b := w.heap.size + 1) (o := 0) (v := .slice ad xs.length cp) (by simp) (by simp [go_sem])
  have HB1 := hide (below_two hb1)
  have HR1 := hide (HR.out.below HB1.out)
  clear hb1
  go_wp2_with fail
  go_loop [21] (fun i => ∃ k : Nat, k ≤ j ∧ i = .int .i64 k) (fun i => xs.length - (intOf i).toNat)
  case atStart => exact ⟨0, by omega, rfl⟩
  case round =>
    obtain ⟨k, hk, rfl⟩ := hrel
    obtain ⟨b, off, rfl, _, hc⟩ := HR1.out.at_ (i := k) (by omega)
    have hlt : (k : Int) < xs.length := by omega
    by_cases he : k = j
    · subst he
      generalize xs.getD k 0 = y at *
      go_wp2_with fail
      go_ret2
      exact ⟨rfl, HB1.out⟩
    · have h1 := HO.out k (by omega)
      generalize xs.getD k 0 = y at *
      go_wp2_with fail
      go_round
      case rel => exact ⟨k + 1, by omega, by simp⟩
      case measure => simp [intOf]; omega
set_option maxRecDepth 100000 in
set_option maxHeartbeats 1000000 in
theorem lturn_err (n T S L : Nat) (hg : GoodL n T S) (hL : 2 ≤ L ∧ L ≤ 16) (ad : Option Addr) (cp : Nat) (xs : List Nat) (hl : xs.length ≤ 140737488351232) (h8 : ∀ i, xs.getD i 0 ≤ 255) (hx : ¬ ∀ i, i < xs.length → xs.getD i 0 < L) (w : World) (hr : RowA w ad xs) :
    Calls Tryd.prog 44 #[.agg #[.int .i64 n, .int .u64 T, .int .u64 S], .int .i64 L, .slice ad xs.length cp] w fun e w' => e = .returned (.tuple #[.slice none 0 0, .int .i64 91]) ∧ Below w.heap.size w w' := by
  have HC := hide (lseries_good n T S hg)
  obtain ⟨j, hj, hjb, hjo⟩ := first_bad hx
  have HO := hide hjo
  have H8 := hide h8
  have HR := hide hr
  obtain ⟨l2, l16⟩ := hL
  have dl : decide ((L : Int) < 2) = false := by simp; omega
  have dh : decide ((16 : Int) < L) = false := by simp; omega
  clear h8 hg hx hjo hr
  go_enter Tryd.func44, Tryd.ntmps44
  go_wp2_with fail
  refine (HC.out _).mono ?_
  rintro e w1 ⟨g, rfl, -, -, hb1⟩
  have c0 := bcell hb1 (b := w.heap.size + 1) (o := 0) (v := .int .i64 L) (by simp) (by simp [go_sem])
  have c1 := bcell hb1 (b := w.heap.size + 2) (o := 0) (v := .slice ad xs.length cp) (by simp) (by simp [go_sem])
  have HB1 := hide (below_three hb1)
  have HR1 := hide (HR.out.below HB1.out)
  clear hb1
  go_wp2_with fail
  go_loop [29] (fun i => ∃ k : Nat, k ≤ j ∧ i = .int .i64 k) (fun i => xs.length - (intOf i).toNat)
  case atStart => exact ⟨0, by omega, rfl⟩
  case round =>
    obtain ⟨k, hk, rfl⟩ := hrel
    obtain ⟨b, off, rfl, _, hc⟩ := HR1.out.at_ (i := k) (by omega)
    have hlt : (k : Int) < xs.length := by omega
    have h8k := H8.out k
    by_cases he : k = j
    · subst he
      generalize xs.getD k 0 = y at *
      go_wp2_with fail
      go_ret2
      exact ⟨rfl, HB1.out⟩
    · have h1 := HO.out k (by omega)
      generalize xs.getD k 0 = y at *
      go_wp2_with fail
      go_round
      case rel => exact ⟨k + 1, by omega, by simp⟩
      case measure => simp [intOf]; omega
theorem RowA.at_lt {w : World} {ad : Option Addr} {xs : List Nat} (h : RowA w ad xs) (h0 : 0 < xs.length) : ∀ b off, ad = some ⟨b, off, none⟩ → b < w.heap.size := fun b off e => by
  obtain ⟨b', off', e', hlt, _⟩ := h.at_ h0
  rw [e] at e'
  simp only [Option.some.injEq, Addr.mk.injEq, and_true] at e'
  omega
set_option maxRecDepth 100000 in
set_option maxHeartbeats 2000000 in
theorem lwhiten_ok (n T S : Nat) (hg : GoodL n T S) (ad : Option Addr) (cp : Nat) (xs : List Nat) (hl : xs.length ≤ 140737488351232) (hx : ∀ i, i < xs.length → xs.getD i 0 ≤ 1) (w : World) (hr : RowA w ad xs) :
    Calls Tryd.prog 41 #[.agg #[.int .i64 n, .int .u64 T, .int .u64 S], .slice ad xs.length cp] w fun e w' => ∃ v, e = .returned (.tuple #[v, .int .i64 0]) ∧ OwnB w' w.heap.size v (whiteL n T S xs) ∧ Below w.heap.size w w' := by
  have HC := hide (lseries_good n T S hg)
  have HE := hide fun (g : Nat) => each_whiten n T S g xs.length hg hl
  have HR := hide hr
  have HX := hide hx
  have hmf : ∀ (fn : Fn) (first cap : Array Value) (w : World), (Instr.makeFunc fn first cap).run Tryd.prog w = .ok (.func fn first cap) w := fun _ _ _ _ => rfl
  clear hg hx hr
  go_enter Tryd.func41, Tryd.ntmps41
  go_wp2_with fail
  refine (HC.out _).mono ?_
  rintro e w1 ⟨g, rfl, hr1, hg1, hb1⟩
  have c1 := bcell hb1 (b := w.heap.size + 1) (o := 0) (v := .slice ad xs.length cp) (by simp) (by simp [go_sem])
  have HBX1 := hide (show BoxAt w1 (w.heap.size + 1) (.slice ad xs.length cp) from ⟨_, (hb1.block (w.heap.size + 1) (by simp)).trans (by have := heap_alloc_new (w.alloc (.cells #[.int .i64 n, .int .u64 T, .int .u64 S] 24)) (.cells #[.slice ad xs.length cp] 25); simpa using this)⟩)
  have HR1 := hide hr1
  have hgl := hr1.lt
  have hz1 := hb1.size
  simp at hz1 hg1
  have HB1 := hide (below_two hb1)
  have HRW1 := hide (HR.out.below HB1.out)
  clear hb1 hr1
  go_wp2_with fail
  go_loop [21] (fun i => ∃ k : Nat, k ≤ xs.length ∧ i = .int .i64 k) (fun i => xs.length - (intOf i).toNat)
  case atStart => exact ⟨0, by omega, rfl⟩
  case round =>
    obtain ⟨k, hk, rfl⟩ := hrel
    by_cases hlt : k < xs.length
    · obtain ⟨b, off, rfl, _, hc⟩ := HRW1.out.at_ hlt
      have h1 := HX.out k hlt
      generalize xs.getD k 0 = y at *
      go_wp2_with fail
      go_round
      case rel => exact ⟨k + 1, by omega, by simp⟩
      case measure => simp [intOf]; omega
    · obtain rfl : k = xs.length := by omega
      go_wp2_with (first
        | (at_make; refine wpList_makeB rfl _ _ rfl w.heap.size _ _ xs.length rfl rfl ?c1 ?c2 ?c3 ?c4 ?_)
        | go_in)
      case c1 => rfl
      case c2 => rfl
      case c3 => omega
      case c4 => omega
      intro w2 hown2 hgrow2 hz2
      have HS0 := hide (show FillSt w (w2.alloc (.cells #[.slice (some ⟨w1.heap.size, 0, none⟩) xs.length xs.length] 25)) w2.heap.size w1.heap.size xs.length (fun i => xs.getD i 0 ^^^ (Gf2.stpN n T i S % 2)) 0 from
        ⟨by rw [fillK_zero]; exact hown2.alloc _, ⟨_, heap_alloc_new w2 _⟩, (HB1.out.grown hgrow2 HB1.out.size (fun k e => by cases e)).alloc (by have := HB1.out.size; omega) _⟩)
      have HR2 := hide ((HR1.out.grown hgrow2 (by simp)).alloc (.cells #[.slice (some ⟨w1.heap.size, 0, none⟩) xs.length xs.length] 25))
      have HBX2 := hide ((HBX1.out.grown hgrow2 (by simp)).alloc (.cells #[.slice (some ⟨w1.heap.size, 0, none⟩) xs.length xs.length] 25))
      have hq2 := HBX2.out.cell
      clear hown2 hgrow2
      go_wp2_with fail
      refine (HE.out g (.pointer (some ⟨w.heap.size + 1, 0, none⟩)) (.pointer (some ⟨w2.heap.size, 0, none⟩)) (fun k u => FillSt w u w2.heap.size w1.heap.size xs.length (fun i => xs.getD i 0 ^^^ (Gf2.stpN n T i S % 2)) k ∧ BoxAt u (w.heap.size + 1) (.slice ad xs.length cp)) ?hI _ HR2.out ⟨HS0.out, HBX2.out⟩).mono ?_
      case hI =>
        intro k u u1 hk hSB hgr hr
        have hS1 := hSB.1.grown hgr (by omega) (by omega) (by omega)
        exact whiten_one hS1 (hSB.2.grown hgr (by simp; omega)) (HR.out.below hS1.below) rfl hr hk ⟨by omega, by omega, by omega⟩ (by omega) (by omega) rfl (HX.out k hk) rfl
      rintro e w3 ⟨rfl, hr3, hs3, _⟩
      have hc3 := hs3.cell
      have HS3 := hide hs3
      clear hr3 hs3
      go_wp2_with fail
      go_ret2
      exact ⟨_, rfl, by have := HS3.out.own; rw [fillK_full] at this; exact this, HS3.out.below⟩
set_option maxRecDepth 100000 in
set_option maxHeartbeats 2000000 in
theorem lturn_ok (n T S L : Nat) (hg : GoodL n T S) (hL : 2 ≤ L ∧ L ≤ 16) (ad : Option Addr) (cp : Nat) (xs : List Nat) (hl : xs.length ≤ 140737488351232) (hx : ∀ i, i < xs.length → xs.getD i 0 < L) (w : World) (hr : RowA w ad xs) :
    Calls Tryd.prog 44 #[.agg #[.int .i64 n, .int .u64 T, .int .u64 S], .int .i64 L, .slice ad xs.length cp] w fun e w' => ∃ v, e = .returned (.tuple #[v, .int .i64 0]) ∧ OwnB w' w.heap.size v (turnL n T S L xs) ∧ Below w.heap.size w w' := by
  have HC := hide (lseries_good n T S hg)
  have HE := hide fun (g : Nat) => each_turn n T S g xs.length hg hl
  have HR := hide hr
  have HX := hide hx
  have HL := hide hL
  have hmf : ∀ (fn : Fn) (first cap : Array Value) (w : World), (Instr.makeFunc fn first cap).run Tryd.prog w = .ok (.func fn first cap) w := fun _ _ _ _ => rfl
  obtain ⟨l2, l16⟩ := hL
  have dl : decide ((L : Int) < 2) = false := by simp; omega
  have dh : decide ((16 : Int) < L) = false := by simp; omega
  clear hg hx hr
  go_enter Tryd.func44, Tryd.ntmps44
  go_wp2_with fail
  refine (HC.out _).mono ?_
  rintro e w1 ⟨g, rfl, hr1, hg1, hb1⟩
  have HBL1 := hide (show BoxAt w1 (w.heap.size + 1) (.int .i64 L) from ⟨_, (hb1.block (w.heap.size + 1) (by simp)).trans ((Below.heap_alloc _ _ _ (by simp)).trans (by have := heap_alloc_new (w.alloc (.cells #[.int .i64 n, .int .u64 T, .int .u64 S] 24)) (.cells #[.int .i64 L] 3); simpa using this))⟩)
  have HBX1 := hide (show BoxAt w1 (w.heap.size + 2) (.slice ad xs.length cp) from ⟨_, (hb1.block (w.heap.size + 2) (by simp)).trans (by have := heap_alloc_new ((w.alloc (.cells #[.int .i64 n, .int .u64 T, .int .u64 S] 24)).alloc (.cells #[.int .i64 L] 3)) (.cells #[.slice ad xs.length cp] 25); simpa using this)⟩)
  have c0 := HBL1.out.cell
  have c1 := HBX1.out.cell
  have HR1 := hide hr1
  have hgl := hr1.lt
  have hz1 := hb1.size
  simp at hz1 hg1
  have HB1 := hide (below_three hb1)
  have HRW1 := hide (HR.out.below HB1.out)
  clear hb1 hr1
  go_wp2_with fail
  go_loop [29] (fun i => ∃ k : Nat, k ≤ xs.length ∧ i = .int .i64 k) (fun i => xs.length - (intOf i).toNat)
  case atStart => exact ⟨0, by omega, rfl⟩
  case round =>
    obtain ⟨k, hk, rfl⟩ := hrel
    by_cases hlt : k < xs.length
    · obtain ⟨b, off, rfl, _, hc⟩ := HRW1.out.at_ hlt
      have h1 := HX.out k hlt
      generalize xs.getD k 0 = y at *
      go_wp2_with fail
      go_round
      case rel => exact ⟨k + 1, by omega, by simp⟩
      case measure => simp [intOf]; omega
    · obtain rfl : k = xs.length := by omega
      go_wp2_with (first
        | (at_make; refine wpList_makeB rfl _ _ rfl w.heap.size _ _ xs.length rfl rfl ?c1 ?c2 ?c3 ?c4 ?_)
        | go_in)
      case c1 => rfl
      case c2 => rfl
      case c3 => omega
      case c4 => omega
      intro w2 hown2 hgrow2 hz2
      have HS0 := hide (show FillSt w (w2.alloc (.cells #[.slice (some ⟨w1.heap.size, 0, none⟩) xs.length xs.length] 25)) w2.heap.size w1.heap.size xs.length (fun i => if Gf2.stpN n T i S % 2 = 1 then L - 1 - xs.getD i 0 else xs.getD i 0) 0 from
        ⟨by rw [fillK_zero]; exact hown2.alloc _, ⟨_, heap_alloc_new w2 _⟩, (HB1.out.grown hgrow2 HB1.out.size (fun k e => by cases e)).alloc (by have := HB1.out.size; omega) _⟩)
      have HR2 := hide ((HR1.out.grown hgrow2 (by simp)).alloc (.cells #[.slice (some ⟨w1.heap.size, 0, none⟩) xs.length xs.length] 25))
      have HBX2 := hide ((HBX1.out.grown hgrow2 (by simp)).alloc (.cells #[.slice (some ⟨w1.heap.size, 0, none⟩) xs.length xs.length] 25))
      have HBL2 := hide ((HBL1.out.grown hgrow2 (by simp)).alloc (.cells #[.slice (some ⟨w1.heap.size, 0, none⟩) xs.length xs.length] 25))
      have hq2 := HBX2.out.cell
      clear hown2 hgrow2
      go_wp2_with fail
      refine (HE.out g (.pointer (some ⟨w.heap.size + 2, 0, none⟩)) (.pointer (some ⟨w2.heap.size, 0, none⟩)) (.pointer (some ⟨w.heap.size + 1, 0, none⟩)) (fun k u => FillSt w u w2.heap.size w1.heap.size xs.length (fun i => if Gf2.stpN n T i S % 2 = 1 then L - 1 - xs.getD i 0 else xs.getD i 0) k ∧ BoxAt u (w.heap.size + 2) (.slice ad xs.length cp) ∧ BoxAt u (w.heap.size + 1) (.int .i64 L)) ?hI _ HR2.out ⟨HS0.out, HBX2.out, HBL2.out⟩).mono ?_
      case hI =>
        intro k u u1 hk hSB hgr hr
        have hS1 := hSB.1.grown hgr (by omega) (by omega) (by omega)
        exact turn_one hS1 (hSB.2.1.grown hgr (by simp; omega)) (hSB.2.2.grown hgr (by simp; omega)) (HR.out.below hS1.below) (fun b off e => by have := HR.out.at_lt (by omega) b off e; omega) rfl hr hk ⟨by omega, by omega, by omega, by omega⟩ (by omega) (by omega) HL.out rfl (HX.out k hk) rfl
      rintro e w3 ⟨rfl, hr3, hs3, _⟩
      have hc3 := hs3.cell
      have HS3 := hide hs3
      clear hr3 hs3
      go_wp2_with fail
      go_ret2
      exact ⟨_, rfl, by have := HS3.out.own; rw [fillK_full] at this; exact this, HS3.out.below⟩
end Go.Proofs.YtknkkoemghceeaaDoor
