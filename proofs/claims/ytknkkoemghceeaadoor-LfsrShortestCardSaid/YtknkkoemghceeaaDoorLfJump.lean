/- lfsr.Jump, walked. -/
import Derived.Test.YtknkkoemghceeaaDoorRows
import Derived.Test.YtknkkoemghceeaaDoorLfApply
import Derived.Deep.RegionHeld3
import Derived.Deep.DeepCutAuto
namespace Go.Proofs.YtknkkoemghceeaaDoor
open Go.RowKit

theorem mat_new (w : World) : MatB (w.alloc (.cells #[.int .u64 0, .int .u64 0, .int .u64 0, .int .u64 0, .int .u64 0, .int .u64 0, .int .u64 0, .int .u64 0, .int .u64 0, .int .u64 0, .int .u64 0, .int .u64 0, .int .u64 0, .int .u64 0, .int .u64 0, .int .u64 0, .int .u64 0, .int .u64 0, .int .u64 0, .int .u64 0] 100)) w.heap.size (fun _ => 0) := by
  have hb := heap_alloc_new w (.cells #[.int .u64 0, .int .u64 0, .int .u64 0, .int .u64 0, .int .u64 0, .int .u64 0, .int .u64 0, .int .u64 0, .int .u64 0, .int .u64 0, .int .u64 0, .int .u64 0, .int .u64 0, .int .u64 0, .int .u64 0, .int .u64 0, .int .u64 0, .int .u64 0, .int .u64 0, .int .u64 0] 100)
  refine ⟨?_, ?_, by simp⟩
  · have := World.rangeAt_of_block hb 0 20
    exact this
  · intro j hj
    have hc := cell_of_row _ w.heap.size (0 + j) _ _ _ hb
    refine ⟨?_, frozen_of_row _ _ _ _ _ hb⟩
    rw [hc]
    have h20 : ∀ j : Fin 20, ((#[.int .u64 0, .int .u64 0, .int .u64 0, .int .u64 0, .int .u64 0, .int .u64 0, .int .u64 0, .int .u64 0, .int .u64 0, .int .u64 0, .int .u64 0, .int .u64 0, .int .u64 0, .int .u64 0, .int .u64 0, .int .u64 0, .int .u64 0, .int .u64 0, .int .u64 0, .int .u64 0] : Array Value)[0 + j.val]?).isSome = true := by decide
    exact h20 ⟨j, hj⟩
/-- what Jump holds while it runs -/
structure JmpSt (w u : World) (b0 b1 m n T S : Nat) (f : Nat → Nat) : Prop where
  below : Below w.heap.size w u
  box : u.heap[b0]? = some (.cells #[.int .i64 n, .int .u64 T, .int .u64 S] 24 (0, 0))
  res : u.heap[b1]? = some (.cells #[.int .i64 0, .int .u64 0, .int .u64 0] 24 (0, 0))
  mat : MatB u m f
  ge : w.heap.size ≤ b0 ∧ w.heap.size ≤ b1 ∧ w.heap.size ≤ m
  ne : b0 ≠ b1 ∧ b0 ≠ m ∧ b1 ≠ m
section
variable {w u u' : World} {b0 b1 m n T S : Nat} {f : Nat → Nat}
theorem JmpSt.lt (h : JmpSt w u b0 b1 m n T S f) : b0 < u.heap.size ∧ b1 < u.heap.size ∧ m < u.heap.size := ⟨(Array.getElem?_eq_some_iff.1 h.box).1, (Array.getElem?_eq_some_iff.1 h.res).1, h.mat.lt⟩
theorem JmpSt.cells (h : JmpSt w u b0 b1 m n T S f) : u.cell? ⟨b0, 0, none⟩ = some (.int .i64 n) ∧ u.cell? ⟨b0, 1, none⟩ = some (.int .u64 T) ∧ u.cell? ⟨b0, 2, none⟩ = some (.int .u64 S) ∧ u.frozen? ⟨b0, 2, none⟩ = false ∧
    u.cell? ⟨b1, 0, none⟩ = some (.int .i64 0) ∧ u.cell? ⟨b1, 1, none⟩ = some (.int .u64 0) ∧ u.cell? ⟨b1, 2, none⟩ = some (.int .u64 0) ∧ u.frozen? ⟨b1, 0, none⟩ = false ∧ u.frozen? ⟨b1, 1, none⟩ = false ∧ u.frozen? ⟨b1, 2, none⟩ = false :=
  ⟨cell_of_row u b0 0 _ _ (0, 0) h.box, cell_of_row u b0 1 _ _ (0, 0) h.box, cell_of_row u b0 2 _ _ (0, 0) h.box, frozen_of_row u b0 2 _ _ h.box,
    cell_of_row u b1 0 _ _ (0, 0) h.res, cell_of_row u b1 1 _ _ (0, 0) h.res, cell_of_row u b1 2 _ _ (0, 0) h.res, frozen_of_row u b1 0 _ _ h.res, frozen_of_row u b1 1 _ _ h.res, frozen_of_row u b1 2 _ _ h.res⟩
/-- only new memory, or memory beside -/
theorem JmpSt.below' {B : Nat} (h : JmpSt w u b0 b1 m n T S f) (hb : Below B u u') (hB : b0 < B ∧ b1 < B ∧ m < B) : JmpSt w u' b0 b1 m n T S f := by
  have := h.ge
  exact ⟨h.below.trans (hb.mono (by omega)), (hb.block b0 hB.1).trans h.box, (hb.block b1 hB.2.1).trans h.res, h.mat.below hb hB.2.2, h.ge, h.ne⟩
theorem JmpSt.drewN (h : JmpSt w u b0 b1 m n T S f) (k : Nat) : JmpSt w (u.drewN k) b0 b1 m n T S f :=
  ⟨below_drewN h.below k, h.box, h.res, h.mat.drewN k, h.ge, h.ne⟩
theorem JmpSt.grown {q : Nat} (h : JmpSt w u b0 b1 m n T S f) (hb : u.grownBy u' (some q)) (hq : b0 ≠ q ∧ b1 ≠ q ∧ m ≠ q) (hw : w.heap.size ≤ q) : JmpSt w u' b0 b1 m n T S f :=
  ⟨h.below.grown hb h.below.size (fun k e => by simp at e; omega), (hb.block b0 h.lt.1 (by simpa using hq.1)).trans h.box, (hb.block b1 h.lt.2.1 (by simpa using hq.2.1)).trans h.res, h.mat.keep (hb.block m h.mat.lt (by simpa using hq.2.2)) hb.size, h.ge, h.ne⟩
theorem JmpSt.far (h : JmpSt w u b0 b1 m n T S f) {p : Addr} (hp : b0 ≠ p.block ∧ b1 ≠ p.block ∧ m ≠ p.block) (hw : w.heap.size ≤ p.block) (v : Value) : JmpSt w (u.setCell p v) b0 b1 m n T S f :=
  ⟨h.below.setCell hw v, (Below.heap_setCell _ _ _ _ hp.1).trans h.box, (Below.heap_setCell _ _ _ _ hp.2.1).trans h.res, h.mat.far hp.2.2 v, h.ge, h.ne⟩
theorem JmpSt.seed (h : JmpSt w u b0 b1 m n T S f) (S' : Nat) : JmpSt w (u.setCell ⟨b0, 2, none⟩ (.int .u64 (S' : Nat))) b0 b1 m n T S' f :=
  ⟨h.below.setCell h.ge.1 _, heap_setCell_same u b0 2 _ _ _ h.box, (Below.heap_setCell _ _ _ _ (Ne.symm h.ne.1)).trans h.res, h.mat.far (Ne.symm h.ne.2.1) _, h.ge, h.ne⟩
theorem JmpSt.set (h : JmpSt w u b0 b1 m n T S f) {i : Nat} (hi : i < 20) (y : Nat) : JmpSt w (u.setCell ⟨m, i, none⟩ (.int .u64 (y : Nat))) b0 b1 m n T S (fun j => if j = i then y else f j) :=
  ⟨h.below.setCell h.ge.2.2 _, (Below.heap_setCell _ _ _ _ h.ne.2.1).trans h.box, (Below.heap_setCell _ _ _ _ h.ne.2.2).trans h.res, h.mat.set hi y, h.ge, h.ne⟩
end
theorem below_setCells {B : Nat} {w u : World} (h : Below B w u) {g : Nat} (hg : B ≤ g) (vs : List Value) (o : Nat) : Below B w (u.setCells g o vs) := by
  induction vs generalizing u o with
  | nil => exact h
  | cons v vs ih => rw [World.setCells]; exact ih (h.setCell hg v) _
theorem heap_setCells_far (u : World) {g q : Nat} (hq : q ≠ g) (vs : List Value) (o : Nat) : (u.setCells g o vs).heap[q]? = u.heap[q]? := by
  induction vs generalizing u o with
  | nil => rfl
  | cons v vs ih => rw [World.setCells, ih]; exact Below.heap_setCell _ _ _ _ hq
theorem JmpSt.mats {w u : World} {b0 b1 m n T S : Nat} {f : Nat → Nat} (h : JmpSt w u b0 b1 m n T S f) (f' : Nat → Nat) : JmpSt w (u.setCells m 0 (matV f')) b0 b1 m n T S f' :=
  ⟨below_setCells h.below h.ge.2.2 _ _, (heap_setCells_far u h.ne.2.1 _ _).trans h.box, (heap_setCells_far u h.ne.2.2 _ _).trans h.res, h.mat.cells f', h.ge, h.ne⟩
theorem info_mat : (Tryd.prog.info? 100).map (·.size) = some 20 := by kernel_rfl
theorem info_matV (f : Nat → Nat) : (Tryd.prog.info? 100).map (·.size) = some (matV f).length := by rw [matV_length]; exact info_mat
theorem info_matA (f : Nat → Nat) : (Tryd.prog.info? 100).map (·.size) = some (matV f).toArray.size := by rw [List.size_toArray, matV_length]; exact info_mat
theorem MatB.thA {w : World} {g : Nat} {f : Nat → Nat} (h : MatB w g f) (f' : Nat → Nat) : w.there g 0 (matV f').toArray.size := by rw [List.size_toArray, matV_length]; exact h.th
theorem matV_ones (f : Nat → Nat) : (matV f).toArray.all (·.oneCell') = true := all_oneCell_toArray fun _ hv => matV_one hv
theorem run_load_mat {w : World} {b : Nat} {f : Nat → Nat} (hm : MatB w b f) : (Instr.loadAt 100 (.pointer (some ⟨b, 0, none⟩))).run Tryd.prog w = .ok (.agg (matV f).toArray) w :=
  run_loadAt_mid w b 0 100 (matV f) _ hm.at_ Tryd.underlying100 rfl (info_matV f)
theorem run_store_mat {w : World} {b : Nat} {f0 : Nat → Nat} (hm : MatB w b f0) (f : Nat → Nat) : (Instr.storeAt 100 (.pointer (some ⟨b, 0, none⟩)) (.agg (matV f).toArray)).run Tryd.prog w = .ok () (w.setCells b 0 (matV f)) :=
  run_storeAt_mid w b 0 100 (matV f).toArray (hm.thA f) (info_matA f) (matV_ones f)
theorem wpList_load_mat {w : World} {ops : Array Oper} {rest : List Oper} {op : Oper} {a : Act} {Q : Exit → Act → World → Prop} (hgd : op.guard = none) (x : Operand) (ho : op.op = .load 100 x)
    (b : Nat) (hx : a.eval x = .pointer (some ⟨b, 0, none⟩)) (f : Nat → Nat) (hm : MatB w b f) (h : wpList Tryd.prog ops Q rest (a.put op.dst (.agg (matV f).toArray)) w) : wpList Tryd.prog ops Q (op :: rest) a w :=
  wpList_load_mid hgd 100 x ho b 0 hx (matV f) _ hm.at_ Tryd.underlying100 rfl (info_matV f) h
theorem wpList_store_mat {w : World} {ops : Array Oper} {rest : List Oper} {op : Oper} {a : Act} {Q : Exit → Act → World → Prop} (hgd : op.guard = none) (x y : Operand) (ho : op.op = .store 100 x y)
    (b : Nat) (f0 f : Nat → Nat) (hx : a.eval x = .pointer (some ⟨b, 0, none⟩)) (hy : a.eval y = .agg (matV f).toArray) (hm : MatB w b f0) (h : wpList Tryd.prog ops Q rest (a.put op.dst undef) (w.setCells b 0 (matV f))) : wpList Tryd.prog ops Q (op :: rest) a w :=
  wpList_store_mid hgd 100 x y ho b 0 (matV f).toArray hx hy (hm.thA f) (info_matA f) (matV_ones f) h
theorem pow_wrap {i : Nat} (h : i < 20) : IntKind.u64.wrap ((2 : Int) ^ i) = ((2 ^ i : Nat) : Int) := by
  have h2 := pow20 (n := i) (by omega)
  have e : (2 : Int) ^ i = ((2 ^ i : Nat) : Int) := by simp
  rw [e]
  generalize 2 ^ i = q at *
  exact IntWalk.u64_in (q : Int) (by omega)
set_option maxHeartbeats 400000 in
theorem jump_bad (D : Int) (T S : Nat) (hT : T ≤ 18446744073709551615) (hS : S ≤ 18446744073709551615) (hne : lchk D T S ≠ 0) (k : Value) (w : World) :
    Calls Tryd.prog 19 #[.agg #[.int .i64 D, .int .u64 T, .int .u64 S], k] w fun e w' => e = .returned (.tuple #[.agg #[.int .i64 0, .int .u64 0, .int .u64 0], .int .i64 (lchk D T S)]) ∧ Below w.heap.size w w' := by
  have HC := hide (lcheck_any D T S hT hS)
  have hb := nzBne hne
  generalize lchk D T S = cf at *
  clear hne
  go_enter Tryd.func19, Tryd.ntmps19
  go_wp2_with fail
  refine (HC.out _).mono ?_
  rintro e w1 ⟨rfl, hb1⟩
  have c0 := bcell hb1 (b := w.heap.size + 1) (o := 0) (v := .int .i64 0) (by simp) (by simp [go_sem])
  have c1 := bcell hb1 (b := w.heap.size + 1) (o := 1) (v := .int .u64 0) (by simp) (by simp [go_sem])
  have c2 := bcell hb1 (b := w.heap.size + 1) (o := 2) (v := .int .u64 0) (by simp) (by simp [go_sem])
  have f0 := bfrozen hb1 (b := w.heap.size + 1) (o := 0) (by simp) (by simp [go_sem])
  have f1 := bfrozen hb1 (b := w.heap.size + 1) (o := 1) (by simp) (by simp [go_sem])
  have f2 := bfrozen hb1 (b := w.heap.size + 1) (o := 2) (by simp) (by simp [go_sem])
  have hz := size_mid hb1
  have HB := hide (below_two hb1)
  clear hb1
  go_wp2_with fail
  refine bodyPost_ret (v := .tuple #[.agg #[.int .i64 0, .int .u64 0, .int .u64 0], .int .i64 cf]) (by simp [results, Tryd.results19, go_sem, c0, c1, c2]) rfl ⟨rfl, ?_⟩
  exact ((HB.out.setCell (by simp) _).setCell (by simp) _).setCell (by simp) _

set_option maxRecDepth 100000 in
set_option maxHeartbeats 2000000 in
theorem jump_good (n T S K : Nat) (hg : GoodL n T S) (hK : K ≤ 18446744073709551615) (w : World) (ht : TabW w) :
    Calls Tryd.prog 19 #[.agg #[.int .i64 n, .int .u64 T, .int .u64 S], .int .u64 K] w fun e w' => e = .returned (.tuple #[.agg #[.int .i64 n, .int .u64 T, .int .u64 (Gf2.stpN n T K S : Nat)], .int .i64 0]) ∧ Below w.heap.size w w' := by
  have HC := hide (lcheck_any n T S (by have := hg.small; omega) (by have := hg.small; omega))
  rw [lchk_good hg] at HC
  have HG := hide hg
  have hlo := hg.lo
  have hhi := hg.hi
  have HST := hide fun (i g : Nat) (hi : i < n) (W : World) (h : RegL W g n T (2 ^ i)) => lstep_any n T (2 ^ i) g ⟨hg.lo, hg.hi, hg.odd, hg.tap, by have := Nat.two_pow_pos i; omega, Nat.pow_lt_pow_right (by omega) hi⟩ W h
  have HT := hide ht
  clear hg ht
  go_enter Tryd.func19, Tryd.ntmps19
  go_wp2_with fail
  refine (HC.out _).mono ?_
  rintro e w1 ⟨rfl, hb1⟩
  have hx0 : w1.heap[w.heap.size]? = some (.cells #[.int .i64 n, .int .u64 T, .int .u64 S] 24 (0, 0)) := (hb1.block _ (by first | (simp; done) | (simp; omega))).trans ((Below.heap_alloc _ _ _ (by simp)).trans (heap_alloc_new w _))
  have hx1 : w1.heap[w.heap.size + 1]? = some (.cells #[.int .i64 0, .int .u64 0, .int .u64 0] 24 (0, 0)) := by
    have h1 := heap_alloc_new (w.alloc (.cells #[.int .i64 n, .int .u64 T, .int .u64 S] 24)) (.cells #[.int .i64 0, .int .u64 0, .int .u64 0] 24)
    rw [show (w.alloc (.cells #[.int .i64 n, .int .u64 T, .int .u64 S] 24)).heap.size = w.heap.size + 1 by simp] at h1
    exact (hb1.block _ (by first | (simp; done) | (simp; omega))).trans h1
  have hz1 := hb1.size
  simp at hz1
  have hJ : JmpSt w (w1.alloc (.cells #[.int .u64 0, .int .u64 0, .int .u64 0, .int .u64 0, .int .u64 0, .int .u64 0, .int .u64 0, .int .u64 0, .int .u64 0, .int .u64 0, .int .u64 0, .int .u64 0, .int .u64 0, .int .u64 0, .int .u64 0, .int .u64 0, .int .u64 0, .int .u64 0, .int .u64 0, .int .u64 0] 100)) w.heap.size (w.heap.size + 1) w1.heap.size n T S (fun _ => 0) :=
    ⟨(below_two hb1).alloc (by omega) _, (Below.heap_alloc _ _ _ (by omega)).trans hx0, (Below.heap_alloc _ _ _ (by omega)).trans hx1, mat_new w1, ⟨by omega, by omega, by omega⟩, ⟨by omega, by omega, by omega⟩⟩
  have HJ := hide hJ
  have c0 := cell_of_row w1 w.heap.size 0 _ _ (0, 0) hx0
  have hzz : w.heap.size < w1.heap.size := by omega
  clear hJ hx0 hx1 hb1
  go_wp2_with fail
  go_loopw [20] (fun i u => ∃ k : Nat, k ≤ n ∧ i = .int .i64 k ∧ Hid (∃ f, JmpSt w u w.heap.size (w.heap.size + 1) w1.heap.size n T S f ∧ ∀ j, j < k → f j = Gf2.stp n T (2 ^ j))) (fun i _ => n - (intOf i).toNat)
  case atStart => exact ⟨0, by omega, rfl, hide ⟨_, HJ.out, fun j hj => absurd hj (by omega)⟩⟩
  case round =>
    rename_i wr _
    obtain ⟨k, hk, rfl, hF⟩ := hrel
    by_cases hlt : k < n
    · obtain ⟨f, hj, hf⟩ := hF.out
      obtain ⟨q0, q1, q2, fz, -⟩ := hj.cells
      have hl := hj.lt
      have hpw := pow_wrap (i := k) (by omega)
      have HJ1 := hide hj
      have HF1 := hide hf
      have hi0 : (0 : Int) ≤ k := by omega
      have hi20 : (k : Int) < 20 := by omega
      have HSk := hide fun (g : Nat) => HST.out k g hlt
      have H2k := hide (rfl : Gf2.stp n T (2 ^ k) = Gf2.stp n T (2 ^ k))
      generalize hP : (2 ^ k : Nat) = P at *
      clear hj hf q2 fz hF
      go_wp2_with fail
      go_region_held3 (fun u => u.cell? ⟨w.heap.size, 0, none⟩ = some (.int .i64 n) ∧ u.cell? ⟨w.heap.size, 1, none⟩ = some (.int .u64 T)) (simp [go_sem, *]) (fail)
      go_wp2_with fail
      refine (HSk.out wr.heap.size _ ?r0).mono ?_
      case r0 => exact ⟨_, heap_alloc_new wr _⟩
      rintro e w3 ⟨rfl, hr3, hg3⟩
      have hJ3 := (HJ1.out.below' (B := wr.heap.size) (((Below.refl _ _).alloc (Nat.le_refl _) (.cells #[.int .i64 n, .int .u64 T, .int .u64 P] 24)).drew) hl).grown hg3 (by have := HJ1.out.lt; omega) (by have := HJ1.out.below.size; omega)
      have HJ3 := hide hJ3
      have hmc := hJ3.mat.cell (i := k) (by omega)
      have hmf := hJ3.mat.frz (i := k) (by omega)
      obtain ⟨hxl, -, -, hx2, -⟩ := hr3.parts
      have HJ4 := hide (hJ3.set (i := k) (by omega) (Gf2.stp n T P))
      generalize hy : Gf2.stp n T P = y at *
      have HY := hide hy
      clear hr3 hg3 hJ3 hy q0 q1
      go_wp2_with fail
      go_roundw
      case rel => exact ⟨k + 1, by omega, by simp, hide ⟨_, HJ4.out, fun j hj => by
        by_cases e : j = k
        · subst e; rw [if_pos rfl, hP]; exact HY.out.symm
        · rw [if_neg e]; exact HF1.out j (by omega)⟩⟩
      case measure => simp [intOf]; omega
    · obtain rfl : k = n := by omega
      have hS2 := hF.out
      have HF2 := hide (show ∃ f, JmpSt w wr w.heap.size (w.heap.size + 1) w1.heap.size k T (Gf2.stpN k T (K % 2 ^ 0) S) f ∧ ∀ i, i < k → f i = Gf2.stpN k T (2 ^ 0) (2 ^ i) from by
        obtain ⟨f, hj, hf⟩ := hS2
        exact ⟨f, by rw [Nat.pow_zero, Nat.mod_one]; exact hj, fun i hi => hf i hi⟩)
      clear hS2 hF HJ HC HST
      go_wp2_with fail
      generalize hM : w1.heap.size = M at *
      go_loopw [1] (fun a u => ∃ j : Nat, a = .int .u64 (K / 2 ^ j : Nat) ∧ Hid (∃ f, JmpSt w u w.heap.size (w.heap.size + 1) M k T (Gf2.stpN k T (K % 2 ^ j) S) f ∧ ∀ i, i < k → f i = Gf2.stpN k T (2 ^ j) (2 ^ i))) (fun a _ => (intOf a).toNat)
      case atStart => exact ⟨0, by rw [Nat.pow_zero, Nat.div_one], HF2⟩
      case round =>
        obtain ⟨j, rfl, hF⟩ := hrel
        have hkl : K / 2 ^ j ≤ 18446744073709551615 := Nat.le_trans (Nat.div_le_self _ _) hK
        have hnx : K / 2 ^ (j + 1) = K / 2 ^ j / 2 := by rw [Nat.pow_succ, Nat.div_div_eq_div_mul]
        have hmd : K % 2 ^ (j + 1) = K % 2 ^ j + 2 ^ j * (K / 2 ^ j % 2) := Nat.mod_pow_succ
        have HNX := hide hnx
        have HMD := hide hmd
        clear hnx hmd
        generalize hA : K / 2 ^ j = A at *
        by_cases h0 : A = 0
        · subst h0
          obtain ⟨f, hj, hf⟩ := hF.out
          obtain ⟨q0, q1, q2, fz, r0, r1, r2, g0, g1, g2⟩ := hj.cells
          have hKm : K % 2 ^ j = K := Nat.mod_eq_of_lt (Nat.lt_of_div_eq_zero (Nat.two_pow_pos j) hA)
          have HKM := hide hKm
          have HJ3 := hide hj
          have hl := hj.lt
          have hzs := hl.2.1
          clear hj hf hF hKm
          generalize hS' : Gf2.stpN k T (K % 2 ^ j) S = S' at *
          have HS' := hide hS'
          clear hS'
          go_wp2_with fail
          refine bodyPost_ret (v := .tuple #[.agg #[.int .i64 k, .int .u64 T, .int .u64 S'], .int .i64 0]) (by simp [results, Tryd.results19, go_sem, r0, r1, r2]) rfl ⟨by rw [← HS'.out, HKM.out], ?_⟩
          exact ((HJ3.out.below.setCell (by simp) _).setCell (by simp) _).setCell (by simp) _
        · have hgt : decide ((0 : Int) < A) = true := by simp; omega
          have he1 := and1_64 hkl
          have hkn : 1 ≤ k := by omega
          have HLN := hide (linM_steps (n := k) (T := T) hkn (2 ^ j))
          have HSL := hide (Gf2.stpN_lt (D := k) (T := T) hkn HG.out.seed (K % 2 ^ j))
          go_upto_if 42 with fail
          go_cut [1] (fun v1 wx => v1 = .int .u64 A ∧ Hid (∃ f, JmpSt w wx w.heap.size (w.heap.size + 1) M k T (Gf2.stpN k T (K % 2 ^ (j + 1)) S) f ∧ ∀ i, i < k → f i = Gf2.stpN k T (2 ^ j) (2 ^ i)))
          case first =>
            by_cases hodd : A % 2 = 1
            · obtain ⟨f, hj, hf⟩ := hF.out
              obtain ⟨q0, q1, q2, fz, -⟩ := hj.cells
              have HAP := hide (apply_any k M ⟨hlo, hhi⟩ _ HLN.out f hf _ HSL.out _ hj.mat (HT.out.below hj.below))
              have HJ3 := hide hj
              have HF3 := hide hf
              have HE := hide (show Gf2.stpN k T (2 ^ j) (Gf2.stpN k T (K % 2 ^ j) S) = Gf2.stpN k T (K % 2 ^ (j + 1)) S by rw [HMD.out, hodd, Nat.mul_one, Gf2.stpN_add])
              have hb1 : ((A : Int) % 2 != 0) = true := by rw [bne_iff_ne]; omega
              have hr1 : (A : Int) % 2 = 1 := by omega
              clear hj hf hF
              rw [HE.out] at HAP
              generalize Gf2.stpN k T (K % 2 ^ j) S = S' at *
              generalize Gf2.stpN k T (K % 2 ^ (j + 1)) S = S2 at *
              go_wp2_with fail
              refine HAP.out.mono ?_
              rintro e w5 ⟨rfl, d, rfl⟩
              have HJ4 := hide ((HJ3.out.drewN d).seed S2)
              go_wp2_with fail
              go_meet
              case rel => exact ⟨rfl, hide ⟨f, HJ4.out, HF3.out⟩⟩
            · have hz : A % 2 = 0 := by omega
              have hb1 : ((A : Int) % 2 != 0) = false := by rw [bne_eq_false_iff_eq]; omega
              have hr1 : (A : Int) % 2 = 0 := by omega
              have HE := hide (show Gf2.stpN k T (K % 2 ^ (j + 1)) S = Gf2.stpN k T (K % 2 ^ j) S by rw [HMD.out, hz, Nat.mul_zero, Nat.add_zero])
              clear hodd hz
              go_wp2_with fail
              go_meet
              case rel => exact ⟨rfl, by rw [HE.out]; exact hF⟩
          case rest =>
            obtain ⟨rfl, hF2⟩ := hcut
            obtain ⟨f, hj, hf⟩ := hF2.out
            have HF3 := hide hf
            obtain ⟨q0, q1, q2, fz, -⟩ := hj.cells
            have hl := hj.lt
            have HLL := hide (hj.below' (B := wc.heap.size) ((Below.refl _ _).alloc (Nat.le_refl _) (.cells #[.int .u64 0, .int .u64 0, .int .u64 0, .int .u64 0, .int .u64 0, .int .u64 0, .int .u64 0, .int .u64 0, .int .u64 0, .int .u64 0, .int .u64 0, .int .u64 0, .int .u64 0, .int .u64 0, .int .u64 0, .int .u64 0, .int .u64 0, .int .u64 0, .int .u64 0, .int .u64 0] 100)) hl)
            have hwge : w.heap.size ≤ wc.heap.size := hj.below.size
            have hzz2 : w.heap.size < wc.heap.size := hl.1
            clear hF hF2 hj hf he1
            generalize hS2 : Gf2.stpN k T (K % 2 ^ (j + 1)) S = S2 at *
            have HS2 := hide hS2
            clear hS2
            go_wp2_with fail
            go_loopw [49] (fun i u => ∃ i' : Nat, i' ≤ k ∧ i = .int .i64 i' ∧ Hid (JmpSt w u w.heap.size (w.heap.size + 1) M k T S2 f) ∧ Hid (∃ f2, MatB u wc.heap.size f2 ∧ ∀ l, l < i' → f2 l = Gf2.stpN k T (2 ^ j) (Gf2.stpN k T (2 ^ j) (2 ^ l)))) (fun i _ => k - (intOf i).toNat)
            case atStart => exact ⟨0, by omega, rfl, HLL, hide ⟨_, mat_new wc, fun l hl => absurd hl (by omega)⟩⟩
            case round =>
              obtain ⟨i', hi', rfl, hj, hF4⟩ := hrel
              by_cases hlt : i' < k
              · obtain ⟨f2, hm2, hf2⟩ := hF4.out
                obtain ⟨q0, q1, q2, fz, -⟩ := hj.out.cells
                have hmc := hj.out.mat.cell (i := i') (by omega)
                rw [HF3.out i' hlt] at hmc
                have HV := hide (Gf2.stpN_lt (D := k) (T := T) (v := 2 ^ i') hkn (Nat.pow_lt_pow_right (by omega) hlt) (2 ^ j))
                have HAP := hide (apply_any k M ⟨hlo, hhi⟩ _ HLN.out f HF3.out _ HV.out _ hj.out.mat (HT.out.below hj.out.below))
                have HM2 := hide hm2
                have HF5 := hide hf2
                have hm2c := hm2.cell (i := i') (by omega)
                have hm2f := hm2.frz (i := i') (by omega)
                have hi0 : (0 : Int) ≤ i' := by omega
                have hi20 : (i' : Int) < 20 := by omega
                clear hm2 hf2 hF4
                generalize hy : Gf2.stpN k T (2 ^ j) (Gf2.stpN k T (2 ^ j) (2 ^ i')) = y at *
                generalize hv0 : Gf2.stpN k T (2 ^ j) (2 ^ i') = v0 at *
                have HY := hide (show Gf2.stpN k T (2 ^ j) (Gf2.stpN k T (2 ^ j) (2 ^ i')) = y by rw [hv0]; exact hy)
                clear hy hv0
                go_wp2_with fail
                refine HAP.out.mono ?_
                rintro e w6 ⟨rfl, d, rfl⟩
                have HJ6 := hide ((hj.out.drewN d).far (p := ⟨wc.heap.size, i', none⟩) ⟨by simp; omega, by simp; omega, by simp; omega⟩ (by simp; omega) (.int .u64 (y : Nat)))
                have HM6 := hide ((HM2.out.drewN d).set (i := i') (by omega) y)
                go_wp2_with fail
                go_roundw
                case rel => exact ⟨i' + 1, by omega, by simp, HJ6, hide ⟨_, HM6.out, fun l hl2 => by
                  by_cases e : l = i'
                  · subst e; rw [if_pos rfl]; exact HY.out.symm
                  · rw [if_neg e]; exact HF5.out l (by omega)⟩⟩
                case measure => simp [intOf]; omega
              · obtain rfl : i' = k := by omega
                obtain ⟨f2, hm2, hf2⟩ := hF4.out
                have HM2 := hide hm2
                have HF5 := hide hf2
                have HJ7 := hide (hj.out.mats f2)
                clear hm2 hf2 hF4
                go_wp2_with (first
                  | ((with_reducible show wpList _ _ _ ({ dst := some 59, op := _, type := _, pos := _, after := _, guard := _ } :: _) _ _); refine wpList_load_mat rfl (.tmp 10) rfl wc.heap.size rfl f2 HM2.out ?_)
                  | ((with_reducible show wpList _ _ _ ({ dst := none, op := Op.store 100 _ _, type := _, pos := _, after := _, guard := _ } :: _) _ _); refine wpList_store_mat rfl (.tmp 7) (.tmp 59) rfl M f f2 rfl rfl hj.out.mat ?_)
                  | go_in)
                go_roundw
                case rel => exact ⟨j + 1, by rw [HNX.out]; simp, hide ⟨f2, by rw [HS2.out]; exact HJ7.out, fun l hl2 => by rw [HF5.out l hl2, Nat.pow_succ, Nat.mul_two, Gf2.stpN_add]⟩⟩
                case measure => simp [intOf]; omega
end Go.Proofs.YtknkkoemghceeaaDoor
