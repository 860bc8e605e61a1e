/- (*Weather).pass, good, At, Bad, walked: a symbol goes by. -/
import Derived.Test.YtmagpmoghnmhmaaRows
import Derived.Test.YtmagpmoghnmhmaaWDraw
namespace Go.Proofs.Ytmagpmoghnmhmaa
open Go.RowKit

/-- nothing but the blocks x and g has been written -/
structure Two (w w' : World) (x g : Nat) : Prop where
  os : w'.os = w.os
  tape : w'.tape = w.tape
  output : w'.output = w.output
  size : w.heap.size ≤ w'.heap.size
  block : ∀ k, k < w.heap.size → k ≠ x → k ≠ g → w'.heap[k]? = w.heap[k]?
section
variable {w u v : World} {x g : Nat}
theorem Two.refl (w : World) (x g : Nat) : Two w w x g := ⟨rfl, rfl, rfl, Nat.le_refl _, fun _ _ _ _ => rfl⟩
theorem Two.trans (h : Two w u x g) (h2 : Two u v x g) : Two w v x g :=
  ⟨h2.os.trans h.os, h2.tape.trans h.tape, h2.output.trans h.output, Nat.le_trans h.size h2.size, fun k hk h3 h4 => (h2.block k (Nat.lt_of_lt_of_le hk h.size) h3 h4).trans (h.block k hk h3 h4)⟩
theorem Two.of_grown (h : w.grownBy u (some g)) : Two w u x g := ⟨h.os, h.tape, h.output, h.size, fun k hk _ h4 => h.block k hk (by simpa using h4)⟩
theorem Two.set (h : Two w u x g) (j : Nat) (z : Value) : Two w (u.setCell ⟨x, j, none⟩ z) x g :=
  ⟨h.os, h.tape, h.output, by simpa using h.size, fun k hk h3 h4 => (Below.heap_setCell u _ _ k h3).trans (h.block k hk h3 h4)⟩
theorem Two.drew (h : Two w u x g) : Two w u.drew x g := ⟨h.os, h.tape, h.output, h.size, h.block⟩
theorem Two.then_ {B : Nat} (h : Below B w u) (h2 : Two u v x g) (hx : B ≤ x) (hg : B ≤ g) (hB : B ≤ u.heap.size) : Below B w v :=
  ⟨h2.os.trans h.os, h2.tape.trans h.tape, h2.output.trans h.output, Nat.le_trans h.size h2.size, fun k hk => (h2.block k (Nat.lt_of_lt_of_le hk hB) (by omega) (by omega)).trans (h.block k hk)⟩
end
theorem RowA.two {w w' : World} {x g : Nat} {ad : Option Addr} {xs : List Nat} (h : RowA w ad xs) (ht : Two w w' x g) (hne : ∀ b off, ad = some ⟨b, off, none⟩ → b ≠ x ∧ b ≠ g) : RowA w' ad xs :=
  h.keep ht.size fun b off e hb => ht.block b hb (hne b off e).1 (hne b off e).2
theorem OwnB.two {w w' : World} {x g B : Nat} {v : Value} {xs : List Nat} (h : OwnB w B v xs) (ht : Two w w' x g) (hne : ∀ b, v.ownBlock = some b → b ≠ x ∧ b ≠ g) : OwnB w' B v xs :=
  h.keep fun b e => ht.block b (h.lt e).2 (hne b e).1 (hne b e).2
/-- block x holds a weather that stands at a day, so many symbols gone -/
def WeaB (w : World) (x : Nat) (p : Gf2.Wp) (S0 bn : Nat) (bad : Bool) (n : Nat) : Prop :=
  ∃ ty, w.heap[x]? = some (.cells #[.int .i64 p.D, .int .u64 p.T, .int .u64 S0, .int .i64 p.W, .int .i64 p.B, .int .i64 p.C, .int .i64 p.M, .func (.func 43) #[] #[.pointer (some ⟨bn, 0, none⟩)], .bool bad, .int .u64 n] ty (0, 0))
section
variable {w w' : World} {x : Nat} {p : Gf2.Wp} {S0 bn : Nat} {bad : Bool} {n : Nat}
theorem WeaB.lt (h : WeaB w x p S0 bn bad n) : x < w.heap.size := by
  obtain ⟨ty, h⟩ := h
  exact (Array.getElem?_eq_some_iff.1 h).1
theorem WeaB.cells (h : WeaB w x p S0 bn bad n) : w.cell? ⟨x, 3, none⟩ = some (.int .i64 p.W) ∧ w.cell? ⟨x, 4, none⟩ = some (.int .i64 p.B) ∧ w.cell? ⟨x, 5, none⟩ = some (.int .i64 p.C) ∧ w.cell? ⟨x, 6, none⟩ = some (.int .i64 p.M) ∧
    w.cell? ⟨x, 7, none⟩ = some (.func (.func 43) #[] #[.pointer (some ⟨bn, 0, none⟩)]) ∧ w.cell? ⟨x, 8, none⟩ = some (.bool bad) ∧ w.cell? ⟨x, 9, none⟩ = some (.int .u64 n) ∧ w.frozen? ⟨x, 8, none⟩ = false ∧ w.frozen? ⟨x, 9, none⟩ = false := by
  obtain ⟨ty, h⟩ := h
  exact ⟨cell_of_row w x 3 _ ty (0, 0) h, cell_of_row w x 4 _ ty (0, 0) h, cell_of_row w x 5 _ ty (0, 0) h, cell_of_row w x 6 _ ty (0, 0) h, cell_of_row w x 7 _ ty (0, 0) h, cell_of_row w x 8 _ ty (0, 0) h, cell_of_row w x 9 _ ty (0, 0) h, frozen_of_row w x 8 _ ty h, frozen_of_row w x 9 _ ty h⟩
theorem WeaB.keep (h : WeaB w x p S0 bn bad n) (hk : w'.heap[x]? = w.heap[x]?) : WeaB w' x p S0 bn bad n := by
  obtain ⟨ty, h⟩ := h
  exact ⟨ty, hk.trans h⟩
theorem WeaB.day (h : WeaB w x p S0 bn bad n) (b : Bool) : WeaB (w.setCell ⟨x, 8, none⟩ (.bool b)) x p S0 bn b n := by
  obtain ⟨ty, h⟩ := h
  exact ⟨ty, heap_setCell_same w x 8 _ ty _ h⟩
theorem WeaB.gone (h : WeaB w x p S0 bn bad n) (m : Nat) : WeaB (w.setCell ⟨x, 9, none⟩ (.int .u64 (m : Nat))) x p S0 bn bad m := by
  obtain ⟨ty, h⟩ := h
  exact ⟨ty, heap_setCell_same w x 9 _ ty _ h⟩
end
/-- a weather, its source of bits and its runner -/
structure WSt (w : World) (x bn g : Nat) (p : Gf2.Wp) (S0 : Nat) (s : Nat × Bool) (n : Nat) : Prop where
  wea : WeaB w x p S0 bn s.2 n
  nxt : NextB w bn g
  reg : RegL w g p.D p.T s.1
  good : GoodL p.D p.T s.1
  ne : x ≠ bn ∧ x ≠ g ∧ bn ≠ g
section
variable {w w' : World} {x bn g S0 n : Nat} {p : Gf2.Wp} {s : Nat × Bool}
theorem WSt.below {B : Nat} (h : WSt w x bn g p S0 s n) (hb : Below B w w') (h1 : x < B ∧ bn < B ∧ g < B) : WSt w' x bn g p S0 s n :=
  ⟨h.wea.keep (hb.block x h1.1), h.nxt.below hb h1.2.1, h.reg.below hb h1.2.2, h.good, h.ne⟩
theorem WSt.lt (h : WSt w x bn g p S0 s n) : x < w.heap.size ∧ bn < w.heap.size ∧ g < w.heap.size := ⟨h.wea.lt, h.nxt.lt, h.reg.lt⟩
theorem WSt.grown {row : Option Nat} (h : WSt w x bn g p S0 s n) (hb : w.grownBy w' row) (h1 : some x ≠ row ∧ some bn ≠ row ∧ some g ≠ row) : WSt w' x bn g p S0 s n :=
  ⟨h.wea.keep (hb.block x h.wea.lt h1.1), h.nxt.grown hb h1.2.1, h.reg.grown hb h1.2.2, h.good, h.ne⟩
theorem WSt.two {x' g' : Nat} (h : WSt w x bn g p S0 s n) (ht : Two w w' x' g') (h1 : x ≠ x' ∧ bn ≠ x' ∧ g ≠ x' ∧ x ≠ g' ∧ bn ≠ g' ∧ g ≠ g') : WSt w' x bn g p S0 s n :=
  ⟨h.wea.keep (ht.block x h.wea.lt h1.1 h1.2.2.2.1), h.nxt.keep (ht.block bn h.nxt.lt h1.2.1 h1.2.2.2.2.1), h.reg.keep (ht.block g h.reg.lt h1.2.2.1 h1.2.2.2.2.2), h.good, h.ne⟩
end
theorem run_neq_func (fn : Fn) (f c : Array Value) (w : World) : (binOp .neq 44 (.func fn f c) .nilFunc).run Try.prog w = .ok (.bool true) w := by kernel_rfl
theorem run_neq_nilfunc (w : World) : (binOp .neq 44 .nilFunc .nilFunc).run Try.prog w = .ok (.bool false) w := by kernel_rfl
set_option maxHeartbeats 400000 in
theorem wgood_any {x bn g S0 n : Nat} {p : Gf2.Wp} {s : Nat × Bool} (w : World) (h : WSt w x bn g p S0 s n) :
    Calls Try.prog 37 #[.pointer (some ⟨x, 0, none⟩)] w fun e w' => e = .returned (.bool true) ∧ w = w' := by
  obtain ⟨-, -, -, -, q7, -⟩ := h.wea.cells
  have hneq := run_neq_func
  clear h
  go_enter Try.func37, Try.ntmps37
  go_wp2_with fail
  go_ret
  exact ⟨rfl, rfl⟩
set_option linter.unusedSimpArgs false in
set_option maxHeartbeats 2000000 in
theorem pass_any {x bn g S0 n : Nat} {p : Gf2.Wp} {s : Nat × Bool} (w : World) (h : WSt w x bn g p S0 s n) (hn : n ≤ 4611686018427387904) :
    Calls Try.prog 38 #[.pointer (some ⟨x, 0, none⟩)] w fun e w' => e = .returned (.bool (Gf2.whit p s)) ∧ WSt w' x bn g p S0 (Gf2.wnx p s) (n + 1) ∧ Two w w' x g := by
  obtain ⟨S, bad⟩ := s
  obtain ⟨n1, n2, n3⟩ := h.ne
  have HD := hide fun (k : Nat) (W : World) (hr : RegL W g p.D p.T (Gf2.stpN p.D p.T k S)) (hb : NextB W bn g) => draw_any p.D p.T (Gf2.stpN p.D p.T k S) bn g (h.good.stpN k) n3 W hr hb
  have H := hide h
  obtain ⟨q3, q4, q5, q6, q7, q8, q9, f8, f9⟩ := h.wea.cells
  have hgd := hide h.good
  clear h
  have d1 : Gf2.drw p.D p.T 8 S ≤ 255 := by have := Gf2.drw_lt p.D p.T 8 S; omega
  have d2 : Gf2.drw p.D p.T 8 (Gf2.stpN p.D p.T 8 S) ≤ 255 := by have := Gf2.drw_lt p.D p.T 8 (Gf2.stpN p.D p.T 8 S); omega
  have HX := hide (show Gf2.wnx p (S, bad) = (Gf2.stpN p.D p.T 8 (Gf2.stpN p.D p.T 8 S), Gf2.wday p (S, bad)) from congrArg (·, _) (Gf2.stpN_add 8 8 S))
  have HH := hide (show Gf2.whit p (S, bad) = decide ((Gf2.drw p.D p.T 8 (Gf2.stpN p.D p.T 8 S) : Int) < if Gf2.wday p (S, bad) then p.M else p.C) from rfl)
  have hday : Gf2.wday p (S, bad) = if bad then decide (p.B ≤ (Gf2.drw p.D p.T 8 S : Int)) else decide ((Gf2.drw p.D p.T 8 S : Int) < p.W) := rfl
  generalize Gf2.wday p (S, bad) = day at *
  generalize Gf2.whit p (S, bad) = hit at *
  generalize Gf2.wnx p (S, bad) = nx at *
  have HD0 := hide (HD.out 0)
  have HD8 := hide fun (W : World) (hr : RegL W g p.D p.T (Gf2.stpN p.D p.T 8 S)) (hb : NextB W bn g) => HD.out 8 W hr hb
  have HR := hide H.out.reg
  have HN := hide H.out.nxt
  have HB := hide H.out.wea
  simp only at HR HB
  generalize Gf2.drw p.D p.T 8 (Gf2.stpN p.D p.T 8 S) = v2 at *
  have e0 : Gf2.drw p.D p.T 8 (Gf2.stpN p.D p.T 0 S) = Gf2.drw p.D p.T 8 S := rfl
  rw [e0] at HD0
  clear e0
  generalize Gf2.drw p.D p.T 8 S = v1 at *
  have hx1 : ¬ g = x := fun e => n2 e.symm
  have ew : IntKind.u64.wrap ((n : Int) + 1) = ((n + 1 : Nat) : Int) := IntWalk.u64_in ((n : Int) + 1) (by omega)
  have fin : ∀ w1 w4 : World, Two w w1 x g → WeaB w1 x p S0 bn bad (n + 1) → NextB w1 bn g → (w1.setCell ⟨x, 8, none⟩ (.bool day)).grownBy w4 (some g) → RegL w4 g p.D p.T (Gf2.stpN p.D p.T 8 (Gf2.stpN p.D p.T 8 S)) → WSt w4 x bn g p S0 nx (n + 1) ∧ Two w w4 x g := by
    intro w1 w4 ht hwb hnb hgr hrg
    have hgd2 := (hgd.out.stpN 8).stpN 8
    rw [HX.out]
    refine ⟨⟨(hwb.day day).keep (hgr.block x (by simpa using hwb.lt) (by simpa using n2)), ?_, hrg, hgd2, ⟨n1, n2, n3⟩⟩, (ht.set 8 _).trans (Two.of_grown hgr)⟩
    exact (hnb.keep (Below.heap_setCell _ _ _ _ (Ne.symm n1))).grown hgr (by simpa using n3)
  have FIN := hide fin
  clear fin
  go_enter Try.func38, Try.ntmps38
  go_wp2_with fail
  refine (HD0.out _ ?r0 ?n0).mono ?_
  case r0 => exact HR.out.far hx1 _
  case n0 => exact HN.out.keep (Below.heap_setCell _ _ _ _ (Ne.symm n1))
  rintro e w1 ⟨rfl, hr1, hg1⟩
  have HB1 := hide ((HB.out.gone (n + 1)).keep (hg1.block x (by simpa using HB.out.lt) (by simpa using n2)))
  have HN1 := hide ((HN.out.keep (Below.heap_setCell w ⟨x, 9, none⟩ (.int .u64 (n + 1 : Nat)) _ (Ne.symm n1))).grown hg1 (by simpa using n3))
  have HT1 := hide (((Two.refl w x g).set 9 _).trans (Two.of_grown hg1))
  have HR1 := hide hr1
  obtain ⟨r3, r4, r5, r6, r7, r8, r9, f81, f91⟩ := HB1.out.cells
  clear hr1 hg1 q3 q4 q5 q6 q7 q8 q9 f8 f9
  cases bad
  all_goals
    simp only [Bool.false_eq_true, if_true, if_false] at hday
    replace hday := hday.symm
    cases day
  all_goals
    simp only [Bool.false_eq_true, if_true, if_false] at HH
    go_wp2_with fail
    refine (HD8.out _ ?r1 ?n1).mono ?_
    case r1 => exact HR1.out.far hx1 _
    case n1 => exact HN1.out.keep (Below.heap_setCell _ _ _ _ (Ne.symm n1))
    rintro e w2 ⟨rfl, hr2, hg2⟩
    have HF := hide (FIN.out w1 w2 HT1.out HB1.out HN1.out hg2 hr2)
    clear hr2 hg2
    go_wp2_with fail
    go_ret
    exact ⟨by rw [HH.out]; rfl, HF.out⟩
end Go.Proofs.Ytmagpmoghnmhmaa
