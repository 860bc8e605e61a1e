/- The law WeatherOwn, walked: it returns true. -/
import Derived.Test.YtmagpmoghnmhmaaRows
import Derived.Test.YtmagpmoghnmhmaaWSpell
import Derived.Test.YtmagpmoghnmhmaaLwUndone
import Derived.Test.YtmagpmoghnmhmaaApartW
namespace Go.Proofs.Ytmagpmoghnmhmaa
open Go.RowKit

/-- days out of whatever number -/
theorem hun_of (z : Int) : ∃ m : Nat, (z.tmod 100 + 100).tmod 100 = m ∧ m < 100 ∧ -99 ≤ z.tmod 100 ∧ z.tmod 100 ≤ 99 := by
  have h1 : -100 < z.tmod 100 := Int.lt_tmod_of_pos z (by omega)
  have h2 : z.tmod 100 < 100 := Int.tmod_lt_of_pos z (by omega)
  generalize z.tmod 100 = t at *
  rw [Int.tmod_eq_emod_of_nonneg (by omega)]
  exact ⟨((t + 100) % 100).toNat, by omega, by omega, by omega, by omega⟩
theorem OwnB.base {w : World} {B B' : Nat} {v : Value} {xs : List Nat} (h : OwnB w B v xs) (hle : B' ≤ B) : OwnB w B' v xs := by
  obtain ⟨h1, h2⟩ := h
  refine ⟨h1, ?_⟩
  rcases h2 with h2 | ⟨g, cap, cur, e, hb, r⟩
  · exact .inl h2
  · exact .inr ⟨g, cap, cur, e, Nat.le_trans hle hb, r⟩
/-- a row that is owned, in its place -/
structure Oat (w : World) (lo hi : Nat) (v : Value) (xs : List Nat) : Prop where
  own : OwnB w lo v xs
  hi : ∀ g, v.ownBlock = some g → g < hi
section
variable {w w' : World} {lo hi : Nat} {v : Value} {xs : List Nat}
theorem Oat.below (h : Oat w lo hi v xs) (hb : Below w.heap.size w w') : Oat w' lo hi v xs := ⟨h.own.below hb, h.hi⟩
theorem Oat.two {x g : Nat} (h : Oat w lo hi v xs) (ht : Two w w' x g) (h1 : x < lo ∨ hi ≤ x) (h2 : g < lo ∨ hi ≤ g) : Oat w' lo hi v xs :=
  ⟨h.own.keep fun q hq => ht.block q (h.own.lt hq).2 (by have := h.own.lt hq; have := h.hi q hq; omega) (by have := h.own.lt hq; have := h.hi q hq; omega), h.hi⟩
theorem Oat.new {w' : World} {B : Nat} (h : OwnB w' B v xs) : Oat w' B w'.heap.size v xs := ⟨h, fun _ hq => (h.lt hq).2⟩
end
/-- four rows in a list of their own -/
def four {α : Type} (a b c d : α) (i : Nat) : α := if i = 0 then a else if i = 1 then b else if i = 2 then c else d
theorem four_cases {n : Nat} (h : n < 4) : n = 0 ∨ n = 1 ∨ n = 2 ∨ n = 3 := by omega
theorem four_own {w : World} {B h1 h2 h3 h4 h5 : Nat} {a b c d : Value} {xa xb xc xd : List Nat} (ha : Oat w h1 h2 a xa) (hb : Oat w h2 h3 b xb) (hc : Oat w h3 h4 c xc) (hd : Oat w h4 h5 d xd) (hB : B ≤ h1) (hle : h1 ≤ h2 ∧ h2 ≤ h3 ∧ h3 ≤ h4 ∧ h4 ≤ h5) (h5w : h5 ≤ w.heap.size) (ty : TypeId) :
    ApS (w.alloc (.cells #[a, b, c, d] ty)) B w.heap.size 4 (four a b c d) (four xa xb xc xd) := by
  have hn := heap_alloc_new w (.cells #[a, b, c, d] ty)
  refine ⟨fun i hi => ?_, fun i hi => ?_, fun i j g hi hj hne h1 h2 => ?_, fun i hi e => ?_, by omega, by simp⟩
  · rcases four_cases hi with rfl | rfl | rfl | rfl
    · exact cell_of_row _ w.heap.size 0 _ ty (0, 0) hn
    · exact cell_of_row _ w.heap.size 1 _ ty (0, 0) hn
    · exact cell_of_row _ w.heap.size 2 _ ty (0, 0) hn
    · exact cell_of_row _ w.heap.size 3 _ ty (0, 0) hn
  · rcases four_cases hi with rfl | rfl | rfl | rfl
    · exact (ha.own.base hB).alloc _
    · exact (hb.own.base (by omega)).alloc _
    · exact (hc.own.base (by omega)).alloc _
    · exact (hd.own.base (by omega)).alloc _
  · have la := fun q => ha.own.lt (g := q)
    have lb := fun q => hb.own.lt (g := q)
    have lc := fun q => hc.own.lt (g := q)
    have ld := fun q => hd.own.lt (g := q)
    have ua := ha.hi; have ub := hb.hi; have uc := hc.hi; have ud := hd.hi
    rcases four_cases hi with rfl | rfl | rfl | rfl <;> rcases four_cases hj with rfl | rfl | rfl | rfl <;>
      first
      | exact absurd rfl hne
      | (simp only [four] at h1 h2
         simp at h1 h2
         first
         | (have p := la g h1; have q := lb g h2; have r := ua g h1; omega)
         | (have p := la g h1; have q := lc g h2; have r := ua g h1; omega)
         | (have p := la g h1; have q := ld g h2; have r := ua g h1; omega)
         | (have p := lb g h1; have q := la g h2; have r := ua g h2; omega)
         | (have p := lb g h1; have q := lc g h2; have r := ub g h1; omega)
         | (have p := lb g h1; have q := ld g h2; have r := ub g h1; omega)
         | (have p := lc g h1; have q := la g h2; have r := ua g h2; omega)
         | (have p := lc g h1; have q := lb g h2; have r := ub g h2; omega)
         | (have p := lc g h1; have q := ld g h2; have r := uc g h1; omega)
         | (have p := ld g h1; have q := la g h2; have r := ua g h2; omega)
         | (have p := ld g h1; have q := lb g h2; have r := ub g h2; omega)
         | (have p := ld g h1; have q := lc g h2; have r := uc g h2; omega))
  · rcases four_cases hi with rfl | rfl | rfl | rfl
    · have := (ha.own.lt (g := w.heap.size) e).2; omega
    · have := (hb.own.lt (g := w.heap.size) e).2; omega
    · have := (hc.own.lt (g := w.heap.size) e).2; omega
    · have := (hd.own.lt (g := w.heap.size) e).2; omega
theorem four_blocks {w : World} {h1 h2 h3 h4 h5 : Nat} {a b c d : Value} {xa xb xc xd : List Nat} (ha : Oat w h1 h2 a xa) (hb : Oat w h2 h3 b xb) (hc : Oat w h3 h4 c xc) (hd : Oat w h4 h5 d xd) (hle : h1 ≤ h2 ∧ h2 ≤ h3 ∧ h3 ≤ h4 ∧ h4 ≤ h5) :
    ∀ i, i < 4 → ∀ g, (four a b c d i).ownBlock = some g → h1 ≤ g ∧ g < h5 := fun i hi g e => by
  rcases four_cases hi with rfl | rfl | rfl | rfl
  · have := ha.own.lt (g := g) e; have := ha.hi g e; omega
  · have := hb.own.lt (g := g) e; have := hb.hi g e; omega
  · have := hc.own.lt (g := g) e; have := hc.hi g e; omega
  · have := hd.own.lt (g := g) e; have := hd.hi g e; omega
theorem OwnB.rowA {w : World} {B n c : Nat} {ad : Option Addr} {xs : List Nat} (h : OwnB w B (.slice ad n c) xs) : RowA w ad xs ∧ n = xs.length := by
  obtain ⟨a, k, e, r⟩ := h.row
  simp only [Value.slice.injEq] at e
  obtain ⟨rfl, rfl, rfl⟩ := e
  exact ⟨r, rfl⟩
theorem own_bad (D : Int) (T S : Nat) (W B C M : Int) (hT : T ≤ 18446744073709551615) (hS : S ≤ 18446744073709551615) (hne : wchk D T S W B C M ≠ 0) (b1 b2 : Value) (w : World) :
    Calls Try.prog 8 #[.agg #[.int .i64 D, .int .u64 T, .int .u64 S, .int .i64 W, .int .i64 B, .int .i64 C, .int .i64 M], b1, b2] w fun e w' => e = .returned (.bool true) ∧ Below w.heap.size w w' := by
  have HC := hide (r37check_any D T S W B C M hT hS)
  have hb := nzBne hne
  generalize wchk D T S W B C M = cf at *
  clear hne
  go_enter Try.func8, Try.ntmps8
  go_wp2_with fail
  refine (HC.out _).mono ?_
  rintro e w1 ⟨rfl, hb1⟩
  go_wp2_with fail
  refine (knows_any _).mono ?_
  rintro e w2 ⟨rfl, hb2⟩
  go_wp2_with fail
  go_ret
  exact ⟨rfl, below_then (below_one hb1) hb2⟩
set_option maxRecDepth 100000 in
set_option maxHeartbeats 4000000 in
theorem own_good (p : Gf2.Wp) (S : Nat) (hg : GoodL p.D p.T S) (h0 : wchk p.D p.T S p.W p.B p.C p.M = 0) (z : Int) (ad1 : Option Addr) (cap1 : Nat) (xs : List Nat) (hl1 : xs.length ≤ 140737488351232) (h81 : ∀ i, xs.getD i 0 ≤ 255) (w : World) (hr1 : RowA w ad1 xs) :
    Calls Try.prog 8 #[.agg #[.int .i64 p.D, .int .u64 p.T, .int .u64 S, .int .i64 p.W, .int .i64 p.B, .int .i64 p.C, .int .i64 p.M], .slice ad1 xs.length cap1, .int .i64 z] w fun e w' => e = .returned (.bool true) ∧ Below w.heap.size w w' := by
  have HC := hide (r37check_any p.D p.T S p.W p.B p.C p.M (by have := hg.small; omega) (by have := hg.small; omega))
  rw [h0] at HC
  have HN := hide (wnew_good p S hg h0)
  obtain ⟨m, em, m100, t0, t1⟩ := hun_of z
  have HRW := hide fun (u : World) (h : RowA u ad1 xs) => row_any 4 (by omega) ad1 cap1 xs (by omega) h81 u h
  have HSP := hide (spell_ok p S hg h0 m (by omega))
  have hul : ((List.range xs.length).map fun i => xs.getD i 0 % 4).length = xs.length := by simp
  have hux : ∀ i, i < ((List.range xs.length).map fun i => xs.getD i 0 % 4).length → ((List.range xs.length).map fun i => xs.getD i 0 % 4).getD i 0 < 4 := fun i hi => by
    rw [hul] at hi; rw [fill_at _ hi]; exact Nat.mod_lt _ (by omega)
  generalize (List.range xs.length).map (fun i => xs.getD i 0 % 4) = us at *
  have hul2 : us.length ≤ 140737488351232 := by omega
  have HT := hide fun (x bn g : Nat) (u : World) (ad : Option Addr) (cap : Nat) (h : WSt u x bn g p S (S, false) 0) (hr : RowA u ad us) (hne : ∀ b off, ad = some ⟨b, off, none⟩ → b ≠ x ∧ b ≠ g) =>
    turn_ok 4 (by omega) ad cap us hul2 hux u h (by omega) hr hne
  have HR1 := hide hr1
  clear hg h0 h81 hr1 hux hul hl1
  generalize ht : z.tmod 100 = t at *
  go_enter Try.func8, Try.ntmps8
  go_wp2_with fail
  refine (HC.out _).mono ?_
  rintro e w1 ⟨rfl, hb1⟩
  have HX1 := hide (boxW w w1 p S _ (by simpa using hb1))
  have HB1 := hide (below_one hb1)
  have hz1 := size_mid (w1 := w) hb1
  clear hb1
  go_wp2_with fail
  refine (knows_any _).mono ?_
  rintro e w2 ⟨rfl, hb2⟩
  have HX2 := hide ((hb2.block _ hz1).trans HX1.out)
  have hz2 : w.heap.size < w2.heap.size := by have := hb2.size; omega
  have HB2 := hide (below_then HB1.out hb2)
  clear hb2
  go_wp2_with fail
  refine (HRW.out _ (HR1.out.below HB2.out)).mono ?_
  rintro e w3 ⟨vu, rfl, hou, hb3⟩
  have HX3 := hide ((hb3.block _ hz2).trans HX2.out)
  have HB3 := hide (below_then HB2.out hb3)
  have z3 := hb3.size
  have hz3 : w.heap.size < w3.heap.size := by omega
  obtain ⟨au, cu, rfl, ru, gu⟩ := hou.rowg
  have RU3 := hide (show Rat w3 w2.heap.size w3.heap.size au us from ⟨ru, gu⟩)
  clear hou hb3 ru gu
  obtain ⟨q0, q1, q2, q3, q4, q5, q6⟩ := boxW_cells HX3.out
  go_wp2_with fail
  refine (HN.out _).mono ?_
  rintro e w4 ⟨x, bx, gx, rfl, hs4, ⟨a1, a2, a3⟩, hb4⟩
  have HX4 := hide ((hb4.block _ hz3).trans HX3.out)
  have HB4 := hide (below_then HB3.out hb4)
  have z4 := hb4.size
  have hz4 : w.heap.size < w4.heap.size := by omega
  have WX4 := hide (show Wat w4 w3.heap.size w4.heap.size x bx gx p S (S, false) 0 from ⟨hs4, a1, hs4.lt.1, a2, hs4.lt.2.1, a3, hs4.lt.2.2⟩)
  have RU4 := hide (RU3.out.below hb4)
  clear hs4 hb4 a1 a2 a3 q0 q1 q2 q3 q4 q5 q6
  obtain ⟨q0, q1, q2, q3, q4, q5, q6⟩ := boxW_cells HX4.out
  go_wp2_with fail
  refine (HN.out _).mono ?_
  rintro e w5 ⟨y, by_, gy, rfl, hs5, ⟨a1, a2, a3⟩, hb5⟩
  have HX5 := hide ((hb5.block _ hz4).trans HX4.out)
  have HB5 := hide (below_then HB4.out hb5)
  have z5 := hb5.size
  have hz5 : w.heap.size < w5.heap.size := by omega
  have WX5 := hide (WX4.out.below hb5 (Nat.le_refl _))
  have WY5 := hide (show Wat w5 w4.heap.size w5.heap.size y by_ gy p S (S, false) 0 from ⟨hs5, a1, hs5.lt.1, a2, hs5.lt.2.1, a3, hs5.lt.2.2⟩)
  have RU5 := hide (RU4.out.below hb5)
  clear hs5 hb5 a1 a2 a3 q0 q1 q2 q3 q4 q5 q6
  go_wp2_with fail
  refine (num_any _ _).mono ?_
  rintro e w' ⟨rfl, rfl⟩
  go_wp2_with fail
  refine (num_any _ _).mono ?_
  rintro e w' ⟨rfl, rfl⟩
  go_wp2_with fail
  have ox1 := WX5.out.x1; have ox2 := WX5.out.x2; have ox3 := WX5.out.g1; have ox4 := WX5.out.g2
  have oy1 := WY5.out.x1; have oy2 := WY5.out.x2; have oy3 := WY5.out.g1; have oy4 := WY5.out.g2
  refine (HT.out x bx gx _ _ _ WX5.out.st RU5.out.row (RU5.out.ne (by omega) (by omega))).mono ?_
  rintro e w6 ⟨vl, rfl, hol, _, ht6⟩
  have z6 := ht6.size
  have HX6 := hide ((ht6.block w.heap.size (by omega) (by omega) (by omega)).trans HX5.out)
  have HB6 := hide (Two.then_ HB5.out ht6 (by omega) (by omega) HB5.out.size)
  have WY6 := hide (WY5.out.two ht6 (by omega) (by omega))
  have RU6 := hide (RU5.out.two ht6 (by omega) (by omega))
  obtain ⟨al, cl, hvl, _, _⟩ := hol.rowg
  rw [Gf2.wturn_length] at hvl
  subst hvl
  have OL6 := hide (Oat.new hol)
  clear hol ht6
  go_wp2_with fail
  refine (HT.out y by_ gy _ _ _ WY6.out.st RU6.out.row (RU6.out.ne (by omega) (by omega))).mono ?_
  rintro e w7 ⟨vm, rfl, hom, _, ht7⟩
  have z7 := ht7.size
  have HX7 := hide ((ht7.block w.heap.size (by omega) (by omega) (by omega)).trans HX6.out)
  have HB7 := hide (Two.then_ HB6.out ht7 (by omega) (by omega) HB6.out.size)
  have RU7 := hide (RU6.out.two ht7 (by omega) (by omega))
  have OL7 := hide (OL6.out.two ht7 (by omega) (by omega))
  obtain ⟨am, cm, hvm, _, _⟩ := hom.rowg
  rw [Gf2.wturn_length] at hvm
  subst hvm
  have OM7 := hide (Oat.new hom)
  clear hom ht7
  obtain ⟨q0, q1, q2, q3, q4, q5, q6⟩ := boxW_cells HX7.out
  go_wp2_with fail
  refine (HSP.out _).mono ?_
  rintro e w8 ⟨vs, rfl, hos, hb8⟩
  have z8 := hb8.size
  have HX8 := hide ((hb8.block _ (by omega)).trans HX7.out)
  have HB8 := hide (below_then HB7.out hb8)
  have RU8 := hide (RU7.out.below hb8)
  have OL8 := hide (OL7.out.below hb8)
  have OM8 := hide (OM7.out.below hb8)
  obtain ⟨as_, cs, hvs, _, _⟩ := hos.rowg
  have OS8 := hide (Oat.new hos)
  clear hos hb8 q0 q1 q2 q3 q4 q5 q6
  obtain ⟨q0, q1, q2, q3, q4, q5, q6⟩ := boxW_cells HX8.out
  go_wp2_with fail
  refine (HSP.out _).mono ?_
  rintro e w9 ⟨vt, rfl, hot, hb9⟩
  have z9 := hb9.size
  have HX9 := hide ((hb9.block _ (by omega)).trans HX8.out)
  have HB9 := hide (below_then HB8.out hb9)
  have RU9 := hide (RU8.out.below hb9)
  have OL9 := hide (OL8.out.below hb9)
  have OM9 := hide (OM8.out.below hb9)
  have OS9 := hide (OS8.out.below hb9)
  obtain ⟨at_, ct, hvt, _, _⟩ := hot.rowg
  have OT9 := hide (Oat.new hot)
  clear hot hb9 q0 q1 q2 q3 q4 q5 q6
  subst hvs
  subst hvt
  have hll : (Gf2.wturn p 4 (S, false) us).length = us.length := Gf2.wturn_length _ _ _ _
  generalize Gf2.wturn p 4 (S, false) us = ls at *
  have hsl : (Gf2.wspell p (S, false) m).length = m := by simp [Gf2.wspell]
  generalize Gf2.wspell p (S, false) m = sp at *
  have hspm : sp.length + 40 ≤ 140737488355328 := by omega
  clear hsl
  have cvl := OL9.out.own.rowA.1.conv cl
  have cvm := OM9.out.own.rowA.1.conv cm
  rw [hll] at cvl cvm
  have cvs := OS9.out.own.rowA.1.conv cs
  have cvt := OT9.out.own.rowA.1.conv ct
  have cvu := RU9.out.row.conv cu
  have hA := four_own (B := w.heap.size + 1) OL9.out OM9.out OS9.out OT9.out (by omega) (by omega) (by omega) 40
  have hfb := four_blocks OL9.out OM9.out OS9.out OT9.out (by omega)
  have HAP := hide (apart_any (w.heap.size + 1) w9.heap.size 4 4 _ _ (by omega) (fun i hi => by
    rcases four_cases hi with rfl | rfl | rfl | rfl <;> simp [four] <;> omega) _ hA)
  have HFB := hide hfb
  have HLL := hide hll
  clear hA hfb hll
  go_wp2_with fail
  refine (num_any _ _).mono ?_
  rintro e w' ⟨rfl, rfl⟩
  go_wp2_with fail
  refine (num_any _ _).mono ?_
  rintro e w' ⟨rfl, rfl⟩
  go_wp2_with fail
  refine (num_any _ _).mono ?_
  rintro e w' ⟨rfl, rfl⟩
  go_wp2_with fail
  refine (num_any _ _).mono ?_
  rintro e w' ⟨rfl, rfl⟩
  go_wp2_with fail
  refine HAP.out.mono ?_
  rintro e w10 ⟨rfl, hm⟩
  have z10 := hm.size
  rw [World.size_alloc] at z10
  have HX10 := hide ((hm.block w.heap.size (by simp; omega) (fun i hi e => by have := HFB.out i hi _ e; omega)).trans ((Below.heap_alloc w9 _ w.heap.size (by omega)).trans HX9.out))
  have HB10 := hide (Mny.then_ (HB9.out.alloc HB9.out.size _) hm (fun i k hi e => by have := HFB.out i hi _ e; omega) (by simp; omega))
  have RU10 := hide ((RU9.out.row.alloc (.cells #[.slice al us.length cl, .slice am us.length cm, .slice as_ sp.length cs, .slice at_ sp.length ct] 40)).keep hm.size (fun b off e hlt => hm.block b hlt (fun i hi e2 => by have := HFB.out i hi _ e2; have := RU9.out.at_ b off e; omega)))
  clear hm cvl cvm cvs cvt cvu HAP
  have cvu := RU10.out.conv cu
  obtain ⟨p0, p1, p2, p3, p4, p5, p6⟩ := boxW_cells HX10.out
  go_wp2_with fail
  refine (HSP.out _).mono ?_
  rintro e w11 ⟨vo, rfl, hoo, hb11⟩
  have HB11 := hide (below_then HB10.out hb11)
  obtain ⟨ao, co, hvo, ro, _⟩ := hoo.rowg
  subst hvo
  have cvo := ro.conv co
  clear hoo hb11 ro
  go_wp2_with fail
  refine (num_any _ _).mono ?_
  rintro e w' ⟨rfl, rfl⟩
  go_wp2_with fail
  go_ret
  exact ⟨rfl, HB11.out⟩
theorem law_own (D : Int) (T S : Nat) (W B C M : Int) (z : Int) (hT : T ≤ 18446744073709551615) (hS : S ≤ 18446744073709551615) (ad1 : Option Addr) (cap1 : Nat) (xs : List Nat) (hl1 : xs.length ≤ 140737488351232) (h81 : ∀ i, i < xs.length → xs.getD i 0 ≤ 255) (w : World) (hr1 : RowA w ad1 xs) :
    Calls Try.prog 8 #[.agg #[.int .i64 D, .int .u64 T, .int .u64 S, .int .i64 W, .int .i64 B, .int .i64 C, .int .i64 M], .slice ad1 xs.length cap1, .int .i64 z] w fun e w' => e = .returned (.bool true) ∧ Below w.heap.size w w' := by
  by_cases h0 : wchk D T S W B C M = 0
  · obtain ⟨⟨n, rfl, hg⟩, _⟩ := wchk_zero h0
    exact own_good ⟨n, T, W, B, C, M⟩ S hg h0 z ad1 cap1 xs hl1 (all8 h81) w hr1
  · exact own_bad D T S W B C M hT hS h0 _ _ w
end Go.Proofs.Ytmagpmoghnmhmaa
