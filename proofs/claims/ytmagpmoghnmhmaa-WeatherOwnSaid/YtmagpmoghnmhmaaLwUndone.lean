/- The law WeatherUndone, walked: it returns true. -/
import Derived.Test.YtmagpmoghnmhmaaRows
import Derived.Test.YtmagpmoghnmhmaaWSpell
import Derived.Test.YtmagpmoghnmhmaaLvOf
import Derived.Test.YtmagpmoghnmhmaaStr
import Derived.Deep.DeepCutAuto
namespace Go.Proofs.Ytmagpmoghnmhmaa
open Go.RowKit

set_option maxRecDepth 100000 in
set_option maxHeartbeats 1000000 in
theorem undone_bad (D : Int) (T S : Nat) (W B C M : Int) (lev : Int) (hT : T ≤ 18446744073709551615) (hS : S ≤ 18446744073709551615) (hne : wchk D T S W B C M ≠ 0) (b1 b2 : Value) (w : World) :
    Calls Try.prog 5 #[.agg #[.int .i64 D, .int .u64 T, .int .u64 S, .int .i64 W, .int .i64 B, .int .i64 C, .int .i64 M], .int .i64 lev, b1, b2] w fun e w' => e = .returned (.bool true) ∧ Below w.heap.size w w' := by
  have HC := hide (r37check_any D T S W B C M hT hS)
  have hb := nzBne hne
  generalize wchk D T S W B C M = cf at *
  clear hne
  go_enter Try.func5, Try.ntmps5
  go_wp2_with fail
  refine (HC.out _).mono ?_
  rintro e w1 ⟨rfl, hb1⟩
  go_wp2_with fail
  refine (knows_any _).mono ?_
  rintro e w2 ⟨rfl, hb2⟩
  go_wp2_with fail
  go_ret
  exact ⟨rfl, below_then (below_one hb1) hb2⟩
/-- a weather that New made, in its place -/
structure Wat (w : World) (lo hi : Nat) (x bn g : Nat) (p : Gf2.Wp) (S : Nat) (s : Nat × Bool) (n : Nat) : Prop where
  st : WSt w x bn g p S s n
  x1 : lo ≤ x
  x2 : x < hi
  b1 : lo ≤ bn
  b2 : bn < hi
  g1 : lo ≤ g
  g2 : g < hi
section
variable {w w' : World} {lo hi x bn g S n : Nat} {p : Gf2.Wp} {s : Nat × Bool}
theorem Wat.below {B : Nat} (h : Wat w lo hi x bn g p S s n) (hb : Below B w w') (hB : hi ≤ B) : Wat w' lo hi x bn g p S s n :=
  ⟨h.st.below hb ⟨by have := h.x2; omega, by have := h.b2; omega, by have := h.g2; omega⟩, h.x1, h.x2, h.b1, h.b2, h.g1, h.g2⟩
theorem Wat.two {x' g' : Nat} (h : Wat w lo hi x bn g p S s n) (ht : Two w w' x' g') (h1 : x' < lo ∨ hi ≤ x') (h2 : g' < lo ∨ hi ≤ g') : Wat w' lo hi x bn g p S s n := by
  have a1 := h.x1; have a2 := h.x2; have a3 := h.b1; have a4 := h.b2; have a5 := h.g1; have a6 := h.g2
  exact ⟨h.st.two ht ⟨by omega, by omega, by omega, by omega, by omega, by omega⟩, h.x1, h.x2, h.b1, h.b2, h.g1, h.g2⟩
theorem Wat.to {s' : Nat × Bool} {n' : Nat} (h : Wat w lo hi x bn g p S s n) (h2 : WSt w' x bn g p S s' n') : Wat w' lo hi x bn g p S s' n' := ⟨h2, h.x1, h.x2, h.b1, h.b2, h.g1, h.g2⟩
end
/-- a row of bytes in its place -/
structure Rat (w : World) (lo : Nat) (hi : Nat) (ad : Option Addr) (xs : List Nat) : Prop where
  row : RowA w ad xs
  at_ : ∀ b off, ad = some ⟨b, off, none⟩ → lo ≤ b ∧ b < hi
section
variable {w w' : World} {lo hi : Nat} {ad : Option Addr} {xs : List Nat}
theorem Rat.below (h : Rat w lo hi ad xs) (hb : Below w.heap.size w w') : Rat w' lo hi ad xs := ⟨h.row.below hb, h.at_⟩
theorem Rat.two {x g : Nat} (h : Rat w lo hi ad xs) (ht : Two w w' x g) (h1 : x < lo ∨ hi ≤ x) (h2 : g < lo ∨ hi ≤ g) : Rat w' lo hi ad xs :=
  ⟨h.row.two ht (fun b off e => by have := h.at_ b off e; omega), h.at_⟩
theorem Rat.ne (h : Rat w lo hi ad xs) {x g : Nat} (h1 : x < lo ∨ hi ≤ x) (h2 : g < lo ∨ hi ≤ g) : ∀ b off, ad = some ⟨b, off, none⟩ → b ≠ x ∧ b ≠ g := fun b off e => by have := h.at_ b off e; omega
end
set_option maxRecDepth 100000 in
set_option maxHeartbeats 4000000 in
theorem undone_good (p : Gf2.Wp) (S : Nat) (hg : GoodL p.D p.T S) (h0 : wchk p.D p.T S p.W p.B p.C p.M = 0) (lev : Int) (ad1 : Option Addr) (cap1 : Nat) (xs : List Nat) (hl1 : xs.length ≤ 1048576) (h81 : ∀ i, xs.getD i 0 ≤ 255)
    (ad2 : Option Addr) (cap2 : Nat) (ys : List Nat) (hl2 : ys.length ≤ 1048576) (h82 : ∀ i, ys.getD i 0 ≤ 255) (w : World) (hr1 : RowA w ad1 xs) (hr2 : RowA w ad2 ys) :
    Calls Try.prog 5 #[.agg #[.int .i64 p.D, .int .u64 p.T, .int .u64 S, .int .i64 p.W, .int .i64 p.B, .int .i64 p.C, .int .i64 p.M], .int .i64 lev, .slice ad1 xs.length cap1, .slice ad2 ys.length cap2] w fun e w' => e = .returned (.bool true) ∧ Below w.heap.size w w' := by
  have HC := hide (r37check_any p.D p.T S p.W p.B p.C p.M (by have := hg.small; omega) (by have := hg.small; omega))
  rw [h0] at HC
  have HN := hide (wnew_good p S hg h0)
  obtain ⟨lv, elv, l2, l16, t0, t1⟩ := lv_of lev
  have HRW1 := hide fun (u : World) (h : RowA u ad1 xs) => row_any lv (by omega) ad1 cap1 xs (by omega) h81 u h
  have HRW2 := hide fun (u : World) (h : RowA u ad2 ys) => row_any lv (by omega) ad2 cap2 ys (by omega) h82 u h
  have hul : ((List.range xs.length).map fun i => xs.getD i 0 % lv).length = xs.length := by simp
  have hux : ∀ i, i < ((List.range xs.length).map fun i => xs.getD i 0 % lv).length → ((List.range xs.length).map fun i => xs.getD i 0 % lv).getD i 0 < lv := fun i hi => by
    rw [hul] at hi; rw [fill_at _ hi]; exact Nat.mod_lt _ (by omega)
  have hvl : ((List.range ys.length).map fun i => ys.getD i 0 % lv).length = ys.length := by simp
  have hvx : ∀ i, i < ((List.range ys.length).map fun i => ys.getD i 0 % lv).length → ((List.range ys.length).map fun i => ys.getD i 0 % lv).getD i 0 < lv := fun i hi => by
    rw [hvl] at hi; rw [fill_at _ hi]; exact Nat.mod_lt _ (by omega)
  generalize (List.range xs.length).map (fun i => xs.getD i 0 % lv) = us at *
  generalize (List.range ys.length).map (fun i => ys.getD i 0 % lv) = vs at *
  have hax : ∀ i, i < (us ++ vs).length → (us ++ vs).getD i 0 < lv := fun i hi => by
    rw [List.length_append] at hi
    rcases Nat.lt_or_ge i us.length with h | h
    · rw [show (us ++ vs).getD i 0 = us.getD i 0 by simp [List.getD, List.getElem?_append_left h]]; exact hux i h
    · rw [show (us ++ vs).getD i 0 = vs.getD (i - us.length) 0 by simp only [List.getD]; rw [List.getElem?_append_right h]]; exact hvx _ (by omega)
  have HT := hide fun (x bn g : Nat) (u : World) (ad : Option Addr) (cap : Nat) (s : Nat × Bool) (n : Nat) (rs : List Nat) (hn : n + rs.length ≤ 4611686018427387904) (hrl : rs.length ≤ 140737488351232) (hrx : ∀ i, i < rs.length → rs.getD i 0 < lv) (h : WSt u x bn g p S s n) (hr : RowA u ad rs) (hne : ∀ b off, ad = some ⟨b, off, none⟩ → b ≠ x ∧ b ≠ g) =>
    turn_ok lv (by omega) ad cap rs hrl hrx u h hn hr hne
  have HUX := hide hux
  have HVX := hide hvx
  have HAX := hide hax
  have HR1 := hide hr1
  have HR2 := hide hr2
  have hul2 : us.length ≤ 1048576 := by omega
  have hvl2 : vs.length ≤ 1048576 := by omega
  clear hg h0 h81 h82 hr1 hr2 hux hvx hax hul hvl hl1 hl2
  generalize ht : lev.tmod 15 = t at *
  go_enter Try.func5, Try.ntmps5
  go_wp2_with fail
  refine (HC.out _).mono ?_
  rintro e w1 ⟨rfl, hb1⟩
  have HX1 := hide (boxW w w1 p S _ (by simpa using hb1))
  have HB1 := hide (below_one hb1)
  have hz1 := size_mid (w1 := w) hb1
  clear hb1
  go_wp2_with fail
  refine (knows_any _).mono ?_
  rintro e w2 ⟨rfl, hb2⟩
  have HX2 := hide ((hb2.block _ hz1).trans HX1.out)
  have hz2 : w.heap.size < w2.heap.size := by have := hb2.size; omega
  have HB2 := hide (below_then HB1.out hb2)
  obtain ⟨q0, q1, q2, q3, q4, q5, q6⟩ := boxW_cells HX2.out
  clear hb2
  go_wp2_with fail
  refine (HN.out _).mono ?_
  rintro e w3 ⟨x, bx, gx, rfl, hs3, ⟨a1, a2, a3⟩, hb3⟩
  have HX3 := hide ((hb3.block _ hz2).trans HX2.out)
  have HB3 := hide (below_then HB2.out hb3)
  have z3 := hb3.size
  have hz3 : w.heap.size < w3.heap.size := by omega
  have WX3 := hide (show Wat w3 w2.heap.size w3.heap.size x bx gx p S (S, false) 0 from ⟨hs3, a1, hs3.lt.1, a2, hs3.lt.2.1, a3, hs3.lt.2.2⟩)
  clear hs3 hb3 a1 a2 a3 q0 q1 q2 q3 q4 q5 q6
  obtain ⟨q0, q1, q2, q3, q4, q5, q6⟩ := boxW_cells HX3.out
  go_wp2_with fail
  refine (HN.out _).mono ?_
  rintro e w4 ⟨y, by_, gy, rfl, hs4, ⟨a1, a2, a3⟩, hb4⟩
  have HX4 := hide ((hb4.block _ hz3).trans HX3.out)
  have HB4 := hide (below_then HB3.out hb4)
  have z4 := hb4.size
  have hz4 : w.heap.size < w4.heap.size := by omega
  have WX4 := hide (WX3.out.below hb4 (Nat.le_refl _))
  have WY4 := hide (show Wat w4 w3.heap.size w4.heap.size y by_ gy p S (S, false) 0 from ⟨hs4, a1, hs4.lt.1, a2, hs4.lt.2.1, a3, hs4.lt.2.2⟩)
  clear hs4 hb4 a1 a2 a3 q0 q1 q2 q3 q4 q5 q6
  obtain ⟨q0, q1, q2, q3, q4, q5, q6⟩ := boxW_cells HX4.out
  go_wp2_with fail
  refine (HN.out _).mono ?_
  rintro e w5 ⟨z, bz, gz, rfl, hs5, ⟨a1, a2, a3⟩, hb5⟩
  have HX5 := hide ((hb5.block _ hz4).trans HX4.out)
  have HB5 := hide (below_then HB4.out hb5)
  have z5 := hb5.size
  have hz5 : w.heap.size < w5.heap.size := by omega
  have WX5 := hide (WX4.out.below hb5 (by omega))
  have WY5 := hide (WY4.out.below hb5 (Nat.le_refl _))
  have WZ5 := hide (show Wat w5 w4.heap.size w5.heap.size z bz gz p S (S, false) 0 from ⟨hs5, a1, hs5.lt.1, a2, hs5.lt.2.1, a3, hs5.lt.2.2⟩)
  clear hs5 hb5 a1 a2 a3 q0 q1 q2 q3 q4 q5 q6
  go_wp2_with fail
  refine (num_any _ _).mono ?_
  rintro e w' ⟨rfl, rfl⟩
  go_wp2_with fail
  refine (num_any _ _).mono ?_
  rintro e w' ⟨rfl, rfl⟩
  go_wp2_with fail
  refine (num_any _ _).mono ?_
  rintro e w' ⟨rfl, rfl⟩
  go_wp2_with fail
  refine (HRW1.out _ (HR1.out.below HB5.out)).mono ?_
  rintro e w6 ⟨vu, rfl, hou, hb6⟩
  have HX6 := hide ((hb6.block _ hz5).trans HX5.out)
  have HB6 := hide (below_then HB5.out hb6)
  have z6 := hb6.size
  have WX6 := hide (WX5.out.below hb6 (by omega))
  have WY6 := hide (WY5.out.below hb6 (by omega))
  have WZ6 := hide (WZ5.out.below hb6 (Nat.le_refl _))
  obtain ⟨au, cu, rfl, ru, gu⟩ := hou.rowg
  have RU6 := hide (show Rat w6 w5.heap.size w6.heap.size au us from ⟨ru, gu⟩)
  clear hou hb6 ru gu
  go_wp2_with fail
  refine (HRW2.out _ (HR2.out.below HB6.out)).mono ?_
  rintro e w7 ⟨vv, rfl, hov, hb7⟩
  have HX7 := hide ((hb7.block _ (by omega)).trans HX6.out)
  have HB7 := hide (below_then HB6.out hb7)
  have z7 := hb7.size
  have WX7 := hide (WX6.out.below hb7 (by omega))
  have WY7 := hide (WY6.out.below hb7 (by omega))
  have WZ7 := hide (WZ6.out.below hb7 (by omega))
  have RU7 := hide (RU6.out.below hb7)
  obtain ⟨av, cv, rfl, rv, gv⟩ := hov.rowg
  have RV7 := hide (show Rat w7 w6.heap.size w7.heap.size av vs from ⟨rv, gv⟩)
  clear hov hb7 rv gv
  have H0 := hide (show OwnB (w7.alloc (.cells #[] 5)) w7.heap.size (.slice (some ⟨w7.heap.size, 0, none⟩) 0 0) [] from World.ownsRow_lit w7 #[] 0 (Nat.le_refl _) (by unfold maxLen; omega) rfl)
  go_wp2_with (first
    | (at_builtin; refine wpList_appB rfl (.tmp 86) (.tmp 87) rfl w7.heap.size _ [] rfl H0.out au us.length cu us rfl (RU7.out.row.alloc _) rfl ?c1 ?c2 ?_)
    | go_in)
  case c1 => simp; omega
  case c2 => simp
  intro v8 w8 hown8 hgrow8 _
  have hb8 : Below w7.heap.size w7 w8 := ((Below.refl w7.heap.size w7).alloc (Nat.le_refl _) (.cells #[] 5)).grown hgrow8 (by simp) (fun k e => by simp [Value.ownBlock] at e; omega)
  have z8 := hb8.size
  have HO8 := hide hown8
  have HB8 := hide hb8
  clear hown8 hgrow8 hb8
  go_wp2_with (first
    | (at_builtin; refine wpList_appB rfl (.tmp 88) (.tmp 89) rfl w7.heap.size _ _ rfl HO8.out av vs.length cv vs rfl (RV7.out.row.below HB8.out) rfl ?d1 ?d2 ?_)
    | go_in)
  case d1 => (try simp); omega
  case d2 => omega
  intro v9 w9 hown9 hgrow9 hat9
  have hb9 : Below w7.heap.size w7 w9 := HB8.out.grown hgrow9 (by omega) (fun k e => (HO8.out.lt e).1)
  have z9 := hb9.size
  obtain ⟨aa, ca, rfl, ra, ga⟩ := hown9.rowg
  have HX9 := hide ((hb9.block _ (by omega)).trans HX7.out)
  have HB9 := hide (below_then HB7.out hb9)
  have WX9 := hide (WX7.out.below hb9 (by omega))
  have WY9 := hide (WY7.out.below hb9 (by omega))
  have WZ9 := hide (WZ7.out.below hb9 (by omega))
  have RU9 := hide (RU7.out.below hb9)
  have RV9 := hide (RV7.out.below hb9)
  have RA9 := hide (show Rat w9 w7.heap.size w9.heap.size aa (us ++ vs) from ⟨ra, ga⟩)
  clear hown9 hgrow9 hat9 hb9 ra ga
  have hal : (us ++ vs).length = us.length + vs.length := List.length_append
  have HAT := hide (Gf2.wturn_append p lv (S, false) us vs)
  have HAB := hide (Gf2.wturn_back p lv (S, false) HAX.out)
  have HAV := hide (Gf2.wturn_lv p lv (S, false) HAX.out)
  generalize us ++ vs = qs at *
  have hst : Gf2.wat p qs.length (S, false) = Gf2.wat p vs.length (Gf2.wat p us.length (S, false)) := by rw [hal, Gf2.wat_add]
  have HST := hide hst
  have HAL := hide hal
  have hall : qs.length ≤ 2097152 := by omega
  clear hst hal
  go_wp2_with fail
  refine (HT.out x bx gx _ _ _ (S, false) 0 qs (by omega) (by omega) HAX.out WX9.out.st RA9.out.row (RA9.out.ne (by have := WX9.out.x2; omega) (by have := WX9.out.g2; omega))).mono ?_
  rintro e w10 ⟨vl, rfl, hol, hs10, ht10⟩
  rw [HST.out, Nat.zero_add] at hs10
  have ox1 := WX9.out.x1; have ox2 := WX9.out.x2; have ox3 := WX9.out.g1; have ox4 := WX9.out.g2
  have oy1 := WY9.out.x1; have oy2 := WY9.out.x2; have oy3 := WY9.out.g1; have oy4 := WY9.out.g2
  have oz1 := WZ9.out.x1; have oz2 := WZ9.out.x2; have oz3 := WZ9.out.g1; have oz4 := WZ9.out.g2
  have z10 := ht10.size
  have HX10 := hide ((ht10.block w.heap.size (by omega) (by omega) (by omega)).trans HX9.out)
  have HB10 := hide (Two.then_ HB9.out ht10 (by omega) (by omega) HB9.out.size)
  have WX10 := hide (WX9.out.to hs10)
  have WY10 := hide (WY9.out.two ht10 (by omega) (by omega))
  have WZ10 := hide (WZ9.out.two ht10 (by omega) (by omega))
  have RU10 := hide (RU9.out.two ht10 (by omega) (by omega))
  have RV10 := hide (RV9.out.two ht10 (by omega) (by omega))
  have RA10 := hide (RA9.out.two ht10 (by omega) (by omega))
  obtain ⟨al, cl, hvl, rl, gl⟩ := hol.rowg
  rw [Gf2.wturn_length] at hvl
  subst hvl
  have RL10 := hide (show Rat w10 w9.heap.size w10.heap.size al _ from ⟨rl, gl⟩)
  clear hol hs10 ht10 rl gl
  go_wp2_with fail
  refine (HT.out y by_ gy _ _ _ (S, false) 0 us (by omega) (by omega) HUX.out WY10.out.st RU10.out.row (RU10.out.ne (by omega) (by omega))).mono ?_
  rintro e w11 ⟨vm, rfl, hom, hs11, ht11⟩
  rw [Nat.zero_add] at hs11
  have z11 := ht11.size
  have HX11 := hide ((ht11.block w.heap.size (by omega) (by omega) (by omega)).trans HX10.out)
  have HB11 := hide (Two.then_ HB10.out ht11 (by omega) (by omega) HB10.out.size)
  have WX11 := hide (WX10.out.two ht11 (by omega) (by omega))
  have WY11 := hide (WY10.out.to hs11)
  have WZ11 := hide (WZ10.out.two ht11 (by omega) (by omega))
  have RU11 := hide (RU10.out.two ht11 (by omega) (by omega))
  have RV11 := hide (RV10.out.two ht11 (by omega) (by omega))
  have RA11 := hide (RA10.out.two ht11 (by omega) (by omega))
  have RL11 := hide (RL10.out.two ht11 (by omega) (by omega))
  obtain ⟨am, cm, hvm, rm, gm⟩ := hom.rowg
  rw [Gf2.wturn_length] at hvm
  subst hvm
  have RM11 := hide (show Rat w11 w10.heap.size w11.heap.size am _ from ⟨rm, gm⟩)
  clear hom hs11 ht11 rm gm
  generalize hs1 : Gf2.wat p us.length (S, false) = s1 at *
  have HS1 := hide hs1
  clear hs1
  go_wp2_with fail
  refine (HT.out y by_ gy _ _ _ s1 us.length vs (by omega) (by omega) HVX.out WY11.out.st RV11.out.row (RV11.out.ne (by omega) (by omega))).mono ?_
  rintro e w12 ⟨vn, rfl, hon, hs12, ht12⟩
  rw [← HAL.out] at hs12
  have z12 := ht12.size
  have HX12 := hide ((ht12.block w.heap.size (by omega) (by omega) (by omega)).trans HX11.out)
  have HB12 := hide (Two.then_ HB11.out ht12 (by omega) (by omega) HB11.out.size)
  have WX12 := hide (WX11.out.two ht12 (by omega) (by omega))
  have WY12 := hide (WY11.out.to hs12)
  have WZ12 := hide (WZ11.out.two ht12 (by omega) (by omega))
  have RU12 := hide (RU11.out.two ht12 (by omega) (by omega))
  have RV12 := hide (RV11.out.two ht12 (by omega) (by omega))
  have RA12 := hide (RA11.out.two ht12 (by omega) (by omega))
  have RL12 := hide (RL11.out.two ht12 (by omega) (by omega))
  have RM12 := hide (RM11.out.two ht12 (by omega) (by omega))
  obtain ⟨an, cn, hvn, rn, gn⟩ := hon.rowg
  rw [Gf2.wturn_length] at hvn
  subst hvn
  have RN12 := hide (show Rat w12 w11.heap.size w12.heap.size an _ from ⟨rn, gn⟩)
  clear hon hs12 ht12 rn gn
  generalize hs2 : Gf2.wat p vs.length s1 = s2 at *
  have HS2 := hide hs2
  clear hs2
  have hll : (Gf2.wturn p lv (S, false) qs).length = qs.length := Gf2.wturn_length _ _ _ _
  have hml : (Gf2.wturn p lv (S, false) us).length = us.length := Gf2.wturn_length _ _ _ _
  have hnl : (Gf2.wturn p lv s1 vs).length = vs.length := Gf2.wturn_length _ _ _ _
  generalize hls : Gf2.wturn p lv (S, false) qs = ls at *
  generalize Gf2.wturn p lv (S, false) us = ms at *
  generalize hns : Gf2.wturn p lv s1 vs = ns at *
  have HNS := hide hns
  have HNL := hide hnl
  have HLL := hide hll
  have cvl := RL12.out.row.conv cl
  have cvm := RM12.out.row.conv cm
  have cvn := RN12.out.row.conv cn
  rw [hll] at cvl
  rw [hml] at cvm
  rw [hnl] at cvn
  have HLS := hide hls
  clear hll hml hnl hls hns
  have hcat : (strN ls).toList = (strN ms ++ strN ns).toList := by rw [HAT.out, strN_append]
  have hss : (strN ms).size + (strN ns).size ≤ 9223372036854775807 := by rw [strN_size, strN_size]; have := HAL.out; have := congrArg List.length HAT.out; rw [List.length_append] at this; have := HLL.out; omega
  have HWX := hide (wat_any _ WX12.out.st)
  have HWY := hide (wat_any _ WY12.out.st)
  have HBX := hide (wbad_any _ WX12.out.st)
  have HBY := hide (wbad_any _ WY12.out.st)
  go_wp2_with fail
  refine (num_any _ _).mono ?_
  rintro e w' ⟨rfl, rfl⟩
  go_wp2_with fail
  refine (num_any _ _).mono ?_
  rintro e w' ⟨rfl, rfl⟩
  go_wp2_with fail
  refine (num_any _ _).mono ?_
  rintro e w' ⟨rfl, rfl⟩
  go_wp2_with fail
  refine HWX.out.mono ?_
  rintro e w' ⟨rfl, rfl⟩
  go_wp2_with fail
  refine HWY.out.mono ?_
  rintro e w' ⟨rfl, rfl⟩
  go_wp2_with fail
  refine HWX.out.mono ?_
  rintro e w' ⟨rfl, rfl⟩
  go_wp2_with fail
  refine HBX.out.mono ?_
  rintro e w' ⟨rfl, rfl⟩
  go_wp2_with fail
  refine HBY.out.mono ?_
  rintro e w' ⟨rfl, rfl⟩
  have hdm : decide ((1048576 : Int) < us.length) = false := by simp; omega
  clear cvl cvm cvn hcat hss
  go_wp2_with fail
  refine (skip_ok us.length hul2 _ WZ12.out.st (by omega)).mono ?_
  rintro e w13 ⟨rfl, hs13, ht13⟩
  rw [HS1.out, Nat.zero_add] at hs13
  have z13 := ht13.size
  have HX13 := hide ((ht13.block w.heap.size (by omega) (by omega) (by omega)).trans HX12.out)
  have HB13 := hide (Two.then_ HB12.out ht13 (by omega) (by omega) HB12.out.size)
  have WX13 := hide (WX12.out.two ht13 (by omega) (by omega))
  have WZ13 := hide (WZ12.out.to hs13)
  have RV13 := hide (RV12.out.two ht13 (by omega) (by omega))
  have RA13 := hide (RA12.out.two ht13 (by omega) (by omega))
  have RL13 := hide (RL12.out.two ht13 (by omega) (by omega))
  have RN13 := hide (RN12.out.two ht13 (by omega) (by omega))
  clear hs13 ht13 HWX HWY HBX HBY
  go_wp2_with fail
  refine (HT.out z bz gz _ _ _ s1 us.length vs (by omega) (by omega) HVX.out WZ13.out.st RV13.out.row (RV13.out.ne (by omega) (by omega))).mono ?_
  rintro e w14 ⟨vo, rfl, hoo, hs14, ht14⟩
  rw [← HAL.out, HS2.out] at hs14
  have z14 := ht14.size
  have HX14 := hide ((ht14.block w.heap.size (by omega) (by omega) (by omega)).trans HX13.out)
  have HB14 := hide (Two.then_ HB13.out ht14 (by omega) (by omega) HB13.out.size)
  have WX14 := hide (WX13.out.two ht14 (by omega) (by omega))
  have WZ14 := hide (WZ13.out.to hs14)
  have RA14 := hide (RA13.out.two ht14 (by omega) (by omega))
  have RL14 := hide (RL13.out.two ht14 (by omega) (by omega))
  have RN14 := hide (RN13.out.two ht14 (by omega) (by omega))
  rw [HNS.out] at hoo
  obtain ⟨ao, co, hvo, ro, go⟩ := hoo.rowg
  rw [HNL.out] at hvo
  subst hvo
  have cvo := ro.conv co
  have cvn := RN14.out.row.conv cn
  rw [HNL.out] at cvo cvn
  clear hoo hs14 ht14 ro go
  have HWX := hide (wat_any _ WX14.out.st)
  have HWZ := hide (wat_any _ WZ14.out.st)
  have HBX := hide (wbad_any _ WX14.out.st)
  have HBZ := hide (wbad_any _ WZ14.out.st)
  go_wp2_with fail
  refine (num_any _ _).mono ?_
  rintro e w' ⟨rfl, rfl⟩
  go_wp2_with fail
  refine (num_any _ _).mono ?_
  rintro e w' ⟨rfl, rfl⟩
  go_wp2_with fail
  refine HWZ.out.mono ?_
  rintro e w' ⟨rfl, rfl⟩
  go_wp2_with fail
  refine HWX.out.mono ?_
  rintro e w' ⟨rfl, rfl⟩
  go_wp2_with fail
  refine HBZ.out.mono ?_
  rintro e w' ⟨rfl, rfl⟩
  go_wp2_with fail
  refine HBX.out.mono ?_
  rintro e w' ⟨rfl, rfl⟩
  clear cvo cvn
  obtain ⟨q0, q1, q2, q3, q4, q5, q6⟩ := boxW_cells HX14.out
  go_wp2_with fail
  refine (HN.out _).mono ?_
  rintro e w15 ⟨t2, bt, gt, rfl, hs15, ⟨a1, a2, a3⟩, hb15⟩
  have HB15 := hide (below_then HB14.out hb15)
  have z15 := hb15.size
  have HS15 := hide hs15
  have RA15 := hide (RA14.out.below hb15)
  have RL15 := hide (RL14.out.below hb15)
  clear hs15 hb15 q0 q1 q2 q3 q4 q5 q6
  go_wp2_with fail
  refine (num_any _ _).mono ?_
  rintro e w' ⟨rfl, rfl⟩
  have HTL := hide (HT.out t2 bt gt w15 al cl (S, false) 0 ls (by rw [HLL.out]; omega) (by rw [HLL.out]; omega) HAV.out HS15.out RL15.out.row (RL15.out.ne (by omega) (by omega)))
  rw [HLL.out] at HTL
  go_wp2_with fail
  refine HTL.out.mono ?_
  rintro e w16 ⟨vb, rfl, hob, _, ht16⟩
  rw [HAB.out] at hob
  obtain ⟨ab, cb, rfl, rb, _⟩ := hob.rowg
  have HB16 := hide (Two.then_ HB15.out ht16 (by omega) (by omega) HB15.out.size)
  have cvb := rb.conv cb
  have cva := (RA15.out.two ht16 (by omega) (by omega)).row.conv ca
  clear hob ht16 rb
  go_wp2_with fail
  refine (num_any _ _).mono ?_
  rintro e w' ⟨rfl, rfl⟩
  go_wp2_with fail
  go_ret
  exact ⟨rfl, HB16.out⟩
theorem law_undone (D : Int) (T S : Nat) (W B C M : Int) (lev : Int) (hT : T ≤ 18446744073709551615) (hS : S ≤ 18446744073709551615) (ad1 : Option Addr) (cap1 : Nat) (xs : List Nat) (hl1 : xs.length ≤ 1048576) (h81 : ∀ i, i < xs.length → xs.getD i 0 ≤ 255)
    (ad2 : Option Addr) (cap2 : Nat) (ys : List Nat) (hl2 : ys.length ≤ 1048576) (h82 : ∀ i, i < ys.length → ys.getD i 0 ≤ 255) (w : World) (hr1 : RowA w ad1 xs) (hr2 : RowA w ad2 ys) :
    Calls Try.prog 5 #[.agg #[.int .i64 D, .int .u64 T, .int .u64 S, .int .i64 W, .int .i64 B, .int .i64 C, .int .i64 M], .int .i64 lev, .slice ad1 xs.length cap1, .slice ad2 ys.length cap2] w fun e w' => e = .returned (.bool true) ∧ Below w.heap.size w w' := by
  by_cases h0 : wchk D T S W B C M = 0
  · obtain ⟨⟨n, rfl, hg⟩, _⟩ := wchk_zero h0
    exact undone_good ⟨n, T, W, B, C, M⟩ S hg h0 lev ad1 cap1 xs hl1 (all8 h81) ad2 cap2 ys hl2 (all8 h82) w hr1 hr2
  · exact undone_bad D T S W B C M lev hT hS h0 _ _ w
end Go.Proofs.Ytmagpmoghnmhmaa
