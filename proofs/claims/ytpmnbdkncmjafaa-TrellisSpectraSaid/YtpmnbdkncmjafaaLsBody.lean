/- outpostref07.loops, the innermost body: one entry goes on by one bit. (Printed by gen/lsbody.py.) -/
import Derived.Test.YtpmnbdkncmjafaaRows
import Derived.Test.YtpmnbdkncmjafaaLsM
import Derived.StillTailTactics
import Derived.Deep.CutRange
import Derived.Deep.Cut
namespace Go.Proofs.Ytpmnbdkncmjafaa
open Go.RowKit

/-- the block of a number -/
def findBlk (m : Nat) : Code → Option Code
  | .block i c => if i = m then some (.block i c) else findBlk m c
  | .seq a b => match findBlk m a with
    | some c => some c
    | none => findBlk m b
  | .loop c => findBlk m c
  | .cond _ a b => match findBlk m a with
    | some c => some c
    | none => findBlk m b
  | _ => none
noncomputable def blk13 : Code := ((Try.f48.body.bind (findBlk 13)).getD .skip)
set_option maxRecDepth 1000000 in
set_option maxHeartbeats 8000000 in
theorem ls_body (n a b c : Nat) (R : Int) (t k v bc ga gl g0 g1 h0 h1 s u x L : Nat) (r q : Nat → Nat) (num few num2 few2 : Nat → Nat → Int) (all least all0 least0 : Nat → Int) (sm : Bool) (w0 wh : World)
    (hA : a ≤ 4294967295) (hB : b ≤ 4294967295) (hC : c ≤ 4294967295) (hn : 2 ≤ n ∧ n ≤ 7) (hR : R = 2 ∨ R = 3) (hg : GoodN n R a b c) (ht : t ≤ 24) (hk : k = 2 ^ n) (hv : v = t + 1) (hLv : LvInv n a b c t L num few all0 least0)
    (hS : LSt wh n R a b c k v bc ga gl g0 g1 r h0 h1 q num few num2 few2 all least) (hI : StInv n a b c t L (befT n a b c s u x) num2 few2 all least sm) (hBw : Below bc w0 wh) (hs1 : 1 ≤ s) (hlt : s < k) (hlu : u < v) (hp : 0 < num s u) (hx1 : x ≤ 1)
    (K : Act → World → Prop) (Q' : Exit → Act → World → Prop) (z0 z3 z4 z5 z9 z12 z13 z14 z18 z22 z23 z24 z25 z26 z27 z28 z29 z30 z31 z32 z33 z34 z35 z36 z37 z38 z39 z40 z41 z42 z43 z44 z45 z46 z47 z48 z49 z50 z51 z52 z53 z54 z55 z56 z57 z58 z59 z60 z61 z62 z63 z64 z65 z66 z67 z68 z69 z70 z71 z72 z73 z74 z75 z76 z77 z78 z79 z80 z81 z82 z83 z84 z85 z86 z87 z88 z89 z90 z91 z92 z93 z94 z95 z96 z97 z98 z99 z100 z101 z102 z103 z104 z105 z106 z107 z108 z109 z110 z111 z112 z113 z114 z115 z116 z117 z118 z119 z120 z121 z122 z123 z124 z125 z126 z127 z128 z129 z130 z131 z132 z133 z134 z135 z136 z137 z138 z139 z140 z141 z142 z143 z144 z145 z146 z147 z148 z149 z150 z151 z152 z153 z154 z155 z156 z157 z158 z159 z160 z161 z162 z163 z164 z165 z166 z167 z168 z169 z170 z171 z172 z173 z174 z175 z176 z177 z178 z179 z180 z181 z182 z183 z184 z185 z186 z187 z188 z189 z190 z191 z192 z193 z194 z195 z196 z197 z198 z199 z200 z201 z202 z203 z204 z205 z206 z207 z208 z209 z210 z211 z212 z213 z214 z215 z216 z217 z218 z219 z220 z221 z222 z223 z224 z225 z226 z227 z228 z229 z230 z231 z232 z233 z234 z235 z236 z237 z238 z239 z240 z241 z242 z243 z244 : Value)
    (hK : ∀ (sm' : Bool) (num2' few2' : Nat → Nat → Int) (all' least' : Nat → Int) (wr : World) (y22 y23 y24 y25 y135 y136 y137 y138 y139 y140 y141 y142 y143 y144 y145 y146 y147 y148 y149 y150 y151 y152 y153 y154 y155 y156 y157 y158 y159 y160 y161 y162 y163 y164 y165 y166 y167 y168 y169 y170 y171 y172 y173 y174 y175 y176 y177 y178 y179 y180 y181 y182 y183 y184 y185 y186 y187 y188 y189 y190 y191 y192 y193 y194 y195 y196 y197 y198 y199 y200 y201 y202 y203 y204 y205 y206 y207 y208 y209 y210 y211 y212 y213 y214 y215 y216 y217 y218 y219 y220 y221 y222 y223 y224 y225 y226 y227 y228 y229 y230 y231 y232 y233 y234 y235 y236 y237 y238 y239 y240 : Value), LSt wr n R a b c k v bc ga gl g0 g1 r h0 h1 q num few num2' few2' all' least' → StInv n a b c t L (befT n a b c s u (x + 1)) num2' few2' all' least' sm' → Below bc w0 wr → K ⟨#[z0, .int .i64 t, .pointer (some ⟨bc, 0, none⟩), z3, z4, z5, .int .i64 k, .slice (some ⟨g0, 0, none⟩) k k, .slice (some ⟨g1, 0, none⟩) k k, z9, .slice (some ⟨ga, 0, none⟩) v v, .slice (some ⟨gl, 0, none⟩) v v, z12, z13, z14, .bool sm', .slice (some ⟨h0, 0, none⟩) k k, .slice (some ⟨h1, 0, none⟩) k k, z18, .int .i64 s, .int .i64 u, .int .u8 x, y22, y23, y24, y25, z26, z27, z28, z29, z30, z31, z32, z33, z34, z35, z36, z37, z38, z39, z40, z41, z42, z43, z44, z45, z46, z47, z48, z49, z50, z51, z52, z53, z54, z55, z56, z57, z58, z59, z60, z61, z62, z63, z64, z65, z66, z67, z68, z69, z70, z71, z72, z73, z74, z75, z76, z77, z78, z79, z80, z81, z82, z83, z84, z85, z86, z87, z88, z89, z90, z91, z92, z93, z94, z95, z96, z97, z98, z99, z100, z101, z102, z103, z104, z105, z106, z107, z108, z109, z110, z111, z112, z113, z114, z115, z116, z117, z118, z119, z120, z121, z122, z123, z124, z125, z126, z127, z128, z129, z130, z131, z132, z133, z134, y135, y136, y137, y138, y139, y140, y141, y142, y143, y144, y145, y146, y147, y148, y149, y150, y151, y152, y153, y154, y155, y156, y157, y158, y159, y160, y161, y162, y163, y164, y165, y166, y167, y168, y169, y170, y171, y172, y173, y174, y175, y176, y177, y178, y179, y180, y181, y182, y183, y184, y185, y186, y187, y188, y189, y190, y191, y192, y193, y194, y195, y196, y197, y198, y199, y200, y201, y202, y203, y204, y205, y206, y207, y208, y209, y210, y211, y212, y213, y214, y215, y216, y217, y218, y219, y220, y221, y222, y223, y224, y225, y226, y227, y228, y229, y230, y231, y232, y233, y234, y235, y236, y237, y238, y239, y240, z241, z242, z243, z244], []⟩ wr) :
    Code.wp Try.prog blk13 (Exit.then K Q') ⟨#[z0, .int .i64 t, .pointer (some ⟨bc, 0, none⟩), z3, z4, z5, .int .i64 k, .slice (some ⟨g0, 0, none⟩) k k, .slice (some ⟨g1, 0, none⟩) k k, z9, .slice (some ⟨ga, 0, none⟩) v v, .slice (some ⟨gl, 0, none⟩) v v, z12, z13, z14, .bool sm, .slice (some ⟨h0, 0, none⟩) k k, .slice (some ⟨h1, 0, none⟩) k k, z18, .int .i64 s, .int .i64 u, .int .u8 x, z22, z23, z24, z25, z26, z27, z28, z29, z30, z31, z32, z33, z34, z35, z36, z37, z38, z39, z40, z41, z42, z43, z44, z45, z46, z47, z48, z49, z50, z51, z52, z53, z54, z55, z56, z57, z58, z59, z60, z61, z62, z63, z64, z65, z66, z67, z68, z69, z70, z71, z72, z73, z74, z75, z76, z77, z78, z79, z80, z81, z82, z83, z84, z85, z86, z87, z88, z89, z90, z91, z92, z93, z94, z95, z96, z97, z98, z99, z100, z101, z102, z103, z104, z105, z106, z107, z108, z109, z110, z111, z112, z113, z114, z115, z116, z117, z118, z119, z120, z121, z122, z123, z124, z125, z126, z127, z128, z129, z130, z131, z132, z133, z134, z135, z136, z137, z138, z139, z140, z141, z142, z143, z144, z145, z146, z147, z148, z149, z150, z151, z152, z153, z154, z155, z156, z157, z158, z159, z160, z161, z162, z163, z164, z165, z166, z167, z168, z169, z170, z171, z172, z173, z174, z175, z176, z177, z178, z179, z180, z181, z182, z183, z184, z185, z186, z187, z188, z189, z190, z191, z192, z193, z194, z195, z196, z197, z198, z199, z200, z201, z202, z203, z204, z205, z206, z207, z208, z209, z210, z211, z212, z213, z214, z215, z216, z217, z218, z219, z220, z221, z222, z223, z224, z225, z226, z227, z228, z229, z230, z231, z232, z233, z234, z235, z236, z237, z238, z239, z240, z241, z242, z243, z244], []⟩ wh := by
  have HG := hide hg
  have HLv := hide hLv
  have HS := hide hS
  have HI := hide hI
  have HB := hide hBw
  have hs0 : s ≠ 0 := by omega
  have hs2 : s < 2 ^ n := by omega
  have hut : u ≤ t := by omega
  have hkl : k ≤ 128 := by have : 2 ^ n ≤ 2 ^ 7 := Nat.pow_le_pow_right (by omega) hn.2; omega
  have hs3 : s ≤ 2147483647 := by omega
  have huI : (u : Int) < (v : Int) := by omega
  have hsI : (s : Int) < (k : Int) := by omega
  have HNx := hide fun s x (hs : s ≤ 2147483647) (hx : x ≤ 1) => next_any n a b c s x R hR (by omega) hA hB hC hs hx
  have HOx := hide fun s x => rones_any (outF (2 * s + x) a) (outF (2 * s + x) b) (third R (outF (2 * s + x) c)) (outF_le _ _) (outF_le _ _) (third_le1 _ (outF_le _ _))
  change Hid (∀ s x, s ≤ 2147483647 → x ≤ 1 → ∀ w, Calls Try.prog 37 _ w fun e w' => e = .returned (.tuple #[.int .u32 ((nxF n s x : Nat) : Int), _]) ∧ Below w.heap.size w w') at HNx
  change Hid (∀ s x w, Calls Try.prog 46 _ w fun e w' => e = .returned (.int .i64 ((wtF R a b c s x : Nat) : Int)) ∧ Below w.heap.size w w') at HOx
  have HFit := hide (hI.fits hg hn.2 ht hLv hx1 hs0 hs2 hut hp)
  have HFar := hide (fun hv => (hI.far hg hx1 (fun m hm => bef_not s u x m hm) hv).bit)
  have HGo := hide (fun hv ht fw hfw => (hI.go hg hLv hx1 (fun m hm => bef_not s u x m hm) hs0 hs2 hut hp hv ht (fw := fw) hfw).bit)
  have HHome := hide (fun hv ht fw hfw => (hI.home hg hLv hx1 (fun m hm => bef_not s u x m hm) hs0 hs2 hut hp hv ht (fw := fw) hfw).bit)
  have HN1 := hide (HNx.out s x hs3 hx1)
  have HO1 := hide (HOx.out s x)
  have htl := nxF_lt n s x
  have htk : nxF n s x < k := by rw [hk]; exact htl
  have hwl := wtF_le R a b c s x
  have HK := hide hK
  clear hK hg hLv hI hBw hp
  generalize nxF n s x = T1 at *
  generalize wtF R a b c s x = wt1 at *
  generalize outF (2 * s + x) a = y0 at *
  generalize outF (2 * s + x) b = y1 at *
  generalize third R (outF (2 * s + x) c) = y2 at *
  have ed : (u : Int) + (wt1 : Int) = ((u + wt1 : Nat) : Int) := by omega
  have hdl : u + wt1 ≤ 28 := by omega
  generalize u + wt1 = d at *
  have c0 := HS.out.c0
  have c1 := HS.out.c1
  have c2 := HS.out.c2
  have c3 := HS.out.c3
  have c4 := HS.out.c4
  have hT1l : T1 ≤ 128 := by omega
  have HVW := hide hv
  have hvl : v ≤ 25 := by omega
  clear htl hs2 hS hk hv HNx HOx
  conv => arg 2; whnf
  go_wp2_with fail
  refine (HN1.out _).mono ?_
  rintro e wi ⟨rfl, hbi⟩
  have HSi := hide (HS.out.below hbi)
  have HBi := hide (HB.out.trans (hbi.mono (Nat.le_of_lt HS.out.bl)))
  have hbci := HSi.out.bl
  clear hbi c0 c1 c2 c3 c4
  go_wp2_with fail
  refine (HO1.out _).mono ?_
  rintro e wj ⟨rfl, hbj⟩
  have HSj := hide ((HSi.out.below ((Below.refl _ _).alloc (Nat.le_refl _) (.cells #[.int .u8 y0, .int .u8 y1, .int .u8 y2] 26))).below hbj)
  have HBj := hide (show Below bc w0 wj from (HBi.out.alloc (by have := HBi.out.size; omega) _).trans (hbj.mono (by simp; omega)))
  clear hbj
  by_cases hd : t < d
  · have hdI : (t : Int) < (d : Int) := by omega
    have h1 := hide (HFar.out hd)
    clear hd
    go_wp2_with fail
    exact HK.out sm num2 few2 all least wj _ _ _ _ _ _ _ _ _ _ _ _ _ _ _ _ _ _ _ _ _ _ _ _ _ _ _ _ _ _ _ _ _ _ _ _ _ _ _ _ _ _ _ _ _ _ _ _ _ _ _ _ _ _ _ _ _ _ _ _ _ _ _ _ _ _ _ _ _ _ _ _ _ _ _ _ _ _ _ _ _ _ _ _ _ _ _ _ _ _ _ _ _ _ _ _ _ _ _ _ _ _ _ _ _ _ _ _ _ _ HSj.out h1.out HBj.out
  · have hdt : d ≤ t := by omega
    have hdI : ¬ (t : Int) < (d : Int) := by omega
    have hdv : d < v := by have := HVW.out; omega
    have hdvI : (d : Int) < (v : Int) := by omega
    obtain ⟨f1, f2, f3, f4⟩ := HFit.out hdt
    have eD := HSj.out.gA.b0 s hlt
    have eE := (HSj.out.gA.r1 s hlt).cel u hlu
    have eG := HSj.out.gA.a0 s hlt
    have eH := (HSj.out.gA.r0 s hlt).cel u hlu
    have HH1 := hide (HHome.out hdt)
    have HG1 := hide (HGo.out hdt)
    clear HFar HHome HGo HFit hd
    by_cases hT : T1 = 0
    · subst hT
      have ff := f2 rfl
      have HH2 := hide (HH1.out rfl)
      have eF := HSj.out.rA.cel d hdv
      have zF := HSj.out.rA.frz d hdv
      have eI := HSj.out.rL.cel d hdv
      have zI := HSj.out.rL.frz d hdv
      have hal := HSj.out.al
      have hal2 : (ga == gl) = false := by rw [beq_eq_false_iff_ne]; exact hal
      have hba := HSj.out.ba
      generalize hA0 : all d = A0 at *
      generalize hM0 : num s u = M0 at *
      generalize hF0 : few s u = F0 at *
      generalize hL0 : least d = L0 at *
      have HA0 := hide hA0
      have HM0 := hide hM0
      have HF0 := hide hF0
      have HL0 := hide hL0
      have eAM : IntKind.i64.wrap (A0 + M0) = A0 + M0 := IntWalk.i64_in _ (by omega)
      clear hA0 hM0 hF0 hL0 f1 f2
      go_upto_region 43 with fail
      go_still_tail 15, (by kernel_rfl)
      change wpList _ _ _ _ _ wj.drew
      have hS3 : Hid (LSt (wj.drew.setCell ⟨ga, d, none⟩ (.int .i64 (A0 + M0))) n R a b c k v bc ga gl g0 g1 r h0 h1 q num few num2 few2 (fun v => if v = d then all v + M0 else all v) least) := by
        have h := HSj.out.drew.addAll hdv (x := A0 + M0) (m := M0) (by rw [HA0.out])
        exact hide h
      have hB3 := hide (((HBj.out.trans (Below.refl _ _).drew)).setCell (p := ⟨ga, d, none⟩) (by simp; omega) (.int .i64 (A0 + M0)))
      clear eAM
      generalize hwd : wj.drew = wk at *
      have eD2 : wk.cell? ⟨ga, d, none⟩ = some (.int .i64 A0) := by rw [← hwd]; exact eF
      have zD2 : wk.frozen? ⟨ga, d, none⟩ = false := by rw [← hwd]; exact zF
      have eI2 : wk.cell? ⟨gl, d, none⟩ = some (.int .i64 L0) := by rw [← hwd]; exact eI
      have zI2 : wk.frozen? ⟨gl, d, none⟩ = false := by rw [← hwd]; exact zI
      have eI3 := cellO (a := ⟨ga, d, none⟩) (u := .int .i64 (A0 + M0)) eI2 hal
      have zI3 := frzS (a := ⟨ga, d, none⟩) (u := .int .i64 (A0 + M0)) zI2
      clear eF zF eI zI hwd eD eE eG eH eI2 zI2
      have hbx : (F0 : Int) + (x : Int) ≤ 2000 := by omega
      go_upto_region 44 with fail
      generalize wk.setCell ⟨ga, d, none⟩ (.int .i64 (A0 + M0)) = wl at *
      clear eD2 zD2
      by_cases hl1 : L0 < 0
      · have hld := decide_eq_true hl1
        have hS4 := hide (hS3.out.setLeast hdv (F0 + (x : Int)))
        have hB4 := hide (hB3.out.setCell (p := ⟨gl, d, none⟩) (by simp; omega) (.int .i64 (F0 + (x : Int))))
        have hI4 := hide (HH2.out (F0 + (x : Int)) (by rw [if_pos (.inl hl1)]))
        go_wp2_with fail
        exact HK.out sm num2 few2 _ _ _ _ _ _ _ _ _ _ _ _ _ _ _ _ _ _ _ _ _ _ _ _ _ _ _ _ _ _ _ _ _ _ _ _ _ _ _ _ _ _ _ _ _ _ _ _ _ _ _ _ _ _ _ _ _ _ _ _ _ _ _ _ _ _ _ _ _ _ _ _ _ _ _ _ _ _ _ _ _ _ _ _ _ _ _ _ _ _ _ _ _ _ _ _ _ _ _ _ _ _ _ _ _ _ _ _ _ _ _ _ _ hS4.out hI4.out hB4.out
      · have hld := decide_eq_false hl1
        by_cases hl2 : F0 + (x : Int) < L0
        · have hS4 := hide (hS3.out.setLeast hdv (F0 + (x : Int)))
          have hB4 := hide (hB3.out.setCell (p := ⟨gl, d, none⟩) (by simp; omega) (.int .i64 (F0 + (x : Int))))
          have hI4 := hide (HH2.out (F0 + (x : Int)) (by rw [if_pos (.inr hl2)]))
          go_wp2_with fail
          exact HK.out sm num2 few2 _ _ _ _ _ _ _ _ _ _ _ _ _ _ _ _ _ _ _ _ _ _ _ _ _ _ _ _ _ _ _ _ _ _ _ _ _ _ _ _ _ _ _ _ _ _ _ _ _ _ _ _ _ _ _ _ _ _ _ _ _ _ _ _ _ _ _ _ _ _ _ _ _ _ _ _ _ _ _ _ _ _ _ _ _ _ _ _ _ _ _ _ _ _ _ _ _ _ _ _ _ _ _ _ _ _ _ _ _ _ _ _ _ hS4.out hI4.out hB4.out
        · have hS4 := hide (hS3.out.sameLeast (v := d) (x := L0) HL0.out.symm)
          have hI4 := hide (HH2.out L0 (by rw [if_neg (by omega)]))
          go_wp2_with fail
          exact HK.out sm num2 few2 _ _ _ _ _ _ _ _ _ _ _ _ _ _ _ _ _ _ _ _ _ _ _ _ _ _ _ _ _ _ _ _ _ _ _ _ _ _ _ _ _ _ _ _ _ _ _ _ _ _ _ _ _ _ _ _ _ _ _ _ _ _ _ _ _ _ _ _ _ _ _ _ _ _ _ _ _ _ _ _ _ _ _ _ _ _ _ _ _ _ _ _ _ _ _ _ _ _ _ _ _ _ _ _ _ _ _ _ _ _ _ _ _ hS4.out hI4.out hB3.out
    · have ff := f1 hT
      have HH2 := hide (HG1.out hT)
      have htb : ((T1 : Int) == 0) = false := by rw [beq_eq_false_iff_ne]; omega
      have htn : ¬ (T1 : Int) = 0 := by omega
      have htkI : (T1 : Int) < (k : Int) := by omega
      have eF := HSj.out.gB.a0 T1 htk
      have eI := (HSj.out.gB.r0 T1 htk).cel d hdv
      have eJ := HSj.out.gB.b0 T1 htk
      have eK := (HSj.out.gB.r1 T1 htk).cel d hdv
      have zK := (HSj.out.gB.r1 T1 htk).frz d hdv
      have hqk := HSj.out.blq (j := 2 * T1 + 1) (by omega)
      have hqk0 := HSj.out.blq (j := 2 * T1) (by omega)
      generalize hA0 : num2 T1 d = A0 at *
      generalize hM0 : num s u = M0 at *
      generalize hF0 : few s u = F0 at *
      generalize hL0 : few2 T1 d = L0 at *
      have HA0 := hide hA0
      have HM0 := hide hM0
      have HF0 := hide hF0
      have HL0 := hide hL0
      have hbx : (F0 : Int) + (x : Int) ≤ 2000 := by omega
      have hfin : Hid (∀ (fw : Int) (wk : World), LSt wk n R a b c k v bc ga gl g0 g1 r h0 h1 q num few num2 (fun t v => if t = T1 ∧ v = d then fw else few2 t v) all least → Below bc w0 wk → wk.cell? ⟨h0, T1, none⟩ = some (.slice (some ⟨q (2 * T1), 0, none⟩) v v) ∧ wk.cell? ⟨q (2 * T1), d, none⟩ = some (.int .i64 A0) ∧ wk.frozen? ⟨q (2 * T1), d, none⟩ = false ∧ wk.cell? ⟨g0, s, none⟩ = some (.slice (some ⟨r (2 * s), 0, none⟩) v v) ∧ wk.cell? ⟨r (2 * s), u, none⟩ = some (.int .i64 M0) ∧
          LSt (wk.drew.setCell ⟨q (2 * T1), d, none⟩ (.int .i64 (A0 + M0))) n R a b c k v bc ga gl g0 g1 r h0 h1 q num few (fun t v => if t = T1 ∧ v = d then num2 t v + M0 else num2 t v) (fun t v => if t = T1 ∧ v = d then fw else few2 t v) all least ∧ Below bc w0 (wk.drew.setCell ⟨q (2 * T1), d, none⟩ (.int .i64 (A0 + M0)))) := hide fun fw wk h1 h2 =>
        ⟨h1.gB.a0 T1 htk, by rw [← HA0.out]; exact (h1.gB.r0 T1 htk).cel d hdv, (h1.gB.r0 T1 htk).frz d hdv, h1.gA.a0 s hlt, by rw [← HM0.out]; exact (h1.gA.r0 s hlt).cel u hlu, h1.drew.addNum htk hdv (by rw [HA0.out]), (h2.trans (Below.refl _ _).drew).setCell (by simp; omega) _⟩
      have eAM : IntKind.i64.wrap (A0 + M0) = A0 + M0 := IntWalk.i64_in _ (by omega)
      have HAM := hide eAM
      clear hA0 hM0 hF0 hL0 f1 f2 HH1 HG1 hT eAM
      by_cases hz : A0 = 0
      · have hzd : (A0 == 0) = true := by rw [hz]; rfl
        have hS4 := hide (HSj.out.setFew htk hdv (F0 + (x : Int)))
        have hB4 := hide (HBj.out.setCell (p := ⟨q (2 * T1 + 1), d, none⟩) (by simp; omega) (.int .i64 (F0 + (x : Int))))
        have hI4 := hide (HH2.out (F0 + (x : Int)) (by rw [if_pos (.inl hz)]))
        have HZ := hide hz
        clear hz
        go_upto_region 48 with fail
        generalize wj.setCell ⟨q (2 * T1 + 1), d, none⟩ (.int .i64 (F0 + (x : Int))) = wk at *
        clear eD eE eG eH eF eI eJ eK zK hzd
        obtain ⟨e1, e2, z2, e3, e4, hS5, hB5⟩ := hfin.out _ _ hS4.out hB4.out
        have HS5 := hide hS5
        have HB5 := hide hB5
        have eAM := HAM.out
        clear hS5 hB5
        go_still_tail 21, (by kernel_rfl)
        change wpList _ _ _ _ _ wk.drew
        generalize hwd : wk.drew = wl at *
        have e5 : wl.cell? ⟨q (2 * T1), d, none⟩ = some (.int .i64 A0) := by rw [← hwd]; exact e2
        have z5 : wl.frozen? ⟨q (2 * T1), d, none⟩ = false := by rw [← hwd]; exact z2
        clear hwd e1 e2 z2 e3 e4 eAM
        go_wp2_with fail
        exact HK.out true _ _ all least _ _ _ _ _ _ _ _ _ _ _ _ _ _ _ _ _ _ _ _ _ _ _ _ _ _ _ _ _ _ _ _ _ _ _ _ _ _ _ _ _ _ _ _ _ _ _ _ _ _ _ _ _ _ _ _ _ _ _ _ _ _ _ _ _ _ _ _ _ _ _ _ _ _ _ _ _ _ _ _ _ _ _ _ _ _ _ _ _ _ _ _ _ _ _ _ _ _ _ _ _ _ _ _ _ _ _ _ _ _ _ HS5.out hI4.out HB5.out
      · have hzd : (A0 == 0) = false := by rw [beq_eq_false_iff_ne]; exact hz
        by_cases hl2 : F0 + (x : Int) < L0
        · have hS4 := hide (HSj.out.setFew htk hdv (F0 + (x : Int)))
          have hB4 := hide (HBj.out.setCell (p := ⟨q (2 * T1 + 1), d, none⟩) (by simp; omega) (.int .i64 (F0 + (x : Int))))
          have hI4 := hide (HH2.out (F0 + (x : Int)) (by rw [if_pos (.inr hl2)]))
          go_upto_region 48 with fail
          generalize wj.setCell ⟨q (2 * T1 + 1), d, none⟩ (.int .i64 (F0 + (x : Int))) = wk at *
          clear eD eE eG eH eF eI eJ eK zK hzd
          obtain ⟨e1, e2, z2, e3, e4, hS5, hB5⟩ := hfin.out _ _ hS4.out hB4.out
          have HS5 := hide hS5
          have HB5 := hide hB5
          have eAM := HAM.out
          clear hS5 hB5
          go_still_tail 21, (by kernel_rfl)
          change wpList _ _ _ _ _ wk.drew
          generalize hwd : wk.drew = wl at *
          have e5 : wl.cell? ⟨q (2 * T1), d, none⟩ = some (.int .i64 A0) := by rw [← hwd]; exact e2
          have z5 : wl.frozen? ⟨q (2 * T1), d, none⟩ = false := by rw [← hwd]; exact z2
          clear hwd e1 e2 z2 e3 e4 eAM
          go_wp2_with fail
          exact HK.out true _ _ all least _ _ _ _ _ _ _ _ _ _ _ _ _ _ _ _ _ _ _ _ _ _ _ _ _ _ _ _ _ _ _ _ _ _ _ _ _ _ _ _ _ _ _ _ _ _ _ _ _ _ _ _ _ _ _ _ _ _ _ _ _ _ _ _ _ _ _ _ _ _ _ _ _ _ _ _ _ _ _ _ _ _ _ _ _ _ _ _ _ _ _ _ _ _ _ _ _ _ _ _ _ _ _ _ _ _ _ _ _ _ _ HS5.out hI4.out HB5.out
        · have hS4 := hide (HSj.out.sameFew (t := T1) (v := d) (x := L0) HL0.out.symm)
          have hI4 := hide (HH2.out L0 (by rw [if_neg (by omega)]))
          obtain ⟨e1, e2, z2, e3, e4, hS5, hB5⟩ := hfin.out _ _ hS4.out HBj.out
          have HS5 := hide hS5
          have HB5 := hide hB5
          clear hS5 hB5
          go_upto_region 48 with fail
          clear eD eE eG eH eF eI eJ eK zK hzd
          have eAM := HAM.out
          go_still_tail 21, (by kernel_rfl)
          change wpList _ _ _ _ _ wj.drew
          generalize hwd : wj.drew = wl at *
          have e5 : wl.cell? ⟨q (2 * T1), d, none⟩ = some (.int .i64 A0) := by rw [← hwd]; exact e2
          have z5 : wl.frozen? ⟨q (2 * T1), d, none⟩ = false := by rw [← hwd]; exact z2
          clear hwd e1 e2 z2 e3 e4 eAM
          go_wp2_with fail
          exact HK.out true _ _ all least _ _ _ _ _ _ _ _ _ _ _ _ _ _ _ _ _ _ _ _ _ _ _ _ _ _ _ _ _ _ _ _ _ _ _ _ _ _ _ _ _ _ _ _ _ _ _ _ _ _ _ _ _ _ _ _ _ _ _ _ _ _ _ _ _ _ _ _ _ _ _ _ _ _ _ _ _ _ _ _ _ _ _ _ _ _ _ _ _ _ _ _ _ _ _ _ _ _ _ _ _ _ _ _ _ _ _ _ _ _ _ HS5.out hI4.out HB5.out
end Go.Proofs.Ytpmnbdkncmjafaa
