/- trellis.Spectrum, walked. -/
import Derived.Test.YtpmnbdkncmjafaaRows
import Derived.Test.YtpmnbdkncmjafaaSpecPut
import Derived.Test.YtpmnbdkncmjafaaSpecT
import Derived.Deep.LoopGhost
import Derived.Deep.CutRange
import Derived.Deep.Cut
namespace Go.Proofs.Ytpmnbdkncmjafaa
open Go.RowKit

theorem elemMap : ElemI 80 74 (.map none) 8 where
  und := Try.underlying80
  inf := ⟨Try.t74, by kernel_rfl, by kernel_rfl, by kernel_rfl, by kernel_rfl⟩
  one := rfl
open Classical in
noncomputable def specE (K R : Int) (a b c : Nat) (t : Int) : Int := if checkF K R a b c ≠ 0 then checkF K R a b c else if 8 < K then 6 else if t < 0 ∨ 24 < t then 1 else 0
def specL (n a b c : Nat) (R : Int) (t : Nat) : List Int := (List.range (t + 1)).map fun v => ((loopsN n R a b c v : Nat) : Int)
theorem spec_bad1 (K R : Int) (a b c : Nat) (t : Int) (hA : a ≤ 4294967295) (hB : b ≤ 4294967295) (hC : c ≤ 4294967295) (hbad : checkF K R a b c ≠ 0) (w : World) :
    Calls Try.prog 28 #[.agg #[.int .i64 K, .int .i64 R, .int .u32 a, .int .u32 b, .int .u32 c], .int .i64 t] w fun e w' => e = .returned (.tuple #[.slice none 0 0, .int .i64 (checkF K R a b c)]) ∧ Below w.heap.size w w' := by
  have HC := hide (check_any K R a b c hA hB hC)
  generalize checkF K R a b c = er at *
  have hne : (er != 0) = true := bne_iff_ne.2 hbad
  go_enter Try.func28, Try.ntmps28
  go_wp2_with fail
  refine (HC.out _).mono ?_
  rintro e w1 ⟨rfl, hb1⟩
  go_wp2_with fail
  go_ret2
  exact ⟨rfl, below_two hb1⟩
theorem spec_bad2 (K R : Int) (a b c : Nat) (t : Int) (hA : a ≤ 4294967295) (hB : b ≤ 4294967295) (hC : c ≤ 4294967295) (hgood : checkF K R a b c = 0) (hK : 8 < K) (w : World) :
    Calls Try.prog 28 #[.agg #[.int .i64 K, .int .i64 R, .int .u32 a, .int .u32 b, .int .u32 c], .int .i64 t] w fun e w' => e = .returned (.tuple #[.slice none 0 0, .int .i64 6]) ∧ Below w.heap.size w w' := by
  have HC := hide (check_any K R a b c hA hB hC)
  rw [hgood] at HC
  clear hgood
  go_enter Try.func28, Try.ntmps28
  go_wp2_with fail
  refine (HC.out _).mono ?_
  rintro e w1 ⟨rfl, hb1⟩
  have c0 := bcell hb1 (b := w.heap.size) (o := 0) (v := .int .i64 K) (by simp; omega) (by simp [go_sem])
  have m0 := bcell hb1 (b := w.heap.size + 1) (o := 0) (v := .int .i64 t) (by simp) (by simp [go_sem])
  go_wp2_with fail
  go_ret2
  exact ⟨rfl, below_two hb1⟩
theorem spec_bad3 (K R : Int) (a b c : Nat) (t : Int) (hA : a ≤ 4294967295) (hB : b ≤ 4294967295) (hC : c ≤ 4294967295) (hgood : checkF K R a b c = 0) (hK : ¬ 8 < K) (ht : t < 0 ∨ 24 < t) (w : World) :
    Calls Try.prog 28 #[.agg #[.int .i64 K, .int .i64 R, .int .u32 a, .int .u32 b, .int .u32 c], .int .i64 t] w fun e w' => e = .returned (.tuple #[.slice none 0 0, .int .i64 1]) ∧ Below w.heap.size w w' := by
  have HC := hide (check_any K R a b c hA hB hC)
  rw [hgood] at HC
  clear hgood
  rcases ht with ht | ht
  all_goals
    go_enter Try.func28, Try.ntmps28
    go_wp2_with fail
    refine (HC.out _).mono ?_
    rintro e w1 ⟨rfl, hb1⟩
    have c0 := bcell hb1 (b := w.heap.size) (o := 0) (v := .int .i64 K) (by simp; omega) (by simp [go_sem])
    have m0 := bcell hb1 (b := w.heap.size + 1) (o := 0) (v := .int .i64 t) (by simp) (by simp [go_sem])
    go_wp2_with fail
    go_ret2
    exact ⟨rfl, below_two hb1⟩
set_option maxHeartbeats 4000000 in
theorem spec_good (n a b c : Nat) (R : Int) (t : Nat) (hA : a ≤ 4294967295) (hB : b ≤ 4294967295) (hC : c ≤ 4294967295) (hn : 2 ≤ n ∧ n ≤ 7) (hR : R = 2 ∨ R = 3) (hgood : checkF (n + 1) R a b c = 0) (ht : t ≤ 24) (w : World) :
    Calls Try.prog 28 #[.agg #[.int .i64 (n + 1), .int .i64 R, .int .u32 a, .int .u32 b, .int .u32 c], .int .i64 t] w fun e w' => ∃ ad cap, e = .returned (.tuple #[.slice ad (t + 1) cap, .int .i64 0]) ∧ RowV w' ad ((specL n a b c R t).map (Value.int .i64)) ∧ Below w.heap.size w w' := by
  have HC := hide (check_any (n + 1) R a b c hA hB hC)
  rw [hgood] at HC
  have HG := hide (goodN_of hgood)
  clear hgood
  have hmm := @run_makeMap Try.prog
  have hmf : ∀ (fn : Fn) (first cap : Array Value) (w : World), (Instr.makeFunc fn first cap).run Try.prog w = .ok (.func fn first cap) w := fun _ _ _ _ => rfl
  go_enter Try.func28, Try.ntmps28
  go_wp2_with fail
  refine (HC.out _).mono ?_
  rintro e w1 ⟨rfl, hb1⟩
  have hz1 : w.heap.size + 1 < w1.heap.size := by have := hb1.size; simp at this; omega
  have c0 := bcell hb1 (b := w.heap.size) (o := 0) (v := .int .i64 (n + 1)) (by simp; omega) (by simp [go_sem])
  have c1 := bcell hb1 (b := w.heap.size) (o := 1) (v := .int .i64 R) (by simp; omega) (by simp [go_sem])
  have c2 := bcell hb1 (b := w.heap.size) (o := 2) (v := .int .u32 a) (by simp; omega) (by simp [go_sem])
  have c3 := bcell hb1 (b := w.heap.size) (o := 3) (v := .int .u32 b) (by simp; omega) (by simp [go_sem])
  have c4 := bcell hb1 (b := w.heap.size) (o := 4) (v := .int .u32 c) (by simp; omega) (by simp [go_sem])
  have m0 := bcell hb1 (b := w.heap.size + 1) (o := 0) (v := .int .i64 t) (by simp) (by simp [go_sem])
  have HB1 := hide (below_two hb1)
  clear hb1
  have et : (t : Int) + 1 = ((t + 1 : Nat) : Int) := by omega
  generalize hT : t + 1 = T at *
  have hTl : T ≤ 25 := by omega
  go_wp2_with (first
    | (at_make; refine wpList_makeV elemInt rfl rfl _ _ rfl w1.heap.size _ _ T rfl rfl (by first | rfl | omega) (by first | rfl | omega) (by omega) (by omega) (by omega) ?_; intro w2 hx2 hg2 hz2; have m1 := gcell hg2 (by omega) (by simp) m0; have hz3 : w.heap.size + 1 < w2.heap.size := by omega)
    | (at_make; refine wpList_makeV elemMap rfl rfl _ _ rfl w1.heap.size _ _ T rfl rfl (by first | rfl | omega) (by first | rfl | omega) (by omega) (by omega) (by simp; omega) ?_; intro w3 hx3 hg3 hz4; have hq3 := gcell hg3 (b := w2.heap.size) (o := 0) (v := .slice (some ⟨w1.heap.size, 0, none⟩) T T) (by simp) (by simp) (by simp [go_sem]))
    | fail)
  rw [World.size_alloc] at hx3
  have hz3' : w2.heap.size + 1 < w3.heap.size := by simpa using hz4
  obtain ⟨gp, hgp⟩ : ∃ gp, gp = w2.heap.size + 1 := ⟨_, rfl⟩
  rw [← hgp] at hx3 hz3'
  have hzz : w.heap.size + 1 < w1.heap.size ∧ w1.heap.size < w2.heap.size ∧ w2.heap.size < gp ∧ gp < w3.heap.size := ⟨hz1, hz2, by omega, hz3'⟩
  obtain ⟨z1, z2, z3, z4⟩ := hzz
  simp only [← hgp]
  have hg23 : w1.grownBy w3 none := (grownBy_al hg2 (.cells #[.slice (some ⟨w1.heap.size, 0, none⟩) T T] 49)).andThen hg3 (fun j e => by cases e)
  have kk : ∀ {b o : Nat} {v : Value}, b < w1.heap.size → w1.cell? ⟨b, o, none⟩ = some v → (w3.alloc (.cells #[.slice (some ⟨gp, 0, none⟩) T T] 80)).cell? ⟨b, o, none⟩ = some v := fun hb h => gcell (grownBy_al hg23 _) hb (by simp) h
  have d0 := kk (by omega) c0
  have d1 := kk (by omega) c1
  have d2 := kk (by omega) c2
  have d3 := kk (by omega) c3
  have d4 := kk (by omega) c4
  have e0 := kk (by omega) m0
  have o0 : (w3.alloc (.cells #[.slice (some ⟨gp, 0, none⟩) T T] 80)).cell? ⟨w2.heap.size, 0, none⟩ = some (.slice (some ⟨w1.heap.size, 0, none⟩) T T) := gcell (grownBy_al (World.grownBy.refl w3 none) _) (by omega) (by simp) hq3
  have p0 : (w3.alloc (.cells #[.slice (some ⟨gp, 0, none⟩) T T] 80)).cell? ⟨w3.heap.size, 0, none⟩ = some (.slice (some ⟨gp, 0, none⟩) T T) := by simp [go_sem]
  have ho : Hid (OwnV 3 (w3.alloc (.cells #[.slice (some ⟨gp, 0, none⟩) T T] 80)) w1.heap.size (.slice (some ⟨w1.heap.size, 0, none⟩) T T) (List.replicate T (.int .i64 0))) := hide ((((OwnV.alloc hx2 _).grown hg3 (by simp))).alloc _)
  have hr : Hid (OwnV 74 (w3.alloc (.cells #[.slice (some ⟨gp, 0, none⟩) T T] 80)) w1.heap.size (.slice (some ⟨gp, 0, none⟩) T T) (List.replicate T (.map none))) := hide (OwnV.alloc hx3 _)
  have hbv : Below w.heap.size w (w3.alloc (.cells #[.slice (some ⟨gp, 0, none⟩) T T] 80)) := by
    have h1 : Below w1.heap.size w1 w3 := ⟨hg23.os, hg23.tape, hg23.output, hg23.size, fun k hk => hg23.block k hk (by simp)⟩
    exact (HB1.out.trans (h1.mono (by omega))).alloc (by omega) _
  have hsv : (w3.alloc (.cells #[.slice (some ⟨gp, 0, none⟩) T T] 80)).heap.size = w3.heap.size + 1 := by simp
  have HBV := hide hbv
  clear hx2 hx3 hg2 hg3 hz2 hz3 hz3' hz4 hq3 hg23 kk m1 HB1 hbv c0 c1 c2 c3 c4 m0 hgp
  generalize (w3.alloc (.cells #[.slice (some ⟨gp, 0, none⟩) T T] 80)) = v0 at *
  generalize w1.heap.size = B1 at *
  generalize w2.heap.size = B2 at *
  generalize w3.heap.size = B3 at *
  have hT0 : 0 < T := by omega
  go_loopw [39] (fun iv wr => ∃ (k : Nat) (L : List Nat), k ≤ T ∧ iv = .int .i64 k ∧ Hid (L.length = k) ∧ Hid (OwnV 74 wr B1 (.slice (some ⟨gp, 0, none⟩) T T) (L.map (fun l => .map (some l)) ++ List.replicate (T - k) (.map none))) ∧ Hid (L.Pairwise (· < ·)) ∧ Hid (∀ l ∈ L, B3 + 1 ≤ l ∧ l < wr.heap.size ∧ MapF mapI wr l 0 fun _ => none) ∧ v0.grownBy wr (some gp)) (fun iv _ => T - (intOf iv).toNat)
  case atStart => exact ⟨0, [], by omega, rfl, hide rfl, hr, hide List.Pairwise.nil, hide fun l hl => by simp at hl, World.grownBy.refl _ _⟩
  case round =>
    obtain ⟨k, L, hk, rfl, hL, hro, hpw, hml, hg⟩ := hrel
    have p1 := gcell hg (by omega) (by simp; omega) p0
    by_cases hlt : k < T
    · have hkI : (k : Int) < (T : Int) := by omega
      have hLen := hL.out
      have hrow := hro.out
      have hcl := OwnV.cell hrow (by simp; omega) (j := k) hlt
      rw [List.getElem?_append_right (by simp; omega)] at hcl
      simp only [List.length_map, hLen, Nat.sub_self, List.getElem?_replicate, if_pos (show 0 < T - k by omega)] at hcl
      have hfz := OwnV.frz hrow (by simp; omega) k
      have hgl : gp < wr.heap.size := by have := hg.size; omega
      clear hLen hrow
      have hset := hide (OwnV.set hro.out (by simp [hL.out]; omega) k (.map (some wr.heap.size)))
      go_wp2_with fail
      have hgs := hg.andThen hset.out.2 (fun j e => .inr e)
      refine ⟨⟨k + 1, L ++ [wr.heap.size], by omega, by simp, hide (by simp [hL.out]), hide ?_, hide ?_, hide fun l hl => ?_, grownBy_al hgs _⟩, by simp [intOf]; omega⟩
      · have h1 := hset.out.1
        rw [set_snoc _ _ _ (T - k) k (by simp [hL.out]) (by omega)] at h1
        have := OwnV.alloc h1 (.map #[] 0)
        rw [List.map_append]
        exact this
      · rw [List.pairwise_append]
        exact ⟨hpw.out, by simp, fun x hx y hy => by simp at hy; subst hy; exact (hml.out x hx).2.1⟩
      · have hsz := hg.size
        rcases List.mem_append.1 hl with hl | hl
        · obtain ⟨l1, l2, l3⟩ := hml.out l hl
          refine ⟨l1, by simp; omega, (l3.grown hset.out.2 (by simp; omega)).alloc _⟩
        · simp at hl
          subst hl
          refine ⟨by omega, by simp, ?_⟩
          have := MapF.made mapI (wr.setCell ⟨gp, k, none⟩ (.map (some wr.heap.size)))
          rwa [World.size_setCell] at this
    · obtain rfl : k = T := by omega
      have hgv := hg.size
      -- the state
      have hX : ∃ X : SpecFix, X = ⟨w.heap.size, w.heap.size + 1, B2, B3, B1, gp, B3 + 1, by omega, by omega, by omega, by omega, by omega, by omega, by omega, by omega, by omega, by omega, by omega, by omega, by omega, by omega, by omega⟩ := ⟨_, rfl⟩
      obtain ⟨X, eX⟩ := hX
      have hbc : X.bc = w.heap.size := by rw [eX]
      have hbm : X.bm = w.heap.size + 1 := by rw [eX]
      have hbo : X.bo = B2 := by rw [eX]
      have hbp : X.bp = B3 := by rw [eX]
      have hgo : X.go = B1 := by rw [eX]
      have hgpx : X.gp = gp := by rw [eX]
      have hS0 : X.S0 = B3 + 1 := by rw [eX]
      have kk : ∀ {b o : Nat} {v : Value}, b < v0.heap.size → b ≠ gp → v0.cell? ⟨b, o, none⟩ = some v → wr.cell? ⟨b, o, none⟩ = some v := fun hb hne h => gcell hg hb (by simpa using hne) h
      have hst : SpecSt X n R a b c t wr (fun v => L.getD v 0) (fun _ _ => none) (fun _ => 0) := by
        have ov2 := (OwnV.grown ho.out hg (by intro g e; cases e; simp; omega))
        refine ⟨by rw [hbc]; exact kk (by omega) (by omega) d0, by rw [hbc]; exact kk (by omega) (by omega) d1, by rw [hbc]; exact kk (by omega) (by omega) d2, by rw [hbc]; exact kk (by omega) (by omega) d3, by rw [hbc]; exact kk (by omega) (by omega) d4, by rw [hbm]; exact kk (by omega) (by omega) e0,
          by rw [hbo, hgo, hT]; exact kk (by omega) (by omega) o0, by rw [hbp, hgpx, hT]; exact kk (by omega) (by omega) p0, fun v hv => ?_, fun v hv => ?_, fun v hv => ?_, fun v hv => ?_, fun v hv => ?_, fun v hv => ?_, fun v v' hv hv' e => ?_, by omega, fun v hv s q e => absurd e (by simp), fun v hv => by omega⟩
        · rw [hgo, OwnV.cell ov2 (by simp) (j := v) (by omega)]
          simp [show v < k by omega]
        · rw [hgo]; exact OwnV.frz ov2 (by simp) v
        · have hvl : v < L.length := by have := hL.out; omega
          rw [hgpx, OwnV.cell hro.out (by simp [hL.out]) (j := v) (by omega), List.getElem?_append_left (by simpa using hvl)]
          simp [hvl, List.getD]
        · rw [hgpx]; exact OwnV.frz hro.out (by simp [hL.out]) v
        · have hvl : v < L.length := by have := hL.out; omega
          have := (hml.out (L.getD v 0) (by simp [List.getD, hvl])).2.2
          exact this.mono (by omega)
        · have hvl : v < L.length := by have := hL.out; omega
          rw [hS0]
          exact (hml.out (L.getD v 0) (by simp [List.getD, hvl])).1
        · have hvl : v < L.length := by have := hL.out; omega
          have hvl' : v' < L.length := by have := hL.out; omega
          have hpp := List.pairwise_iff_getElem.1 hpw.out
          simp only [List.getD, List.getElem?_eq_getElem hvl, List.getElem?_eq_getElem hvl', Option.getD_some] at e
          rcases Nat.lt_trichotomy v v' with h | h | h
          · have := hpp v v' hvl hvl' h; omega
          · exact h
          · have := hpp v' v hvl' hvl h; omega
      have hHst := hide hst
      have HBW := hide (HBV.out.grown hg (by have := HBV.out.size; omega) (fun j e => by cases e; omega))
      clear hst hro hml hpw hL ho hr d0 d1 d2 d3 d4 e0 o0 p0 kk hg
      have HP0 := fun (s x w0 : Nat) (q : Int) (hs : s ≤ 2147483647) (hx : x ≤ 1) (hw0 : w0 ≤ t) => specput_any X n a b c s x w0 t R q hR (by omega) hA hB hC hs hx hw0 ht
      simp only [hbc, hbm, hbo, hbp] at HP0
      have HP := hide HP0
      clear HP0
      have hXb : Hid (w.heap.size ≤ X.go ∧ w.heap.size ≤ X.S0 ∧ w.heap.size ≤ X.gp) := hide (by rw [hgo, hS0, hgpx]; omega)
      have HPF := hide fun (u : World) (lab : Nat → Nat) (f : Nat → Nat → Option Int) (out : Nat → Int) (h : SpecSt X n R a b c t u lab f out) => (show u.cell? ⟨B3, 0, none⟩ = some (.slice (some ⟨gp, 0, none⟩) k k) ∧ (∀ v, v ≤ t → u.cell? ⟨gp, v, none⟩ = some (.map (some (lab v)))) ∧ (∀ v, v ≤ t → u.frozen? ⟨gp, v, none⟩ = false) ∧ u.cell? ⟨B2, 0, none⟩ = some (.slice (some ⟨B1, 0, none⟩) k k) from
        ⟨by have := h.p0; rwa [hbp, hgpx, hT] at this, fun v hv => by have := h.pv v hv; rwa [hgpx] at this, fun v hv => by have := h.pf v hv; rwa [hgpx] at this, by have := h.o0; rwa [hbo, hgo, hT] at this⟩)
      generalize hlab : (fun v => L.getD v 0) = lab at *
      clear hlab
      have HTt := hide hT
      have HGO := hide hgo
      have HGP := hide hgpx
      have HS0 := hide hS0
      have htk : t < k := by omega
      have hkt : k ≤ t + 1 := by omega
      clear hT hbc hbm hbo hbp hgo hgpx hS0 eX
      have HZ := hide (⟨z1, z2, z3, z4, hsv, hgv⟩ : w.heap.size + 1 < B1 ∧ B1 < B2 ∧ B2 < gp ∧ gp < B3 ∧ v0.heap.size = B3 + 1 ∧ v0.heap.size ≤ wr.heap.size)
      clear hgv hlt hk
      go_wp2_with fail
      refine (HP.out 0 1 0 1 (by omega) (by omega) (by omega) _ _ _ _ hHst.out).mono ?_
      rintro e wa ⟨rfl, hsa, hka⟩
      have HSa := hide hsa
      have HKa := hide hka
      obtain ⟨p0, pv, pf, o0⟩ := HPF.out _ _ _ _ hsa
      clear hsa hka
      go_wp2_with fail
      have hTA : Hid (TotOk n R a b c t (putF t (fun _ _ => none) (0 + wtF R a b c 0 1) (nxF n 0 1) 1) (putO t (fun _ => 0) (0 + wtF R a b c 0 1) (nxF n 0 1) 1) fun _ => 0) :=
        hide (TotOk.put (more := fun v => ((loopsN n R a b c v : Nat) : Int)) (fun v hv => by
          rw [tot_none (fun _ _ _ => rfl)]; exact M64.of_eq (Int.zero_add _)) (s := 0) (x := 1) (w := 0) 1 (fun v hv => by simp [loopsN]))
      have HBA := hide (HKa.out.below hHst.out HBW.out hXb.out.1 hXb.out.2.1 (by omega))
      have HSa2 : Hid (SpecSt X n R a b c t wa lab (putF t (fun _ _ => none) (0 + wtF R a b c 0 1) (nxF n 0 1) 1) (putO t (fun _ => 0) (0 + wtF R a b c 0 1) (nxF n 0 1) 1)) := HSa
      generalize putF t (fun _ _ => none) (0 + wtF R a b c 0 1) (nxF n 0 1) 1 = fa at *
      generalize putO t (fun _ => 0) (0 + wtF R a b c 0 1) (nxF n 0 1) 1 = oa at *
      clear HSa HKa hHst HBW p0 pv pf o0
      go_loopw [52] (fun iv wr => ∃ (j : Nat) (lab : Nat → Nat) (f : Nat → Nat → Option Int) (out : Nat → Int), j ≤ k ∧ iv = .int .i64 j ∧ Hid (SpecSt X n R a b c t wr lab f out) ∧ Hid (TotOk n R a b c t f out fun _ => 0) ∧ Hid (∀ v, v < j → v ≤ t → ∀ s, f v s = none) ∧ Hid (Below w.heap.size w wr)) (fun iv _ => k - (intOf iv).toNat)
      case atStart => exact ⟨0, lab, fa, oa, Nat.zero_le _, rfl, HSa2, hTA, hide fun v hv => absurd hv (Nat.not_lt_zero _), HBA⟩
      case round =>
        rename World => wj
        obtain ⟨j, lab, f, out, hj, rfl, HS, HT, HE, HB⟩ := hrel
        by_cases hlt : j < k
        · have hjt : j ≤ t := by omega
          have hz0 := HS.out.sz
          have HN0 := hide (show ∀ s q, f j s = some q → zr (nxF n) (wtF R a b c) n s < n from fun s q e => by
            obtain ⟨h1, h2, _⟩ := HS.out.dom j hjt s q e
            exact zr_lt HG.out h2 h1)
          go_wp2_with fail
          go_loopg [12] n (fun g xv wl => ∃ (lab : Nat → Nat) (f : Nat → Nat → Option Int) (out : Nat → Int), Hid (SpecSt X n R a b c t wl lab f out) ∧ Hid (TotOk n R a b c t f out fun _ => 0) ∧ Hid (∀ v, v < j → v ≤ t → ∀ s, f v s = none) ∧ Hid (∀ s q, f j s = some q → zr (nxF n) (wtF R a b c) n s < g) ∧ Hid (Below w.heap.size w wl))
          case atStart => exact ⟨lab, f, out, HS, HT, HE, HN0, HB⟩
          case round =>
            rename World => wl
            obtain ⟨lab, f, out, HS, HT, HE, HN, HB⟩ := hrel
            obtain ⟨p0, pv, pf, o0⟩ := HPF.out _ _ _ _ HS.out
            have pj := pv j hjt
            have fj := pf j hjt
            have hmj := hide (HS.out.mp j hjt)
            go_upto_if 60 with (first | (at_len; refine wpList_lenF mapI rfl _ rfl rfl hmj.out ?_; intro N hN1 hN2) | fail)
            by_cases hN0 : N = 0
            · subst hN0
              have hnone := hN2.1 rfl
              have HE2 := hide (show ∀ v, v < j + 1 → v ≤ t → ∀ s, f v s = none from fun v hv hv2 s => by
                by_cases e : v = j
                · subst e
                  cases hf : f v s with
                  | none => rfl
                  | some q =>
                    have h1 := (HS.out.dom v hv2 s q hf).2.1
                    have h2 : 2 ^ n ≤ 2 ^ 7 := Nat.pow_le_pow_right (by omega) hn.2
                    have h3 := hnone s (show s ≤ 4294967295 by omega)
                    rw [hf] at h3; cases h3
                · exact HE.out v (by omega) hv2 s)
              clear hN2 hN1 hnone
              go_wp2_with fail
              exact ⟨⟨j + 1, lab, f, out, by omega, by simp, HS, HT, HE2, HB⟩, by simp [intOf]; omega⟩
            · have hNI : (0 : Int) < (N : Int) := by omega
              have hgk : 0 < gk := by
                rcases Nat.eq_zero_or_pos gk with e | e
                · exfalso
                  refine hN0 (hN2.2 fun x _ => ?_)
                  cases hf : f j x with
                  | none => rfl
                  | some q => have := HN.out x q hf; omega
                · exact e
              have hglt : gp < wl.heap.size := by have := HS.out.sz; have := X.hgp; have := HGP.out; omega
              have heq := World.setCell_alloc_past (w := wl) (.map #[] 0) gp j (.map (some wl.heap.size)) hglt
              have hne : ∀ u, u ≤ t → lab u ≠ wl.heap.size := fun u hu e => by have := (HS.out.mp u hu).lt; omega
              have h1 := (HS.out.below ((Below.refl _ _).alloc (Nat.le_refl _) (.map #[] 0))).fresh hjt HS.out.sz hne (MapF.made mapI wl) (by omega)
              rw [HGP.out, heq] at h1
              have hlj := HS.out.lb j hjt
              have hljlt := (HS.out.mp j hjt).lt
              have hS0 := HS0.out
              have hZ := HZ.out
              have hg1 : wl.grownBy ((wl.setCell ⟨gp, j, none⟩ (.map (some wl.heap.size))).alloc (.map #[] 0)) (some gp) := grownBy_al (grownBy_set (World.grownBy.refl wl _) _ _ (.inl rfl)) _
              have hmr := hide ((HS.out.mp j hjt).grown hg1 (by simp; omega))
              have HS1 := hide h1
              have HT1 := hide (HT.out.take hjt)
              have HB1 := hide (HB.out.grown hg1 (by have := HB.out.size; omega) (fun q e => by cases e; omega))
              have hE1 := hide (show ∀ v, v < j → v ≤ t → ∀ s, (if v = j then none else f v s) = none from fun v hv hv2 s => by rw [if_neg (by omega)]; exact HE.out v hv hv2 s)
              have hzl : X.S0 ≤ wl.heap.size := HS.out.sz
              have HNE := hide hne
              clear heq h1 hg1 hne hN2 hN1
              have hNb : decide (0 < N) = true := decide_eq_true (by omega)
              rw [hNb]
              clear hNb hNI hN0
              go_upto_region 23 with fail
              have er : ((wl.setCell ⟨gp, j, none⟩ (.map (some wl.heap.size))).alloc (.map #[] 0)).heap.size = wl.heap.size + 1 := by simp
              generalize (wl.setCell ⟨gp, j, none⟩ (.map (some wl.heap.size))).alloc (.map #[] 0) = ws at *
              have HER := hide er
              clear er
              go_wp2_with (first | (at_range; refine wpList_rangeF mapI rfl _ rfl rfl hmr.out ?_; intro w4 cnt hcnt hrg hg4 hs4) | fail)
              go_frame
              have HS4 := hide (HS1.out.grow hg4 (fun k e => by cases e))
              have HB4 := hide (HB1.out.grown hg4 (by rw [HER.out]; have := HB.out.size; omega) (fun k e => by cases e))
              clear hg4 hs4
              have hHrg := hide hrg
              clear hrg
              go_loopw [13] (fun _ wq => ∃ (cnt' : Nat) (rem : Nat → Bool) (f' : Nat → Nat → Option Int) (out' : Nat → Int), Hid (RangeF mapI wq (lab j) ws.heap.size 4294967296 (f j) rem cnt') ∧ Hid (SpecSt X n R a b c t wq (fun u => if u = j then wl.heap.size else lab u) f' out') ∧ Hid (TotOk n R a b c t f' out' fun v => if j ≤ v then rowT n R a b c (fun s => if rem s then f j s else none) (v - j) else 0) ∧ Hid (∀ v, v < j → v ≤ t → ∀ s, f' v s = none) ∧ Hid (∀ s q, f' j s = some q → zr (nxF n) (wtF R a b c) n s < gk - 1) ∧ Hid (Below w.heap.size w wq)) (fun _ wq => wq.rangeLeft (lab j) ws.heap.size)
              case atStart => exact ⟨cnt, _, _, _, hHrg, HS4, HT1, hE1, hide fun s q e => by simp at e, HB4⟩
              case round =>
                rename World => wq
                obtain ⟨cnt', rem, f', out', hRg, HSq, HTq, HEq, HNq, HBq⟩ := hrel
                go_wp2_with (first | (at_next; refine wpList_nextF mapI rfl _ rfl rfl hRg.out (fun x => .int .u32 (x : Int)) (fun c => .int .i64 c) (fun _ => rfl) (fun _ => rfl) ?_ ?_) | fail)
                · intro hdone
                  have HT5 := hide (show TotOk n R a b c t f' out' fun _ => 0 from fun v hv => by
                    have h1 : M64 (totT n R a b c t f' out' v + (if j ≤ v then rowT n R a b c (fun s => if rem s then f j s else none) (v - j) else 0)) (loopsN n R a b c v : Nat) := HTq.out v hv
                    have e0 : rowT n R a b c (fun s => if rem s then f j s else none) (v - j) = 0 := rowT_empty (fun s hs => by
                      have h2 : 2 ^ n ≤ 2 ^ 7 := Nat.pow_le_pow_right (by omega) hn.2
                      rw [hdone s (show s ≤ 4294967295 by omega)]; rfl) _
                    rw [e0] at h1
                    have e1 : (if j ≤ v then (0 : Int) else 0) = 0 := by split <;> rfl
                    rw [e1] at h1
                    exact h1)
                  clear hdone
                  go_wp2_with fail
                  go_roundg (gk - 1)
                  case measure => omega
                  case rel => exact ⟨_, f', out', HSq, HT5, HEq, HNq, HBq⟩
                · intro x q w5 cnt5 hx _ hrem hfx hrg5 hlt5 hg5 hs5 hen
                  have hdx := HS.out.dom j hjt x q hfx
                  have hzx := HN.out x q hfx
                  have h2n : 2 ^ n ≤ 2 ^ 7 := Nat.pow_le_pow_right (by omega) hn.2
                  have hgo0 := X.hgo
                  have hr5 : ∀ v, v ≤ t → (if v = j then wl.heap.size else lab v) ≠ ws.heap.size := fun v hv => by
                    rw [HER.out]
                    by_cases e : v = j
                    · rw [if_pos e]; omega
                    · rw [if_neg e]; have := (HS.out.mp v hv).lt; omega
                  have hl5 : ∀ v, v ≤ t → (if v = j then wl.heap.size else lab v) ≠ lab j := fun v hv => by
                    by_cases e : v = j
                    · rw [if_pos e]; omega
                    · rw [if_neg e]; exact fun e2 => e (HS.out.li v j hv hjt e2)
                  have HS5 := hide (HSq.out.grow hg5 (fun k e => by cases e; exact ⟨by rw [HER.out]; omega, hr5⟩))
                  have HB5 := hide (HBq.out.grown hg5 HBq.out.size (fun k e => by cases e; have := hXb.out.2.1; rw [HER.out]; omega))
                  have hHrg5 := hide hrg5
                  have hHlt := hide hlt5
                  have hHfx := hide hfx
                  have hHrem := hide hrem
                  have hHr5 := hide hr5
                  have hHl5 := hide hl5
                  have hHdx := hide hdx
                  have hx2 : x ≤ 2147483647 := by omega
                  clear hrg5 hlt5 hg5 hs5 hfx hrem hr5 hl5 hdx
                  go_wp2_with fail
                  refine (HP.out x 0 j q hx2 (by omega) hjt _ _ _ _ HS5.out).mono ?_
                  rintro e w6 ⟨rfl, hs6, hk6⟩
                  have HS6 := hide hs6
                  have HB6 := hide (hk6.below HS5.out HB5.out hXb.out.1 hXb.out.2.1 (Nat.le_refl _))
                  have hR6 := hide (hHrg5.out.keep (hk6.block _ hHrg5.out.owns.lt (by omega) (fun v hv => (hHl5.out v hv).symm)) (hk6.block _ hHrg5.out.lt (by rw [HER.out]; omega) (fun v hv => (hHr5.out v hv).symm)))
                  clear hs6 hk6
                  go_wp2_with fail
                  refine (HP.out x 1 j q hx2 (by omega) hjt _ _ _ _ HS6.out).mono ?_
                  rintro e w7 ⟨rfl, hs7, hk7⟩
                  have HS7 := hide hs7
                  have HB7 := hide (hk7.below HS6.out HB6.out hXb.out.1 hXb.out.2.1 (Nat.le_refl _))
                  have hR7 := hide (hR6.out.keep (hk7.block _ hR6.out.owns.lt (by omega) (fun v hv => (hHl5.out v hv).symm)) (hk7.block _ hR6.out.lt (by rw [HER.out]; omega) (fun v hv => (hHr5.out v hv).symm)))
                  have HT7 := hide (HTq.out.two HG.out hHdx.out.2.1 hHdx.out.1 hHrem.out hHfx.out)
                  have HE7 := hide (show ∀ v, v < j → v ≤ t → ∀ s, putF t (putF t f' (j + wtF R a b c x 0) (nxF n x 0) q) (j + wtF R a b c x 1) (nxF n x 1) q v s = none from fun v hv hv2 s => by
                    rw [putF_low hv (by omega), putF_low hv (by omega)]; exact HEq.out v hv hv2 s)
                  have HN7 := hide (show ∀ s q', putF t (putF t f' (j + wtF R a b c x 0) (nxF n x 0) q) (j + wtF R a b c x 1) (nxF n x 1) q j s = some q' → zr (nxF n) (wtF R a b c) n s < gk - 1 from fun s q' e => by
                    rcases putF_at e with e | ⟨e1, e2, e3⟩
                    · rcases putF_at e with e | ⟨e1, e2, e3⟩
                      · exact HNq.out s q' e
                      · have := zr_step HG.out hHdx.out.2.1 hHdx.out.1 (by omega : (0 : Nat) ≤ 1) e1
                        rw [e2]; omega
                    · have := zr_step HG.out hHdx.out.2.1 hHdx.out.1 (by omega : (1 : Nat) ≤ 1) e1
                      rw [e2]; omega)
                  clear hs7 hk7
                  go_wp2_with fail
                  go_roundw
                  case rel => exact ⟨cnt5, _, _, _, hR7, HS7, HT7, HE7, HN7, HB7⟩
                  case measure => rw [hR7.out.left_eq, hRg.out.left_eq]; exact hHlt.out
        · obtain rfl : j = k := by omega
          obtain ⟨p0, pv, pf, o0⟩ := HPF.out _ _ _ _ HS.out
          have hfin : RowV wj (some ⟨B1, 0, none⟩) ((specL n a b c R t).map (Value.int .i64)) := fun h0 => by
            have hGO := HGO.out
            have hlen : (specL n a b c R t).length = t + 1 := by simp [specL]
            have hsz := HS.out.sz
            refine ⟨B1, 0, rfl, by rw [← hGO]; have := X.hgo; omega, fun i u hu => ?_⟩
            have hi : i ≤ t := by
              rcases Nat.lt_or_ge i (t + 1) with h | h
              · omega
              · rw [List.getElem?_eq_none (by simpa [hlen] using h)] at hu; cases hu
            have h1 := HT.out i hi
            rw [tot_none (fun v hv => HE.out v (by omega) hv), Int.add_zero] at h1
            have h2 := loops_small HG.out (v := i) (by omega) hn.2 24 (25 * 7) (Nat.le_refl _)
            rw [← loops_all HG.out (by omega : i ≤ 24) (Nat.mul_le_mul_left _ hn.2)] at h2
            have h3 := h1.eq (HS.out.rng i hi) (by omega)
            rw [Nat.zero_add, ← hGO, HS.out.ov i hi, h3, ← hu]
            simp [specL, show i < t + 1 by omega]
          have HF := hide hfin
          clear hfin
          go_wp2_with fail
          have hjk : j = t + 1 := HTt.out.symm
          refine bodyPost_ret (v := .tuple #[.slice (some ⟨B1, 0, none⟩) j j, .int .i64 0]) (by simp [results, Try.results28, go_sem]) rfl ⟨some ⟨B1, 0, none⟩, j, by rw [hjk], HF.out, HB.out⟩
end Go.Proofs.Ytpmnbdkncmjafaa
