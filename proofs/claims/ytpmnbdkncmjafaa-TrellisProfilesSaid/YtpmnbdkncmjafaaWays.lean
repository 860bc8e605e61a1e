/- outpostref07.ways, walked. -/
import Derived.Test.YtpmnbdkncmjafaaRows
import Derived.Test.YtpmnbdkncmjafaaProf
import Derived.Test.YtpmnbdkncmjafaaWalkAny
import Derived.Deep.CutRange
import Derived.Deep.Cut
namespace Go.Proofs.Ytpmnbdkncmjafaa
open Go.RowKit

def updI (o v : Int) : Int := if o < 0 ∨ v < o then v else o
/-- what stands in the row from place k on is put down to f -/
def updL (k : Nat) (f : Nat → Nat) (xs : List Int) : List Int := xs.mapIdx fun i o => if i < k then o else updI o (f (i - k) : Nat)
theorem updL_length (k : Nat) (f : Nat → Nat) (xs : List Int) : (updL k f xs).length = xs.length := by simp [updL]
theorem updI_two (o : Int) (u v : Nat) : updI (updI o u) v = updI o (min u v : Nat) := by
  have e : ((min u v : Nat) : Int) = if (v : Int) < u then (v : Int) else u := by split <;> omega
  rw [e]
  unfold updI
  repeat' split
  all_goals omega
theorem updL_step {k : Nat} {xs : List Int} (hk : k < xs.length) (W : Nat) (nx wt : Nat → Nat → Nat) (s : Nat) :
    updL (k + 1) (fun j => W + wt s 1 + rmin nx wt j (nx s 1)) (updL (k + 1) (fun j => W + wt s 0 + rmin nx wt j (nx s 0)) (xs.set k (updI (xs.getD k 0) W))) = updL k (fun j => W + rmin nx wt j s) xs := by
  unfold updL
  apply List.ext_getElem?
  intro i
  simp only [List.getElem?_mapIdx, List.getElem?_set]
  by_cases e : k = i
  · subst e
    simp [hk, rmin]
  · rw [if_neg e]
    cases hx : xs[i]? with
    | none => rfl
    | some o =>
      simp only [Option.map_some]
      by_cases hlt : i < k
      · simp [hlt, Nat.lt_succ_of_lt hlt]
      · have : ¬ i < k + 1 := by omega
        simp only [hlt, this, if_false]
        rw [updI_two]
        obtain ⟨j, hj⟩ : ∃ j, i - k = j + 1 := ⟨i - k - 1, by omega⟩
        rw [hj, show i - (k + 1) = j by omega]
        simp only [rmin]
        congr 2
        omega
theorem updL_last {k : Nat} {xs : List Int} (hk : k + 1 = xs.length) (W : Nat) (nx wt : Nat → Nat → Nat) (s : Nat) : xs.set k (updI (xs.getD k 0) W) = updL k (fun j => W + rmin nx wt j s) xs := by
  unfold updL
  apply List.ext_getElem?
  intro i
  simp only [List.getElem?_mapIdx, List.getElem?_set]
  by_cases e : k = i
  · subst e
    simp [show k < xs.length by omega, rmin]
  · rw [if_neg e]
    cases hx : xs[i]? with
    | none => rfl
    | some o =>
      have := (List.getElem?_eq_some_iff.1 hx).1
      simp [show i < k by omega]
theorem IntsV.cell {w : World} {B g cap : Nat} {xs : List Int} (h : IntsV w B (.slice (some ⟨g, 0, none⟩) xs.length cap) xs) {j : Nat} (hj : j < xs.length) : w.cell? ⟨g, j, none⟩ = some (.int .i64 (xs.getD j 0)) := by
  rw [OwnV.cell h (by simp) hj]
  simp [hj, List.getD]
theorem IntsV.set {w : World} {B g cap : Nat} {xs : List Int} {n : Nat} (h : IntsV w B (.slice (some ⟨g, 0, none⟩) n cap) xs) (hn : n = xs.length) (j : Nat) (v : Int) :
    IntsV (w.setCell ⟨g, j, none⟩ (.int .i64 v)) B (.slice (some ⟨g, 0, none⟩) n cap) (xs.set j v) ∧ w.grownBy (w.setCell ⟨g, j, none⟩ (.int .i64 v)) (some g) := by
  have := OwnV.set h (by simpa using hn) j (.int .i64 v)
  refine ⟨?_, this.2⟩
  unfold IntsV
  rw [List.map_set]
  exact this.1
set_option maxHeartbeats 2000000 in
theorem ways_any (n a b c : Nat) (R : Int) (hA : a ≤ 4294967295) (hB : b ≤ 4294967295) (hC : c ≤ 4294967295) (hn : 2 ≤ n ∧ n ≤ 31) (hR : R = 2 ∨ R = 3) (g cap B L : Nat) (hL : L ≤ 16) (k : Nat) :
    ∀ (s p W : Nat) (xs : List Int) (w : World), s < 2 ^ n → p + (k + 1) = L → xs.length = L → W + 3 * k ≤ 1000 → IntsV w B (.slice (some ⟨g, 0, none⟩) L cap) xs →
    Calls Try.prog 45 #[.agg #[.int .i64 (n + 1), .int .i64 R, .int .u32 a, .int .u32 b, .int .u32 c], .int .u32 s, .int .i64 p, .int .i64 W, .slice (some ⟨g, 0, none⟩) L cap] w fun e w' => e = .returned (.tuple #[]) ∧ IntsV w' B (.slice (some ⟨g, 0, none⟩) L cap) (updL p (fun j => W + rmin (nxF n) (wtF R a b c) j s) xs) ∧ w.grownBy w' (some g) := by
  induction k with
  | zero =>
    intro s p W xs w hs hp hxl hW hx
    have hcell := IntsV.cell (hxl ▸ hx) (j := p) (by omega)
    have hfz := OwnV.frz hx (by simpa using hxl.symm) p
    have hglt : g < w.heap.size := (OwnV.lt hx rfl).2
    obtain ⟨o, ho⟩ : ∃ o, o = xs.getD p 0 := ⟨_, rfl⟩
    rw [← ho] at hcell
    have hX := hide hx
    have hxs1 : Hid (xs.set p (updI o W) = xs.set p (updI (xs.getD p 0) W)) := by rw [ho]; exact hide rfl
    have hold : Hid (¬ (o < 0 ∨ (W : Int) < o) → xs.set p (updI o W) = xs) := hide fun h => by
      unfold updI
      rw [if_neg h, ho]
      apply List.ext_getElem?
      intro i
      rw [List.getElem?_set]
      by_cases e : p = i
      · subst e; simp [show p < xs.length by omega, List.getD]
      · rw [if_neg e]
    have hnew : Hid ((o < 0 ∨ (W : Int) < o) → updI o W = W) := hide fun h => by unfold updI; rw [if_pos h]
    have hXL := hide hxl
    clear hx ho hxl
    have hpl : p < L := by omega
    have hpI : (p : Int) < L := by omega
    go_enter Try.func45, Try.ntmps45
    go_upto_region 1 with fail
    go_cut [25] from 13 to 25 (fun b25 wc => b25 = .bool (decide (o < 0 ∨ (W : Int) < o)) ∧ wc = w.alloc (.cells #[.int .i64 (n + 1), .int .i64 R, .int .u32 a, .int .u32 b, .int .u32 c] 25))
    case first =>
      by_cases h0 : o < 0
      · have h0b : (decide (o < 0)) = true := decide_eq_true h0
        go_wp2_with fail
        go_meet
        case rel => exact ⟨congrArg Value.bool (decide_eq_true (Or.inl h0)).symm, rfl⟩
      · have h0b : (decide (o < 0)) = false := decide_eq_false h0
        go_wp2_with fail
        go_meet
        case rel => exact ⟨congrArg Value.bool (decide_eq_decide.2 (by omega)), rfl⟩
    case rest =>
    obtain ⟨rfl, rfl⟩ := hcut
    go_upto_if 25 with fail
    go_cut [1] from 13 to 29 (fun s1 wc => s1 = .int .u32 s ∧ IntsV wc B (.slice (some ⟨g, 0, none⟩) L cap) (xs.set p (updI o W)) ∧ w.grownBy wc (some g) ∧ w.heap.size < wc.heap.size ∧
      wc.cell? ⟨w.heap.size, 0, none⟩ = some (.int .i64 (n + 1)) ∧ wc.cell? ⟨w.heap.size, 1, none⟩ = some (.int .i64 R) ∧ wc.cell? ⟨w.heap.size, 2, none⟩ = some (.int .u32 a) ∧ wc.cell? ⟨w.heap.size, 3, none⟩ = some (.int .u32 b) ∧ wc.cell? ⟨w.heap.size, 4, none⟩ = some (.int .u32 c))
    case first =>
      have hx1 := hide (hX.out.alloc (.cells #[.int .i64 (n + 1), .int .i64 R, .int .u32 a, .int .u32 b, .int .u32 c] 25))
      by_cases h : o < 0 ∨ (W : Int) < o
      · have hb := decide_eq_true h
        have hs1 := hide (IntsV.set hX.out hXL.out.symm p W)
        go_wp2_with fail
        go_meet
        case rel => exact ⟨rfl, by rw [hnew.out h]; exact hs1.out.1.alloc _, grownBy_al hs1.out.2 _, by simp, by simp [go_sem], by simp [go_sem], by simp [go_sem], by simp [go_sem], by simp [go_sem]⟩
      · have hb := decide_eq_false h
        go_wp2_with fail
        go_meet
        case rel => exact ⟨rfl, by rw [hold.out h]; exact hx1.out, grownBy_al (World.grownBy.refl w _) _, by simp, by simp [go_sem], by simp [go_sem], by simp [go_sem], by simp [go_sem], by simp [go_sem]⟩
    case rest =>
    obtain ⟨rfl, hx1, hg1, hzc, c0, c1, c2, c3, c4⟩ := hcut
    have hx1' : IntsV wc B (.slice (some ⟨g, 0, none⟩) L cap) (xs.set p (updI (xs.getD p 0) W)) := by rw [← hxs1.out]; exact hx1
    have hHx1 := hide hx1'
    have hHg1 := hide hg1
    clear hx1 hx1' hg1
    have hyy : (p : Int) + 1 = (L : Int) := by omega
    have hne : ((p : Int) + 1 == (L : Int)) = true := by rw [beq_iff_eq]; omega
    have HST := hide (updL_last (k := p) (xs := xs) (by have := hXL.out; omega) W (nxF n) (wtF R a b c) s)
    go_wp2_with fail
    refine bodyPost_ret (v := .tuple #[]) (by simp [results, Try.results45, go_sem]) rfl ⟨rfl, by rw [← HST.out]; exact hHx1.out, hHg1.out⟩
  | succ k ih =>
    intro s p W xs w hs hp hxl hW hx
    have hs2 : s ≤ 2147483647 := by have : 2 ^ n ≤ 2 ^ 31 := Nat.pow_le_pow_right (by omega) hn.2; omega
    have hcell := IntsV.cell (hxl ▸ hx) (j := p) (by omega)
    have hfz := OwnV.frz hx (by simpa using hxl.symm) p
    have hglt : g < w.heap.size := (OwnV.lt hx rfl).2
    obtain ⟨o, ho⟩ : ∃ o, o = xs.getD p 0 := ⟨_, rfl⟩
    rw [← ho] at hcell
    have hX := hide hx
    have hxs1 : Hid (xs.set p (updI o W) = xs.set p (updI (xs.getD p 0) W)) := by rw [ho]; exact hide rfl
    have hold : Hid (¬ (o < 0 ∨ (W : Int) < o) → xs.set p (updI o W) = xs) := hide fun h => by
      unfold updI
      rw [if_neg h, ho]
      apply List.ext_getElem?
      intro i
      rw [List.getElem?_set]
      by_cases e : p = i
      · subst e; simp [show p < xs.length by omega, List.getD]
      · rw [if_neg e]
    have hnew : Hid ((o < 0 ∨ (W : Int) < o) → updI o W = W) := hide fun h => by unfold updI; rw [if_pos h]
    have hXL := hide hxl
    clear hx ho hxl
    have hpl : p < L := by omega
    have hpI : (p : Int) < L := by omega
    go_enter Try.func45, Try.ntmps45
    go_upto_region 1 with fail
    go_cut [25] from 13 to 25 (fun b25 wc => b25 = .bool (decide (o < 0 ∨ (W : Int) < o)) ∧ wc = w.alloc (.cells #[.int .i64 (n + 1), .int .i64 R, .int .u32 a, .int .u32 b, .int .u32 c] 25))
    case first =>
      by_cases h0 : o < 0
      · have h0b : (decide (o < 0)) = true := decide_eq_true h0
        go_wp2_with fail
        go_meet
        case rel => exact ⟨congrArg Value.bool (decide_eq_true (Or.inl h0)).symm, rfl⟩
      · have h0b : (decide (o < 0)) = false := decide_eq_false h0
        go_wp2_with fail
        go_meet
        case rel => exact ⟨congrArg Value.bool (decide_eq_decide.2 (by omega)), rfl⟩
    case rest =>
    obtain ⟨rfl, rfl⟩ := hcut
    go_upto_if 25 with fail
    go_cut [1] from 13 to 29 (fun s1 wc => s1 = .int .u32 s ∧ IntsV wc B (.slice (some ⟨g, 0, none⟩) L cap) (xs.set p (updI o W)) ∧ w.grownBy wc (some g) ∧ w.heap.size < wc.heap.size ∧
      wc.cell? ⟨w.heap.size, 0, none⟩ = some (.int .i64 (n + 1)) ∧ wc.cell? ⟨w.heap.size, 1, none⟩ = some (.int .i64 R) ∧ wc.cell? ⟨w.heap.size, 2, none⟩ = some (.int .u32 a) ∧ wc.cell? ⟨w.heap.size, 3, none⟩ = some (.int .u32 b) ∧ wc.cell? ⟨w.heap.size, 4, none⟩ = some (.int .u32 c))
    case first =>
      have hx1 := hide (hX.out.alloc (.cells #[.int .i64 (n + 1), .int .i64 R, .int .u32 a, .int .u32 b, .int .u32 c] 25))
      by_cases h : o < 0 ∨ (W : Int) < o
      · have hb := decide_eq_true h
        have hs1 := hide (IntsV.set hX.out hXL.out.symm p W)
        go_wp2_with fail
        go_meet
        case rel => exact ⟨rfl, by rw [hnew.out h]; exact hs1.out.1.alloc _, grownBy_al hs1.out.2 _, by simp, by simp [go_sem], by simp [go_sem], by simp [go_sem], by simp [go_sem], by simp [go_sem]⟩
      · have hb := decide_eq_false h
        go_wp2_with fail
        go_meet
        case rel => exact ⟨rfl, by rw [hold.out h]; exact hx1.out, grownBy_al (World.grownBy.refl w _) _, by simp, by simp [go_sem], by simp [go_sem], by simp [go_sem], by simp [go_sem], by simp [go_sem]⟩
    case rest =>
    obtain ⟨rfl, hx1, hg1, hzc, c0, c1, c2, c3, c4⟩ := hcut
    have hx1' : IntsV wc B (.slice (some ⟨g, 0, none⟩) L cap) (xs.set p (updI (xs.getD p 0) W)) := by rw [← hxs1.out]; exact hx1
    have hHx1 := hide hx1'
    have hHg1 := hide hg1
    clear hx1 hx1' hg1
    have hne : ((p : Int) + 1 == (L : Int)) = false := by rw [beq_eq_false_iff_ne]; omega
    have hnn : ¬ (p : Int) + 1 = (L : Int) := by omega
    have HN := hide fun x (hx : x ≤ 1) => next_any n a b c s x R hR hn hA hB hC hs2 hx
    have HO := hide fun x => rones_any (outF (2 * s + x) a) (outF (2 * s + x) b) (third R (outF (2 * s + x) c)) (outF_le _ _) (outF_le _ _) (third_le1 _ (outF_le _ _))
    have HW := hide fun x (ys : List Int) (u : World) (hy : ys.length = L) (h : IntsV u B (.slice (some ⟨g, 0, none⟩) L cap) ys) => ih (nxF n s x) (p + 1) (W + wtF R a b c s x) ys u (nxF_lt _ _ _) (by omega) hy (by have := wtF_le R a b c s x; omega) h
    change Hid (∀ x, x ≤ 1 → ∀ w, Calls Try.prog 37 _ w fun e w' => e = .returned (.tuple #[.int .u32 ((nxF n s x : Nat) : Int), _]) ∧ Below w.heap.size w w') at HN
    change Hid (∀ x w, Calls Try.prog 46 _ w fun e w' => e = .returned (.int .i64 ((wtF R a b c s x : Nat) : Int)) ∧ Below w.heap.size w w') at HO
    have HL0 := hide (show (xs.set p (updI (xs.getD p 0) W)).length = L by rw [List.length_set]; exact hXL.out)
    have HST := hide (updL_step (k := p) (xs := xs) (by have := hXL.out; omega) W (nxF n) (wtF R a b c) s)
    generalize xs.set p (updI (xs.getD p 0) W) = ys at *
    have hglt2 := hide hglt
    have hql : p + 1 ≤ 16 := by omega
    generalize hq : p + 1 = q at *
    have HQ := hide hq
    clear hq
    go_wp2_with fail
    go_loopw [10] (fun iv wr => ∃ zs : List Int, ((iv = .int .u8 0 ∧ zs = ys) ∨ (iv = .int .u8 1 ∧ zs = updL (p + 1) (fun j => W + wtF R a b c s 0 + rmin (nxF n) (wtF R a b c) j (nxF n s 0)) ys) ∨ (iv = .int .u8 2 ∧ zs = updL p (fun j => W + rmin (nxF n) (wtF R a b c) j s) xs)) ∧ Hid (IntsV wr B (.slice (some ⟨g, 0, none⟩) L cap) zs) ∧ Hid (zs.length = L) ∧ Hid (w.grownBy wr (some g)) ∧ w.heap.size < wr.heap.size ∧
      wr.cell? ⟨w.heap.size, 0, none⟩ = some (.int .i64 (n + 1)) ∧ wr.cell? ⟨w.heap.size, 1, none⟩ = some (.int .i64 R) ∧ wr.cell? ⟨w.heap.size, 2, none⟩ = some (.int .u32 a) ∧ wr.cell? ⟨w.heap.size, 3, none⟩ = some (.int .u32 b) ∧ wr.cell? ⟨w.heap.size, 4, none⟩ = some (.int .u32 c)) (fun i _ => 2 - (intOf i).toNat)
    case atStart => exact ⟨ys, .inl ⟨rfl, rfl⟩, hHx1, HL0, hHg1, hzc, c0, c1, c2, c3, c4⟩
    case round =>
      obtain ⟨zs, hcase, hz, hzl, hg, hzr, c0, c1, c2, c3, c4⟩ := hrel
      rcases hcase with ⟨rfl, rfl⟩ | ⟨rfl, rfl⟩ | ⟨rfl, rfl⟩
      · have HN0 := hide (HN.out 0 (by omega))
        have HO0 := hide (HO.out 0)
        generalize outF (2 * s + 0) a = y0 at HN0 HO0
        generalize outF (2 * s + 0) b = y1 at HN0 HO0
        generalize third R (outF (2 * s + 0) c) = y2 at HN0 HO0
        have HW0 := hide (HW.out 0)
        generalize hnx : nxF n s 0 = t at HN0 HW0
        generalize hwt : wtF R a b c s 0 = wt at HO0 HW0
        have hwtl : wt ≤ 3 := by rw [← hwt]; exact wtF_le _ _ _ _ _ _
        have ewt : (W : Int) + (wt : Int) = ((W + wt : Nat) : Int) := by omega
        generalize hd : W + wt = d at HW0 ewt
        have ewd : IntKind.i64.wrap (d : Int) = (d : Int) := IntWalk.i64_in _ (by omega)
        have epq : IntKind.i64.wrap ((p : Int) + 1) = (q : Int) := by rw [IntWalk.i64_in _ (by omega)]; have := HQ.out; omega
        have hdl : d ≤ 2000 := by omega
        have HE := hide hnx
        have HF := hide hwt
        have HG := hide hd
        clear hnx hwt hd
        go_wp2_with fail
        refine (HN0.out _).mono ?_
        rintro e w1 ⟨rfl, hb1⟩
        have hz1 : w.heap.size < w1.heap.size := Nat.lt_of_lt_of_le hzr hb1.size
        have d0 := bcell hb1 hzr c0
        have d1 := bcell hb1 hzr c1
        have d2 := bcell hb1 hzr c2
        have d3 := bcell hb1 hzr c3
        have d4 := bcell hb1 hzr c4
        have HU := hide fun (u : World) (h : Below (w1.alloc (.cells #[.int .u8 y0, .int .u8 y1, .int .u8 y2] 26)).heap.size (w1.alloc (.cells #[.int .u8 y0, .int .u8 y1, .int .u8 y2] 26)) u) => (⟨bcell_mid h hz1 d0, bcell_mid h hz1 d1, bcell_mid h hz1 d2, bcell_mid h hz1 d3, bcell_mid h hz1 d4, hz.out.below (below_mid hb1 h), grownBy_below hg.out (below_mid hb1 h), Nat.lt_trans hz1 (size_mid h)⟩ :
          u.cell? ⟨w.heap.size, 0, none⟩ = some (.int .i64 (n + 1)) ∧ u.cell? ⟨w.heap.size, 1, none⟩ = some (.int .i64 R) ∧ u.cell? ⟨w.heap.size, 2, none⟩ = some (.int .u32 a) ∧ u.cell? ⟨w.heap.size, 3, none⟩ = some (.int .u32 b) ∧ u.cell? ⟨w.heap.size, 4, none⟩ = some (.int .u32 c) ∧ Hid (IntsV u B (.slice (some ⟨g, 0, none⟩) L cap) _) ∧ Hid (w.grownBy u (some g)) ∧ w.heap.size < u.heap.size)
        go_wp2_with fail
        go_region_with (first
          | (go_at_call 46; refine (HO0.out _).mono ?_; rintro e w2 ⟨rfl, hb2⟩; obtain ⟨c0, c1, c2, c3, c4, hz2, hg2, hzz⟩ := HU.out w2 (below_drewL hb2))
          | (go_at_call 45; refine (HW0.out _ _ hzl.out hz2.out).mono ?_; rintro e w3 ⟨rfl, hi3, hg3⟩; have hg4 := hide (World.grownBy.andThen hg2.out hg3 (fun j e => .inr e)); have hi4 := hide hi3; have hne := hglt2.out; have e0 := gcell hg3 hzz (by simp; omega) c0; have e1 := gcell hg3 hzz (by simp; omega) c1; have e2 := gcell hg3 hzz (by simp; omega) c2; have e3 := gcell hg3 hzz (by simp; omega) c3; have e4 := gcell hg3 hzz (by simp; omega) c4; have hz4 := Nat.lt_of_lt_of_le hzz hg3.size; clear hi3 hg3))
        all_goals (
          go_wp2_with fail
          go_roundw
          case rel => exact ⟨_, .inr (.inl ⟨rfl, rfl⟩), by simpa only [HE.out, HF.out, HG.out, HQ.out] using hi4, hide (by simpa only [updL_length, HQ.out] using hzl.out), hg4, hz4, e0, e1, e2, e3, e4⟩
          case measure => simp [intOf])
      · have HN0 := hide (HN.out 1 (by omega))
        have HO0 := hide (HO.out 1)
        generalize outF (2 * s + 1) a = y0 at HN0 HO0
        generalize outF (2 * s + 1) b = y1 at HN0 HO0
        generalize third R (outF (2 * s + 1) c) = y2 at HN0 HO0
        have HW0 := hide (HW.out 1)
        generalize hnx : nxF n s 1 = t at HN0 HW0
        generalize hwt : wtF R a b c s 1 = wt at HO0 HW0
        have hwtl : wt ≤ 3 := by rw [← hwt]; exact wtF_le _ _ _ _ _ _
        have ewt : (W : Int) + (wt : Int) = ((W + wt : Nat) : Int) := by omega
        generalize hd : W + wt = d at HW0 ewt
        have ewd : IntKind.i64.wrap (d : Int) = (d : Int) := IntWalk.i64_in _ (by omega)
        have epq : IntKind.i64.wrap ((p : Int) + 1) = (q : Int) := by rw [IntWalk.i64_in _ (by omega)]; have := HQ.out; omega
        have hdl : d ≤ 2000 := by omega
        have HE := hide hnx
        have HF := hide hwt
        have HG := hide hd
        clear hnx hwt hd
        go_wp2_with fail
        refine (HN0.out _).mono ?_
        rintro e w1 ⟨rfl, hb1⟩
        have hz1 : w.heap.size < w1.heap.size := Nat.lt_of_lt_of_le hzr hb1.size
        have d0 := bcell hb1 hzr c0
        have d1 := bcell hb1 hzr c1
        have d2 := bcell hb1 hzr c2
        have d3 := bcell hb1 hzr c3
        have d4 := bcell hb1 hzr c4
        have HU := hide fun (u : World) (h : Below (w1.alloc (.cells #[.int .u8 y0, .int .u8 y1, .int .u8 y2] 26)).heap.size (w1.alloc (.cells #[.int .u8 y0, .int .u8 y1, .int .u8 y2] 26)) u) => (⟨bcell_mid h hz1 d0, bcell_mid h hz1 d1, bcell_mid h hz1 d2, bcell_mid h hz1 d3, bcell_mid h hz1 d4, hz.out.below (below_mid hb1 h), grownBy_below hg.out (below_mid hb1 h), Nat.lt_trans hz1 (size_mid h)⟩ :
          u.cell? ⟨w.heap.size, 0, none⟩ = some (.int .i64 (n + 1)) ∧ u.cell? ⟨w.heap.size, 1, none⟩ = some (.int .i64 R) ∧ u.cell? ⟨w.heap.size, 2, none⟩ = some (.int .u32 a) ∧ u.cell? ⟨w.heap.size, 3, none⟩ = some (.int .u32 b) ∧ u.cell? ⟨w.heap.size, 4, none⟩ = some (.int .u32 c) ∧ Hid (IntsV u B (.slice (some ⟨g, 0, none⟩) L cap) _) ∧ Hid (w.grownBy u (some g)) ∧ w.heap.size < u.heap.size)
        go_wp2_with fail
        go_region_with (first
          | (go_at_call 46; refine (HO0.out _).mono ?_; rintro e w2 ⟨rfl, hb2⟩; obtain ⟨c0, c1, c2, c3, c4, hz2, hg2, hzz⟩ := HU.out w2 (below_drewL hb2))
          | (go_at_call 45; refine (HW0.out _ _ hzl.out hz2.out).mono ?_; rintro e w3 ⟨rfl, hi3, hg3⟩; have hg4 := hide (World.grownBy.andThen hg2.out hg3 (fun j e => .inr e)); have hi4 := hide hi3; have hne := hglt2.out; have e0 := gcell hg3 hzz (by simp; omega) c0; have e1 := gcell hg3 hzz (by simp; omega) c1; have e2 := gcell hg3 hzz (by simp; omega) c2; have e3 := gcell hg3 hzz (by simp; omega) c3; have e4 := gcell hg3 hzz (by simp; omega) c4; have hz4 := Nat.lt_of_lt_of_le hzz hg3.size; clear hi3 hg3))
        all_goals (
          go_wp2_with fail
          go_roundw
          case rel => exact ⟨_, .inr (.inr ⟨rfl, HST.out⟩), by simpa only [HE.out, HF.out, HG.out, HQ.out] using hi4, hide (by simpa only [updL_length, HQ.out] using hzl.out), hg4, hz4, e0, e1, e2, e3, e4⟩
          case measure => simp [intOf])
      · go_wp2_with fail
        go_end0
        exact ⟨rfl, hz.out, hg.out⟩
end Go.Proofs.Ytpmnbdkncmjafaa
