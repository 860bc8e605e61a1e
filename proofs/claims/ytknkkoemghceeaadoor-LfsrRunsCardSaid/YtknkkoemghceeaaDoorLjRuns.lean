/- The law LfsrRuns, walked: it returns true. -/
import Derived.Test.YtknkkoemghceeaaDoorRows
import Derived.Test.YtknkkoemghceeaaDoorLjRuns1
import Derived.Test.YtknkkoemghceeaaDoorLfLive
import Derived.IntWalk
import Derived.BigQuiet
import Derived.Deep.QuietTactic
import Derived.Deep.RegionWith
namespace Go.Proofs.YtknkkoemghceeaaDoor
open Go.RowKit

theorem tmod_low (a : Int) {m : Int} (hm : 0 < m) : -m < a.tmod m := by
  rcases Int.le_total 0 a with h | h
  · have := Int.tmod_nonneg m h; omega
  · have e : a.tmod m = -((-a).tmod m) := by rw [Int.neg_tmod, Int.neg_neg]
    have := Int.tmod_lt_of_pos (-a) hm
    omega
/-- a register's cells in the list, in every later world -/
def RegC (b o : Nat) (D : Int) (T S : Nat) (w0 u : World) : Prop :=
  u.cell? ⟨b, o, none⟩ = some (.int .i64 D) ∧ u.cell? ⟨b, o + 1, none⟩ = some (.int .u64 T) ∧ u.cell? ⟨b, o + 2, none⟩ = some (.int .u64 S) ∧ Below w0.heap.size w0 u
theorem RegC.keep {b o : Nat} {D : Int} {T S : Nat} {w0 u u' : World} (h : RegC b o D T S w0 u) (hb : b < w0.heap.size) (hbl : Below u.heap.size u u') : RegC b o D T S w0 u' := by
  obtain ⟨c0, c1, c2, c8⟩ := h
  have h1 := Nat.lt_of_lt_of_le hb c8.size
  exact ⟨bcell hbl h1 c0, bcell hbl h1 c1, bcell hbl h1 c2, below_then c8 hbl⟩
set_option maxRecDepth 100000 in
set_option maxHeartbeats 4000000 in
theorem law_runs (A0 : Option Addr) (l0 c0 : Nat) (A1 : Option Addr) (l1 c1 : Nat) (hl0 : l0 ≤ 5864062014805) (hl1 : l1 ≤ 5864062014805) (w : World) (hL : LfsrA w A0 l0) (hO : ROpA w A1 l1) (ht : TabW w) :
    Calls Tryd.prog 6 #[.slice A0 l0 c0, .slice A1 l1 c1] w fun e w' => e = .returned (.bool true) ∧ Below w.heap.size w w' := by
  have HL := hide hL
  have HO := hide hO
  have HT := hide (fun u (h : Below w.heap.size w u) => ht.below h)
  have HS0 := hide (RunSt.start (G := id) (F := id) (N := id) (T := id) (Sa := id) (Sb := id) (lab := id) w)
  clear hL hO ht
  go_enter Tryd.func6, Tryd.ntmps6
  go_wp2_with fail
  go_loopw [5, 6, 7] (fun a b i u => ∃ (k m : Nat) (va vb : Value) (G F N T S lab : Nat → Nat), k ≤ l0 ∧ m ≤ k ∧ va = a ∧ vb = b ∧ i = .int .i64 k ∧ Hid (RunSt w u va vb m G F N T S S lab)) (fun _ _ i _ => l0 - (intOf i).toNat)
  case atStart => exact ⟨0, 0, _, _, id, id, id, id, id, id, by omega, by omega, rfl, rfl, rfl, HS0⟩
  case round =>
    rename World => wr
    obtain ⟨k, m, va, vb, G, F, N, T, S, lab, hk, hm, rfl, rfl, rfl, hS⟩ := hrel
    clear HS0
    by_cases hlt : k < l0
    · obtain ⟨b, off, had, hbw, D, T', S', p0, p1, p2, hT, hSs⟩ := HL.out k hlt
      subst had
      have hbr : b < wr.heap.size := Nat.lt_of_lt_of_le hbw hS.out.below.size
      have HRC := hide (show RegC b (off + k * 3) D T' S' wr wr from ⟨bcell hS.out.below hbw p0, bcell hS.out.below hbw p1, bcell hS.out.below hbw p2, Below.refl _ _⟩)
      obtain ⟨q0, q1, q2, _⟩ := HRC.out
      have HCK := hide (r4check_any D T' S' hT hSs)
      have HP0 := hide (show RegC b (off + k * 3) D T' S' w w from ⟨p0, p1, p2, Below.refl _ _⟩)
      clear p0 p1 p2
      by_cases hck : lchk D T' S' = 0
      · obtain ⟨n, rfl, hg⟩ := lchk_zero hck
        have HSE := hide (lseries_good n T' S' hg)
        rw [hck] at HCK
        have HG := hide hg
        clear hck hg hT hSs
        go_wp2_with fail
        refine (HSE.out _).mono ?_
        rintro e w2 ⟨g, rfl, hr2, hg2, hb2⟩
        have HR2 := hide hr2
        have HB2 := hide hb2
        have HRC2 := hide (show RegC b (off + k * 3) n T' S' w2 w2 from ⟨bcell hb2 hbr q0, bcell hb2 hbr q1, bcell hb2 hbr q2, Below.refl _ _⟩)
        have hb2l : b < w2.heap.size := Nat.lt_of_lt_of_le hbr hb2.size
        clear hr2 hb2 q0 q1 q2
        obtain ⟨q0, q1, q2, _⟩ := HRC2.out
        have HK := hide (fun u u' (h : RegC b (off + k * 3) n T' S' w2 u) (hb : Below u.heap.size u u') => h.keep hb2l hb)
        go_wp2_with fail
        go_region_held3 (fun u => u.cell? ⟨b, off + k * 3, none⟩ = some (.int .i64 n) ∧ u.cell? ⟨b, off + k * 3 + 1, none⟩ = some (.int .u64 T') ∧ u.cell? ⟨b, off + k * 3 + 2, none⟩ = some (.int .u64 S') ∧ Below w2.heap.size w2 u)
          (first | exact ⟨q0, q1, q2, (Below.refl _ _).drew⟩ | exact ⟨q0, q1, q2, Below.refl _ _⟩ | assumption | exact HK.out _ _ (by assumption) (by assumption) | exact HK.out _ _ (by assumption) (Below.refl _ _))
          ((first
            | (go_at_call 21; refine (num_any _ _).mono ?_; rintro e w' ⟨rfl, rfl⟩)
            | (go_at_call 25; refine (HCK.out _).mono ?_; rintro e w' ⟨rfl, hb'⟩)))
        rename_i hh
        have hb4 := hh.2.2.2
        clear hh hb'
        generalize w' = w4 at *
        have hbT := below_then HB2.out hb4
        have HBT := hide hbT
        have HR4 := hide (HR2.out.below hb4 HR2.out.lt)
        have HOa := hide (OwnP.keep (w' := w4.alloc (.cells #[.pointer (some ⟨g, 0, none⟩)] 51)) (hS.out.next hbT).la (fun q e => Below.heap_alloc _ _ _ ((hS.out.next hbT).la.lt e).2))
        have hz4 := (hS.out.next hbT).below.size
        clear hb4 hbT q0 q1 q2
        go_wp2_with (first
          | (at_builtin; refine wpList_appP Tryd.underlying58 inf_a rfl (.tmp 45) (.tmp 47) rfl w.heap.size va (ptrs G m) rfl HOa.out w4.heap.size 1 (.pointer (some ⟨g, 0, none⟩)) rfl ?d1 rfl ?d2 ?d3 ?_)
          | go_in)
        case d1 => simp [go_sem]
        case d2 => rw [ptrs_length]; omega
        case d3 => simp; omega
        intro va' w5 ho5 hgr5 hd5
        have HM := hide (hS.out.pushA HR4.out HG.out hg2 HBT.out (.cells #[.pointer (some ⟨g, 0, none⟩)] 51) ho5 hgr5 (by simpa using hd5))
        clear ho5 hgr5 hd5
        obtain ⟨p0, p1, p2, _⟩ := HP0.out
        have q0 := bcell HM.out.below hbw p0
        have q1 := bcell HM.out.below hbw p1
        have q2 := bcell HM.out.below hbw p2
        clear p0 p1 p2
        have hz5 := HM.out.below.size
        have HOb := hide (OwnP.keep (w' := (w5.alloc (.cells #[.int .i64 n, .int .u64 T', .int .u64 S'] 62)).alloc (.cells #[.pointer (some ⟨w5.heap.size, 0, none⟩)] 60)) HM.out.lb (fun q e => (Below.heap_alloc _ _ _ (by have := (HM.out.lb.lt e).2; simp; omega)).trans (Below.heap_alloc _ _ _ (HM.out.lb.lt e).2)))
        go_wp2_with (first
          | (at_builtin; refine wpList_appP Tryd.underlying59 inf_b rfl (.tmp 49) (.tmp 56) rfl w.heap.size vb (ptrs F m) rfl HOb.out (w5.heap.size + 1) 1 (.pointer (some ⟨w5.heap.size, 0, none⟩)) rfl ?e1 rfl ?e2 ?e3 ?_)
          | go_in)
        case e1 => simp [go_sem]
        case e2 => rw [ptrs_length]; omega
        case e3 => simp; omega
        intro vb' w6 ho6 hgr6 hd6
        have HS6 := hide (HM.out.pushB (R := w5.alloc (.cells #[.int .i64 n, .int .u64 T', .int .u64 S'] 62)) (g := w5.heap.size) ⟨_, heap_alloc_new w5 _⟩ (Nat.le_refl _) ((Below.refl _ _).alloc (Nat.le_refl _) _) (.cells #[.pointer (some ⟨w5.heap.size, 0, none⟩)] 60) ho6 hgr6 (by simpa using hd6))
        clear ho6 hgr6 hd6 q0 q1 q2
        go_wp2_with fail
        go_roundw
        case rel => exact ⟨k + 1, m + 1, va', vb', _, _, _, _, _, _, by omega, by omega, rfl, rfl, by simp, HS6⟩
        case measure => simp [intOf]; omega
      · have HSE := hide (lseries_bad D T' S' hT hSs hck)
        have hcb := nzBne hck
        have hcb2 := nzBeq hck
        have hcn : ¬ lchk D T' S' = 0 := hck
        generalize lchk D T' S' = cf at *
        clear hck hT hSs
        go_wp2_with fail
        refine (HSE.out _).mono ?_
        rintro e w2 ⟨rfl, hb2⟩
        have HB2 := hide hb2
        have HRC2 := hide (show RegC b (off + k * 3) D T' S' w2 w2 from ⟨bcell hb2 hbr q0, bcell hb2 hbr q1, bcell hb2 hbr q2, Below.refl _ _⟩)
        have hb2l : b < w2.heap.size := Nat.lt_of_lt_of_le hbr hb2.size
        clear hb2 q0 q1 q2
        obtain ⟨q0, q1, q2, _⟩ := HRC2.out
        have HK := hide (fun u u' (h : RegC b (off + k * 3) D T' S' w2 u) (hb : Below u.heap.size u u') => h.keep hb2l hb)
        go_wp2_with fail
        go_region_held3 (fun u => u.cell? ⟨b, off + k * 3, none⟩ = some (.int .i64 D) ∧ u.cell? ⟨b, off + k * 3 + 1, none⟩ = some (.int .u64 T') ∧ u.cell? ⟨b, off + k * 3 + 2, none⟩ = some (.int .u64 S') ∧ Below w2.heap.size w2 u)
          (first | exact ⟨q0, q1, q2, (Below.refl _ _).drew⟩ | exact ⟨q0, q1, q2, Below.refl _ _⟩ | assumption | exact HK.out _ _ (by assumption) (by assumption) | exact HK.out _ _ (by assumption) (Below.refl _ _))
          ((first
            | (go_at_call 21; refine (num_any _ _).mono ?_; rintro e w' ⟨rfl, rfl⟩)
            | (go_at_call 25; refine (HCK.out _).mono ?_; rintro e w' ⟨rfl, hb'⟩)))
        rename_i hh
        have hb4 := hh.2.2.2
        clear hh hb'
        generalize w' = w4 at *
        have HS4 := hide (hS.out.next (below_then HB2.out hb4))
        clear hb4 q0 q1 q2
        go_wp2_with fail
        go_roundw
        case rel => exact ⟨k + 1, m, va, vb, _, _, _, _, _, _, by omega, by omega, rfl, rfl, by simp, HS4⟩
        case measure => simp [intOf]; omega
    · obtain rfl : k = l0 := by omega
      have HB := hide hS.out.below
      by_cases hm0 : m = 0
      · subst hm0
        obtain ⟨aa, ac, rfl⟩ := hS.out.la.none_of (ptrs_length _ _)
        obtain ⟨ba, bc, rfl⟩ := hS.out.lb.none_of (ptrs_length _ _)
        by_cases hl : 0 < l1
        · have hlI : (0 : Int) < l1 := by omega
          go_wp2_with fail
          go_loop [10] (fun i => i = .int .i64 0) (fun _ => 0)
          case atStart => rfl
          case round =>
            subst hrel
            go_wp2_with fail
            go_loop [12] (fun i => i = .int .i64 0) (fun _ => 0)
            case atStart => rfl
            case round =>
              subst hrel
              go_wp2_with fail
              refine (llive_any _ (HT.out _ HB.out)).mono ?_
              rintro e w9 ⟨rfl, hb9⟩
              go_wp2_with fail
              go_ret
              exact ⟨rfl, below_then HB.out hb9⟩
        · have hlI : ¬ (0 : Int) < l1 := by omega
          go_wp2_with fail
          go_loop [10] (fun i => i = .int .i64 0) (fun _ => 0)
          case atStart => rfl
          case round =>
            subst hrel
            go_wp2_with fail
            go_loop [12] (fun i => i = .int .i64 0) (fun _ => 0)
            case atStart => rfl
            case round =>
              subst hrel
              go_wp2_with fail
              refine (llive_any _ (HT.out _ HB.out)).mono ?_
              rintro e w9 ⟨rfl, hb9⟩
              go_wp2_with fail
              go_ret
              exact ⟨rfl, below_then HB.out hb9⟩
      · have hm1 : 0 < m := by omega
        obtain ⟨ga, ca, hva, hcap, _⟩ := hS.out.la.form (by rw [ptrs_length]; exact hm1)
        obtain ⟨gb, cb, hvb, hcbp, _⟩ := hS.out.lb.form (by rw [ptrs_length]; exact hm1)
        rw [ptrs_length] at hva hvb hcap hcbp
        subst hva hvb
        have HCE := hide (fun (u : World) (Sa Sb : Nat → Nat) (i : Nat) (hi : i < m) (h : RunSt w u (.slice (some ⟨ga, 0, none⟩) m ca) (.slice (some ⟨gb, 0, none⟩) m cb) m G F N T Sa Sb lab) => show u.cell? ⟨ga, i, none⟩ = some (.pointer (some ⟨G i, 0, none⟩)) ∧ u.cell? ⟨gb, i, none⟩ = some (.pointer (some ⟨F i, 0, none⟩)) from
          ⟨by obtain ⟨g, c, e, _, hc⟩ := h.la.form (by rw [ptrs_length]; exact hm1)
              simp only [Value.slice.injEq, Option.some.injEq, Addr.mk.injEq, and_true] at e
              obtain ⟨rfl, _⟩ := e
              exact hc i _ (ptrs_at hi),
           by obtain ⟨g, c, e, _, hc⟩ := h.lb.form (by rw [ptrs_length]; exact hm1)
              simp only [Value.slice.injEq, Option.some.injEq, Addr.mk.injEq, and_true] at e
              obtain ⟨rfl, _⟩ := e
              exact hc i _ (ptrs_at hi)⟩)
        have hmI : (0 : Int) < m := by omega
        have hmn : ¬ (m : Int) = 0 := by omega
        have hmb : ((m : Int) == 0) = false := by rw [beq_eq_false_iff_ne]; omega
        have hmm : m ≤ 5864062014805 := by omega
        go_wp2_with fail
        go_loopw [10] (fun i u => ∃ (j : Nat) (S : Nat → Nat), j ≤ l1 ∧ i = .int .i64 j ∧ Hid (RunSt w u (.slice (some ⟨ga, 0, none⟩) m ca) (.slice (some ⟨gb, 0, none⟩) m cb) m G F N T S S lab)) (fun i _ => l1 - (intOf i).toNat)
        case atStart => exact ⟨0, S, by omega, rfl, hS⟩
        case round =>
          rename World => wt
          obtain ⟨j, S, hj, rfl, hS⟩ := hrel
          by_cases hjl : j < l1
          · obtain ⟨b1, off1, had1, hbw1, kk, oo, KK, p0, p1, p2, hKK⟩ := HO.out j hjl
            subst had1
            have q0 := bcell hS.out.below hbw1 p0
            have q1 := bcell hS.out.below hbw1 p1
            have q2 := bcell hS.out.below hbw1 p2
            have HP := hide (And.intro p0 (And.intro p1 p2))
            clear p0 p1 p2
            have hjI : (j : Int) < l1 := by omega
            obtain ⟨e1, ht1, hlo, hhi⟩ : ∃ e1 : Int, oo.tmod m = e1 ∧ -(m : Int) < e1 ∧ e1 < m := ⟨_, rfl, tmod_low oo hmI, Int.tmod_lt_of_pos oo hmI⟩
            obtain ⟨x2, hx2⟩ : ∃ x2 : Int, e1 + m = x2 := ⟨_, rfl⟩
            have hw1 : IntKind.i64.wrap (e1 + m) = x2 := by rw [IntWalk.i64_in _ (by omega)]; exact hx2
            have hlo2 : 0 ≤ x2 := by omega
            clear hx2
            obtain ⟨idx, ht2, hidx⟩ : ∃ idx : Nat, x2.tmod m = idx ∧ idx < m := by
              refine ⟨(x2.tmod m).toNat, ?_, ?_⟩
              · have := Int.tmod_nonneg m hlo2; omega
              · have := Int.tmod_lt_of_pos x2 hmI; omega
            have hi0 : (0 : Int) ≤ idx := by omega
            have him : (idx : Int) < m := by omega
            obtain ⟨ca0, cb0⟩ := HCE.out wt S S idx hidx hS.out
            clear hlo hhi hlo2
            by_cases h1 : kk = 1
            · subst h1
              go_wp2_with fail
              obtain ⟨s', hs'⟩ : ∃ s', s' = Gf2.stp (N idx) (T idx) (S idx) := ⟨_, rfl⟩
              have hgd' : GoodL (N idx) (T idx) s' := by rw [hs']; exact (hS.out.ga idx hidx).stp
              have hD := hS.out.next ((Below.refl _ _).drew)
              have hq1 : S idx % 2 ≤ 1 := by omega
              have HA1 := hide ((lnext_good _ _ _ _ (hD.ga idx hidx) wt.drew (hD.ra idx hidx)).mono (R' := fun e u' => e = .returned (.int .u8 ((S idx % 2 : Nat) : Int)) ∧ RunSt w u' (.slice (some ⟨ga, 0, none⟩) m ca) (.slice (some ⟨gb, 0, none⟩) m cb) m G F N T (updF S idx s') S lab) (fun e u' ⟨he, hr, hg⟩ => ⟨he, hD.stepA hidx (by rw [hs']; exact hr) hg hgd'⟩))
              have HB1 := hide ((rrnext_good _ _ _ _ (hD.gb idx hidx) wt.drew (hD.rb idx hidx)).mono (R' := fun e u' => e = .returned (.int .u8 ((S idx % 2 : Nat) : Int)) ∧ RunSt w u' (.slice (some ⟨ga, 0, none⟩) m ca) (.slice (some ⟨gb, 0, none⟩) m cb) m G F N T S (updF S idx s') lab) (fun e u' ⟨he, hr, hg⟩ => ⟨he, hD.stepB hidx (by rw [hs']; exact hr) hg hgd'⟩))
              have HA2 := hide (fun (u : World) (h : RunSt w u (.slice (some ⟨ga, 0, none⟩) m ca) (.slice (some ⟨gb, 0, none⟩) m cb) m G F N T S (updF S idx s') lab) => (lnext_good _ _ _ _ (h.ga idx hidx) u (h.ra idx hidx)).mono (R' := fun e u' => e = .returned (.int .u8 ((S idx % 2 : Nat) : Int)) ∧ RunSt w u' (.slice (some ⟨ga, 0, none⟩) m ca) (.slice (some ⟨gb, 0, none⟩) m cb) m G F N T (updF S idx s') (updF S idx s') lab) (fun e u' ⟨he, hr, hg⟩ => ⟨he, h.stepA hidx (by rw [hs']; exact hr) hg hgd'⟩))
              have HB2 := hide (fun (u : World) (h : RunSt w u (.slice (some ⟨ga, 0, none⟩) m ca) (.slice (some ⟨gb, 0, none⟩) m cb) m G F N T (updF S idx s') S lab) => (rrnext_good _ _ _ _ (h.gb idx hidx) u (h.rb idx hidx)).mono (R' := fun e u' => e = .returned (.int .u8 ((S idx % 2 : Nat) : Int)) ∧ RunSt w u' (.slice (some ⟨ga, 0, none⟩) m ca) (.slice (some ⟨gb, 0, none⟩) m cb) m G F N T (updF S idx s') (updF S idx s') lab) (fun e u' ⟨he, hr, hg⟩ => ⟨he, h.stepB hidx (by rw [hs']; exact hr) hg hgd'⟩))
              clear hs' hgd' hD
              generalize S idx % 2 = qq at *
              go_region_with (first
                | (go_at_call 32; refine HA1.out.mono ?_; rintro e w6 ⟨rfl, hSA⟩; obtain ⟨ca1, cb1⟩ := HCE.out w6 _ _ idx hidx hSA)
                | (go_at_call 32; refine (HA2.out _ hSB).mono ?_; rintro e w7 ⟨rfl, hSF⟩; obtain ⟨ca1, cb1⟩ := HCE.out w7 _ _ idx hidx hSF)
                | (go_at_call 33; refine HB1.out.mono ?_; rintro e w6 ⟨rfl, hSB⟩; obtain ⟨ca1, cb1⟩ := HCE.out w6 _ _ idx hidx hSB)
                | (go_at_call 33; refine (HB2.out _ hSA).mono ?_; rintro e w7 ⟨rfl, hSF⟩; obtain ⟨ca1, cb1⟩ := HCE.out w7 _ _ idx hidx hSF))
              all_goals (
                go_wp2_with fail
                go_roundw
                case rel => exact ⟨j + 1, _, by omega, by simp, hide hSF⟩
                case measure => simp [intOf]; omega)
            · have hb1 : (kk == 1) = false := by rw [beq_eq_false_iff_ne]; exact h1
              by_cases h2 : kk = 2
              · subst h2
                clear h1 hb1
                obtain ⟨s', hs'⟩ : ∃ s', s' = Gf2.stpN (N idx) (T idx) KK (S idx) := ⟨_, rfl⟩
                have hgd' : GoodL (N idx) (T idx) s' := by rw [hs']; exact (hS.out.ga idx hidx).stpN KK
                have hD := hS.out.next ((Below.refl _ _).drew)
                have HA1 := hide ((lskip_good _ _ _ _ KK (hD.ga idx hidx) hKK wt.drew (hD.ra idx hidx) (HT.out _ hD.below)).mono (R' := fun e u' => e = .returned (.tuple #[]) ∧ RunSt w u' (.slice (some ⟨ga, 0, none⟩) m ca) (.slice (some ⟨gb, 0, none⟩) m cb) m G F N T (updF S idx s') S lab) (fun e u' ⟨he, hr, hg⟩ => ⟨he, hD.stepA hidx (by rw [hs']; exact hr) hg hgd'⟩))
                have HB1 := hide (fun (u : World) (h0 : RunSt w u (.slice (some ⟨ga, 0, none⟩) m ca) (.slice (some ⟨gb, 0, none⟩) m cb) m G F N T (updF S idx s') S lab) => let h := h0.next ((Below.refl _ _).drew); (rrskip_good _ _ _ _ KK (h.gb idx hidx) hKK u.drew (h.rb idx hidx)).mono (R' := fun e u' => e = .returned (.tuple #[]) ∧ RunSt w u' (.slice (some ⟨ga, 0, none⟩) m ca) (.slice (some ⟨gb, 0, none⟩) m cb) m G F N T (updF S idx s') (updF S idx s') lab) (fun e u' ⟨he, hr, hg⟩ => ⟨he, h.stepB hidx (by rw [hs']; exact hr) hg hgd'⟩))
                have HQ2 := hide (fun (u : World) (h : RunSt w u (.slice (some ⟨ga, 0, none⟩) m ca) (.slice (some ⟨gb, 0, none⟩) m cb) m G F N T (updF S idx s') S lab) => bcell h.below hbw1 HP.out.2.2)
                clear hs' hgd' hD
                go_wp2_with fail
                go_region_with (go_at_call 34; refine HA1.out.mono ?_; rintro e w6 ⟨rfl, hSA⟩; obtain ⟨ca1, cb1⟩ := HCE.out w6 _ _ idx hidx hSA; have q20 := HQ2.out w6 hSA)
                all_goals (
                  go_wp2_with fail
                  have HB2 := hide (HB1.out w6 hSA)
                  go_region_with (go_at_call 35; refine HB2.out.mono ?_; rintro e w7 ⟨rfl, hSF⟩))
                all_goals (
                  go_wp2_with fail
                  go_roundw
                  case rel => exact ⟨j + 1, _, by omega, by simp, hide hSF⟩
                  case measure => simp [intOf]; omega)
              · have hb2 : (kk == 2) = false := by rw [beq_eq_false_iff_ne]; exact h2
                by_cases h3 : kk = 3
                · subst h3
                  clear h1 hb1 h2 hb2
                  go_wp2_with fail
                  go_quiet (first
                    | (go_at_call 36; exact quiet_eq (lstate_good _ _ _ _ (hS.out.ga idx hidx) _ ((hS.out.ra idx hidx).drewN _)))
                    | (go_at_call 37; exact quiet_eq (rrstate_good _ _ _ _ _ ((hS.out.rb idx hidx).drewN _))))
                  have HS2 := hide (hS.out.next (below_drewN (Below.refl _ _) nq))
                  go_wp2_with fail
                  go_roundw
                  case rel => exact ⟨j + 1, S, by omega, by simp, HS2⟩
                  case measure => simp [intOf]; omega
                · have hb3 : (kk == 3) = false := by rw [beq_eq_false_iff_ne]; exact h3
                  go_wp2_with fail
                  go_roundw
                  case rel => exact ⟨j + 1, S, by omega, by simp, hS⟩
                  case measure => simp [intOf]; omega
          · obtain rfl : j = l1 := by omega
            go_wp2_with fail
            go_loopw [12] (fun i u => ∃ i' : Nat, i' ≤ m ∧ i = .int .i64 i' ∧ Hid (RunSt w u (.slice (some ⟨ga, 0, none⟩) m ca) (.slice (some ⟨gb, 0, none⟩) m cb) m G F N T S S lab)) (fun i _ => m - (intOf i).toNat)
            case atStart => exact ⟨0, by omega, rfl, hS⟩
            case round =>
              rename World => wv
              obtain ⟨idx, hi, rfl, hV⟩ := hrel
              by_cases hidx : idx < m
              · obtain ⟨ca0, cb0⟩ := HCE.out wv S S idx hidx hV.out
                have hi0 : (0 : Int) ≤ idx := by omega
                have him : (idx : Int) < m := by omega
                go_wp2_with fail
                go_quiet (first
                  | (go_at_call 36; exact quiet_eq (lstate_good _ _ _ _ (hV.out.ga idx hidx) _ ((hV.out.ra idx hidx).drewN _)))
                  | (go_at_call 37; exact quiet_eq (rrstate_good _ _ _ _ _ ((hV.out.rb idx hidx).drewN _))))
                have HS2 := hide (hV.out.next (below_drewN (Below.refl _ _) nq))
                go_wp2_with fail
                go_roundw
                case rel => exact ⟨idx + 1, by omega, by simp, HS2⟩
                case measure => simp [intOf]; omega
              · obtain rfl : idx = m := by omega
                have HBV := hide hV.out.below
                go_wp2_with fail
                refine (llive_any _ (HT.out _ HBV.out)).mono ?_
                rintro e w9 ⟨rfl, hb9⟩
                go_wp2_with fail
                go_ret
                exact ⟨rfl, below_then HBV.out hb9⟩
end Go.Proofs.YtknkkoemghceeaaDoor
