/- The law EncoderPlays, walked: it returns true. -/
import Derived.Test.YtmmngcjnofcmmaaRows
import Derived.Test.YtmmngcjnofcmmaaPlayMk
import Derived.Test.YtmmngcjnofcmmaaPlayOp
import Derived.Test.YtmmngcjnofcmmaaPlayEnd
import Derived.Test.YtmmngcjnofcmmaaLtPlaysB
import Derived.Test.YtmmngcjnofcmmaaLive
import Derived.Test.YtmmngcjnofcmmaaRCheck
import Derived.Test.YtmmngcjnofcmmaaApartWe
import Derived.IntWalk
import Derived.BigQuiet
import Derived.Deep.QuietTactic
import Derived.Deep.RegionWith
import Derived.Deep.RegionHeld3
namespace Go.Proofs.Ytmmngcjnofcmmaa
open Go.RowKit

/-- a list of calls of encoders -/
def EOpA (w : World) (ad : Option Addr) (len : Nat) : Prop := ∀ i, i < len → ∃ b off, ad = some ⟨b, off, none⟩ ∧ b < w.heap.size ∧ ∃ (k o : Int) (x : Nat), w.cell? ⟨b, off + i * 3, none⟩ = some (.int .i64 k) ∧ w.cell? ⟨b, off + i * 3 + 1, none⟩ = some (.int .i64 o) ∧ w.cell? ⟨b, off + i * 3 + 2, none⟩ = some (.int .u8 x) ∧ x ≤ 255
/-- what holds at the head of a round -/
structure PlayInv (n j : Nat) (d : Gh) : Prop where
  mb : d.mb = d.m
  q : d.q = d.p
  m1 : 1 ≤ d.m
  mj : d.m ≤ j + 1
  pj : d.p ≤ j
  st : ∀ i, i < d.m → d.S i = stAt n 0 (d.X i) (d.X i).length ∧ (d.X i).length ≤ j
theorem PlayInv.start (n g H : Nat) : PlayInv n 0 (gh0 g H) := ⟨rfl, rfl, Nat.le_refl _, Nat.le_refl _, Nat.le_refl _, fun _ _ => ⟨rfl, Nat.le_refl _⟩⟩
theorem PlayInv.wait {n j : Nat} {d : Gh} (h : PlayInv n j d) : PlayInv n (j + 1) d := ⟨h.mb, h.q, h.m1, by have := h.mj; omega, by have := h.pj; omega, fun i hi => ⟨(h.st i hi).1, by have := (h.st i hi).2; omega⟩⟩
theorem tmod_low6 (a : Int) {m : Int} (hm : 0 < m) : -m < a.tmod m := by
  rcases Int.le_total 0 a with h | h
  · have := Int.tmod_nonneg m h; omega
  · have e : a.tmod m = -((-a).tmod m) := by rw [Int.neg_tmod, Int.neg_neg]
    have := Int.tmod_lt_of_pos (-a) hm
    omega
section
variable {n r a b c : Nat} {w u : World} {va vb vl : Value} {d : Gh}
theorem PlaySt.formA (h : PlaySt n r a b c w u va vb vl d) (h1 : 1 ≤ d.m) : ∃ ga ca, va = .slice (some ⟨ga, 0, none⟩) d.m ca ∧ ga < u.heap.size ∧ ∀ i, i < d.m → u.cell? ⟨ga, i, none⟩ = some (d.ptr i) := by
  have hla := h.la
  rcases hla.form with ⟨_, e⟩ | ⟨g, cap, rfl, _, hg, _⟩
  · have := congrArg List.length e
    rw [lst_length] at this
    simp at this; omega
  · rw [lst_length] at hla ⊢
    exact ⟨g, cap, rfl, hg, fun i hi => by rw [hla.cell (lst_length _ _).symm hi]; exact lst_at hi⟩
theorem PlaySt.formB (h : PlaySt n r a b c w u va vb vl d) (h1 : 1 ≤ d.mb) : ∃ gb cb, vb = .slice (some ⟨gb, 0, none⟩) d.mb cb ∧ gb < u.heap.size ∧ w.heap.size ≤ gb := by
  rcases h.lb.2 with ⟨_, e⟩ | ⟨g, cap, cur, h1, h2, h3, _⟩
  · rw [lst_length] at e; omega
  · rw [lst_length] at h1
    exact ⟨g, cap, h1, (Array.getElem?_eq_some_iff.1 h3).1, h2⟩
end
theorem stAt_snoc6 (n : Nat) (xs : List Nat) (x : Nat) : stAt n 0 (xs ++ [x]) (xs ++ [x]).length = (2 * stAt n 0 xs xs.length + x) % 2 ^ n := by
  rw [List.length_append, List.length_singleton]
  show (2 * stAt n 0 (xs ++ [x]) xs.length + (xs ++ [x]).getD xs.length 0) % 2 ^ n = _
  have h2 : stAt n 0 (xs ++ [x]) xs.length = stAt n 0 xs xs.length := stAt_congr _ fun i hi => by rw [List.getD_eq_getElem?_getD, List.getElem?_append_left hi, ← List.getD_eq_getElem?_getD]
  have h3 : (xs ++ [x]).getD xs.length 0 = x := by rw [List.getD_eq_getElem?_getD, List.getElem?_append_right (Nat.le_refl _), Nat.sub_self]; rfl
  rw [h2, h3]
theorem PlayInv.put {n j : Nat} {d : Gh} (h : PlayInv n j d) {k x : Nat} (hk : k < d.m) (y v2 : Value) (ys : List Nat) (H : Nat) : PlayInv n (j + 1) (((d.putA k ((2 * d.S k + x) % 2 ^ n) y ys).putB k (d.X k ++ [x]) v2).push H) := by
  refine ⟨h.mb, by show d.q + 1 = d.p + 1; rw [h.q], h.m1, by have := h.mj; show d.m ≤ _; omega, by have := h.pj; show d.p + 1 ≤ _; omega, fun i hi => ?_⟩
  show updV d.S k _ i = stAt n 0 (updV d.X k _ i) (updV d.X k _ i).length ∧ (updV d.X k _ i).length ≤ j + 1
  by_cases e : i = k
  · subst e
    obtain ⟨h1, h2⟩ := h.st i hk
    rw [updV_same, updV_same, stAt_snoc6, ← h1]
    exact ⟨rfl, by rw [List.length_append, List.length_singleton]; omega⟩
  · rw [updV_ne e, updV_ne e]
    exact ⟨(h.st i hi).1, by have := (h.st i hi).2; omega⟩
theorem PlayInv.bad {n j : Nat} {d : Gh} (h : PlayInv n j d) (k : Nat) (y : Value) (ys : List Nat) (H : Nat) : PlayInv n (j + 1) ((d.putA k (d.S k) y ys).push H) := by
  refine ⟨h.mb, by show d.q + 1 = d.p + 1; rw [h.q], h.m1, by have := h.mj; show d.m ≤ _; omega, by have := h.pj; show d.p + 1 ≤ _; omega, fun i hi => ?_⟩
  show updV d.S k (d.S k) i = _ ∧ _
  have e : updV d.S k (d.S k) i = d.S i := by
    by_cases e : i = k
    · subst e; exact updV_same _ _ _
    · exact updV_ne e
  rw [e]
  exact ⟨(h.st i hi).1, by have := (h.st i hi).2; show (d.X i).length ≤ _; omega⟩
theorem PlayInv.reset {n j : Nat} {d : Gh} (h : PlayInv n j d) (k : Nat) (y v2 : Value) (ys : List Nat) : PlayInv n (j + 1) ({ d.putA k 0 y ys with q := d.q }.putB k [] v2) := by
  refine ⟨h.mb, h.q, h.m1, by have := h.mj; show d.m ≤ _; omega, by have := h.pj; show d.p ≤ _; omega, fun i hi => ?_⟩
  show updV d.S k 0 i = stAt n 0 (updV d.X k [] i) (updV d.X k [] i).length ∧ (updV d.X k [] i).length ≤ j + 1
  by_cases e : i = k
  · subst e
    rw [updV_same, updV_same]
    exact ⟨rfl, Nat.zero_le _⟩
  · rw [updV_ne e, updV_ne e]
    exact ⟨(h.st i hi).1, by have := (h.st i hi).2; omega⟩
theorem PlayInv.fork {n j : Nat} {d : Gh} (h : PlayInv n j d) {k : Nat} (hk : k < d.m) (g H H2 : Nat) : PlayInv n (j + 1) ((d.forkA g (d.S k) H).forkB k H2) := by
  refine ⟨by show d.mb + 1 = d.m + 1; rw [h.mb], h.q, by show 1 ≤ d.m + 1; omega, by have := h.mj; show d.m + 1 ≤ _; omega, by have := h.pj; show d.p ≤ _; omega, fun i hi => ?_⟩
  have hi : i < d.m + 1 := hi
  show updV d.S d.m (d.S k) i = stAt n 0 (updV d.X d.mb (d.X k) i) (updV d.X d.mb (d.X k) i).length ∧ (updV d.X d.mb (d.X k) i).length ≤ j + 1
  rw [h.mb]
  by_cases e : i = d.m
  · subst e
    rw [updV_same, updV_same]
    exact ⟨(h.st k hk).1, by have := (h.st k hk).2; omega⟩
  · rw [updV_ne e, updV_ne e]
    exact ⟨(h.st i (by omega)).1, by have := (h.st i (by omega)).2; omega⟩
set_option maxRecDepth 100000 in
set_option maxHeartbeats 2000000 in
theorem plays_good (n r a b c : Nat) (hr : r = 2 ∨ r = 3) (hn : 2 ≤ n ∧ n ≤ 31) (hA : a ≤ 4294967295) (hB : b ≤ 4294967295) (hC : c ≤ 4294967295) (hck : checkF (n + 1) r a b c = 0) (A1 : Option Addr) (l1 c1 : Nat) (hl1 : l1 ≤ 1048576) (w : World) (hO : EOpA w A1 l1) :
    Calls Try.prog 7 #[.agg #[.int .i64 (n + 1), .int .i64 r, .int .u32 a, .int .u32 b, .int .u32 c], .slice A1 l1 c1] w fun e w' => e = .returned (.bool true) ∧ Below w.heap.size w w' := by
  have HNW := hide (new_good (n + 1) r a b c hA hB hC hck)
  have HCK := hide (rcheck_any (n + 1) r a b c hA hB hC)
  rw [hck] at HCK
  have HO := hide hO
  have HCC := hide hck
  clear hO hck
  go_enter Try.func7, Try.ntmps7
  go_wp2_with fail
  refine (HNW.out _).mono ?_
  rintro e w1 ⟨g, rfl, hrg, hgz, hb1⟩
  have hl1w : w.heap.size < w1.heap.size := by have := hb1.size; simp at this; omega
  have q0 := bcell hb1 (b := w.heap.size) (o := 0) (v := .int .i64 (n + 1)) (by simp) (by simp [go_sem])
  have q1 := bcell hb1 (b := w.heap.size) (o := 1) (v := .int .i64 r) (by simp) (by simp [go_sem])
  have q2 := bcell hb1 (b := w.heap.size) (o := 2) (v := .int .u32 a) (by simp) (by simp [go_sem])
  have q3 := bcell hb1 (b := w.heap.size) (o := 3) (v := .int .u32 b) (by simp) (by simp [go_sem])
  have q4 := bcell hb1 (b := w.heap.size) (o := 4) (v := .int .u32 c) (by simp) (by simp [go_sem])
  have HB1 := hide (below_one hb1)
  have HRG := hide hrg
  have hgz2 : w.heap.size ≤ g := by simp at hgz; omega
  have HK := hide (fun u u' (h : BoxC w.heap.size (n + 1) r a b c w1 u) (hb : Below u.heap.size u u') => h.keep hl1w hb)
  clear hb1 hrg hgz
  go_wp2_with fail
  go_region_held3 (fun u => u.cell? ⟨w.heap.size, 0, none⟩ = some (.int .i64 (n + 1)) ∧ u.cell? ⟨w.heap.size, 1, none⟩ = some (.int .i64 r) ∧ u.cell? ⟨w.heap.size, 2, none⟩ = some (.int .u32 a) ∧ u.cell? ⟨w.heap.size, 3, none⟩ = some (.int .u32 b) ∧ u.cell? ⟨w.heap.size, 4, none⟩ = some (.int .u32 c) ∧ Below w1.heap.size w1 u)
    (first | exact ⟨q0, q1, q2, q3, q4, (Below.refl _ _).drew⟩ | exact ⟨q0, q1, q2, q3, q4, Below.refl _ _⟩ | assumption | exact HK.out _ _ (by assumption) (by assumption) | exact HK.out _ _ (by assumption) (Below.refl _ _))
    ((first
      | (go_at_call 17; refine (num_any _ _).mono ?_; rintro e w' ⟨rfl, rfl⟩)
      | (go_at_call 29; refine (HCK.out _).mono ?_; rintro e w' ⟨rfl, hb'⟩)
      | (go_at_call 13; refine (live_any _).mono ?_; rintro e w' ⟨rfl, hb''⟩)))
  rename_i hh
  obtain ⟨q0, q1, q2, q3, q4, hb4⟩ := hh
  rename World => w4
  have hl4 : w.heap.size < w4.heap.size := Nat.lt_of_lt_of_le hl1w hb4.size
  have HS0 := hide (PlaySt.start (HRG.out.below hb4 HRG.out.lt) hgz2 (below_then HB1.out hb4))
  have HI0 := hide (PlayInv.start n g w4.heap.size)
  clear hb4 hb' hb''
  go_wp2_with fail
  go_loopw [7, 8, 9, 10] (fun x7 x8 x9 x10 u => ∃ (j : Nat) (va vb vl : Value) (d : Gh), j ≤ l1 ∧ va = x7 ∧ vb = x8 ∧ vl = x9 ∧ x10 = .int .i64 j ∧ Hid (PlaySt n r a b c w u va vb vl d) ∧ Hid (PlayInv n j d)) (fun _ _ _ x10 _ => l1 - (intOf x10).toNat)
  case atStart => exact ⟨0, _, _, _, _, by omega, rfl, rfl, rfl, rfl, HS0, HI0⟩
  case round =>
    rename World => u
    obtain ⟨j, va, vb, vl, d, hj, rfl, rfl, rfl, rfl, hS, hI⟩ := hrel
    clear HS0 HI0 q0 q1 q2 q3 q4
    obtain ⟨ga, ca, rfl, hgau, hcell⟩ := hS.out.formA hI.out.m1
    obtain ⟨gb, cb, rfl, hgbu, hgbw⟩ := hS.out.formB (by rw [hI.out.mb]; exact hI.out.m1)
    rw [hI.out.mb] at hS ⊢
    have hm1 := hI.out.m1
    have hmj := hI.out.mj
    have hpj := hI.out.pj
    have HCE := hide hcell
    have HI := hI
    obtain ⟨m, hm⟩ : ∃ m, d.m = m := ⟨_, rfl⟩
    rw [hm] at hS hm1 hmj ⊢
    have HM := hide hm
    clear hm hcell
    have hmI : (0 : Int) < m := by omega
    have hmn : ¬ (m : Int) = 0 := by omega
    by_cases hjl : j < l1
    · obtain ⟨b1, off1, had1, hbw1, kk, oo, x, p0, p1, p2, hx255⟩ := HO.out j hjl
      subst had1
      have q0 := bcell hS.out.below hbw1 p0
      have q1 := bcell hS.out.below hbw1 p1
      have q2 := bcell hS.out.below hbw1 p2
      have HP := hide (And.intro p0 (And.intro p1 p2))
      clear p0 p1 p2
      have hjI : (j : Int) < l1 := by omega
      obtain ⟨e1, ht1, hlo, hhi⟩ : ∃ e1 : Int, oo.tmod m = e1 ∧ -(m : Int) < e1 ∧ e1 < m := ⟨_, rfl, tmod_low6 oo hmI, Int.tmod_lt_of_pos oo hmI⟩
      obtain ⟨x2, hx2⟩ : ∃ x2 : Int, e1 + m = x2 := ⟨_, rfl⟩
      have hw1 : IntKind.i64.wrap (e1 + m) = x2 := by rw [IntWalk.i64_in _ (by omega)]; exact hx2
      have hlo2 : 0 ≤ x2 := by omega
      clear hx2
      obtain ⟨idx, ht2, hidx⟩ : ∃ idx : Nat, x2.tmod m = idx ∧ idx < m := by
        refine ⟨(x2.tmod m).toNat, ?_, ?_⟩
        · have := Int.tmod_nonneg m hlo2; omega
        · have := Int.tmod_lt_of_pos x2 hmI; omega
      have hi0 : (0 : Int) ≤ idx := by omega
      have him : (idx : Int) < m := by omega
      have ca0 : u.cell? ⟨ga, idx, none⟩ = some (.pointer (some ⟨d.G idx, 0, none⟩)) := HCE.out idx (by rw [HM.out]; exact hidx)
      have hidm : idx < d.m := by rw [HM.out]; exact hidx
      have HIDX := hide hidm
      have hsl := hS.out.sl idx hidm
      have hp31 : 2 ^ n ≤ 2 ^ 31 := Nat.pow_le_pow_right (by omega) hn.2
      have hS31 : d.S idx ≤ 2147483647 := by omega
      clear hlo hhi hlo2 hidm hsl hp31
      by_cases h1 : kk = 1
      · subst h1
        by_cases hx1 : x ≤ 1
        · have hmb := hI.out.mb
          have HA1 := hide (hS.out.eput hr hn hA hB hC HIDX.out hx1)
          have HQ2 := hide (fun (u' : World) (y : Value) (h : PlaySt n r a b c w u' (.slice (some ⟨ga, 0, none⟩) m ca) (.slice (some ⟨gb, 0, none⟩) m cb) vl (d.putA idx ((2 * d.S idx + x) % 2 ^ n) y (symK r a b c (2 * d.S idx + x)))) => bcell h.below hbw1 HP.out.2.2)
          have HA2 := hide (fun (u' : World) (y : Value) (h : PlaySt n r a b c w u' (.slice (some ⟨ga, 0, none⟩) m ca) (.slice (some ⟨gb, 0, none⟩) m cb) vl (d.putA idx ((2 * d.S idx + x) % 2 ^ n) y (symK r a b c (2 * d.S idx + x)))) => h.rput (k := idx) (x := x) (o := idx * 6) hr hn hA hB hC HCC.out hidx (by show d.mb = m; rw [hmb]; exact HM.out) (by have := (HI.out.st idx HIDX.out).2; show (d.X idx).length + 1 ≤ _; omega) hx1 (Nat.mul_comm _ _))
          have hst := hide ((HI.out.st idx HIDX.out).1)
          clear hmb
          go_wp2_with fail
          go_region_with (go_at_call 22; refine HA1.out.mono ?_; rintro e w6 ⟨y, rfl, hSA⟩; have q20 := HQ2.out w6 y hSA; have hSA := hide hSA)
          all_goals (
            go_wp2_with fail
            go_region_with (go_at_call 30; refine (HA2.out _ _ hSA.out).mono ?_; rintro e w7 ⟨v, v2, rfl, hSB, hov⟩
                            obtain ⟨ad1, cp1, rfl, hR1⟩ := hSB.told
                            have hov : OwnB w7 w.heap.size v (symK r a b c (2 * d.S idx + x)) := by rw [hst.out]; exact hov
                            obtain ⟨ad2, cp2, rfl, hR2⟩ := hov.row
                            have hSB := hide hSB
                            have hR1 := hide hR1
                            have hR2 := hide hR2
                            clear hov)
            all_goals (
              go_wp2_with fail
              refine (same_yes _ _ _ _ _ _ _ rfl rfl _ hR1.out hR2.out).mono ?_
              rintro e w8 ⟨rfl, rfl⟩
              go_wp2_with fail
              refine (num_any _ _).mono ?_
              rintro e w9 ⟨rfl, rfl⟩
              clear hR1 hR2 hSA q20
              have hl7 := hSB.out.below.size
              have HOW := hide (hSB.out.ll.alloc (.cells #[.slice ad1 (symK r a b c (2 * d.S idx + x)).length cp1] 26))
              have hj2 : j ≤ 1048576 := by omega
              have HLN := hide (lst_length ((d.putA idx ((2 * d.S idx + x) % 2 ^ n) (.slice ad1 (symK r a b c (2 * d.S idx + x)).length cp1) (symK r a b c (2 * d.S idx + x))).putB idx (d.X idx ++ [x]) v2).vs d.p)
              go_wp2_with (first
                | (at_builtin; refine wpList_appV elem_row rfl (.tmp 109) (.tmp 111) rfl w.heap.size _ _ rfl HOW.out (some ⟨w7.heap.size, 0, none⟩) 1 1 [.slice ad1 (symK r a b c (2 * d.S idx + x)).length cp1] rfl (RowV.one (by simp [go_sem]) (by simp)) (by simp [Value.oneCell']) rfl (by rw [lst_length]; show (d.p + 1) * 24 ≤ _; omega) (by rw [lst_length]; show d.p + 1 ≤ _; omega) (by simp; omega) ?_)
                | go_in)
              rintro v9 w9 ho9 hg9 hd9
              have HS9 := hide (hSB.out.keepRow (by show d.q + 1 = d.p + 1; rw [HI.out.q]) (by show updV d.vs d.q _ d.p = _; rw [HI.out.q]; exact updV_same _ _ _) _ ho9 hg9 (by simpa using hd9))
              clear ho9 hg9 hd9
              go_wp2_with fail
              go_roundw
              case rel => exact ⟨j + 1, _, _, _, _, by omega, rfl, rfl, rfl, by simp, HS9, hide (HI.out.put HIDX.out _ _ _ _)⟩
              case measure => simp [intOf]; omega))
        · have hx1' : 1 < x := by omega
          have HA1 := hide (hS.out.ebad HIDX.out hx1')
          have HQ2 := hide (fun (u' : World) (y : Value) (h : PlaySt n r a b c w u' (.slice (some ⟨ga, 0, none⟩) m ca) (.slice (some ⟨gb, 0, none⟩) m cb) vl (d.putA idx (d.S idx) y [])) => bcell h.below hbw1 HP.out.2.2)
          have HA2 := hide (fun (u' : World) (y : Value) (h : PlaySt n r a b c w u' (.slice (some ⟨ga, 0, none⟩) m ca) (.slice (some ⟨gb, 0, none⟩) m cb) vl (d.putA idx (d.S idx) y [])) => h.rbad gb (idx * 6) x hx1' hx255)
          go_wp2_with fail
          go_region_with (go_at_call 22; refine HA1.out.mono ?_; rintro e w6 ⟨y, rfl, rfl, hSA⟩; have q20 := HQ2.out w6 _ hSA; have hSA := hide hSA)
          all_goals (
            go_wp2_with fail
            go_region_with (go_at_call 30; refine (HA2.out _ _ hSA.out).mono ?_; rintro e w7 ⟨rfl, hSB⟩; have hSB := hide hSB)
            all_goals (
              go_wp2_with fail
              refine (same_yes none none 0 0 0 0 [] rfl rfl _ (RowA.nil _ _) (RowA.nil _ _)).mono ?_
              rintro e w8 ⟨rfl, rfl⟩
              go_wp2_with fail
              refine (num_any _ _).mono ?_
              rintro e w9 ⟨rfl, rfl⟩
              clear hSA q20
              have hl7 := hSB.out.below.size
              have HOW := hide (hSB.out.ll.alloc (.cells #[.slice none 0 0] 26))
              have hj2 : j ≤ 1048576 := by omega
              go_wp2_with (first
                | (at_builtin; refine wpList_appV elem_row rfl (.tmp 109) (.tmp 111) rfl w.heap.size _ _ rfl HOW.out (some ⟨w7.heap.size, 0, none⟩) 1 1 [.slice none 0 0] rfl (RowV.one (by simp [go_sem]) (by simp)) (by simp [Value.oneCell']) rfl (by rw [lst_length]; show (d.p + 1) * 24 ≤ _; omega) (by rw [lst_length]; show d.p + 1 ≤ _; omega) (by simp; omega) ?_)
                | go_in)
              rintro v9 w9 ho9 hg9 hd9
              have HS9 := hide (hSB.out.keepRow (by show d.q + 1 = d.p + 1; rw [HI.out.q]) (by show updV d.vs d.q _ d.p = _; rw [HI.out.q]; exact updV_same _ _ _) _ ho9 hg9 (by simpa using hd9))
              clear ho9 hg9 hd9
              go_wp2_with fail
              go_roundw
              case rel => exact ⟨j + 1, _, _, _, _, by omega, rfl, rfl, rfl, by simp, HS9, hide (HI.out.bad _ _ _ _)⟩
              case measure => simp [intOf]; omega))
      · by_cases h2 : kk = 2
        · subst h2
          have HMB := hide (show d.mb = m by rw [HI.out.mb]; exact HM.out)
          have HA1 := hide (fun k => hS.out.stA HIDX.out (u.drewN k) (below_drewN (Below.refl _ _) k))
          have HA2 := hide (fun k => hS.out.stB (o := idx * 6) hn.2 HMB.out hidx (by have := (HI.out.st idx HIDX.out).2; omega) (Nat.mul_comm _ _) (HI.out.st idx HIDX.out).1 (u.drewN k) (below_drewN (Below.refl _ _) k))
          go_wp2_with fail
          go_quiet (first
            | (go_at_call 23; exact quiet_eq (HA1.out _))
            | (go_at_call 31; exact quiet_eq (HA2.out _)))
          all_goals (
            rename Nat => nq
            have HS9 := hide (hS.out.next (below_drewN (Below.refl _ _) nq))
            go_wp2_with fail
            go_roundw
            case rel => exact ⟨j + 1, _, _, _, _, by omega, rfl, rfl, rfl, by simp, HS9, hide HI.out.wait⟩
            case measure => simp [intOf]; omega)
        · by_cases h3 : kk = 3
          · subst h3
            have HMB := hide (show d.mb = m by rw [HI.out.mb]; exact HM.out)
            have HA1 := hide (hS.out.reset HIDX.out)
            go_wp2_with fail
            refine HA1.out.mono ?_
            rintro e w6 ⟨rfl, hSA⟩
            have hSA := hide (hSA.less (q := d.q) (by show d.p ≤ d.q; rw [HI.out.q]; exact Nat.le_refl _) (by show d.q ≤ d.q + 1; omega))
            obtain ⟨cv0, cf0⟩ := hSA.out.cellB (o := idx * 6 + 5) HMB.out hidx (by omega)
            have HS9 := hide (hSA.out.nilB (k := idx) (o := idx * 6 + 5) HMB.out (by omega))
            go_wp2_with fail
            go_roundw
            case rel => exact ⟨j + 1, _, _, _, _, by omega, rfl, rfl, rfl, by simp, HS9, hide (HI.out.reset _ _ _ _)⟩
            case measure => simp [intOf]; omega
          · by_cases h4 : kk = 4
            · subst h4
              have HMB := hide (show d.mb = m by rw [HI.out.mb]; exact HM.out)
              have HA1 := hide (hS.out.efork HIDX.out)
              go_wp2_with fail
              refine HA1.out.mono ?_
              rintro e w6 ⟨gf, rfl, hgf, hSA, hFK⟩
              have hSA := hide hSA
              have hFK := hide hFK
              have hl7 := hSA.out.below.size
              have HOW := hide (hSA.out.la.alloc (.cells #[.pointer (some ⟨gf, 0, none⟩)] 40))
              have hj2 : j ≤ 1048576 := by omega
              go_wp2_with (first
                | (at_builtin; refine wpList_appV elem_enc rfl (.tmp 145) (.tmp 147) rfl w.heap.size _ _ rfl HOW.out (some ⟨w6.heap.size, 0, none⟩) 1 1 [.pointer (some ⟨gf, 0, none⟩)] rfl (RowV.one (by simp [go_sem]) (by simp)) (by simp [Value.oneCell']) rfl (by rw [lst_length, HM.out]; show (m + 1) * 8 ≤ _; omega) (by rw [lst_length, HM.out]; show m + 1 ≤ _; omega) (by simp; omega) ?_)
                | go_in)
              rintro v7 w7 ho7 hg7 hd7
              have HS7 := hide (hFK.out _ _ _ ho7 hg7 (by simpa using hd7))
              clear ho7 hg7 hd7
              obtain ⟨adv, cpv, hV, _⟩ := (HS7.out.rx idx (by show idx < d.mb; rw [HMB.out]; exact hidx)).row
              have hV : d.V idx = .slice adv (d.X idx).length cpv := hV
              obtain ⟨c0, c1, c2, c3, c4, c5⟩ := HS7.out.lb.at_ (k := idx) (lst_at (by show idx < d.mb; rw [HMB.out]; exact hidx))
              have c5 : w7.cell? ⟨gb, 6 * idx + 5, none⟩ = some (.slice adv (d.X idx).length cpv) := c5.trans (congrArg some hV)
              rw [Nat.mul_comm 6 idx] at c0 c1 c2 c3 c4 c5
              have hl8 := HS7.out.below.size
              have HOB := hide (HS7.out.lb.below ((Below.refl _ _).alloc (Nat.le_refl _) (.cells #[.int .i64 (n + 1), .int .i64 r, .int .u32 a, .int .u32 b, .int .u32 c, .slice adv (d.X idx).length cpv] 58)))
              go_wp2_with (first
                | (at_builtin; refine wpList_appE rfl (.tmp 149) (.tmp 154) rfl w.heap.size _ (.slice adv (d.X idx).length cpv) (n + 1) r a b c _ rfl HOB.out w7.heap.size 1 rfl ⟨by simp [go_sem], by simp [go_sem], by simp [go_sem], by simp [go_sem], by simp [go_sem], by simp [go_sem]⟩ (by simp [Value.oneCell']) (by rw [lst_length]; show d.mb ≤ _; rw [HMB.out]; omega) (by simp; omega) ?_)
                | go_in)
              rintro v8 w8 ho8 hg8 hd8
              have HS8 := hide (HS7.out.forkB (k := idx) (by show idx < d.mb; rw [HMB.out]; exact hidx) _ (by rw [← hV] at ho8; exact ho8) hg8 (by simpa using hd8))
              clear ho8 hg8 hd8
              go_wp2_with fail
              go_roundw
              case rel => exact ⟨j + 1, _, _, _, _, by omega, rfl, rfl, rfl, by simp, HS8, hide (HI.out.fork HIDX.out _ _ _)⟩
              case measure => simp [intOf]; omega
            · go_wp2_with fail
              go_roundw
              case rel => exact ⟨j + 1, _, _, _, _, by omega, rfl, rfl, rfl, by simp, hS, hide HI.out.wait⟩
              case measure => simp [intOf]; omega
    · have hjn : ¬ (j : Int) < l1 := by omega
      have HMB := hide (show d.mb = m by rw [HI.out.mb]; exact HM.out)
      have hmj2 : m ≤ 1048577 := by omega
      go_wp2_with fail
      go_loopw [17] (fun x17 u' => ∃ (i nq : Nat), i ≤ m ∧ x17 = .int .i64 i ∧ u' = u.drewN nq) (fun x17 _ => m - (intOf x17).toNat)
      case atStart => exact ⟨0, 0, by omega, rfl, rfl⟩
      case round =>
        obtain ⟨i, nq, hi, rfl, hu5⟩ := hrel
        subst hu5
        by_cases hil : i < m
        · have hilI : (i : Int) < m := by omega
          have hi0 : (0 : Int) ≤ i := by omega
          have hidm : i < d.m := by rw [HM.out]; exact hil
          have ca1 : u.cell? ⟨ga, i, none⟩ = some (.pointer (some ⟨d.G i, 0, none⟩)) := HCE.out i hidm
          have HA1 := hide (fun k => hS.out.stA hidm ((u.drewN nq).drewN k) (below_drewN (below_drewN (Below.refl _ _) _) k))
          have HA2 := hide (fun k => hS.out.stB (o := i * 6) hn.2 HMB.out hil (by have := (HI.out.st i hidm).2; omega) (Nat.mul_comm _ _) (HI.out.st i hidm).1 ((u.drewN nq).drewN k) (below_drewN (below_drewN (Below.refl _ _) _) k))
          generalize hW : u.drewN nq = W at *
          have HWW := hide hW
          have ca2 : W.cell? ⟨ga, i, none⟩ = some (.pointer (some ⟨d.G i, 0, none⟩)) := by rw [← hW]; exact ca1
          clear hW ca1
          go_wp2_with fail
          go_quiet (first
            | (go_at_call 23; exact quiet_eq (HA1.out _))
            | (go_at_call 31; exact quiet_eq (HA2.out _)))
          all_goals (
            rename Nat => n2
            go_wp2_with fail
            go_roundw
            case rel => exact ⟨i + 1, nq + n2, by omega, by simp, by rw [← HWW.out, World.drewN_drewN]⟩
            case measure => simp [intOf]; omega)
        · have hilI : ¬ (i : Int) < m := by omega
          have HLA := hide ((hS.out.next (below_drewN (Below.refl _ _) nq)).last (by omega))
          go_wp2_with fail
          refine HLA.out.mono ?_
          rintro e w9 ⟨rfl, hb9⟩
          go_wp2_with fail
          go_ret
          exact ⟨rfl, hb9⟩
end Go.Proofs.Ytmmngcjnofcmmaa
