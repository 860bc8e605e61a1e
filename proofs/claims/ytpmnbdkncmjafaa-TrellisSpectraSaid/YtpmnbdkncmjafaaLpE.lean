/- The reference's counting: from round to round, and what comes out. Of numbers alone. -/
import Derived.Test.YtpmnbdkncmjafaaRows
import Derived.Test.YtpmnbdkncmjafaaLpD
namespace Go.Proofs.Ytpmnbdkncmjafaa
open Gf2 Rev

theorem popN_le {k : Nat} : ∀ {x : Nat}, x < 2 ^ k → popN x ≤ k := by
  induction k with
  | zero => intro x hx; have : x = 0 := by simpa using hx
            rw [this, popN_zero]; omega
  | succ k ih =>
    intro x hx
    have e := popN_two (x / 2) (x % 2) (by omega)
    rw [show 2 * (x / 2) + x % 2 = x by omega] at e
    rw [Nat.pow_succ] at hx
    have := ih (x := x / 2) (by omega)
    omega
section
variable {n : Nat} {R : Int} {a b c W L : Nat} {num few num2 few2 : Nat → Nat → Int} {all least all0 least0 : Nat → Int} {sm : Bool}
theorem cand_ok (h : GoodN n R a b c) {m : Nat} (hm : m ∈ candL n a b c W L) : (m / 2) % 2 ^ n ≠ 0 ∧ (m / 2) % 2 ^ n < 2 ^ n ∧ wtM n a b c (m / 2) ≤ W := by
  obtain ⟨_, _, h3, h4, _⟩ := aL_mem h W L _ (cand_mem.1 hm)
  exact ⟨h3, Nat.mod_lt _ (Nat.two_pow_pos _), h4⟩
theorem eN_none (p : Nat → Prop) [DecidablePred p] (hp : ∀ m, m ∈ candL n a b c W L → ¬ p m) (t v : Nat) : eN n a b c W L p t v = 0 := by
  unfold eN
  rw [List.countP_eq_zero]
  intro m hm e
  exact hp m hm (of_decide_eq_true e).1
theorem LvInv.start (h : GoodN n R a b c) (hl : LvInv n a b c W L num few all least) : StInv n a b c W L (befT n a b c 1 0 0) (fun _ _ => 0) (fun _ _ => 0) all least false := by
  have hz : ∀ m, m ∈ candL n a b c W L → ¬ befT n a b c 1 0 0 m := fun m hm hb => by
    have := (cand_ok h hm).1
    unfold befT at hb
    omega
  refine ⟨fun t v _ _ _ => by rw [eN_none _ hz]; rfl, fun t v _ _ _ h0 => absurd rfl h0, fun v hv => by rw [eN_none _ hz, Nat.add_zero]; exact hl.hall v hv, fun v hv => ⟨(hl.hleast v hv).1, fun h0 => ((hl.hleast v hv).2 h0).congr fun m => ?_⟩, ?_⟩
  · constructor
    · exact .inl
    · rintro (q | ⟨q1, q2, _⟩)
      · exact q
      · exact absurd q2 (hz m q1)
  · simp
/-- one bit further -/
theorem bef_bit (s w x m : Nat) : (befT n a b c s w x m ∨ isT n a b c s w x m) ↔ befT n a b c s w (x + 1) m := by
  unfold befT isT; omega
theorem bef_not (s w x m : Nat) (hi : isT n a b c s w x m) : ¬ befT n a b c s w x m := by
  unfold isT at hi; unfold befT; omega
theorem StInv.bit {s w x : Nat} (hi : StInv n a b c W L (fun m => befT n a b c s w x m ∨ isT n a b c s w x m) num2 few2 all least sm) : StInv n a b c W L (befT n a b c s w (x + 1)) num2 few2 all least sm := hi.congr fun m _ => bef_bit s w x m
theorem StInv.wt {s w : Nat} (hi : StInv n a b c W L (befT n a b c s w 2) num2 few2 all least sm) : StInv n a b c W L (befT n a b c s (w + 1) 0) num2 few2 all least sm := hi.congr fun m _ => by
  unfold befT; omega
theorem StInv.st (h : GoodN n R a b c) {s : Nat} (hi : StInv n a b c W L (befT n a b c s (W + 1) 0) num2 few2 all least sm) : StInv n a b c W L (befT n a b c (s + 1) 0 0) num2 few2 all least sm := hi.congr fun m hm => by
  have := (cand_ok h hm).2.2
  unfold befT; omega
/-- an entry of nobody: both bits at once -/
theorem StInv.nobody {s w : Nat} (hi : StInv n a b c W L (befT n a b c s w 0) num2 few2 all least sm) (h0 : cN n a b c W L s w = 0) : StInv n a b c W L (befT n a b c s (w + 1) 0) num2 few2 all least sm :=
  ((hi.skip h0).bit.skip h0).bit.wt
theorem eN_le {p : Nat → Prop} [DecidablePred p] (t v : Nat) : eN n a b c W L p t v ≤ (candL n a b c W L).countP fun m => decide (Qd n a b c t v m) := by
  unfold eN
  refine List.countP_mono_left fun m _ hp => ?_
  exact decide_eq_true (of_decide_eq_true hp).2
/-- what is put in fits 64 bits -/
theorem StInv.fits (h : GoodN n R a b c) (hn : n ≤ 7) (hW : W ≤ 24) (hl : LvInv n a b c W L num few all0 least0) {s w x : Nat} (hi : StInv n a b c W L (befT n a b c s w x) num2 few2 all least sm) (hx : x ≤ 1) (hs0 : s ≠ 0) (hs : s < 2 ^ n) (hw : w ≤ W) (hpos : 0 < num s w) (hv : w + wtF R a b c s x ≤ W) :
    (nxF n s x ≠ 0 → 0 ≤ num2 (nxF n s x) (w + wtF R a b c s x) + num s w ∧ num2 (nxF n s x) (w + wtF R a b c s x) + num s w ≤ 9223372036854775807) ∧
    (nxF n s x = 0 → 0 ≤ all (w + wtF R a b c s x) + num s w ∧ all (w + wtF R a b c s x) + num s w ≤ 9223372036854775807) ∧ 0 ≤ few s w ∧ few s w ≤ 1000 := by
  have hne := hl.hnum s w hs0 hs hw
  refine ⟨fun ht => ?_, fun ht => ?_, ?_⟩
  · have h1 := hi.hnum _ _ ht (nxF_lt n s x) hv
    have h2 := eN_add (W := W) (L := L) (p := befT n a b c s w x) h hx (fun m hm => bef_not s w x m hm) (nxF n s x) (w + wtF R a b c s x)
    rw [if_pos ⟨rfl, rfl⟩] at h2
    have h3 := Nat.le_trans (Nat.le_of_eq h2.symm) (eN_le _ _)
    rw [eN_all _ _ ht hv] at h3
    have h4 := cN_small h (W := W) (L := L + 1) (s := nxF n s x) (w := w + wtF R a b c s x) hW hn
    omega
  · have h1 := hi.hall _ hv
    have h2 := eN_add (W := W) (L := L) (p := befT n a b c s w x) h hx (fun m hm => bef_not s w x m hm) 0 (w + wtF R a b c s x)
    rw [if_pos ⟨ht, rfl⟩] at h2
    have h3 := Nat.le_trans (Nat.le_of_eq h2.symm) (eN_le _ _)
    rw [eN_loop (by have := h.n2; omega)] at h3
    have h4 := loops_small h (v := w + wtF R a b c s x) (by omega) hn W (L + 1) hW
    rw [lSum] at h4
    omega
  · obtain ⟨⟨m, ⟨q1, _⟩, q2⟩, _⟩ := hl.hfew s w hs0 hs hw (by omega)
    obtain ⟨_, i2, _, i4, i5⟩ := aL_mem h W L m q1
    have h5 : (wtM n a b c m + 1) * n ≤ 25 * 7 := Nat.mul_le_mul (by omega) hn
    have h6 := popN_le i2
    omega
theorem aL_ne {m : Nat} (hm : m ∈ aL n a b c W (L + 1)) : m ∈ candL n a b c W L := by
  rw [cand_mem]
  obtain ⟨u, hu, hy⟩ := List.mem_flatMap.1 hm
  obtain ⟨x, hx, rfl, _⟩ := nextL_mem.1 hy
  rwa [show (2 * u + x) / 2 = u by omega]
theorem aL_of {m t v : Nat} (hm : m ∈ candL n a b c W L) (hq : Qd n a b c t v m) (ht : t ≠ 0) (hv : v ≤ W) : m ∈ aL n a b c W (L + 1) := by
  rw [cand_mem] at hm
  refine List.mem_flatMap.2 ⟨m / 2, hm, nextL_mem.2 ⟨m % 2, by omega, by omega, ?_, ?_⟩⟩
  · rw [hq.1]; exact ht
  · rw [hq.2]; exact hv
/-- a round's end is the next one's beginning -/
theorem StInv.next (h : GoodN n R a b c) (hi : StInv n a b c W L (befT n a b c (2 ^ n) 0 0) num2 few2 all least sm) : LvInv n a b c W (L + 1) num2 few2 all least := by
  have hb : ∀ m, m ∈ candL n a b c W L → befT n a b c (2 ^ n) 0 0 m := fun m hm => .inl (cand_ok h hm).2.1
  have he : ∀ t v, eN n a b c W L (befT n a b c (2 ^ n) 0 0) t v = (candL n a b c W L).countP fun m => decide (Qd n a b c t v m) := fun t v => by
    unfold eN
    refine List.countP_congr fun m hm => ?_
    simp [hb m hm]
  refine ⟨fun s w h1 h2 h3 => by rw [hi.hnum s w h1 h2 h3, he, eN_all s w h1 h3], fun s w h1 h2 h3 h4 => (hi.hfew s w h1 h2 h3 h4).congr fun m => ?_, fun v hv => by rw [hi.hall v hv, he, eN_loop (by have := h.n2; omega), lSum], fun v hv => ⟨(hi.hleast v hv).1, fun h4 => ((hi.hleast v hv).2 h4).congr fun m => ?_⟩⟩
  · constructor
    · rintro ⟨q1, _, q3⟩; exact ⟨aL_of q1 q3 h1 h3, q3⟩
    · rintro ⟨q1, q3⟩; exact ⟨aL_ne q1, hb m (aL_ne q1), q3⟩
  · constructor
    · rintro (⟨k, hk, r⟩ | ⟨q1, _, q3⟩)
      · exact ⟨k, by omega, r⟩
      · refine ⟨L, by omega, m / 2, cand_mem.1 q1, ?_, q3⟩
        have h5 := q3.1
        have hn := h.n2
        obtain ⟨k, rfl⟩ : ∃ k, n = k + 1 := ⟨n - 1, by omega⟩
        rw [Nat.pow_succ', Nat.mod_mul] at h5
        omega
    · rintro ⟨k, hk, u, hu, rfl, hq⟩
      by_cases e : k = L
      · subst e
        have hm : 2 * u ∈ candL n a b c W k := cand_mem.2 (by rwa [show 2 * u / 2 = u by omega])
        exact .inr ⟨hm, hb _ hm, hq⟩
      · exact .inl ⟨k, by omega, u, hu, rfl, hq⟩
/-- nothing left: the ways are at an end -/
theorem StInv.over (h : GoodN n R a b c) (hi : StInv n a b c W L (befT n a b c (2 ^ n) 0 0) num2 few2 all least false) : aL n a b c W (L + 1) = [] := by
  cases e : aL n a b c W (L + 1) with
  | nil => rfl
  | cons m r =>
    exfalso
    obtain ⟨_, _, h3, h4, _⟩ := aL_mem h W (L + 1) m (by rw [e]; simp)
    have hn := (hi.next h).hnum (m % 2 ^ n) (wtM n a b c m) h3 (Nat.mod_lt _ (Nat.two_pow_pos _)) h4
    have hpos : 0 < cN n a b c W (L + 1) (m % 2 ^ n) (wtM n a b c m) := List.countP_pos_iff.2 ⟨m, by rw [e]; simp, by simp⟩
    have := hi.hsome.2 ⟨m % 2 ^ n, wtM n a b c m, h3, Nat.mod_lt _ (Nat.two_pow_pos _), h4, by omega⟩
    cases this
theorem aL_stay (hL : aL n a b c W L = []) : ∀ d, aL n a b c W (L + d) = []
  | 0 => hL
  | d + 1 => by rw [← Nat.add_assoc, aL, aL_stay hL d]; rfl
/-- all loops of a weight, within a weight -/
def LoopE (n a b c W v m : Nat) : Prop := ∃ k u, u ∈ aL n a b c W k ∧ m = 2 * u ∧ Qd n a b c 0 v m
/-- what comes out -/
structure ResInv (n : Nat) (R : Int) (a b c W : Nat) (all least : Nat → Int) : Prop where
  hall : ∀ v, v ≤ W → all v = loopsN n R a b c v
  hleast : ∀ v, v ≤ W → (all v = 0 → least v = -1) ∧ (all v ≠ 0 → Lst (LoopE n a b c W v) (least v))
theorem lSum_stay (hL : aL n a b c W L = []) (v : Nat) : ∀ d, lSum n a b c W v (L + d) = lSum n a b c W v L
  | 0 => rfl
  | d + 1 => by
    rw [← Nat.add_assoc, lSum, lSum_stay hL v d]
    unfold lN
    rw [aL_stay hL d]; rfl
theorem LvInv.res (h : GoodN n R a b c) (hl : LvInv n a b c W L num few all least) (hL : aL n a b c W L = []) : ResInv n R a b c W all least := by
  refine ⟨fun v hv => ?_, fun v hv => ⟨(hl.hleast v hv).1, fun h0 => ((hl.hleast v hv).2 h0).congr fun m => ?_⟩⟩
  · rw [hl.hall v hv, loops_all h hv (T := L + (W + 1) * n) (by omega), lSum_stay hL]
  · constructor
    · rintro ⟨k, _, u, hu, r⟩; exact ⟨k, u, hu, r⟩
    · rintro ⟨k, u, hu, r⟩
      refine ⟨k, ?_, u, hu, r⟩
      rcases Nat.lt_or_ge k L with e | e
      · exact e
      · obtain ⟨d, rfl⟩ : ∃ d, k = L + d := ⟨k - L, by omega⟩
        rw [aL_stay hL d] at hu; simp at hu
/-- the beginning -/
theorem LvInv.zero (h : GoodN n R a b c) {num few : Nat → Nat → Int} (hnum : ∀ s w, s < 2 ^ n → w ≤ W → num s w = if s = 1 ∧ w = wtF R a b c 0 1 then 1 else 0) (hfew : ∀ s w, s < 2 ^ n → w ≤ W → few s w = if s = 1 ∧ w = wtF R a b c 0 1 then 1 else 0) :
    LvInv n a b c W 0 num few (fun _ => 0) (fun _ => -1) := by
  have h1 : 1 % 2 ^ n = 1 := Nat.mod_eq_of_lt (Nat.one_lt_two_pow (by have := h.n2; omega))
  have hw := wtM_one h
  refine ⟨fun s w h1' h2 h3 => ?_, fun s w h1' h2 h3 h4 => ?_, fun v hv => rfl, fun v hv => ⟨fun _ => rfl, fun h0 => absurd rfl h0⟩⟩
  · rw [hnum s w h2 h3]
    unfold cN aL
    by_cases e : wtF R a b c 0 1 ≤ W
    · rw [hw, if_pos e]
      by_cases e2 : s = 1 ∧ w = wtF R a b c 0 1
      · rw [if_pos e2]; simp [h1, hw, e2]
      · have e3 : ¬ (1 = s ∧ wtF R a b c 0 1 = w) := fun q => e2 ⟨q.1.symm, q.2.symm⟩
        rw [if_neg e2]; simp [h1, hw, e3]
    · rw [hw, if_neg e, if_neg (by omega)]; simp
  · rw [hnum s w h2 h3] at h4
    rw [hfew s w h2 h3]
    by_cases e2 : s = 1 ∧ w = wtF R a b c 0 1
    · rw [if_pos e2]
      have e : wtF R a b c 0 1 ≤ W := by omega
      have ha : aL n a b c W 0 = [1] := by unfold aL; rw [hw, if_pos e]
      have hp : popN 1 = 1 := by rw [popN]; simp [popN_zero]
      refine ⟨⟨1, ⟨by rw [ha]; simp, ⟨by rw [h1]; exact e2.1.symm, by rw [hw]; exact e2.2.symm⟩⟩, by rw [hp]; rfl⟩, ?_⟩
      rintro m ⟨hm, _⟩
      rw [ha] at hm
      simp at hm
      rw [hm, hp]; omega
    · rw [if_neg e2] at h4; exact absurd rfl h4
end
end Go.Proofs.Ytpmnbdkncmjafaa
