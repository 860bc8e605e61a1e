/- The reference's counting, round by round: what holds while the entries of one round are gone through. Of numbers alone. -/
import Derived.Test.YtpmnbdkncmjafaaRows
import Derived.Test.YtpmnbdkncmjafaaLpC
namespace Go.Proofs.Ytpmnbdkncmjafaa
open Gf2 Rev

/-- b is the least number of ones of those of which S holds -/
def Lst (S : Nat → Prop) (b : Int) : Prop := (∃ m, S m ∧ (popN m : Int) = b) ∧ ∀ m, S m → b ≤ popN m
theorem Lst.congr {S S' : Nat → Prop} {b : Int} (h : Lst S b) (e : ∀ m, S m ↔ S' m) : Lst S' b := by
  obtain ⟨⟨m, h1, h2⟩, h3⟩ := h
  exact ⟨⟨m, (e m).1 h1, h2⟩, fun m hm => h3 m ((e m).2 hm)⟩
theorem Lst.one {S : Nat → Prop} {b : Int} (h1 : ∃ m, S m ∧ (popN m : Int) = b) (h2 : ∀ m, S m → b ≤ popN m) : Lst S b := ⟨h1, h2⟩
theorem Lst.less {S A : Nat → Prop} {o b : Int} (h : Lst S o) (h2 : Lst A b) (hlt : b < o) : Lst (fun m => S m ∨ A m) b := by
  obtain ⟨⟨m, q1, q2⟩, q3⟩ := h2
  refine ⟨⟨m, .inr q1, q2⟩, fun u hu => ?_⟩
  rcases hu with hu | hu
  · have := h.2 u hu; omega
  · exact q3 u hu
theorem Lst.more {S A : Nat → Prop} {o b : Int} (h : Lst S o) (h2 : Lst A b) (hle : o ≤ b) : Lst (fun m => S m ∨ A m) o := by
  obtain ⟨⟨m, q1, q2⟩, q3⟩ := h
  refine ⟨⟨m, .inl q1, q2⟩, fun u hu => ?_⟩
  rcases hu with hu | hu
  · exact q3 u hu
  · have := h2.2 u hu; omega
section
variable (n a b c W L : Nat)
def candL : List Nat := (aL n a b c W L).flatMap fun m => [2 * m, 2 * m + 1]
def Qd (t v m : Nat) : Prop := m % 2 ^ n = t ∧ wtM n a b c m = v
instance (t v m : Nat) : Decidable (Qd n a b c t v m) := by unfold Qd; infer_instance
/-- comes of this entry by this bit -/
def isT (s w x m : Nat) : Prop := (m / 2) % 2 ^ n = s ∧ wtM n a b c (m / 2) = w ∧ m % 2 = x
instance (s w x m : Nat) : Decidable (isT n a b c s w x m) := by unfold isT; infer_instance
/-- comes of an entry gone through already -/
def befT (s w x m : Nat) : Prop := (m / 2) % 2 ^ n < s ∨ ((m / 2) % 2 ^ n = s ∧ (wtM n a b c (m / 2) < w ∨ (wtM n a b c (m / 2) = w ∧ m % 2 < x)))
instance (s w x m : Nat) : Decidable (befT n a b c s w x m) := by unfold befT; infer_instance
def eN (p : Nat → Prop) [DecidablePred p] (t v : Nat) : Nat := (candL n a b c W L).countP fun m => decide (p m ∧ Qd n a b c t v m)
/-- the loops of a weight that came up to a round -/
def LoopS (T v m : Nat) : Prop := ∃ k, k < T ∧ ∃ u, u ∈ aL n a b c W k ∧ m = 2 * u ∧ Qd n a b c 0 v m
variable {n a b c W L} {R : Int}
theorem cand_mem {m : Nat} : m ∈ candL n a b c W L ↔ m / 2 ∈ aL n a b c W L := by
  unfold candL
  rw [List.mem_flatMap]
  constructor
  · rintro ⟨u, hu, hm⟩
    simp at hm
    have : m / 2 = u := by omega
    rwa [this]
  · intro h
    refine ⟨m / 2, h, ?_⟩
    simp; omega
theorem countP_split {α : Type} (l : List α) (p q r : α → Bool) (h : ∀ x ∈ l, (p x = true ↔ q x = true ∨ r x = true) ∧ ¬ (q x = true ∧ r x = true)) : l.countP p = l.countP q + l.countP r := by
  induction l with
  | nil => rfl
  | cons x l ih =>
    have ih := ih fun y hy => h y (by simp [hy])
    obtain ⟨h1, h2⟩ := h x (by simp)
    rw [List.countP_cons, List.countP_cons, List.countP_cons, ih]
    cases hp : p x <;> cases hq : q x <;> cases hr : r x <;> simp_all <;> omega
/-- what comes of one entry -/
theorem count_is (h : GoodN n R a b c) {s w x : Nat} (hx : x ≤ 1) (t v : Nat) :
    (candL n a b c W L).countP (fun m => decide (isT n a b c s w x m ∧ Qd n a b c t v m)) = if nxF n s x = t ∧ w + wtF R a b c s x = v then cN n a b c W L s w else 0 := by
  unfold candL cN
  induction aL n a b c W L with
  | nil => simp
  | cons m l ih =>
    rw [List.flatMap_cons, List.countP_append, ih, List.countP_cons (l := l)]
    have e1 : (2 * m) / 2 = m := by omega
    have e2 : (2 * m + 1) / 2 = m := by omega
    have key : [2 * m, 2 * m + 1].countP (fun m => decide (isT n a b c s w x m ∧ Qd n a b c t v m)) = if (nxF n s x = t ∧ w + wtF R a b c s x = v) ∧ (m % 2 ^ n = s ∧ wtM n a b c m = w) then 1 else 0 := by
      have one : ∀ y, y ≤ 1 → ((isT n a b c s w x (2 * m + y) ∧ Qd n a b c t v (2 * m + y)) ↔ (y = x ∧ (nxF n s x = t ∧ w + wtF R a b c s x = v) ∧ (m % 2 ^ n = s ∧ wtM n a b c m = w))) := fun y hy => by
        have q1 : (2 * m + y) / 2 = m := by omega
        have q2 : (2 * m + y) % 2 = y := by omega
        have q3 := wtM_step h m hy
        unfold isT Qd
        rw [q1, q2, q3, ← nx_mod]
        constructor
        · rintro ⟨⟨r1, r2, r3⟩, r4, r5⟩
          subst r3
          rw [r1] at r4 r5
          exact ⟨rfl, ⟨r4, by omega⟩, r1, r2⟩
        · rintro ⟨rfl, ⟨r4, r5⟩, r1, r2⟩
          rw [r1]
          exact ⟨⟨rfl, r2, rfl⟩, r4, by omega⟩
      have o0 := one 0 (by omega)
      have o1 := one 1 (by omega)
      rw [Nat.add_zero] at o0
      rw [List.countP_cons, List.countP_cons, List.countP_nil]
      simp only [o0, o1]
      have hx2 : x = 0 ∨ x = 1 := by omega
      rcases hx2 with rfl | rfl
      · simp
      · simp
    rw [key]
    by_cases e3 : nxF n s x = t ∧ w + wtF R a b c s x = v
    · rw [if_pos e3, if_pos e3]
      by_cases e4 : m % 2 ^ n = s ∧ wtM n a b c m = w
      · rw [if_pos ⟨e3, e4⟩]; simp [e4]; omega
      · rw [if_neg (fun e => e4 e.2)]; simp [e4]
    · rw [if_neg e3, if_neg e3, if_neg (fun e => e3 e.1)]
theorem eN_all (t v : Nat) (ht : t ≠ 0) (hv : v ≤ W) : (candL n a b c W L).countP (fun m => decide (Qd n a b c t v m)) = cN n a b c W (L + 1) t v := by
  unfold candL cN
  rw [aL]
  induction aL n a b c W L with
  | nil => simp
  | cons m l ih =>
    rw [List.flatMap_cons, List.flatMap_cons, List.countP_append, List.countP_append, ih]
    congr 1
    unfold nextL
    rw [List.countP_filter]
    refine List.countP_congr fun m' _ => ?_
    unfold Qd
    constructor
    · intro h1
      have h2 := of_decide_eq_true h1
      rw [h1, Bool.true_and]
      exact decide_eq_true ⟨by omega, by omega⟩
    · intro h1
      rw [Bool.and_eq_true] at h1
      exact h1.1
theorem eN_loop (hn : 1 ≤ n) (v : Nat) : (candL n a b c W L).countP (fun m => decide (Qd n a b c 0 v m)) = lN n a b c W L v := by
  unfold candL lN
  induction aL n a b c W L with
  | nil => simp
  | cons m l ih =>
    rw [List.flatMap_cons, List.countP_append, ih, List.countP_cons (l := l)]
    have : ¬ (2 * m + 1) % 2 ^ n = 0 := fun e => by
      obtain ⟨k, rfl⟩ : ∃ k, n = k + 1 := ⟨n - 1, by omega⟩
      rw [Nat.pow_succ', Nat.mod_mul] at e
      omega
    unfold Qd
    rw [List.countP_cons, List.countP_cons, List.countP_nil]
    simp only [this, false_and, decide_false, Bool.false_eq_true, if_false, Nat.zero_add]
    omega
/-- what holds while a round's entries are gone through; p: those that have been -/
structure StInv (n : Nat) (a b c W L : Nat) (p : Nat → Prop) [DecidablePred p] (num2 few2 : Nat → Nat → Int) (all least : Nat → Int) (sm : Bool) : Prop where
  hnum : ∀ t v, t ≠ 0 → t < 2 ^ n → v ≤ W → num2 t v = eN n a b c W L p t v
  hfew : ∀ t v, t ≠ 0 → t < 2 ^ n → v ≤ W → num2 t v ≠ 0 → Lst (fun m => m ∈ candL n a b c W L ∧ p m ∧ Qd n a b c t v m) (few2 t v)
  hall : ∀ v, v ≤ W → all v = (lSum n a b c W v L + eN n a b c W L p 0 v : Nat)
  hleast : ∀ v, v ≤ W → (all v = 0 → least v = -1) ∧ (all v ≠ 0 → Lst (fun m => LoopS n a b c W L v m ∨ (m ∈ candL n a b c W L ∧ p m ∧ Qd n a b c 0 v m)) (least v))
  hsome : sm = true ↔ ∃ t v, t ≠ 0 ∧ t < 2 ^ n ∧ v ≤ W ∧ num2 t v ≠ 0
/-- what a round begins with -/
structure LvInv (n : Nat) (a b c W L : Nat) (num few : Nat → Nat → Int) (all least : Nat → Int) : Prop where
  hnum : ∀ s w, s ≠ 0 → s < 2 ^ n → w ≤ W → num s w = cN n a b c W L s w
  hfew : ∀ s w, s ≠ 0 → s < 2 ^ n → w ≤ W → num s w ≠ 0 → Lst (fun m => m ∈ aL n a b c W L ∧ Qd n a b c s w m) (few s w)
  hall : ∀ v, v ≤ W → all v = lSum n a b c W v L
  hleast : ∀ v, v ≤ W → (all v = 0 → least v = -1) ∧ (all v ≠ 0 → Lst (fun m => LoopS n a b c W L v m) (least v))
theorem StInv.congr {p q : Nat → Prop} [DecidablePred p] [DecidablePred q] {num2 few2 : Nat → Nat → Int} {all least : Nat → Int} {sm : Bool} (h : StInv n a b c W L p num2 few2 all least sm) (e : ∀ m, m ∈ candL n a b c W L → (p m ↔ q m)) : StInv n a b c W L q num2 few2 all least sm := by
  have ee : ∀ t v, eN n a b c W L p t v = eN n a b c W L q t v := fun t v => by
    unfold eN
    refine List.countP_congr fun m hm => ?_
    simp [e m hm]
  refine ⟨fun t v h1 h2 h3 => by rw [← ee]; exact h.hnum t v h1 h2 h3, fun t v h1 h2 h3 h4 => (h.hfew t v h1 h2 h3 h4).congr fun m => ?_, fun v hv => by rw [← ee]; exact h.hall v hv, fun v hv => ⟨(h.hleast v hv).1, fun h4 => ((h.hleast v hv).2 h4).congr fun m => ?_⟩, h.hsome⟩
  · constructor
    · rintro ⟨q1, q2, q3⟩; exact ⟨q1, (e m q1).1 q2, q3⟩
    · rintro ⟨q1, q2, q3⟩; exact ⟨q1, (e m q1).2 q2, q3⟩
  · constructor
    · rintro (q | ⟨q1, q2, q3⟩)
      · exact .inl q
      · exact .inr ⟨q1, (e m q1).1 q2, q3⟩
    · rintro (q | ⟨q1, q2, q3⟩)
      · exact .inl q
      · exact .inr ⟨q1, (e m q1).2 q2, q3⟩
theorem Lst.none_left {S A : Nat → Prop} {b : Int} (h : Lst A b) (hS : ∀ m, ¬ S m) : Lst (fun m => S m ∨ A m) b := h.congr fun m => by simp [hS m]
/-- those that come of one entry: the least of their ones -/
theorem few_is (h : GoodN n R a b c) {s w x : Nat} (hx : x ≤ 1) {o : Int} (hf : Lst (fun m => m ∈ aL n a b c W L ∧ Qd n a b c s w m) o) : Lst (fun m => m ∈ candL n a b c W L ∧ isT n a b c s w x m ∧ Qd n a b c (nxF n s x) (w + wtF R a b c s x) m) (o + x) := by
  obtain ⟨⟨m, ⟨q1, q2, q3⟩, q4⟩, q5⟩ := hf
  have hstep : ∀ u, u % 2 ^ n = s → wtM n a b c u = w → Qd n a b c (nxF n s x) (w + wtF R a b c s x) (2 * u + x) := fun u h1 h2 => by
    unfold Qd
    rw [wtM_step h u hx, ← nx_mod, h1, h2]
    exact ⟨rfl, rfl⟩
  refine ⟨⟨2 * m + x, ⟨cand_mem.2 (by rwa [show (2 * m + x) / 2 = m by omega]), ⟨by rw [show (2 * m + x) / 2 = m by omega]; exact q2, by rw [show (2 * m + x) / 2 = m by omega]; exact q3, by omega⟩, hstep m q2 q3⟩, by rw [popN_two m x hx]; omega⟩, ?_⟩
  rintro m' ⟨h1, ⟨h2, h3, h4⟩, _⟩
  have h5 := q5 (m' / 2) ⟨cand_mem.1 h1, h2, h3⟩
  have h6 := popN_two (m' / 2) (m' % 2) (by omega)
  rw [show 2 * (m' / 2) + m' % 2 = m' by omega] at h6
  omega
section
variable {p : Nat → Prop} [DecidablePred p] {num few num2 few2 : Nat → Nat → Int} {all least all0 least0 : Nat → Int} {sm : Bool}
theorem eN_add (h : GoodN n R a b c) {s w x : Nat} (hx : x ≤ 1) (hp : ∀ m, isT n a b c s w x m → ¬ p m) (t v : Nat) :
    eN n a b c W L (fun m => p m ∨ isT n a b c s w x m) t v = eN n a b c W L p t v + if nxF n s x = t ∧ w + wtF R a b c s x = v then cN n a b c W L s w else 0 := by
  rw [← count_is h hx t v]
  unfold eN
  refine countP_split _ _ _ _ fun m _ => ?_
  simp only [decide_eq_true_eq]
  constructor
  · constructor
    · rintro ⟨q1 | q1, q2⟩
      · exact .inl ⟨q1, q2⟩
      · exact .inr ⟨q1, q2⟩
    · rintro (⟨q1, q2⟩ | ⟨q1, q2⟩)
      · exact ⟨.inl q1, q2⟩
      · exact ⟨.inr q1, q2⟩
  · rintro ⟨⟨q1, _⟩, q2, _⟩
    exact hp m q2 q1
theorem cN_zero_none {s w : Nat} (h : cN n a b c W L s w = 0) (m : Nat) (hm : m ∈ candL n a b c W L) (x : Nat) : ¬ isT n a b c s w x m := fun ⟨h1, h2, _⟩ => by
  unfold cN at h
  rw [List.countP_eq_zero] at h
  exact h (m / 2) (cand_mem.1 hm) (by simp [h1, h2])
/-- an entry that nobody has -/
theorem StInv.skip (hi : StInv n a b c W L p num2 few2 all least sm) {s w x : Nat} (h0 : cN n a b c W L s w = 0) : StInv n a b c W L (fun m => p m ∨ isT n a b c s w x m) num2 few2 all least sm :=
  hi.congr fun m hm => by simp [cN_zero_none h0 m hm x]
theorem isQ (h : GoodN n R a b c) {s w x m : Nat} (hx : x ≤ 1) (ht : isT n a b c s w x m) {t v : Nat} : Qd n a b c t v m ↔ nxF n s x = t ∧ w + wtF R a b c s x = v := by
  obtain ⟨h1, h2, h3⟩ := ht
  have e : m = 2 * (m / 2) + x := by omega
  unfold Qd
  have h4 := wtM_step h (m / 2) hx
  rw [← e, h1, h2] at h4
  have h5 := nx_mod n (m / 2) x
  rw [← e, h1] at h5
  rw [h4, h5]
omit [DecidablePred p] in
theorem orQ (h : GoodN n R a b c) {s w x : Nat} (hx : x ≤ 1) {t v : Nat} (hne : ¬ (nxF n s x = t ∧ w + wtF R a b c s x = v)) (m : Nat) :
    (m ∈ candL n a b c W L ∧ p m ∧ Qd n a b c t v m) ↔ (m ∈ candL n a b c W L ∧ (p m ∨ isT n a b c s w x m) ∧ Qd n a b c t v m) := by
  constructor
  · rintro ⟨q1, q2, q3⟩; exact ⟨q1, .inl q2, q3⟩
  · rintro ⟨q1, q2 | q2, q3⟩
    · exact ⟨q1, q2, q3⟩
    · exact absurd ((isQ h hx q2).1 q3) hne
/-- an entry whose weight would be too great -/
theorem StInv.far (h : GoodN n R a b c) (hi : StInv n a b c W L p num2 few2 all least sm) {s w x : Nat} (hx : x ≤ 1) (hp : ∀ m, isT n a b c s w x m → ¬ p m) (hv : W < w + wtF R a b c s x) : StInv n a b c W L (fun m => p m ∨ isT n a b c s w x m) num2 few2 all least sm := by
  have e : ∀ t v, v ≤ W → eN n a b c W L (fun m => p m ∨ isT n a b c s w x m) t v = eN n a b c W L p t v := fun t v hv2 => by
    rw [eN_add h hx hp, if_neg (fun e => by omega), Nat.add_zero]
  refine ⟨fun t v h1 h2 h3 => by rw [e t v h3]; exact hi.hnum t v h1 h2 h3, fun t v h1 h2 h3 h4 => (hi.hfew t v h1 h2 h3 h4).congr fun m => orQ h hx (fun e => by omega) m, fun v hv2 => by rw [e 0 v hv2]; exact hi.hall v hv2,
    fun v hv2 => ⟨(hi.hleast v hv2).1, fun h4 => ((hi.hleast v hv2).2 h4).congr fun m => by rw [orQ h (s := s) (w := w) hx (fun e => by have := e.2; omega)]⟩, hi.hsome⟩
set_option linter.unusedVariables false in
omit [DecidablePred p] in
theorem orQ' (h : GoodN n R a b c) {s w x : Nat} (hx : x ≤ 1) (m : Nat) :
    (m ∈ candL n a b c W L ∧ (p m ∨ isT n a b c s w x m) ∧ Qd n a b c (nxF n s x) (w + wtF R a b c s x) m) ↔ ((m ∈ candL n a b c W L ∧ p m ∧ Qd n a b c (nxF n s x) (w + wtF R a b c s x) m) ∨ (m ∈ candL n a b c W L ∧ isT n a b c s w x m ∧ Qd n a b c (nxF n s x) (w + wtF R a b c s x) m)) := by
  constructor
  · rintro ⟨q1, q2 | q2, q3⟩
    · exact .inl ⟨q1, q2, q3⟩
    · exact .inr ⟨q1, q2, q3⟩
  · rintro (⟨q1, q2, q3⟩ | ⟨q1, q2, q3⟩)
    · exact ⟨q1, .inl q2, q3⟩
    · exact ⟨q1, .inr q2, q3⟩
theorem eN_zero {t v : Nat} (h : eN n a b c W L p t v = 0) (m : Nat) : ¬ (m ∈ candL n a b c W L ∧ p m ∧ Qd n a b c t v m) := fun ⟨h1, h2, h3⟩ => by
  unfold eN at h
  rw [List.countP_eq_zero] at h
  exact h m h1 (by simp [h2, h3])
/-- an entry that goes to a state -/
theorem StInv.go (h : GoodN n R a b c) (hl : LvInv n a b c W L num few all0 least0) (hi : StInv n a b c W L p num2 few2 all least sm) {s w x : Nat} (hx : x ≤ 1) (hp : ∀ m, isT n a b c s w x m → ¬ p m) (hs0 : s ≠ 0) (hs : s < 2 ^ n) (hw : w ≤ W) (hpos : 0 < num s w)
    (hv : w + wtF R a b c s x ≤ W) (ht : nxF n s x ≠ 0) {fw : Int} (hfw : fw = if num2 (nxF n s x) (w + wtF R a b c s x) = 0 ∨ few s w + x < few2 (nxF n s x) (w + wtF R a b c s x) then few s w + x else few2 (nxF n s x) (w + wtF R a b c s x)) :
    StInv n a b c W L (fun m => p m ∨ isT n a b c s w x m) (fun t v => if t = nxF n s x ∧ v = w + wtF R a b c s x then num2 t v + num s w else num2 t v) (fun t v => if t = nxF n s x ∧ v = w + wtF R a b c s x then fw else few2 t v) all least true := by
  have hn := hl.hnum s w hs0 hs hw
  have hf := hl.hfew s w hs0 hs hw (by omega)
  have e := fun t v => eN_add (W := W) (L := L) h hx hp t v
  have hold := hi.hnum (nxF n s x) (w + wtF R a b c s x) ht (nxF_lt n s x) hv
  refine ⟨fun t v h1 h2 h3 => ?_, fun t v h1 h2 h3 h4 => ?_, fun v hv2 => ?_, fun v hv2 => ⟨(hi.hleast v hv2).1, fun h4 => ((hi.hleast v hv2).2 h4).congr fun m => by rw [orQ h hx (fun e => ht e.1)]⟩, ?_⟩
  · rw [e]
    by_cases q : t = nxF n s x ∧ v = w + wtF R a b c s x
    · rw [if_pos q, if_pos ⟨q.1.symm, q.2.symm⟩, hi.hnum t v h1 h2 h3, hn]; omega
    · rw [if_neg q, if_neg (fun q2 => q ⟨q2.1.symm, q2.2.symm⟩), hi.hnum t v h1 h2 h3]; omega
  · by_cases q : t = nxF n s x ∧ v = w + wtF R a b c s x
    · rw [if_pos q]
      obtain ⟨rfl, rfl⟩ := q
      have h5 := few_is (W := W) (L := L) h hx hf
      refine Lst.congr ?_ fun m => (orQ' h hx m).symm
      by_cases hz : num2 (nxF n s x) (w + wtF R a b c s x) = 0
      · rw [hfw, if_pos (.inl hz)]
        exact h5.none_left (eN_zero (by omega))
      · have h6 := hi.hfew _ _ ht h2 hv hz
        by_cases hb : few s w + x < few2 (nxF n s x) (w + wtF R a b c s x)
        · rw [hfw, if_pos (.inr hb)]; exact h6.less h5 hb
        · rw [hfw, if_neg (by omega)]; exact h6.more h5 (by omega)
    · rw [if_neg q] at h4 ⊢
      exact (hi.hfew t v h1 h2 h3 h4).congr fun m => orQ h hx (fun q2 => q ⟨q2.1.symm, q2.2.symm⟩) m
  · rw [e, if_neg (fun e => ht e.1), Nat.add_zero]; exact hi.hall v hv2
  · refine ⟨fun _ => ⟨nxF n s x, w + wtF R a b c s x, ht, nxF_lt n s x, hv, ?_⟩, fun _ => rfl⟩
    simp only [and_self, if_true]
    omega
/-- an entry that comes back to 0 -/
theorem StInv.home (h : GoodN n R a b c) (hl : LvInv n a b c W L num few all0 least0) (hi : StInv n a b c W L p num2 few2 all least sm) {s w x : Nat} (hx : x ≤ 1) (hp : ∀ m, isT n a b c s w x m → ¬ p m) (hs0 : s ≠ 0) (hs : s < 2 ^ n) (hw : w ≤ W) (hpos : 0 < num s w)
    (hv : w + wtF R a b c s x ≤ W) (ht : nxF n s x = 0) {fw : Int} (hfw : fw = if least (w + wtF R a b c s x) < 0 ∨ few s w + x < least (w + wtF R a b c s x) then few s w + x else least (w + wtF R a b c s x)) :
    StInv n a b c W L (fun m => p m ∨ isT n a b c s w x m) num2 few2 (fun v => if v = w + wtF R a b c s x then all v + num s w else all v) (fun v => if v = w + wtF R a b c s x then fw else least v) sm := by
  have hn := hl.hnum s w hs0 hs hw
  have hf := hl.hfew s w hs0 hs hw (by omega)
  have e := fun t v => eN_add (W := W) (L := L) h hx hp t v
  refine ⟨fun t v h1 h2 h3 => ?_, fun t v h1 h2 h3 h4 => (hi.hfew t v h1 h2 h3 h4).congr fun m => orQ h hx (fun q2 => h1 (by omega)) m, fun v hv2 => ?_, fun v hv2 => ?_, hi.hsome⟩
  · rw [e, if_neg (fun q => h1 (by omega)), Nat.add_zero]; exact hi.hnum t v h1 h2 h3
  · rw [e]
    by_cases q : v = w + wtF R a b c s x
    · rw [if_pos q, if_pos ⟨ht, q.symm⟩, hi.hall v hv2, hn]; omega
    · rw [if_neg q, if_neg (fun q2 => q q2.2.symm), hi.hall v hv2]; omega
  · by_cases q : v = w + wtF R a b c s x
    · subst q
      simp only [if_true]
      have hall := hi.hall _ hv
      refine ⟨fun h4 => by omega, fun _ => ?_⟩
      have h5 := few_is (W := W) (L := L) h hx hf
      have hq : ∀ m, ((LoopS n a b c W L (w + wtF R a b c s x) m ∨ (m ∈ candL n a b c W L ∧ p m ∧ Qd n a b c 0 (w + wtF R a b c s x) m)) ∨ (m ∈ candL n a b c W L ∧ isT n a b c s w x m ∧ Qd n a b c (nxF n s x) (w + wtF R a b c s x) m)) ↔ (LoopS n a b c W L (w + wtF R a b c s x) m ∨ (m ∈ candL n a b c W L ∧ (p m ∨ isT n a b c s w x m) ∧ Qd n a b c 0 (w + wtF R a b c s x) m)) := fun m => by
        have := orQ' (p := p) (W := W) (L := L) h hx (s := s) (w := w) (x := x) m
        rw [ht] at this ⊢
        rw [this, or_assoc]
      refine Lst.congr ?_ hq
      have h0 := hi.hleast _ hv
      by_cases hz : all (w + wtF R a b c s x) = 0
      · have h7 := h0.1 hz
        rw [hfw, if_pos (.inl (by omega))]
        refine h5.none_left fun m hm => ?_
        rcases hm with ⟨k, hk, u, hu, rfl, hq⟩ | hm
        · have : lSum n a b c W (w + wtF R a b c s x) L ≠ 0 := by
            have mono : ∀ T, k < T → 0 < lSum n a b c W (w + wtF R a b c s x) T := fun T hT => by
              induction T with
              | zero => omega
              | succ T ih =>
                rw [lSum]
                by_cases e : k = T
                · subst e
                  have : 0 < lN n a b c W k (w + wtF R a b c s x) := List.countP_pos_iff.2 ⟨u, hu, by simpa [Qd] using hq⟩
                  omega
                · have := ih (by omega); omega
            have := mono L hk; omega
          omega
        · exact eN_zero (t := 0) (v := w + wtF R a b c s x) (p := p) (by omega) m hm
      · have h6 := h0.2 hz
        have h8 : 0 ≤ least (w + wtF R a b c s x) := by
          obtain ⟨⟨m, _, e⟩, _⟩ := h6
          omega
        by_cases hb : few s w + x < least (w + wtF R a b c s x)
        · rw [hfw, if_pos (.inr hb)]; exact h6.less h5 hb
        · rw [hfw, if_neg (by omega)]; exact h6.more h5 (by omega)
    · simp only [if_neg q]
      exact ⟨(hi.hleast v hv2).1, fun h4 => ((hi.hleast v hv2).2 h4).congr fun m => by rw [orQ h hx (fun q2 => q q2.2.symm)]⟩
end
end
end Go.Proofs.Ytpmnbdkncmjafaa
