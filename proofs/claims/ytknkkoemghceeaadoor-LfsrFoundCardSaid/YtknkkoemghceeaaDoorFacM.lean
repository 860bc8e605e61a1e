/- Trial division: what outpostref02.Factor finds of an irreducible polynomial; nothing of Go stands here. -/
import Derived.Test.YtknkkoemghceeaaDoorIrr
namespace Gf2

/-- no divisor below p -/
def NF (p a : Nat) : Prop := ∀ q, 2 ≤ q → q < p → ¬ Dvd q a
theorem lt_of_len_lt {a b : Nat} (h : len a < len b) : a < b := by
  apply Nat.lt_of_not_le
  intro hc
  have := len_mono hc
  omega
theorem irr_of_nf {p A : Nat} (h2 : 2 ≤ A) (h : NF p A) (hl : len A + 1 < 2 * len p) : Irr A := by
  refine ⟨h2, fun a b hab => ?_⟩
  refine Classical.byContradiction fun hc => ?_
  have ha1 : a ≠ 1 := fun e => hc (.inl e)
  have hb1 : b ≠ 1 := fun e => hc (.inr e)
  have ha0 : a ≠ 0 := by rintro rfl; rw [cm_zero] at hab; omega
  have hb0 : b ≠ 0 := by rintro rfl; rw [cm_zero_right] at hab; omega
  have hlen := len_cm ha0 hb0
  rw [hab] at hlen
  by_cases hle : len a ≤ len b
  · exact h a (by omega) (lt_of_len_lt (by omega)) ⟨b, by rw [cm_comm]; exact hab⟩
  · exact h b (by omega) (lt_of_len_lt (by omega)) ⟨a, hab⟩
/-- at the head of the outer loop -/
structure FacI (A a p : Nat) (ts : List Nat) : Prop where
  a0 : a ≠ 0
  dv : Dvd a A
  A2 : 2 ≤ A
  p2 : 2 ≤ p
  nf : a ≠ 1 → NF p a
  em : ts = [] → a = A
  on : ts = [1] → a = 1 → Irr A
  pb : a ≠ 1 → p ≤ 131072
theorem FacI.start {A : Nat} (h : 2 ≤ A) : FacI A A 2 [] :=
  ⟨by omega, Dvd.refl A, h, Nat.le_refl _, fun _ q h1 h2 => by omega, fun _ => rfl, (fun e => by cases e), fun _ => by omega⟩
/-- at the head of the inner loop -/
structure FacJ (a p1 x t : Nat) : Prop where
  x0 : x ≠ 0
  dv : Dvd x a
  z : t = 0 → x = a
  on : t = 1 → cm x p1 = a
  big : 1 ≤ t → Dvd (cm x p1) a
  sz : t + len x ≤ len a
section
variable {A a p p1 x t : Nat} {ts : List Nat}
theorem FacJ.start (h : a ≠ 0) : FacJ a p1 a 0 := ⟨h, Dvd.refl a, fun _ => rfl, (fun e => by cases e), fun e => by omega, by omega⟩
theorem FacJ.next (h : FacJ a p1 x t) (h2 : 2 ≤ p1) (hr : rem x p1 = 0) : FacJ a p1 (quo x p1) (t + 1) ∧ len (quo x p1) < len x := by
  have e : cm (quo x p1) p1 = x := by have := quo_rem x p1; rwa [hr, Nat.xor_zero] at this
  have hq0 : quo x p1 ≠ 0 := by intro e2; rw [e2, cm_zero] at e; exact h.x0 e.symm
  have hl := len_cm hq0 (show p1 ≠ 0 by omega)
  have h3 := len_mono h2
  have h4 : len 2 = 2 := len_eq (n := 1) (by decide) (by decide)
  rw [e] at hl
  have hlt : len (quo x p1) < len x := by omega
  have hd : Dvd (quo x p1) x := ⟨p1, by rw [cm_comm]; exact e⟩
  refine ⟨⟨hq0, hd.trans h.dv, fun e => by omega, fun ht => by rw [e]; exact h.z (by omega), fun _ => by rw [e]; exact h.dv, ?_⟩, hlt⟩
  have := h.sz
  omega
/-- nothing was found -/
theorem FacI.keep (h : FacI A a p ts) (ha : a ≠ 1) (hnd : ¬ Dvd p a) (hp : p < 131072) : FacI A a (p + 1) ts :=
  ⟨h.a0, h.dv, h.A2, by have := h.p2; omega, fun _ q h1 h2 hd => by
    by_cases e : q = p
    · rw [e] at hd; exact hnd hd
    · exact h.nf ha q h1 (by omega) hd, h.em, h.on, fun _ => by omega⟩
/-- p1 was found t times -/
theorem FacI.add (h : FacI A a p ts) (ha : a ≠ 1) (hp1 : p1 = p ∧ len p < 17 + 1 ∧ ¬ len a + 1 < 2 * len p ∨ p1 = a ∧ len a + 1 < 2 * len p) (hj : FacJ a p1 x t) (ht : 1 ≤ t) (hx : x = 1 ∨ ¬ Dvd p1 x) : FacI A x (p1 + 1) (ts ++ [t]) := by
  have h2 : 2 ≤ p1 := by
    rcases hp1 with ⟨e, _⟩ | ⟨e, _⟩
    · rw [e]; exact h.p2
    · rw [e]; have := h.a0; omega
  have hone : p1 = a → x = 1 := fun e => by
    have h3 := (hj.big ht).len_le h.a0
    have h4 := len_cm hj.x0 (show p1 ≠ 0 by omega)
    rw [e] at h4 h3
    exact len_le_one (by omega) hj.x0
  refine ⟨hj.x0, hj.dv.trans h.dv, h.A2, by omega, fun hx1 q h3 h4 hd => ?_, fun e => by simp at e, fun e hx1 => ?_, fun hx1 => ?_⟩
  · rcases hp1 with ⟨e, _⟩ | ⟨e, _⟩
    · by_cases e2 : q = p1
      · rw [e2] at hd
        rcases hx with hx | hx
        · exact hx1 hx
        · exact hx hd
      · exact h.nf ha q h3 (by omega) (hd.trans hj.dv)
    · exact hx1 (hone e)
  · have hts : ts = [] ∧ t = 1 := by
      cases ts with
      | nil => simp at e; exact ⟨rfl, e⟩
      | cons u us => simp at e
    have hA := h.em hts.1
    have hcm := hj.on hts.2
    rw [hx1, cm_one_left] at hcm
    rcases hp1 with ⟨e2, _, h3⟩ | ⟨e2, h3⟩
    · exfalso
      rw [← e2, hcm] at h3
      have h5 := len_mono h.A2
      have h4 : len 2 = 2 := len_eq (n := 1) (by decide) (by decide)
      rw [← hA] at h5
      omega
    · rw [← hA]
      exact irr_of_nf (by rw [hA]; exact h.A2) (h.nf ha) h3
  · rcases hp1 with ⟨e, h3, _⟩ | ⟨e, _⟩
    · have h4 := lt_len p
      have h5 : 2 ^ len p ≤ 2 ^ 17 := Nat.pow_le_pow_right (by omega) (by omega)
      omega
    · exact absurd (hone e) hx1
end
end Gf2
