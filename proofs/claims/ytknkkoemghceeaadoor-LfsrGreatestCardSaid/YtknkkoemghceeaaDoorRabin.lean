/- Fermat's theorem for polynomials, Rabin's test, orders and periods; nothing of Go stands here. -/
import Derived.Test.YtknkkoemghceeaaDoorIrr
namespace Gf2

/-- alike but for a multiple of p -/
def Cg (p a b : Nat) : Prop := Dvd p (a ^^^ b)
theorem Cg.refl (p a : Nat) : Cg p a a := by unfold Cg; rw [Nat.xor_self]; exact Dvd.zero p
theorem Cg.symm {p a b : Nat} (h : Cg p a b) : Cg p b a := by unfold Cg at *; rw [Nat.xor_comm]; exact h
theorem Cg.trans {p a b c : Nat} (h : Cg p a b) (h' : Cg p b c) : Cg p a c := by
  unfold Cg at *
  have e : a ^^^ c = (a ^^^ b) ^^^ (b ^^^ c) := by rw [Nat.xor_assoc, ← Nat.xor_assoc b b c, Nat.xor_self, Nat.zero_xor]
  rw [e]; exact h.xor h'
theorem Cg.cm {p a b c d : Nat} (h : Cg p a b) (h' : Cg p c d) : Cg p (Gf2.cm a c) (Gf2.cm b d) := by
  have h1 : Cg p (Gf2.cm a c) (Gf2.cm b c) := by unfold Cg at *; rw [← cm_xor_left, cm_comm]; exact h.cm c
  have h2 : Cg p (Gf2.cm b c) (Gf2.cm b d) := by unfold Cg at *; rw [← cm_xor_right]; exact h'.cm b
  exact h1.trans h2
theorem Cg.rem (p a : Nat) : Cg p (Gf2.rem a p) a := by
  unfold Cg
  rw [rem_xor, Nat.xor_comm a, Nat.xor_assoc, Nat.xor_self, Nat.xor_zero]
  exact (Dvd.refl p).cm _
theorem Cg.of_dvd {p f a b : Nat} (hf : Dvd f p) (h : Cg p a b) : Cg f a b := hf.trans h
theorem Cg.small {p a b : Nat} (ha : len a < len p) (hb : len b < len p) (h : Cg p a b) : a = b := by
  by_cases e : a ^^^ b = 0
  · exact xor_zero_eq e
  · have h1 := Dvd.len_le h e
    have h2 := len_xor_le a b
    omega
/-- x to the 2 ^ i -/
def fr : Nat → Nat
  | 0 => 2
  | i + 1 => cm (fr i) (fr i)
theorem cm_pp (i j : Nat) : cm (2 ^ i) (2 ^ j) = 2 ^ (i + j) := by rw [cm_pow, Nat.pow_add, Nat.mul_comm]
theorem fr_pow : ∀ i, fr i = 2 ^ 2 ^ i
  | 0 => rfl
  | i + 1 => by rw [fr, fr_pow i, cm_pp]; congr 1; rw [Nat.pow_succ]; omega
/-- squared j times -/
def sqN : Nat → Nat → Nat
  | 0, u => u
  | j + 1, u => sqN j (cm u u)
theorem sqN_cg {p u v : Nat} : ∀ j, Cg p u v → Cg p (sqN j u) (sqN j v) := by
  intro j
  induction j generalizing u v with
  | zero => exact id
  | succ j ih => exact fun h => ih (h.cm h)
theorem sqN_fr : ∀ (j i : Nat), sqN j (fr i) = fr (i + j)
  | 0, i => rfl
  | j + 1, i => by
    show sqN j (fr (i + 1)) = fr (i + (j + 1))
    rw [sqN_fr j (i + 1)]; congr 1; omega
/-- x to the 2 ^ i is x -/
def Fx (p i : Nat) : Prop := Cg p (fr i) 2
theorem Fx.sub {p i j : Nat} (h : Fx p i) (h' : Fx p (i + j)) : Fx p j := by
  have h1 := sqN_cg j h
  rw [sqN_fr] at h1
  have e : sqN j 2 = fr j := by have := sqN_fr j 0; rwa [Nat.zero_add] at this
  rw [e] at h1
  exact h1.symm.trans h'
theorem Fx.gcd {p : Nat} : ∀ (m n : Nat), Fx p m → Fx p n → 0 < m → Fx p (Nat.gcd m n) := by
  intro m n
  induction m using Nat.strongRecOn generalizing n with
  | ind m ih =>
    intro hm hn h0
    rw [Nat.gcd_rec]
    have hr : Fx p (n % m) ∨ n % m = 0 := by
      have key : ∀ q r, Fx p (m * q + r) → Fx p r := by
        intro q
        induction q with
        | zero => intro r h; rwa [Nat.mul_zero, Nat.zero_add] at h
        | succ q ihq =>
          intro r h
          refine ihq r (Fx.sub hm ?_)
          rw [Nat.mul_succ] at h
          rwa [show m + (m * q + r) = m * q + m + r by omega]
      left
      refine key (n / m) _ ?_
      rw [Nat.div_add_mod]; exact hn
    by_cases hz : n % m = 0
    · rw [hz, Nat.gcd_zero_left]; exact hm
    · rcases hr with hr | hr
      · exact ih (n % m) (Nat.mod_lt _ h0) m hr hm (by omega)
      · exact absurd hr hz
/-- the product of a list -/
def prodL (l : List Nat) : Nat := l.foldr cm 1
theorem prodL_perm {l l' : List Nat} (h : l.Perm l') : prodL l = prodL l' :=
  h.foldr_eq' (fun x _ y _ z => by rw [← cm_assoc, ← cm_assoc, cm_comm y x]) 1
theorem prodL_map {f : Nat} : ∀ l : List Nat, Cg f (prodL (l.map fun r => rem (2 * r) f)) (cm (2 ^ l.length) (prodL l))
  | [] => by show Cg f 1 (cm (2 ^ 0) 1); rw [Nat.pow_zero, cm_one_left]; exact Cg.refl _ _
  | r :: l => by
    have ih := prodL_map (f := f) l
    show Cg f (cm (rem (2 * r) f) (prodL (l.map fun r => rem (2 * r) f))) (cm (2 ^ (l.length + 1)) (cm r (prodL l)))
    have h1 := (Cg.rem f (2 * r)).cm ih
    have e : cm (2 * r) (cm (2 ^ l.length) (prodL l)) = cm (2 ^ (l.length + 1)) (cm r (prodL l)) := by
      rw [cm_pow, cm_pow, cm_two_left, cm_comm r, cm_comm r, ← cm_pow l.length, cm_assoc, cm_pow, Nat.pow_succ, Nat.mul_comm, Nat.mul_assoc]
    rw [← e]; exact h1
theorem prodL_dvd {f : Nat} (h : Irr f) : ∀ l : List Nat, Dvd f (prodL l) → ∃ r, r ∈ l ∧ Dvd f r
  | [], hd => by
    have := h.1
    have h1 := hd.len_le (by decide : (1 : Nat) ≠ 0)
    have h2 := len_mono h.1
    have : len 2 = 2 := len_eq (n := 1) (by decide) (by decide)
    have h3 : len (prodL []) = 1 := len_one
    rw [h3] at h1
    omega
  | r :: l, hd => by
    rcases h.prime (show Dvd f (cm r (prodL l)) from hd) with e | e
    · exact ⟨r, List.mem_cons_self, e⟩
    · obtain ⟨s, hs, h2⟩ := prodL_dvd h l e
      exact ⟨s, List.mem_cons_of_mem _ hs, h2⟩
/-- a list without repetition, moved into itself without repetition, is itself in some order -/
theorem perm_of_inj {l : List Nat} (hl : l.Nodup) (g : Nat → Nat) (hg : ∀ x, x ∈ l → g x ∈ l) (hi : ∀ x, x ∈ l → ∀ y, y ∈ l → g x = g y → x = y) : (l.map g).Perm l := by
  have hn : (l.map g).Nodup := by
    refine List.pairwise_map.2 (List.Pairwise.imp_of_mem ?_ hl)
    intro a b ha hb hne e
    exact hne (hi a ha b hb e)
  have hs : ∀ y, y ∈ l.map g → y ∈ l := fun y hy => by
    obtain ⟨x, hx, rfl⟩ := List.mem_map.1 hy
    exact hg x hx
  refine (List.perm_ext_iff_of_nodup hn hl).2 fun y => ⟨hs y, fun hy => ?_⟩
  refine Decidable.byContradiction fun hc => ?_
  have h1 : (y :: l.map g).Nodup := List.nodup_cons.2 ⟨hc, hn⟩
  have h2 := h1.length_le_of_subset (l₂ := l) (fun z hz => by
    rcases List.mem_cons.1 hz with e | e
    · rw [e]; exact hy
    · exact hs z e)
  rw [List.length_cons, List.length_map] at h2
  omega
/-- 1 to n -/
def upto (n : Nat) : List Nat := (List.range n).map (· + 1)
theorem upto_nodup (n : Nat) : (upto n).Nodup := List.pairwise_map.2 ((List.nodup_range (n := n)).imp fun h e => h (by omega))
theorem upto_mem {n x : Nat} : x ∈ upto n ↔ 1 ≤ x ∧ x ≤ n := by
  unfold upto
  rw [List.mem_map]
  constructor
  · rintro ⟨a, ha, rfl⟩
    have := List.mem_range.1 ha
    omega
  · rintro ⟨h1, h2⟩
    exact ⟨x - 1, List.mem_range.2 (by omega), by omega⟩
theorem upto_length (n : Nat) : (upto n).length = n := by simp [upto]
theorem irr_not_x {f : Nat} (h : Irr f) (ho : f % 2 = 1) : ¬ Dvd f 2 := by
  rintro ⟨q, hq⟩
  have := Go.Proofs.YtknkkoemghceeaaDoor.Rev.odd_dvd_pow ho 1 q hq
  have := h.1
  omega
/-- Fermat's theorem -/
theorem fermat {f d : Nat} (h : Irr f) (ho : f % 2 = 1) (hd : len f = d + 1) : Dvd f (2 ^ (2 ^ d - 1) ^^^ 1) := by
  have hf0 : f ≠ 0 := by have := h.1; omega
  have hnd : ∀ r, r ≠ 0 → r < 2 ^ d → ¬ Dvd f r := fun r h0 hr hdv => by
    have := hdv.len_le h0
    have := len_le hr
    omega
  have hperm := perm_of_inj (upto_nodup (2 ^ d - 1)) (fun r => rem (2 * r) f) (fun x hx => by
    obtain ⟨h1, h2⟩ := upto_mem.1 hx
    have hp := Nat.two_pow_pos d
    rw [upto_mem]
    have h3 := len_rem (2 * x) hf0
    have h4 : rem (2 * x) f < 2 ^ d := lt_of_len (by omega)
    refine ⟨?_, by show rem (2 * x) f ≤ 2 ^ d - 1; omega⟩
    show 1 ≤ rem (2 * x) f
    refine Nat.one_le_iff_ne_zero.2 fun e => ?_
    have h5 : Dvd f (2 * x) := Dvd.of_rem e
    have h6 : Dvd f (cm 2 x) := by rw [show (2 : Nat) = 2 ^ 1 from rfl, cm_pow, Nat.pow_one, Nat.mul_comm]; exact h5
    rcases h.prime h6 with e | e
    · exact irr_not_x h ho e
    · exact hnd x (by omega) (by omega) e) (fun x hx y hy e => by
    obtain ⟨h1, h2⟩ := upto_mem.1 hx
    obtain ⟨h3, h4⟩ := upto_mem.1 hy
    have hp := Nat.two_pow_pos d
    have h5 : Cg f (2 * x) (2 * y) := by
      refine (Cg.rem f (2 * x)).symm.trans ?_
      rw [show rem (2 * x) f = rem (2 * y) f from e]
      exact Cg.rem f (2 * y)
    unfold Cg at h5
    rw [← two_xor] at h5
    have h6 : Dvd f (cm 2 (x ^^^ y)) := by rw [show (2 : Nat) = 2 ^ 1 from rfl, cm_pow, Nat.pow_one, Nat.mul_comm]; exact h5
    rcases h.prime h6 with e | e
    · exact absurd e (irr_not_x h ho)
    · by_cases e0 : x ^^^ y = 0
      · exact xor_zero_eq e0
      · exact absurd e (hnd _ e0 (Nat.xor_lt_two_pow (by omega) (by omega))))
  have h1 := prodL_map (f := f) (upto (2 ^ d - 1))
  rw [prodL_perm hperm, upto_length] at h1
  have h2 : Dvd f (cm (2 ^ (2 ^ d - 1) ^^^ 1) (prodL (upto (2 ^ d - 1)))) := by
    rw [cm_xor_left, cm_one_left]; exact h1.symm
  rcases h.prime h2 with e | e
  · exact e
  · obtain ⟨r, hr, e2⟩ := prodL_dvd h _ e
    obtain ⟨h3, h4⟩ := upto_mem.1 hr
    have hp := Nat.two_pow_pos d
    exact absurd e2 (hnd r (by omega) (by omega))
theorem fermat_fr {f d : Nat} (h : Irr f) (ho : f % 2 = 1) (hd : len f = d + 1) : Fx f d := by
  have h1 := (fermat h ho hd).cm 2
  unfold Fx Cg
  rw [fr_pow]
  have e : cm 2 (2 ^ (2 ^ d - 1) ^^^ 1) = 2 ^ 2 ^ d ^^^ 2 := by
    rw [cm_xor_right, cm_one_right, show cm 2 (2 ^ (2 ^ d - 1)) = 2 ^ (1 + (2 ^ d - 1)) from cm_pp 1 _]
    have := Nat.two_pow_pos d
    rw [show 1 + (2 ^ d - 1) = 2 ^ d by omega]
  rw [← e]; exact h1
/-- what is not irreducible has an irreducible divisor of a lower degree -/
theorem factor_ex (p : Nat) (h2 : 2 ≤ p) (h : ¬ Irr p) : ∃ f, Irr f ∧ Dvd f p ∧ len f < len p := by
  generalize hn : len p = n
  induction n using Nat.strongRecOn generalizing p with
  | ind n ih =>
    have hex : ∃ a b, cm a b = p ∧ a ≠ 1 ∧ b ≠ 1 := by
      refine Classical.byContradiction fun hc => h ⟨h2, fun a b hab => ?_⟩
      refine Classical.byContradiction fun hc2 => hc ⟨a, b, hab, fun e => hc2 (.inl e), fun e => hc2 (.inr e)⟩
    obtain ⟨a, b, hab, ha, hb⟩ := hex
    have ha0 : a ≠ 0 := by rintro rfl; rw [cm_zero] at hab; omega
    have hb0 : b ≠ 0 := by rintro rfl; rw [cm_zero_right] at hab; omega
    have hl := len_cm ha0 hb0
    have hla : ¬ len a ≤ 1 := fun e => ha (len_le_one e ha0)
    have hlb : ¬ len b ≤ 1 := fun e => hb (len_le_one e hb0)
    rw [hab, hn] at hl
    have hdv : Dvd b p := ⟨a, hab⟩
    by_cases hi : Irr b
    · exact ⟨b, hi, hdv, by omega⟩
    · obtain ⟨f, h1, h3, h4⟩ := ih (len b) (by omega) b (by omega) hi rfl
      exact ⟨f, h1, h3.trans hdv, by omega⟩
/-- Rabin's test -/
theorem rabin {p n : Nat} (hp : p % 2 = 1) (hl : len p = n + 1) (hn : 1 ≤ n) (h1 : Fx p n) (h2 : ∀ i, 1 ≤ i → i < n → n % i = 0 → ∃ x, Cg p x (fr i) ∧ gcd (x ^^^ rem 2 p) p = 1) : Irr p := by
  refine Classical.byContradiction fun hc => ?_
  have hp2 : 2 ≤ p := by
    apply Nat.le_of_not_lt
    intro h
    have : p = 1 := by omega
    rw [this, len_one] at hl
    omega
  obtain ⟨f, hf, hdv, hlen⟩ := factor_ex p hp2 hc
  have ho := Go.Proofs.YtknkkoemghceeaaDoor.Rev.dvd_odd hdv hp
  have hf2 := len_mono hf.1
  have hl2 : len 2 = 2 := len_eq (n := 1) (by decide) (by decide)
  obtain ⟨d, hd⟩ : ∃ d, len f = d + 1 := ⟨len f - 1, by omega⟩
  have hF := fermat_fr hf ho hd
  have hN : Fx f n := h1.of_dvd hdv
  have hG := Fx.gcd d n hF hN (by omega)
  have hgd := Nat.gcd_dvd_left d n
  have hgn := Nat.gcd_dvd_right d n
  have hge : Nat.gcd d n ≤ d := Nat.le_of_dvd (by omega) hgd
  have hgp : 0 < Nat.gcd d n := Nat.gcd_pos_of_pos_left n (by omega)
  obtain ⟨x, hx, h3⟩ := h2 (Nat.gcd d n) hgp (by omega) (Nat.mod_eq_zero_of_dvd hgn)
  have h4 : Dvd f (x ^^^ rem 2 p) := (hx.of_dvd hdv).trans (Cg.trans hG ((Cg.rem p 2).of_dvd hdv).symm)
  have h5 := dvd_gcd h4 hdv
  rw [h3] at h5
  have h6 := h5.len_le (by decide)
  rw [len_one] at h6
  omega
end Gf2
