/- (*matrix).apply, walked: a linear map of states. -/
import Derived.Test.YtknkkoemghceeaaDoorRows
import Derived.Test.YtknkkoemghceeaaDoorTz
import Derived.Test.YtknkkoemghceeaaDoorLfRun
import Derived.Deep.MidRow
namespace Go.Proofs.YtknkkoemghceeaaDoor
open Go.RowKit

/-- a map of states of n bits that adds -/
structure LinM (n : Nat) (L : Nat → Nat) : Prop where
  lt : ∀ v, v < 2 ^ n → L v < 2 ^ n
  xor : ∀ x y, x < 2 ^ n → y < 2 ^ n → L (x ^^^ y) = L x ^^^ L y
  zero : L 0 = 0
theorem linM_steps {n T : Nat} (hn : 1 ≤ n) (k : Nat) : LinM n (Gf2.stpN n T k) :=
  ⟨fun _ h => Gf2.stpN_lt hn h k, fun _ _ hx hy => Gf2.stpN_xor hn hx hy k, Gf2.stpN_zero k⟩
def matV (f : Nat → Nat) : List Value := (List.range 20).map fun i => Value.int .u64 (f i : Nat)
theorem matV_length (f : Nat → Nat) : (matV f).length = 20 := by simp [matV]
theorem matV_at (f : Nat → Nat) {i : Nat} (h : i < 20) : (matV f)[i]? = some (.int .u64 (f i : Nat)) := by simp [matV, h]
theorem matV_one {f : Nat → Nat} {v : Value} (h : v ∈ matV f) : v.oneCell' = true := by
  simp only [matV, List.mem_map] at h
  obtain ⟨i, _, rfl⟩ := h
  rfl
/-- block g holds the columns of a map -/
structure MatB (w : World) (g : Nat) (f : Nat → Nat) : Prop where
  at_ : w.rangeAt g 0 (matV f)
  th : w.there g 0 20
  lt : g < w.heap.size
section
variable {w w' : World} {g : Nat} {f : Nat → Nat}
theorem MatB.cell (h : MatB w g f) {i : Nat} (hi : i < 20) : w.cell? ⟨g, i, none⟩ = some (.int .u64 (f i : Nat)) := by
  have := h.at_ i _ (matV_at f hi)
  rwa [Nat.zero_add] at this
theorem MatB.frz (h : MatB w g f) {i : Nat} (hi : i < 20) : w.frozen? ⟨g, i, none⟩ = false := by
  have := (h.th i hi).2
  rwa [Nat.zero_add] at this
theorem MatB.keep (h : MatB w g f) (hk : w'.heap[g]? = w.heap[g]?) (hs : w.heap.size ≤ w'.heap.size) : MatB w' g f := by
  refine ⟨fun j v hv => ?_, fun j hj => ?_, Nat.lt_of_lt_of_le h.lt hs⟩
  · exact (World.cell?_of_block (a := ⟨g, 0 + j, none⟩) hk).trans (h.at_ j v hv)
  · have := h.th j hj
    exact ⟨by rw [World.cell?_of_block (a := ⟨g, 0 + j, none⟩) hk]; exact this.1, (World.frozen?_of_block (a := ⟨g, 0 + j, none⟩) hk).trans this.2⟩
theorem MatB.below {B : Nat} (h : MatB w g f) (hb : Below B w w') (hg : g < B) : MatB w' g f := h.keep (hb.block g hg) hb.size
theorem MatB.drewN (h : MatB w g f) (n : Nat) : MatB (w.drewN n) g f := h.keep rfl (Nat.le_refl _)
theorem MatB.set (h : MatB w g f) {i : Nat} (hi : i < 20) (y : Nat) : MatB (w.setCell ⟨g, i, none⟩ (.int .u64 (y : Nat))) g (fun j => if j = i then y else f j) := by
  refine ⟨fun j v hv => ?_, fun j hj => ?_, by simpa using h.lt⟩
  · have hj : j < 20 := by
      rcases Nat.lt_or_ge j 20 with h | h
      · exact h
      · rw [List.getElem?_eq_none (by rw [matV_length]; exact h)] at hv; cases hv
    rw [matV_at _ hj] at hv
    rw [← hv, Nat.zero_add]
    by_cases e : j = i
    · subst e
      rw [World.cell?_setCell_same _ _ _ (h.cell hi)]
      simp
    · rw [World.cell?_setCell_other _ _ _ _ (fun e2 => e (by cases e2; rfl)), h.cell hj]
      simp [e]
  · have := h.th j hj
    refine ⟨?_, by rw [World.frozen?_setCell]; exact this.2⟩
    rw [Nat.zero_add] at *
    by_cases e : j = i
    · subst e
      rw [World.cell?_setCell_same _ _ _ (h.cell hi)]; rfl
    · rw [World.cell?_setCell_other _ _ _ _ (fun e2 => e (by cases e2; rfl))]
      exact this.1
theorem MatB.far (h : MatB w g f) {p : Addr} (hp : g ≠ p.block) (u : Value) : MatB (w.setCell p u) g f := h.keep (Below.heap_setCell _ _ _ _ hp) (by simp)
theorem MatB.cells (h : MatB w g f) (f' : Nat → Nat) : MatB (w.setCells g 0 (matV f')) g f' :=
  ⟨World.rangeAt_setCells_same w g 0 (matV f') (by rw [matV_length]; exact h.th), World.there_setCells h.th g 0 _, by
    have := h.lt
    have hs : ∀ (vs : List Value) (o : Nat) (u : World), (u.setCells g o vs).heap.size = u.heap.size := by
      intro vs
      induction vs with
      | nil => intro o u; rfl
      | cons v vs ih => intro o u; rw [World.setCells, ih]; simp
    rw [hs]; exact this⟩
end
theorem and_pred {u : Nat} (h : u ≤ 1048576) (h0 : u ≠ 0) : bits .and .u64 (u : Int) ((u : Int) - 1) = ((u &&& (u - 1) : Nat) : Int) := by
  have := and64 (a := u) (b := u - 1) (by omega) (by omega)
  rw [← this]
  congr 1
  omega
set_option maxRecDepth 100000 in
set_option maxHeartbeats 1000000 in
theorem apply_any (n g : Nat) (hn : 2 ≤ n ∧ n ≤ 20) (L : Nat → Nat) (hL : LinM n L) (f : Nat → Nat) (hf : ∀ i, i < n → f i = L (2 ^ i)) (v : Nat) (hv : v < 2 ^ n) (w : World) (hm : MatB w g f) (ht : TabW w) :
    Calls Tryd.prog 59 #[.pointer (some ⟨g, 0, none⟩), .int .u64 v] w fun e w' => e = .returned (.int .u64 (L v : Nat)) ∧ ∃ k, w' = w.drewN k := by
  have HM := hide hm
  have HT := hide ht
  have HL := hide hL
  have HF := hide hf
  have hp := pow20 hn.2
  clear hm ht hL hf
  go_enter Tryd.func59, Tryd.ntmps59
  go_wp2_with fail
  go_loopw [1, 5] (fun a o wr => ∃ u y k : Nat, u < 2 ^ n ∧ a = .int .u64 u ∧ o = .int .u64 y ∧ y < 2 ^ n ∧ Hid (y ^^^ L u = L v) ∧ wr = w.drewN k) (fun a _ _ => (intOf a).toNat)
  case atStart => exact ⟨v, 0, 0, hv, rfl, rfl, Nat.two_pow_pos n, hide (Nat.zero_xor _), rfl⟩
  case round =>
    obtain ⟨u, y, k, hu, rfl, rfl, hy, hxy, rfl⟩ := hrel
    by_cases h0 : u = 0
    · subst h0
      have he := hxy.out
      rw [HL.out.zero, Nat.xor_zero] at he
      subst he
      go_wp2_with fail
      go_ret
      exact ⟨rfl, k, rfl⟩
    · obtain ⟨i, r, hir⟩ := Gf2.low_one h0
      obtain ⟨e1, e2⟩ := Gf2.low_off hir
      have hi : i < n := by
        rcases Nat.lt_or_ge i n with h | h
        · exact h
        · have h1 : 2 ^ n ≤ 2 ^ i := Nat.pow_le_pow_right (by omega) h
          have h2 : 1 * 2 ^ i ≤ (2 * r + 1) * 2 ^ i := Nat.mul_le_mul_right _ (by omega)
          omega
      have hpi : 2 ^ i < 2 ^ n := Nat.pow_lt_pow_right (by omega) hi
      have hlt2 : u &&& (u - 1) < 2 ^ n := Nat.lt_of_le_of_lt Nat.and_le_left hu
      have hdec : u &&& (u - 1) < u := Nat.lt_of_le_of_lt Nat.and_le_right (by omega)
      have hLx : y ^^^ L (2 ^ i) ^^^ L (u &&& (u - 1)) = L v := by
        rw [← hxy.out, Nat.xor_assoc, ← HL.out.xor _ _ hpi hlt2, e1, ← e2]
      have hfi := HF.out i hi
      have hcell := HM.out.cell (i := i) (by omega)
      rw [hfi] at hcell
      have hli := HL.out.lt _ hpi
      have hylt : y ^^^ L (2 ^ i) < 2 ^ n := Nat.xor_lt_two_pow hy hli
      have HTZ := hide (tz_any u i r hir (by omega))
      have hb0 := zNe h0
      have hbn := nzBne (x := (u : Int)) (by omega)
      have hap := and_pred (u := u) (by omega) h0
      have hx64 := xor64 (a := y) (b := L (2 ^ i)) (by omega) (by omega)
      have HLX := hide hLx
      have hi20 : (i : Int) < 20 := by omega
      have hi0 : (0 : Int) ≤ i := by omega
      generalize L (2 ^ i) = z at *
      generalize u &&& (u - 1) = u2 at *
      generalize y ^^^ z = y2 at *
      clear e1 e2 hir hLx hfi hpi hxy
      go_wp2_with fail
      go_quiet ((go_at_call 76; exact quiet_eq' (HTZ.out _ (HT.out.drewN _))))
      go_wp2_with fail
      go_roundw
      case rel => exact ⟨u2, y2, _, hlt2, rfl, rfl, hylt, HLX, rfl⟩
      case measure => simp [intOf]; omega
end Go.Proofs.YtknkkoemghceeaaDoor
