/- The least weight of ways of so many steps: told from the front and from behind. -/
import Derived.Test.YtpmnbdkncmjafaaRows
namespace Go.Proofs.Ytpmnbdkncmjafaa
section
variable (nx wt : Nat → Nat → Nat)
/-- the least weight of k steps from a state -/
def rmin : Nat → Nat → Nat
  | 0, _ => 0
  | k + 1, s => min (wt s 0 + rmin k (nx s 0)) (wt s 1 + rmin k (nx s 1))
/-- v is the least of what an entry costs and what k more steps cost -/
def LeastAt (D : Nat → Option Nat) (k v : Nat) : Prop := (∀ t d, D t = some d → v ≤ d + rmin nx wt k t) ∧ ∃ t d, D t = some d ∧ v = d + rmin nx wt k t
/-- D' holds what comes of those entries of D that are done -/
def StepAt (D D' : Nat → Option Nat) (done : Nat → Nat → Bool) : Prop :=
  (∀ t d b, b ≤ 1 → D t = some d → done t b = true → ∃ d', D' (nx t b) = some d' ∧ d' ≤ d + wt t b) ∧
  (∀ t' d', D' t' = some d' → ∃ t d b, b ≤ 1 ∧ D t = some d ∧ done t b = true ∧ t' = nx t b ∧ d' = d + wt t b)
variable {nx wt} {D D' : Nat → Option Nat}
theorem StepAt.least {k v : Nat} (h : StepAt nx wt D D' fun _ _ => true) (hv : LeastAt nx wt D (k + 1) v) : LeastAt nx wt D' k v := by
  obtain ⟨h1, h2⟩ := h
  obtain ⟨v1, t, d, hD, ev⟩ := hv
  refine ⟨fun t' d' hd' => ?_, ?_⟩
  · obtain ⟨t, d, b, hb, hD, _, rfl, rfl⟩ := h2 t' d' hd'
    have := v1 t d hD
    simp only [rmin] at this
    have hb2 : b = 0 ∨ b = 1 := by omega
    rcases hb2 with rfl | rfl <;> omega
  · simp only [rmin] at ev
    have hb : ∃ b, b ≤ 1 ∧ v = d + (wt t b + rmin nx wt k (nx t b)) := by
      rcases Nat.le_total (wt t 0 + rmin nx wt k (nx t 0)) (wt t 1 + rmin nx wt k (nx t 1)) with h | h
      · exact ⟨0, by omega, by rw [ev, Nat.min_eq_left h]⟩
      · exact ⟨1, by omega, by rw [ev, Nat.min_eq_right h]⟩
    obtain ⟨b, hb1, hb2⟩ := hb
    obtain ⟨d', hd', hle⟩ := h1 t d b hb1 hD rfl
    obtain ⟨t2, d2, b2, hb3, hD2, _, e1, e2⟩ := h2 _ _ hd'
    refine ⟨_, d', hd', ?_⟩
    have := v1 t2 d2 hD2
    simp only [rmin] at this
    have : v ≤ d2 + (wt t2 b2 + rmin nx wt k (nx t2 b2)) := by
      have hb2 : b2 = 0 ∨ b2 = 1 := by omega
      rcases hb2 with rfl | rfl <;> omega
    rw [← e1] at this
    omega
theorem LeastAt.one {s d k : Nat} : LeastAt nx wt (fun t => if t = s then some d else none) k (d + rmin nx wt k s) := by
  refine ⟨fun t d' h => ?_, s, d, if_pos rfl, rfl⟩
  have h : (if t = s then some d else none) = some d' := h
  by_cases e : t = s
  · subst e; rw [if_pos rfl] at h; cases h; exact Nat.le_refl _
  · rw [if_neg e] at h; cases h
/-- an entry put in where it is less -/
def putMin (D : Nat → Option Nat) (t d : Nat) : Nat → Option Nat := fun x => if x = t then some (match D t with | none => d | some o => min o d) else D x
theorem StepAt.none (D : Nat → Option Nat) : StepAt nx wt D (fun _ => .none) fun _ _ => false := ⟨fun _ _ _ _ _ h => (by cases h), fun _ _ h => (by cases h)⟩
theorem StepAt.put {done : Nat → Nat → Bool} (h : StepAt nx wt D D' done) {s d b : Nat} (hb : b ≤ 1) (hD : D s = some d) : StepAt nx wt D (putMin D' (nx s b) (d + wt s b)) fun t c => done t c || (t == s && c == b) := by
  obtain ⟨h1, h2⟩ := h
  refine ⟨fun t e c hc hDt hd => ?_, fun t' d' hd' => ?_⟩
  · unfold putMin
    have hold : done t c = true → ∃ d', (if nx t c = nx s b then some (match D' (nx s b) with | .none => d + wt s b | some o => min o (d + wt s b)) else D' (nx t c)) = some d' ∧ d' ≤ e + wt t c := fun hdn => by
      obtain ⟨d', e1, e2⟩ := h1 t e c hc hDt hdn
      by_cases en : nx t c = nx s b
      · rw [if_pos en, ← en, e1]
        exact ⟨min d' (d + wt s b), rfl, by omega⟩
      · rw [if_neg en]; exact ⟨d', e1, e2⟩
    by_cases hdn : done t c = true
    · exact hold hdn
    · simp [hdn] at hd
      obtain ⟨rfl, rfl⟩ := hd
      rw [hD] at hDt; cases hDt
      rw [if_pos rfl]
      cases D' (nx t c) with
      | none => exact ⟨_, rfl, Nat.le_refl _⟩
      | some o => exact ⟨_, rfl, by simp; omega⟩
  · unfold putMin at hd'
    have hnew : t' = nx s b → d' = d + wt s b → ∃ t e c, c ≤ 1 ∧ D t = some e ∧ (done t c || (t == s && c == b)) = true ∧ t' = nx t c ∧ d' = e + wt t c := fun e1 e2 => ⟨s, d, b, hb, hD, by simp, e1, e2⟩
    have hold : D' t' = some d' → ∃ t e c, c ≤ 1 ∧ D t = some e ∧ (done t c || (t == s && c == b)) = true ∧ t' = nx t c ∧ d' = e + wt t c := fun e1 => by
      obtain ⟨t, e, c, q1, q2, q3, q4, q5⟩ := h2 t' d' e1
      exact ⟨t, e, c, q1, q2, by simp [q3], q4, q5⟩
    by_cases en : t' = nx s b
    · rw [if_pos en] at hd'
      cases ho : D' (nx s b) with
      | none => rw [ho] at hd'; cases hd'; exact hnew en rfl
      | some o =>
        rw [ho] at hd'
        have hd' : min o (d + wt s b) = d' := Option.some.inj hd'
        rcases Nat.le_total o (d + wt s b) with hle | hle
        · rw [Nat.min_eq_left hle] at hd'; exact hold (by rw [en, ho, hd'])
        · rw [Nat.min_eq_right hle] at hd'; exact hnew en hd'.symm
    · rw [if_neg en] at hd'; exact hold hd'
theorem StepAt.cong {done done' : Nat → Nat → Bool} (h : StepAt nx wt D D' done) (he : ∀ t b, b ≤ 1 → (D t).isSome → done t b = done' t b) : StepAt nx wt D D' done' := by
  obtain ⟨h1, h2⟩ := h
  refine ⟨fun t d b hb hD hd => h1 t d b hb hD ((he t b hb (by rw [hD]; rfl)).trans hd), fun t' d' hd' => ?_⟩
  obtain ⟨t, e, c, q1, q2, q3, q4, q5⟩ := h2 t' d' hd'
  exact ⟨t, e, c, q1, q2, ((he t c q1 (by rw [q2]; rfl)).symm.trans q3), q4, q5⟩
end
end Go.Proofs.Ytpmnbdkncmjafaa
