/- How often each distance comes; a window moves them. Of numbers alone. -/
import Derived.Test.YtlbfndibgojbiaaRows
import Derived.Test.YtlbfndibgojbiaaMBackM
namespace Go.Proofs.Ytlbfndibgojbiaa

def absD (a b : Nat) : Nat := (a - b) + (b - a)
theorem absD_max (a b : Nat) : max ((a : Int) - b) (-((a : Int) - b)) = (absD a b : Nat) := by unfold absD; omega
theorem absD_lt {a b L : Nat} (ha : a < L) (hb : b < L) : absD a b < L := by unfold absD; omega
theorem absD_mirror {a b L : Nat} (ha : a < L) (hb : b < L) : absD (L - 1 - a) (L - 1 - b) = absD a b := by unfold absD; omega
/-- how many of the first k are x -/
def hist (f : Nat → Nat) (k x : Nat) : Nat := (List.range k).countP fun i => f i == x
theorem hist_zero (f : Nat → Nat) (x : Nat) : hist f 0 x = 0 := by simp [hist]
theorem hist_succ (f : Nat → Nat) (k x : Nat) : hist f (k + 1) x = hist f k x + if f k = x then 1 else 0 := by
  unfold hist
  rw [List.range_succ, List.countP_append]
  by_cases h : f k = x <;> simp [h]
theorem hist_le (f : Nat → Nat) (k x : Nat) : hist f k x ≤ k := by
  unfold hist
  have := List.countP_le_length (p := fun i => f i == x) (l := List.range k)
  simpa using this
def histL (f : Nat → Nat) (k : Nat) : List Int := (List.range 16).map fun x => ((hist f k x : Nat) : Int)
theorem histL_length (f : Nat → Nat) (k : Nat) : (histL f k).length = 16 := by simp [histL]
theorem histL_at (f : Nat → Nat) (k : Nat) {x : Nat} (hx : x < 16) : (histL f k)[x]? = some ((hist f k x : Nat) : Int) := by simp [histL, hx]
theorem histL_set (f : Nat → Nat) (k : Nat) : (histL f k).set (f k) (((hist f k (f k) : Nat) : Int) + 1) = histL f (k + 1) := by
  apply List.ext_getElem
  · simp [histL]
  · intro i h1 h2
    rw [List.getElem_set]
    simp only [histL, List.getElem_map, List.getElem_range, hist_succ]
    split
    · rename_i e
      subst e
      simp
    · rename_i e
      simp
/-- a count does not hang on the order -/
theorem hist_perm {n : Nat} {σ τ : Nat → Nat} (hσ : ∀ i, i < n → σ i < n ∧ τ (σ i) = i) (hτ : ∀ i, i < n → τ i < n ∧ σ (τ i) = i) (f : Nat → Nat) (x : Nat) : hist (fun i => f (σ i)) n x = hist f n x := by
  have hp : ((List.range n).map σ).Perm (List.range n) := by
    refine (List.perm_ext_iff_of_nodup ?_ List.nodup_range).2 fun a => ?_
    · unfold List.Nodup
      rw [List.pairwise_map]
      refine List.Pairwise.imp_of_mem ?_ List.nodup_range
      intro a b ha hb hne e
      have h1 := (hσ a (List.mem_range.1 ha)).2
      have h2 := (hσ b (List.mem_range.1 hb)).2
      exact hne (by rw [← h1, ← h2, e])
    · simp only [List.mem_map, List.mem_range]
      constructor
      · rintro ⟨i, hi, rfl⟩
        exact (hσ i hi).1
      · intro h
        exact ⟨τ a, (hτ a h).1, (hτ a h).2⟩
  have := hp.countP_eq (fun i => f i == x)
  rw [List.countP_map] at this
  exact this
theorem hist_congr {f g : Nat → Nat} {n : Nat} (h : ∀ i, i < n → f i = g i) (x : Nat) : hist f n x = hist g n x := by
  induction n with
  | zero => simp [hist]
  | succ n ih => rw [hist_succ, hist_succ, ih (fun i hi => h i (by omega)), h n (by omega)]
theorem winL_at (d T S q L : Nat) (_hq : 0 < q) (xs : List Nat) {p : Nat} (hp : p < xs.length) : (winL d T S q L xs).getD p 0 = (turnL d T S L xs).getD (pos xs.length (colC xs.length q) p) 0 := by
  unfold winL unshL
  rw [turnL_length, fill_at _ hp]
theorem winL_lev (d T S q L : Nat) (hq : 0 < q) (xs : List Nat) (h : ∀ i, i < xs.length → xs.getD i 0 < L) {p : Nat} (hp : p < xs.length) : (winL d T S q L xs).getD p 0 < L := by
  rw [winL_at d T S q L hq xs hp]
  exact turnL_lt d T S L xs h _ (by rw [turnL_length]; exact (ord_mem hq hp).1)
theorem win_dist (d T S q L : Nat) (hq : 0 < q) (xs ys : List Nat) (hl : ys.length = xs.length) (hx : ∀ i, i < xs.length → xs.getD i 0 < L) (hy : ∀ i, i < ys.length → ys.getD i 0 < L) {p : Nat} (hp : p < xs.length) :
    absD ((winL d T S q L xs).getD p 0) ((winL d T S q L ys).getD p 0) = absD (xs.getD (pos xs.length (colC xs.length q) p) 0) (ys.getD (pos xs.length (colC xs.length q) p) 0) := by
  have h1 := (ord_mem hq hp).1
  rw [winL_at d T S q L hq xs hp, winL_at d T S q L hq ys (by omega), hl, turnL_at _ _ _ _ _ h1, turnL_at _ _ _ _ _ (by omega)]
  split
  · exact absD_mirror (hx _ h1) (hy _ (by omega))
  · rfl
theorem win_hist (d T S q L : Nat) (hq : 0 < q) (xs ys : List Nat) (hl : ys.length = xs.length) (hx : ∀ i, i < xs.length → xs.getD i 0 < L) (hy : ∀ i, i < ys.length → ys.getD i 0 < L) :
    histL (fun i => absD (xs.getD i 0) (ys.getD i 0)) xs.length = histL (fun p => absD ((winL d T S q L xs).getD p 0) ((winL d T S q L ys).getD p 0)) xs.length := by
  unfold histL
  refine List.map_congr_left fun x _ => ?_
  rw [hist_congr (fun p hp => win_dist d T S q L hq xs ys hl hx hy hp) x]
  rw [hist_perm (σ := pos xs.length (colC xs.length q)) (τ := ord xs.length (colC xs.length q)) (fun i hi => ord_mem hq hi) (fun i hi => ?_) (fun i => absD (xs.getD i 0) (ys.getD i 0)) x]
  obtain ⟨h1, h2⟩ := colC_pos (n := xs.length) (r := q) (by omega) hq
  exact ⟨ord_lt h1 h2 hi, pos_ord h1 h2 hi⟩
end Go.Proofs.Ytlbfndibgojbiaa
