/- What lies in memory while Spectrum works: the codes' box, the row of counts, the row of maps. -/
import Derived.Test.YtpmnbdkncmjafaaRows
import Derived.Test.YtpmnbdkncmjafaaSpecM
import Derived.Test.YtpmnbdkncmjafaaProf
namespace Go.Proofs.Ytpmnbdkncmjafaa
open Go.RowKit

section
variable {P : Program} {t k e : TypeId} {α β : Type} {M : MapK P t k e α β} {w : World} {b n : Nat} {f : α → Option β}
open Classical in
/-- no more entries than keys that may be -/
theorem MapF.tight (h : MapF M w b n f) (l : List α) (hl : ∀ x, M.ok x → f x ≠ none → x ∈ l) : MapF M w b l.length f := by
  obtain ⟨D, ⟨es, clock, hb, F, hs, rfl⟩, g⟩ := h
  refine ⟨_, ⟨es, clock, hb, F, ?_, rfl⟩, g⟩
  have h1 : ((es.toList.map (WideElems.rg P k M.R)).map Prod.fst).Nodup := by
    rw [List.nodup_iff_pairwise_ne, List.pairwise_map]
    exact Maps.fit_apart M.K F
  have h2 : ∀ y ∈ (es.toList.map (WideElems.rg P k M.R)).map Prod.fst, y ∈ l.map M.lt := fun y hy => by
    obtain ⟨p, hp, rfl⟩ := List.mem_map.1 hy
    obtain ⟨x, hx, rfl⟩ := List.mem_map.1 hp
    obtain ⟨y, hy⟩ := F.reads x hx
    have hk := WideElems.rd_key hy
    obtain ⟨u, hu, ek⟩ := M.inv _ _ hk
    rw [ek, M.hkey u hu] at hk
    refine List.mem_map.2 ⟨u, hl u hu fun e => ?_, ?_⟩
    · have hhas : Maps.has (DataW.map ((es.toList.map (WideElems.rg P k M.R)).foldr DataW.insert [])) (M.lt u) = true :=
        List.any_eq_true.2 ⟨WideElems.rg P k M.R x, mem_sorted.2 (List.mem_map.2 ⟨_, hx, rfl⟩), by
          rw [WideElems.rg_of hy, ← Option.some.inj hk]; exact WideAt.sameKey_self (M.isKey hu)⟩
      have := (g u hu).has
      rw [e, hhas] at this
      cases this
    · rw [WideElems.rg_of hy]; exact Option.some.inj hk
  have := h1.length_le_of_subset h2
  simpa using this
end
def mapI : MapK Try.prog 74 22 3 Nat Int where
  und := Try.underlying74
  K := Go.Maps.int_keyed Try.underlying22
  kv := fun n => .int .u32 (n : Int)
  lt := fun n => .int .u32 (n : Int)
  ok := fun n => n ≤ 4294967295
  mv := fun n => .int .i64 n
  vok := fun _ => True
  zero := 0
  vzero := trivial
  hz := fun w => by kernel_rfl
  hkey := fun x hx => Go.Maps.keyOf_int_mk Try.underlying22 (by simp [Lit.wf, IntKind.min, IntKind.max, IntKind.signed, IntKind.bits]; omega)
  linj := fun x y _ _ h => by injection h with _ h; omega
  inv := fun key kl h => keyOf_u32_inv Try.underlying22 h
  vinj := fun c d h => by injection h
/-- where the fixed blocks lie -/
structure SpecFix where
  bc : Nat
  bm : Nat
  bo : Nat
  bp : Nat
  go : Nat
  gp : Nat
  S0 : Nat
  hc : bc < S0
  hm : bm < S0
  ho : bo < S0
  hp : bp < S0
  hgo : go < S0
  hgp : gp < S0
  co : bc ≠ go
  cp : bc ≠ gp
  mo : bm ≠ go
  mp : bm ≠ gp
  oo : bo ≠ go
  op : bo ≠ gp
  po : bp ≠ go
  pp : bp ≠ gp
  gg : go ≠ gp
structure SpecSt (X : SpecFix) (n : Nat) (R : Int) (a b c most : Nat) (wr : World) (lab : Nat → Nat) (f : Nat → Nat → Option Int) (out : Nat → Int) : Prop where
  c0 : wr.cell? ⟨X.bc, 0, none⟩ = some (.int .i64 (n + 1))
  c1 : wr.cell? ⟨X.bc, 1, none⟩ = some (.int .i64 R)
  c2 : wr.cell? ⟨X.bc, 2, none⟩ = some (.int .u32 a)
  c3 : wr.cell? ⟨X.bc, 3, none⟩ = some (.int .u32 b)
  c4 : wr.cell? ⟨X.bc, 4, none⟩ = some (.int .u32 c)
  m0 : wr.cell? ⟨X.bm, 0, none⟩ = some (.int .i64 most)
  o0 : wr.cell? ⟨X.bo, 0, none⟩ = some (.slice (some ⟨X.go, 0, none⟩) (most + 1) (most + 1))
  p0 : wr.cell? ⟨X.bp, 0, none⟩ = some (.slice (some ⟨X.gp, 0, none⟩) (most + 1) (most + 1))
  ov : ∀ v, v ≤ most → wr.cell? ⟨X.go, v, none⟩ = some (.int .i64 (out v))
  of : ∀ v, v ≤ most → wr.frozen? ⟨X.go, v, none⟩ = false
  pv : ∀ v, v ≤ most → wr.cell? ⟨X.gp, v, none⟩ = some (.map (some (lab v)))
  pf : ∀ v, v ≤ most → wr.frozen? ⟨X.gp, v, none⟩ = false
  mp : ∀ v, v ≤ most → MapF mapI wr (lab v) 4294967296 (f v)
  lb : ∀ v, v ≤ most → X.S0 ≤ lab v
  li : ∀ v v', v ≤ most → v' ≤ most → lab v = lab v' → v = v'
  sz : X.S0 ≤ wr.heap.size
  dom : ∀ v, v ≤ most → ∀ s q, f v s = some q → s ≠ 0 ∧ s < 2 ^ n ∧ -9223372036854775808 ≤ q ∧ q ≤ 9223372036854775807
  rng : ∀ v, v ≤ most → -9223372036854775808 ≤ out v ∧ out v ≤ 9223372036854775807
section
variable {X : SpecFix} {n : Nat} {R : Int} {a b c most : Nat} {w w' : World} {lab : Nat → Nat} {f : Nat → Nat → Option Int} {out : Nat → Int}
/-- cells of blocks that stay -/
theorem cellK {b o : Nat} {v : Value} (hk : w'.heap[b]? = w.heap[b]?) (h : w.cell? ⟨b, o, none⟩ = some v) : w'.cell? ⟨b, o, none⟩ = some v := (World.cell?_of_block (a := ⟨b, o, none⟩) hk).trans h
theorem frzK {b o : Nat} (hk : w'.heap[b]? = w.heap[b]?) (h : w.frozen? ⟨b, o, none⟩ = false) : w'.frozen? ⟨b, o, none⟩ = false := (World.frozen?_of_block (a := ⟨b, o, none⟩) hk).trans h
theorem SpecSt.below (h : SpecSt X n R a b c most w lab f out) (hb : Below w.heap.size w w') : SpecSt X n R a b c most w' lab f out := by
  have hS := h.sz
  have hk : ∀ k, k < X.S0 → w'.heap[k]? = w.heap[k]? := fun k hk => hb.block k (by omega)
  exact ⟨cellK (hk _ X.hc) h.c0, cellK (hk _ X.hc) h.c1, cellK (hk _ X.hc) h.c2, cellK (hk _ X.hc) h.c3, cellK (hk _ X.hc) h.c4, cellK (hk _ X.hm) h.m0, cellK (hk _ X.ho) h.o0, cellK (hk _ X.hp) h.p0,
    fun v hv => cellK (hk _ X.hgo) (h.ov v hv), fun v hv => frzK (hk _ X.hgo) (h.of v hv), fun v hv => cellK (hk _ X.hgp) (h.pv v hv), fun v hv => frzK (hk _ X.hgp) (h.pf v hv),
    fun v hv => (h.mp v hv).below hb, h.lb, h.li, Nat.le_trans hS hb.size, h.dom, h.rng⟩
theorem SpecSt.set (h : SpecSt X n R a b c most w lab f out) {v : Nat} (hv : v ≤ most) (q : Int) (hq : -9223372036854775808 ≤ q ∧ q ≤ 9223372036854775807) : SpecSt X n R a b c most (w.setCell ⟨X.go, v, none⟩ (.int .i64 q)) lab f (fun u => if u = v then q else out u) := by
  have hg : w.grownBy (w.setCell ⟨X.go, v, none⟩ (.int .i64 q)) (some X.go) := grownBy_set (World.grownBy.refl w _) _ _ (.inl rfl)
  have hS := h.sz
  have hk : ∀ k, k < X.S0 → k ≠ X.go → (w.setCell ⟨X.go, v, none⟩ (.int .i64 q)).heap[k]? = w.heap[k]? := fun k hk hne => hg.block k (by omega) (by simpa using hne)
  refine ⟨cellK (hk _ X.hc X.co) h.c0, cellK (hk _ X.hc X.co) h.c1, cellK (hk _ X.hc X.co) h.c2, cellK (hk _ X.hc X.co) h.c3, cellK (hk _ X.hc X.co) h.c4, cellK (hk _ X.hm X.mo) h.m0, cellK (hk _ X.ho X.oo) h.o0, cellK (hk _ X.hp X.po) h.p0,
    fun u hu => ?_, fun u hu => ?_, fun u hu => cellK (hk _ X.hgp X.gg.symm) (h.pv u hu), fun u hu => frzK (hk _ X.hgp X.gg.symm) (h.pf u hu),
    fun u hu => (h.mp u hu).grown hg (by have := h.lb u hu; have := X.hgo; simp; omega), h.lb, h.li, by simpa using hS, h.dom, fun u hu => ?_⟩
  · have hlt : X.go < w.heap.size := by have := X.hgo; omega
    have hc := h.ov v hv
    by_cases e : u = v
    · subst e
      rw [if_pos rfl]
      rw [World.cell?_setCell_same _ _ _ hc]
    · rw [if_neg e, World.cell?_setCell_other _ _ _ _ (by intro e3; injection e3 with _ e3 _; omega)]
      exact h.ov u hu
  · rw [World.frozen?_setCell]; exact h.of u hu
  · by_cases e : u = v
    · rw [if_pos e]; exact hq
    · rw [if_neg e]; exact h.rng u hu
/-- the keys that may be -/
theorem SpecSt.tight (hf : ∀ s q, (f 0) s = some q → s < 2 ^ n) (hn : n ≤ 31) {bk N : Nat} (h : MapF mapI w bk N (f 0)) : MapF mapI w bk 4294967295 (f 0) := by
  have hp : 2 ^ n ≤ 2 ^ 31 := Nat.pow_le_pow_right (by omega) hn
  have := h.tight (List.range (2 ^ n)) fun x _ hx => by
    cases e : f 0 x with
    | none => exact absurd e hx
    | some q => exact List.mem_range.2 (hf x q e)
  refine this.mono ?_
  rw [List.length_range]; omega
theorem SpecSt.put (h : SpecSt X n R a b c most w lab f out) {v t : Nat} {q : Int} (hv : v ≤ most) (hn : n ≤ 31) (ht0 : t ≠ 0) (ht : t < 2 ^ n) (hq : -9223372036854775808 ≤ q ∧ q ≤ 9223372036854775807) {N : Nat}
    (hm : MapF mapI w' (lab v) N (fun s => if s = t then some q else f v s)) (hg : w.grownBy w' (some (lab v))) : SpecSt X n R a b c most w' lab (fun u s => if u = v ∧ s = t then some q else f u s) out := by
  have hS := h.sz
  have hl := h.lb v hv
  have hk : ∀ k, k < X.S0 → w'.heap[k]? = w.heap[k]? := fun k hk => hg.block k (by omega) (by simp; omega)
  have hd : ∀ s q', (if s = t then some q else f v s) = some q' → s ≠ 0 ∧ s < 2 ^ n ∧ -9223372036854775808 ≤ q' ∧ q' ≤ 9223372036854775807 := fun s q' e => by
    by_cases es : s = t
    · rw [if_pos es] at e; cases e; exact ⟨by omega, by omega, hq⟩
    · rw [if_neg es] at e; exact h.dom v hv s q' e
  refine ⟨cellK (hk _ X.hc) h.c0, cellK (hk _ X.hc) h.c1, cellK (hk _ X.hc) h.c2, cellK (hk _ X.hc) h.c3, cellK (hk _ X.hc) h.c4, cellK (hk _ X.hm) h.m0, cellK (hk _ X.ho) h.o0, cellK (hk _ X.hp) h.p0,
    fun v hv => cellK (hk _ X.hgo) (h.ov v hv), fun v hv => frzK (hk _ X.hgo) (h.of v hv), fun v hv => cellK (hk _ X.hgp) (h.pv v hv), fun v hv => frzK (hk _ X.hgp) (h.pf v hv),
    fun u hu => ?_, h.lb, h.li, Nat.le_trans hS hg.size, fun u hu s q' e => ?_, h.rng⟩
  · by_cases e : u = v
    · subst e
      have := SpecSt.tight (f := fun _ s => if s = t then some q else f u s) (fun s q' e => (hd s q' e).2.1) hn hm
      refine (this.mono (by omega)).congr fun x _ => ?_
      simp
    · refine ((h.mp u hu).grown hg (by simp; exact fun e2 => e (h.li u v hu hv e2))).congr fun x _ => ?_
      simp [e]
  · by_cases e2 : u = v
    · subst e2; exact hd s q' (by simpa using e)
    · exact h.dom u hu s q' (by simpa [e2] using e)
/-- a new map laid into the row -/
theorem SpecSt.fresh (h : SpecSt X n R a b c most w lab f out) {v bk N : Nat} (hv : v ≤ most) (hbk : X.S0 ≤ bk) (hne : ∀ u, u ≤ most → lab u ≠ bk) (hm : MapF mapI w bk N fun _ => none) (hN : N ≤ 4294967296) :
    SpecSt X n R a b c most (w.setCell ⟨X.gp, v, none⟩ (.map (some bk))) (fun u => if u = v then bk else lab u) (fun u s => if u = v then none else f u s) out := by
  have hg : w.grownBy (w.setCell ⟨X.gp, v, none⟩ (.map (some bk))) (some X.gp) := grownBy_set (World.grownBy.refl w _) _ _ (.inl rfl)
  have hS := h.sz
  have hk : ∀ k, k < X.S0 → k ≠ X.gp → (w.setCell ⟨X.gp, v, none⟩ (.map (some bk))).heap[k]? = w.heap[k]? := fun k hk hne => hg.block k (by omega) (by simpa using hne)
  refine ⟨cellK (hk _ X.hc X.cp) h.c0, cellK (hk _ X.hc X.cp) h.c1, cellK (hk _ X.hc X.cp) h.c2, cellK (hk _ X.hc X.cp) h.c3, cellK (hk _ X.hc X.cp) h.c4, cellK (hk _ X.hm X.mp) h.m0, cellK (hk _ X.ho X.op) h.o0, cellK (hk _ X.hp X.pp) h.p0,
    fun u hu => cellK (hk _ X.hgo X.gg) (h.ov u hu), fun u hu => frzK (hk _ X.hgo X.gg) (h.of u hu), fun u hu => ?_, fun u hu => ?_,
    fun u hu => ?_, fun u hu => ?_, fun u u' hu hu' e => ?_, by simpa using hS, fun u hu s q e => ?_, h.rng⟩
  · by_cases e : u = v
    · subst e
      rw [if_pos rfl, World.cell?_setCell_same _ _ _ (h.pv u hu)]
    · rw [if_neg e, World.cell?_setCell_other _ _ _ _ (by intro e3; injection e3 with _ e3 _; omega)]
      exact h.pv u hu
  · rw [World.frozen?_setCell]; exact h.pf u hu
  · have hgp := X.hgp
    by_cases e : u = v
    · subst e
      have h2 := (hm.grown hg (by simp; omega)).mono hN
      simpa using h2
    · have h2 := (h.mp u hu).grown hg (by have := h.lb u hu; simp; omega)
      simpa [e] using h2
  · by_cases e : u = v
    · rw [if_pos e]; exact hbk
    · rw [if_neg e]; exact h.lb u hu
  · by_cases e1 : u = v
    · by_cases e2 : u' = v
      · omega
      · rw [if_pos e1, if_neg e2] at e
        exact absurd e.symm (hne u' hu')
    · by_cases e2 : u' = v
      · rw [if_neg e1, if_pos e2] at e
        exact absurd e (hne u hu)
      · rw [if_neg e1, if_neg e2] at e
        exact h.li u u' hu hu' e
  · by_cases e1 : u = v
    · simp [e1] at e
    · exact h.dom u hu s q (by simpa [e1] using e)
end
end Go.Proofs.Ytpmnbdkncmjafaa
