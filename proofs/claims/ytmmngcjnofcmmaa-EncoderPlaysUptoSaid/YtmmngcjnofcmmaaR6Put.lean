/- outpostref06.Encoder: Put, walked. -/
import Derived.Test.YtmmngcjnofcmmaaRows
import Derived.Test.YtmmngcjnofcmmaaR6St
import Derived.Deep.RegionHeld3
namespace Go.Proofs.Ytmmngcjnofcmmaa
open Go.RowKit

/-- the cells of a list of the reference's encoders, of one code; what bits each has -/
def encC (K R : Int) (a b c : Nat) : List Value → List Value
  | [] => []
  | v :: vs => .int .i64 K :: .int .i64 R :: .int .u32 a :: .int .u32 b :: .int .u32 c :: v :: encC K R a b c vs
section
variable {K R : Int} {a b c : Nat}
theorem encC_length : ∀ vs, (encC K R a b c vs).length = vs.length * 6
  | [] => rfl
  | v :: vs => by simp only [encC, List.length_cons, encC_length vs]; omega
theorem encC_app : ∀ vs ws, encC K R a b c (vs ++ ws) = encC K R a b c vs ++ encC K R a b c ws
  | [], ws => rfl
  | v :: vs, ws => by simp only [List.cons_append, encC, encC_app vs ws]
theorem encC_at : ∀ (vs : List Value) (k : Nat) (v : Value), vs[k]? = some v → (encC K R a b c vs)[6 * k]? = some (.int .i64 K) ∧ (encC K R a b c vs)[6 * k + 1]? = some (.int .i64 R) ∧ (encC K R a b c vs)[6 * k + 2]? = some (.int .u32 a) ∧ (encC K R a b c vs)[6 * k + 3]? = some (.int .u32 b) ∧ (encC K R a b c vs)[6 * k + 4]? = some (.int .u32 c) ∧ (encC K R a b c vs)[6 * k + 5]? = some v
  | [], k, v, h => by simp at h
  | u :: vs, 0, v, h => by simp at h; subst h; exact ⟨rfl, rfl, rfl, rfl, rfl, rfl⟩
  | u :: vs, k + 1, v, h => by
    have ih := encC_at vs k v (by simpa using h)
    rw [show 6 * (k + 1) = 6 * k + 6 by omega]
    exact ih
theorem encC_set : ∀ (vs : List Value) (k : Nat) (v : Value), (encC K R a b c vs).set (6 * k + 5) v = encC K R a b c (vs.set k v)
  | [], k, v => rfl
  | u :: vs, 0, v => rfl
  | u :: vs, k + 1, v => by
    rw [show 6 * (k + 1) + 5 = 6 * k + 5 + 6 by omega]
    show _ :: _ :: _ :: _ :: _ :: _ :: ((encC K R a b c vs).set (6 * k + 5) v) = _
    rw [encC_set vs k v]; rfl
end
def OwnE (w : World) (B : Nat) (v : Value) (K R : Int) (a b c : Nat) (vs : List Value) : Prop := w.ownsRow B 58 6 v vs.length (encC K R a b c vs)
section
variable {w w' : World} {B : Nat} {v : Value} {K R : Int} {a b c : Nat} {vs : List Value}
theorem OwnE.lt (h : OwnE w B v K R a b c vs) {g : Nat} (hg : v.ownBlock = some g) : B ≤ g ∧ g < w.heap.size := World.ownsRow.lt h g hg
theorem OwnE.keep (h : OwnE w B v K R a b c vs) (hk : ∀ g, v.ownBlock = some g → w'.heap[g]? = w.heap[g]?) : OwnE w' B v K R a b c vs := by
  obtain ⟨h1, h2⟩ := h
  refine ⟨h1, ?_⟩
  rcases h2 with h2 | ⟨g, cap, cur, rfl, hbg, hg, r⟩
  · exact .inl h2
  · exact .inr ⟨g, cap, cur, rfl, hbg, (hk g rfl).trans hg, r⟩
theorem OwnE.below (h : OwnE w B v K R a b c vs) (hb : Below w.heap.size w w') : OwnE w' B v K R a b c vs := h.keep fun _ hg => hb.block _ (h.lt hg).2
theorem OwnE.grown {row : Option Nat} (h : OwnE w B v K R a b c vs) (hb : w.grownBy w' row) (hne : ∀ g, v.ownBlock = some g → some g ≠ row) : OwnE w' B v K R a b c vs :=
  h.keep fun _ hg => hb.block _ (h.lt hg).2 (hne _ hg)
theorem OwnE.at_ {g m cp k : Nat} {u : Value} (h : OwnE w B (.slice (some ⟨g, 0, none⟩) m cp) K R a b c vs) (hu : vs[k]? = some u) : EncAt w g (6 * k) K R a b c u := by
  obtain ⟨h0, h1, h2, h3, h4, h5⟩ := encC_at (K := K) (R := R) (a := a) (b := b) (c := c) vs k u hu
  have hc := fun j u (hj : (encC K R a b c vs)[j]? = some u) => (by have := World.ownsRow.cells h (g := g) rfl j u hj; rwa [addr_plain, Nat.zero_add] at this : w.cell? ⟨g, j, none⟩ = some u)
  exact ⟨hc _ _ h0, hc _ _ h1, hc _ _ h2, hc _ _ h3, hc _ _ h4, hc _ _ h5⟩
theorem OwnE.frz {g m cp : Nat} (h : OwnE w B (.slice (some ⟨g, 0, none⟩) m cp) K R a b c vs) (hm : m = vs.length) (j : Nat) : w.frozen? ⟨g, j, none⟩ = false := by
  subst hm; exact World.ownsRow.frozenAt h j
theorem OwnE.set {g m cp : Nat} (h : OwnE w B (.slice (some ⟨g, 0, none⟩) m cp) K R a b c vs) (hm : m = vs.length) (k : Nat) (u : Value) :
    OwnE (w.setCell ⟨g, 6 * k + 5, none⟩ u) B (.slice (some ⟨g, 0, none⟩) m cp) K R a b c (vs.set k u) := by
  subst hm
  have h1 := (World.ownsRow.stored h (6 * k + 5) u).1
  rw [encC_set] at h1
  unfold OwnE
  rw [List.length_set]
  exact h1
theorem EncAt.below {g o : Nat} (h : EncAt w g o K R a b c v) (hb : Below w.heap.size w w') (hg : g < w.heap.size) : EncAt w' g o K R a b c v :=
  ⟨bcell hb hg h.c0, bcell hb hg h.c1, bcell hb hg h.c2, bcell hb hg h.c3, bcell hb hg h.c4, bcell hb hg h.c5⟩
end
set_option maxHeartbeats 400000 in
theorem rput6_bad (g o : Nat) (x : Nat) (hx : 1 < x) (hx2 : x ≤ 255) (w : World) :
    Calls Try.prog 30 #[.pointer (some ⟨g, o, none⟩), .int .u8 x] w fun e w' => e = .returned (.tuple #[.slice none 0 0, .int .i64 10]) ∧ w = w' := by
  have h : (1 : Int) < x := by omega
  clear hx
  go_enter Try.func30, Try.ntmps30
  go_wp2_with fail
  go_ret2
  exact ⟨rfl, rfl⟩
theorem take_step6 {L : List Nat} {m : Nat} (h : m < L.length) : L.take m ++ [L.getD m 0] = L.take (m + 1) := by
  rw [List.take_succ_eq_append_getElem h, List.getD_eq_getElem?_getD, List.getElem?_eq_getElem h]; rfl
theorem row1_new (w : World) (y : Nat) : RowA (w.alloc (.cells #[.int .u8 y] 5)) (some ⟨w.heap.size, 0, none⟩) [y] := fun _ => ⟨w.heap.size, 0, rfl, by simp, fun i hi => by
  obtain rfl : i = 0 := by simpa using hi
  simp [go_sem]⟩
/-- what a round of Put reads -/
def PutS (g o : Nat) (K R : Int) (a b c : Nat) (v : Value) (w0 u : World) : Prop :=
  u.cell? ⟨g, o, none⟩ = some (.int .i64 K) ∧ u.cell? ⟨g, o + 1, none⟩ = some (.int .i64 R) ∧ u.cell? ⟨g, o + 2, none⟩ = some (.int .u32 a) ∧ u.cell? ⟨g, o + 3, none⟩ = some (.int .u32 b) ∧ u.cell? ⟨g, o + 4, none⟩ = some (.int .u32 c) ∧ u.cell? ⟨g, o + 5, none⟩ = some v ∧ Below w0.heap.size w0 u
theorem PutS.keep {g o : Nat} {K R : Int} {a b c : Nat} {v : Value} {w0 u u' : World} (h : PutS g o K R a b c v w0 u) (hg : g < w0.heap.size) (hb : Below u.heap.size u u') : PutS g o K R a b c v w0 u' := by
  obtain ⟨c0, c1, c2, c3, c4, c5, c8⟩ := h
  have h1 := Nat.lt_of_lt_of_le hg c8.size
  exact ⟨bcell hb h1 c0, bcell hb h1 c1, bcell hb h1 c2, bcell hb h1 c3, bcell hb h1 c4, bcell hb h1 c5, below_then c8 hb⟩
theorem PutS.grown {g o : Nat} {K R : Int} {a b c : Nat} {v : Value} {w0 u u' : World} {row : Option Nat} (h : PutS g o K R a b c v w0 u) (hg : g < w0.heap.size) (hb : u.grownBy u' row) (hr : ∀ q, row = some q → w0.heap.size ≤ q) : PutS g o K R a b c v w0 u' := by
  obtain ⟨c0, c1, c2, c3, c4, c5, c8⟩ := h
  have h8 : Below w0.heap.size w0 u' := c8.grown hb c8.size hr
  have e : ∀ j, u'.cell? ⟨g, j, none⟩ = u.cell? ⟨g, j, none⟩ := fun j => (h8.cell (p := ⟨g, j, none⟩) hg).trans (c8.cell (p := ⟨g, j, none⟩) hg).symm
  exact ⟨(e _).trans c0, (e _).trans c1, (e _).trans c2, (e _).trans c3, (e _).trans c4, (e _).trans c5, h8⟩
set_option maxRecDepth 100000 in
set_option maxHeartbeats 300000 in
theorem rput6_any (n r a b c g m cp k B : Nat) (hr : r = 2 ∨ r = 3) (hn : 2 ≤ n ∧ n ≤ 31) (hA : a ≤ 4294967295) (hB : b ≤ 4294967295) (hC : c ≤ 4294967295) (hck : checkF (n + 1) r a b c = 0) (vs : List Value) (hk : k < m) (ad : Option Addr) (cap : Nat) (xs : List Nat) (hv : vs[k]? = some (.slice ad xs.length cap))
    (hl : xs.length + 1 ≤ 140737488351232) (hb : Bits xs) (x : Nat) (hx : x ≤ 1) (w : World) (hE : OwnE w B (.slice (some ⟨g, 0, none⟩) m cp) (n + 1) r a b c vs) (hm : m = vs.length) (hR : RowA w ad xs) :
    Calls Try.prog 30 #[.pointer (some ⟨g, 6 * k, none⟩), .int .u8 x] w fun e w' => ∃ v v2, e = .returned (.tuple #[v, .int .i64 0]) ∧ OwnB w' w.heap.size v (symK r a b c (2 * stAt n 0 xs xs.length + x)) ∧ OwnB w' w.heap.size v2 (xs ++ [x]) ∧ OwnE w' B (.slice (some ⟨g, 0, none⟩) m cp) (n + 1) r a b c (vs.set k v2) ∧ w.grownBy w' (some g) ∧ ∀ q, v2.ownBlock = some q → v.ownBlock ≠ some q := by
  have hEA := hE.at_ hv
  have hglt := (hE.lt (g := g) rfl).2
  have hgB := (hE.lt (g := g) rfl).1
  have hbx : Bits (xs ++ [x]) := fun i hi => by
    rw [List.length_append, List.length_singleton] at hi
    rw [List.getD_eq_getElem?_getD]
    by_cases e : i < xs.length
    · rw [List.getElem?_append_left e, ← List.getD_eq_getElem?_getD]; exact hb i e
    · rw [List.getElem?_append_right (by omega), show i - xs.length = 0 by omega]; exact hx
  have hlx : (xs ++ [x]).length = xs.length + 1 := by simp
  have hsym : ∀ i, i < r → (symK (r : Int) a b c (2 * stAt n 0 xs xs.length + x)).getD i 0 = symP (genN a b c i) (xs ++ [x]) xs.length (n + 1) := fun i hi => by
    have hrate : rateN (r : Int) = r := by rcases hr with rfl | rfl <;> rfl
    rw [symK_at (by rw [hrate]; exact hi)]
    have h1 := outF_sym (n := n) (xs := xs ++ [x]) hbx.all hn.2 (gen_lt hck (by rw [hrate]; exact hi)) xs.length
    have h2 : stAt n 0 (xs ++ [x]) xs.length = stAt n 0 xs xs.length := stAt_congr _ fun i hi => by rw [List.getD_eq_getElem?_getD, List.getElem?_append_left hi, ← List.getD_eq_getElem?_getD]
    have h3 : (xs ++ [x]).getD xs.length 0 = x := by rw [List.getD_eq_getElem?_getD, List.getElem?_append_right (Nat.le_refl _), Nat.sub_self]; rfl
    rw [h2, h3] at h1
    exact h1
  have hsl : (symK (r : Int) a b c (2 * stAt n 0 xs xs.length + x)).length = r := by
    rw [symK_rate]; rcases hr with rfl | rfl <;> rfl
  generalize symK (r : Int) a b c (2 * stAt n 0 xs xs.length + x) = ls at *
  have HSYM := hide hsym
  have HSL := hide hsl
  have HLX := hide hlx
  have HE := hide hE
  have HV := hide hv
  have HM := hide hm
  have HR := hide hR
  have HBX := hide hbx
  have HSY := hide fun (ad2 : Option Addr) (cap2 i : Nat) (hi : i < 3) (u : World) (hu : RowA u ad2 (xs ++ [x])) => rsymbol_any n a b c r hn.2 hA hB hC ad2 cap2 (xs ++ [x]) (by rw [hlx]; omega) hbx i xs.length hi (by omega) u hu
  have H0 := hide (show OwnB (w.alloc (.cells #[] 5)) w.heap.size (.slice (some ⟨w.heap.size, 0, none⟩) 0 0) [] from World.ownsRow_lit w #[] 0 (Nat.le_refl _) (by unfold maxLen; omega) rfl)
  obtain ⟨o, ho⟩ : ∃ o, 6 * k = o := ⟨_, rfl⟩
  rw [ho] at hEA ⊢
  have HKO := hide ho
  obtain ⟨c0, c1, c2, c3, c4, c5⟩ := hEA
  clear ho
  clear hE hm hR hbx hsym hsl hlx hb hck hv
  go_enter Try.func30, Try.ntmps30
  go_wp2_with (first
    | (at_builtin; refine wpList_appB rfl (.tmp 11) (.tmp 15) rfl w.heap.size _ [] rfl H0.out ad xs.length cap xs rfl (HR.out.alloc _) rfl ?d1 ?d2 ?_)
    | go_in)
  case d1 => simp; omega
  case d2 => simp
  intro v1 w1 ho1 hg1 _
  have HB1 := hide (((Below.refl w.heap.size w).alloc (Nat.le_refl _) (.cells #[] 5)).grown hg1 (by simp) (fun k e => by simp [Value.ownBlock] at e; omega))
  have hz1 := HB1.out.size
  have HO1 := hide (OwnB.alloc ho1 (.cells #[.int .u8 x] 5))
  have HLT1 := hide (fun g (e : v1.ownBlock = some g) => OwnB.lt ho1 e)
  clear ho1 hg1
  go_wp2_with (first
    | (at_builtin; refine wpList_appB rfl (.tmp 16) (.tmp 18) rfl w.heap.size v1 xs rfl HO1.out (some ⟨w1.heap.size, 0, none⟩) 1 1 [x] rfl ?e1 rfl ?e2 ?e3 ?_)
    | go_in)
  case e1 => exact fun _ => ⟨w1.heap.size, 0, rfl, by simp, fun i hi => by
    obtain rfl : i = 0 := by simpa using hi
    simp [go_sem]⟩
  case e2 => simp only [List.length_cons, List.length_nil]; omega
  case e3 => simp; omega
  intro v2 w2 ho2 hg2 _
  have HB2 := hide ((HB1.out.alloc HB1.out.size (.cells #[.int .u8 x] 5)).grown hg2 (by simp; omega) (fun g e => (HLT1.out g e).1))
  have hz2 := HB2.out.size
  obtain ⟨ad2, cap2, hv2, hrow2⟩ := OwnB.row ho2
  rw [HLX.out] at hv2
  obtain ⟨l1, hl1⟩ : ∃ l1, l1 = xs.length + 1 := ⟨_, rfl⟩
  rw [← hl1] at hv2 HLX
  subst hv2
  have HL1 := hide hl1
  clear hl1
  have hE2 := HE.out.below HB2.out
  have d5 := (hE2.at_ HV.out).c5
  rw [HKO.out] at d5
  have f5 := hE2.frz HM.out (o + 5)
  have hE3 := hE2.set HM.out k (.slice ad2 l1 cap2)
  rw [HKO.out] at hE3
  have hat3 := hE3.at_ (k := k) (u := .slice ad2 l1 cap2) (List.getElem?_set_self (by rw [← HM.out]; exact hk))
  rw [HKO.out] at hat3
  have hvb : ∀ q, (Value.slice ad2 l1 cap2).ownBlock = some q → w.heap.size ≤ q ∧ q < w2.heap.size := fun q e => OwnB.lt ho2 e
  have HO3 := hide (OwnB.far ho2 (p := ⟨g, o + 5, none⟩) (fun q e => by have := (hvb q e).1; show q ≠ g; omega) (.slice ad2 l1 cap2))
  have HR3 := hide (show RowA (w2.setCell ⟨g, o + 5, none⟩ (.slice ad2 l1 cap2)) ad2 (xs ++ [x]) by
    obtain ⟨ad3, cap3, e3, h3⟩ := HO3.out.row
    simp only [Value.slice.injEq] at e3
    have e4 := e3.1
    subst e4
    exact h3)
  have HG3 := hide (grownBy_set (p := ⟨g, o + 5, none⟩) (show w.grownBy w2 (some g) from ⟨HB2.out.os, HB2.out.tape, HB2.out.output, HB2.out.size, fun q hq _ => HB2.out.block q hq⟩) (.slice ad2 l1 cap2) (.inl rfl))
  have HE3 := hide hE3
  have HVB := hide hvb
  have HPS := hide (show PutS g o (n + 1) r a b c (.slice ad2 l1 cap2) (w2.setCell ⟨g, o + 5, none⟩ (.slice ad2 l1 cap2)) (w2.setCell ⟨g, o + 5, none⟩ (.slice ad2 l1 cap2)) from ⟨hat3.c0, hat3.c1, hat3.c2, hat3.c3, hat3.c4, hat3.c5, Below.refl _ _⟩)
  clear ho2 hg2 hrow2 hE2 hE3 hat3 hvb
  go_wp2_with fail
  have hz3 : (w2.setCell ⟨g, o + 5, none⟩ (.slice ad2 l1 cap2)).heap.size = w2.heap.size := by simp
  generalize (w2.setCell ⟨g, o + 5, none⟩ (.slice ad2 l1 cap2)) = w3 at *
  have hg3 : g < w3.heap.size := by omega
  go_loopw [6, 7] (fun v ii u => ∃ (j : Nat) (vo : Value), j ≤ r ∧ vo = v ∧ ii = .int .i64 j ∧ Hid (OwnB u w3.heap.size vo (ls.take j)) ∧ Hid (PutS g o (n + 1) r a b c (.slice ad2 l1 cap2) w3 u)) (fun _ ii _ => r - (intOf ii).toNat)
  case atStart => exact ⟨0, _, by omega, rfl, rfl, hide (by rw [List.take_zero]; exact OwnB.nil _ _), HPS⟩
  case round =>
    rename World => u
    obtain ⟨j, vo, hj, rfl, rfl, hO, hP⟩ := hrel
    clear HPS d5 f5 c0 c1 c2 c3 c4 c5
    obtain ⟨q0, q1, q2, q3, q4, q5, q8⟩ := hP.out
    have HQ8 := hide q8
    by_cases hjr : j < r
    · obtain ⟨y, hy⟩ : ∃ y, symP (genN a b c j) (xs ++ [x]) xs.length (n + 1) = y := ⟨_, rfl⟩
      have hts := take_step6 (L := ls) (m := j) (by rw [HSL.out]; exact hjr)
      rw [HSYM.out j hjr, hy] at hts
      have HT := hide hts
      have hlt : (ls.take j).length ≤ 3 := by rw [List.length_take]; omega
      have HSJ := hide (fun (u' : World) (h : PutS g o (n + 1) r a b c (.slice ad2 l1 cap2) w3 u') => HSY.out ad2 cap2 j (by omega) u' (HR3.out.below h.2.2.2.2.2.2))
      rw [hy, HLX.out] at HSJ
      have HKP := hide (fun (u1 u2 : World) (h : PutS g o (n + 1) r a b c (.slice ad2 l1 cap2) w3 u1) (hb : Below u1.heap.size u1 u2) => h.keep hg3 hb)
      have hlI : IntKind.i64.wrap ((l1 : Int) - 1) = (xs.length : Int) := by have := HL1.out; rw [IntWalk.i64_in _ ⟨by omega, by omega⟩]; omega
      have hlI3 : IntKind.i64.wrap (xs.length : Int) = (xs.length : Int) := IntWalk.i64_in _ ⟨by omega, by omega⟩
      have hwz := q8.size
      clear hy hts q8
      generalize ls.take j = tk at *
      go_wp2_with fail
      go_region_held3 (fun u' => u'.cell? ⟨g, o, none⟩ = some (.int .i64 (n + 1)) ∧ u'.cell? ⟨g, o + 1, none⟩ = some (.int .i64 r) ∧ u'.cell? ⟨g, o + 2, none⟩ = some (.int .u32 a) ∧ u'.cell? ⟨g, o + 3, none⟩ = some (.int .u32 b) ∧ u'.cell? ⟨g, o + 4, none⟩ = some (.int .u32 c) ∧ u'.cell? ⟨g, o + 5, none⟩ = some (.slice ad2 l1 cap2) ∧ Below w3.heap.size w3 u')
        (first | exact ⟨q0, q1, q2, q3, q4, q5, HQ8.out.drew⟩ | exact ⟨q0, q1, q2, q3, q4, q5, HQ8.out⟩ | assumption | exact HKP.out _ _ (by assumption) (by assumption) | exact HKP.out _ _ (by assumption) (Below.refl _ _) | exact HKP.out w5 _ (by assumption) ((Below.refl _ _).alloc (Nat.le_refl _) _) | exact PutS.grown (u := w5.alloc (.cells #[.int .u8 y] 5)) (by assumption) hg3 hg6 (fun q e => (hO.out.lt e).1))
        ((first
          | (go_at_call 50; refine (HSJ.out _ (by assumption)).mono ?_; rintro e w5 ⟨rfl, hb5⟩)
          | (refine step_appB rfl (.tmp 31) (.tmp 48) rfl w3.heap.size vo tk rfl (OwnB.alloc (OwnB.below hO.out (by first | exact hb5 | exact below_then ((Below.refl _ _).drew) hb5)) _) (some ⟨w5.heap.size, 0, none⟩) 1 1 [y] rfl (row1_new w5 y) rfl (by simp only [List.length_cons, List.length_nil]; omega) (by have := hb5.size; simp at this ⊢; omega) ?_; intro v6 w6 ho6 hg6 _)))
      rename_i hh6
      have HO6 := hide (show OwnB w6 w3.heap.size v6 (ls.take (j + 1)) by rw [← HT.out]; exact ho6)
      have HP6 := hide (show PutS g o (n + 1) r a b c (.slice ad2 l1 cap2) w3 w6 from hh6)
      clear hh6 ho6 hg6 hb5 q0 q1 q2 q3 q4 q5
      go_wp2_with fail
      go_roundw
      case rel => exact ⟨j + 1, v6, by omega, rfl, by simp, HO6, HP6⟩
      case measure => simp [intOf]; omega
    · obtain rfl : j = r := by omega
      have HLS := hide (show OwnB u w3.heap.size vo ls by have := hO.out; rwa [← HSL.out, List.take_length] at this)
      clear q8
      go_wp2_with fail
      go_ret2
      refine ⟨vo, _, rfl, HLS.out.mono (by omega), HO3.out.below HQ8.out, HE3.out.below HQ8.out, grownBy_below HG3.out HQ8.out, fun q e e2 => ?_⟩
      have h1 := (HVB.out q e).2
      have h2 := (HLS.out.lt e2).1
      omega
end Go.Proofs.Ytmmngcjnofcmmaa
