/- outpostref02.Rest, Factor, Irreducible, walked. -/
import Derived.Test.YtknkkoemghceeaaDoorRows
import Derived.Test.YtknkkoemghceeaaDoorFacM
import Derived.Test.YtknkkoemghceeaaDoorRef2W
import Derived.Test.YtknkkoemghceeaaDoorApart4
import Derived.Maps.AppendAt
namespace Go.Proofs.YtknkkoemghceeaaDoor
open Go.RowKit

theorem LongB.begin (a b : Nat) (ha : a ≤ 18446744073709551615) : LongB a b (Gf2.len a) a 0 :=
  ⟨0, Gf2.lt_len a, len_le64 ha, rfl, by simp, by rw [Gf2.cm_zero, Nat.zero_xor]⟩
set_option maxHeartbeats 1000000 in
theorem rrest_any (a b : Nat) (ha : a ≤ 18446744073709551615) (hb : b ≤ 18446744073709551615) (hb0 : b ≠ 0) (w : World) :
    Calls Tryd.prog 79 #[.int .u64 a, .int .u64 b] w fun e w' => e = .returned (.int .u64 (Gf2.rem a b : Nat)) ∧ w = w' := by
  obtain ⟨d, hd⟩ : ∃ d, Gf2.len b = d + 1 := ⟨_, Gf2.len_pos hb0⟩
  have hd64 : d < 64 := by have := len_le64 hb; omega
  have HDB := hide (rdegree_any b hb)
  rw [hd] at HDB
  have HDA := hide (rdegree_any a ha)
  have hla := len_le64 ha
  have hdI : ((d + 1 : Nat) : Int) - 1 = d := by omega
  rw [hdI] at HDB
  have HS := hide (LongB.begin a b ha)
  have HB := hide hb0
  have HD := hide hd
  clear hd hb0 hdI
  go_enter Tryd.func79, Tryd.ntmps79
  go_wp2_with fail
  refine (HDB.out _).mono ?_
  rintro e w' ⟨rfl, rfl⟩
  go_wp2_with fail
  refine (HDA.out _).mono ?_
  rintro e w' ⟨rfl, rfl⟩
  go_wp2_with fail
  go_loop [0, 6] (fun l i => ∃ (L q m : Nat), LongB a b m L q ∧ l = .int .u64 L ∧ i = .int .i64 ((m : Int) - 1)) (fun _ i => (1 + intOf i).toNat)
  case atStart => exact ⟨a, 0, _, HS.out, rfl, rfl⟩
  case round =>
    clear HS
    obtain ⟨L, q, m, hrel, rfl, rfl⟩ := hrel
    have hm := hrel.m_le
    have hL := hrel.lo_le
    have hR := hide hrel
    clear hrel
    by_cases hdm : m ≤ d
    · go_wp2_with fail
      go_ret
      obtain ⟨_, e2⟩ := hR.out.done (by rw [HD.out]; omega)
      exact ⟨by rw [← e2]; rfl, rfl⟩
    · obtain ⟨n, hn⟩ : ∃ n, m = n + 1 := ⟨m - 1, by omega⟩
      subst hn
      rw [show (((n + 1 : Nat) : Int) - 1) = (n : Int) by omega]
      have hdn : d ≤ n := by omega
      have HC := hide (rbit_any L n n hL rfl (by omega))
      clear hdm
      by_cases hbit : L / 2 ^ n % 2 = 1
      · have hN := hide (hR.out.next HB.out HD.out hbit hdn)
        rw [hbit] at HC
        have hmin : min (n - d) 64 = n - d := by omega
        clear hbit
        go_wp2_with fail
        refine (HC.out _).mono ?_
        rintro e w' ⟨rfl, rfl⟩
        go_wp2_with fail
        obtain ⟨l', q', g1, g2, g3⟩ := hN.out
        go_round
        case rel => exact ⟨l', q', n, g1, by rw [g2], rfl⟩
        case measure => simp [intOf]; omega
      · have hb0 : L / 2 ^ n % 2 = 0 := by omega
        have hN := hide (hR.out.stay hb0)
        rw [hb0] at HC
        clear hbit hb0
        go_wp2_with fail
        refine (HC.out _).mono ?_
        rintro e w' ⟨rfl, rfl⟩
        go_wp2_with fail
        go_round
        case rel => exact ⟨L, q, n, hN.out, rfl, rfl⟩
        case measure => simp [intOf]; omega
theorem inf_fac : ∃ i : TypeInfo, ∃ z : Value, Tryd.prog.info? 122 = some i ∧ i.zero = some z ∧ z.cells.size = 2 ∧ i.size = 2 ∧ i.bytes = 16 := ⟨Tryd.t122, .agg #[.int .u64 0, .int .i64 0], by kernel_rfl, by kernel_rfl, by kernel_rfl, by kernel_rfl, by kernel_rfl⟩
/-- the factors' cells: of each its polynomial and how often it goes in -/
def facC : List (Nat × Nat) → List Value
  | [] => []
  | x :: l => .int .u64 (x.1 : Nat) :: .int .i64 (x.2 : Nat) :: facC l
theorem facC_length : ∀ l, (facC l).length = l.length * 2
  | [] => rfl
  | x :: l => by rw [facC, List.length_cons, List.length_cons, facC_length l, List.length_cons]; omega
theorem facC_app : ∀ l m, facC (l ++ m) = facC l ++ facC m
  | [], m => rfl
  | x :: l, m => by rw [List.cons_append, facC, facC, facC_app l m]; rfl
def OwnF (w : World) (B : Nat) (v : Value) (l : List (Nat × Nat)) : Prop := w.ownsRow B 122 2 v l.length (facC l)
theorem run_appF {w : World} {B : Nat} {v : Value} {l : List (Nat × Nat)} (ty : TypeId) (hown : OwnF w B v l) (b c p t : Nat) (h0 : w.cell? ⟨b, 0, none⟩ = some (.int .u64 p)) (h1 : w.cell? ⟨b, 1, none⟩ = some (.int .i64 t)) (hb : l.length ≤ 1000) (hB : B ≤ w.heap.size) :
    ∃ v' w', (Builtin.append_ #[118, 118] ty #[v, .slice (some ⟨b, 0, none⟩) 1 c]).run Tryd.prog w = .ok v' w' ∧ OwnF w' B v' (l ++ [(p, t)]) ∧ w.grownBy w' v.ownBlock ∧ (v'.ownBlock = v.ownBlock ∨ v'.ownBlock = some w.heap.size) := by
  obtain ⟨i0, z, hi, hz, hzs, hs, hby⟩ := inf_fac
  obtain ⟨v', w', g1, g2, g3, _, g5⟩ := run_append_own_at (P := Tryd.prog) w B 118 ty 122 i0 z 2 16 Tryd.underlying118 hi hz hs hby hzs (by decide) v l.length (facC l) hown ⟨b, 0, none⟩ 1 c [.int .u64 p, .int .i64 t]
    rfl (fun j u hj => by
      match j, hj with
      | 0, hj => simp at hj; subst hj; rw [addr_plain]; exact h0
      | 1, hj => simp at hj; subst hj; rw [addr_plain]; exact h1
      | j + 2, hj => simp at hj) (fun u hu => by simp at hu; rcases hu with rfl | rfl <;> rfl) (by unfold maxLen; omega) (by omega) hB
  refine ⟨v', w', g1, ?_, g3, g5⟩
  unfold OwnF
  rw [List.length_append, facC_app]
  exact g2
theorem wpList_appF {w : World} {ops : Array Oper} {rest : List Oper} {o : Oper} {a : Act} {Q : Exit → Act → World → Prop} (hgd : o.guard = none) (s x : Operand)
    (ho : o.op = .call { callee := .builtin .append, args := #[s, x], argTypes := #[118, 118] })
    (B : Nat) (v : Value) (l : List (Nat × Nat)) (hs : a.eval s = v) (hown : OwnF w B v l) (b c p t : Nat) (hx : a.eval x = .slice (some ⟨b, 0, none⟩) 1 c) (h0 : w.cell? ⟨b, 0, none⟩ = some (.int .u64 p)) (h1 : w.cell? ⟨b, 1, none⟩ = some (.int .i64 t)) (hb : l.length ≤ 1000) (hB : B ≤ w.heap.size)
    (h : ∀ v' w', OwnF w' B v' (l ++ [(p, t)]) → w.grownBy w' v.ownBlock → (v'.ownBlock = v.ownBlock ∨ v'.ownBlock = some w.heap.size) → wpList Tryd.prog ops Q rest (a.put o.dst v') w') :
    wpList Tryd.prog ops Q (o :: rest) a w := by
  obtain ⟨v', w', hrun, h2, h3, h4⟩ := run_appF o.type hown b c p t h0 h1 hb hB
  refine wpList_plain hgd fun _ hK => ?_
  unfold Oper.wp execOp
  simp only [ho, resolve, invoke, builtin, Sem.run_bind, Sem.run_pure, Result.andThen_ok, List.map_toArray, List.map_cons, List.map_nil, hs, hx, hrun]
  exact hK _ _ (h v' w' h2 h3 h4)
theorem OwnF.lt {w : World} {B : Nat} {v : Value} {l : List (Nat × Nat)} (h : OwnF w B v l) {g : Nat} (hg : v.ownBlock = some g) : B ≤ g ∧ g < w.heap.size := World.ownsRow.lt h g hg
theorem OwnF.keep {w w' : World} {B : Nat} {v : Value} {l : List (Nat × Nat)} (h : OwnF w B v l) (hk : ∀ g, v.ownBlock = some g → w'.heap[g]? = w.heap[g]?) : OwnF w' B v l := by
  obtain ⟨h1, h2⟩ := h
  refine ⟨h1, ?_⟩
  rcases h2 with h2 | ⟨g, cap, cur, rfl, hbg, hg, r⟩
  · exact .inl h2
  · exact .inr ⟨g, cap, cur, rfl, hbg, (hk g rfl).trans hg, r⟩
/-- the list as a value: its length; where it has one entry, how often that goes in -/
theorem OwnF.form {w : World} {B : Nat} {v : Value} {l : List (Nat × Nat)} (h : OwnF w B v l) : ∃ ad c, v = .slice ad l.length c ∧ (∀ x, l = [x] → ∃ g, ad = some ⟨g, 0, none⟩ ∧ w.cell? ⟨g, 1, none⟩ = some (.int .i64 (x.2 : Nat))) := by
  have hc := fun g (hg : v.ownBlock = some g) => World.ownsRow.cells h (g := g) hg
  rcases h.2 with ⟨h1, h2⟩ | ⟨g, cap, cur, rfl, _, _, h4, _⟩
  · exact ⟨none, 0, by rw [h1, h2], fun x e => by rw [e] at h2; cases h2⟩
  · refine ⟨_, _, rfl, fun x e => ⟨g, rfl, ?_⟩⟩
    have := hc g rfl 1 (.int .i64 (x.2 : Nat)) (by rw [e]; rfl)
    rwa [addr_plain] at this
/-- the whole state -/
structure FacW (w u : World) (A a p : Nat) (v : Value) (l : List (Nat × Nat)) : Prop where
  own : OwnF u w.heap.size v l
  inv : Gf2.FacI A a p (l.map (·.2))
  below : Below w.heap.size w u
  sz : l.length + Gf2.len a ≤ 40
theorem FacW.drop {w u u' : World} {A a p : Nat} {v : Value} {l : List (Nat × Nat)} (h : FacW w u A a p v l) (hb : Below u.heap.size u u') : FacW w u' A a p v l :=
  ⟨h.own.keep fun g e => hb.block g (h.own.lt e).2, h.inv, below_then h.below hb, h.sz⟩
def FacCase (a p p1 : Nat) : Prop := p1 = p ∧ Gf2.len p < 17 + 1 ∧ ¬ Gf2.len a + 1 < 2 * Gf2.len p ∨ p1 = a ∧ Gf2.len a + 1 < 2 * Gf2.len p
set_option maxRecDepth 100000 in
set_option maxHeartbeats 4000000 in
theorem rfactor_any (A : Nat) (hA : 2 ≤ A) (hA33 : Gf2.len A ≤ 33) (w : World) :
    Calls Tryd.prog 71 #[.int .u64 A] w fun e w' => ∃ v l, e = .returned (.tuple #[v, .int .i64 0]) ∧ OwnF w' w.heap.size v l ∧ (l.map (·.2) = [1] → Gf2.Irr A) ∧ Below w.heap.size w w' := by
  have hA64 : A ≤ 8589934591 := by
    have := Gf2.lt_len A
    have h2 : 2 ^ Gf2.len A ≤ 2 ^ 33 := Nat.pow_le_pow_right (by omega) hA33
    omega
  have HDEG := hide (fun (x : Nat) (hx : x ≤ 18446744073709551615) => rdegree_any x hx)
  have HREST := hide (fun (a b : Nat) (ha : a ≤ 18446744073709551615) (hb : b ≤ 18446744073709551615) (h0 : b ≠ 0) => rrest_any a b ha hb h0)
  have HWH := hide (fun (a b : Nat) (ha : a ≤ 18446744073709551615) (hb : b ≤ 18446744073709551615) (h0 : b ≠ 0) => whole_any 0 a b (by omega) ha hb h0)
  simp only [pair64_zero] at HWH
  have HDA := hide (HDEG.out A (by omega))
  have hne0 : ((A : Int) == 0) = false := by rw [beq_eq_false_iff_ne]; omega
  have h32 : ¬ (32 : Int) < (Gf2.len A : Int) - 1 := by omega
  have HS := hide (show FacW w w A A 2 (.slice none 0 0) [] from ⟨World.ownsRow_nil _ _ _ _, Gf2.FacI.start hA, Below.refl _ _, by simp; omega⟩)
  go_enter Tryd.func71, Tryd.ntmps71
  go_wp2_with fail
  refine (HDA.out _).mono ?_
  rintro e w' ⟨rfl, rfl⟩
  go_wp2_with fail
  go_loopw [0, 4, 5] (fun x v p u => ∃ (a q : Nat) (v' : Value) (l : List (Nat × Nat)), a ≤ 8589934591 ∧ q ≤ 8589934592 ∧ Hid (FacW w u A a q v' l) ∧ x = .int .u64 a ∧ v' = v ∧ p = .int .u64 q) (fun x _ p _ => if (intOf x).toNat ≤ 1 then 0 else 8589934593 - (intOf p).toNat)
  case atStart => exact ⟨A, 2, _, [], hA64, by omega, HS, rfl, rfl, rfl⟩
  case round =>
    rename World => u
    obtain ⟨a, p, v, l, ha, hp, hI, rfl, rfl, rfl⟩ := hrel
    clear HS HDA hne0 h32
    have HDa := hide (HDEG.out a (by omega))
    by_cases ha1 : a = 1
    · have hl1 : Gf2.len a = 1 := by rw [ha1]; exact Gf2.len_one
      rw [hl1] at HDa
      have HIN := hide (hI.out.inv.on)
      have HA1 := hide ha1
      clear ha1 hl1
      go_wp2_with fail
      refine (HDa.out _).mono ?_
      rintro e w' ⟨rfl, rfl⟩
      go_wp2_with fail
      go_ret2
      exact ⟨v, l, rfl, hI.out.own, fun h => HIN.out h HA1.out, hI.out.below⟩
    · have ha0 := hI.out.inv.a0
      have hp2 := hI.out.inv.p2
      have hpb := hI.out.inv.pb ha1
      have HDp := hide (HDEG.out p (by omega))
      have hla : 2 ≤ Gf2.len a := by
        apply Nat.le_of_not_lt
        intro h
        exact ha1 (Gf2.len_le_one (by omega) ha0)
      have hla2 : (0 : Int) < (Gf2.len a : Int) - 1 := by omega
      have hla33 : Gf2.len a ≤ 33 := Gf2.len_le (by omega)
      have hlp33 : Gf2.len p ≤ 33 := Gf2.len_le (by omega)
      have hage : 2 ≤ a := by omega
      have hlp1 : 1 ≤ Gf2.len p := by have := Gf2.len_mono hp2; have : Gf2.len 2 = 2 := Gf2.len_eq (n := 1) (by decide) (by decide); omega
      go_wp2_with fail
      refine (HDa.out _).mono ?_
      rintro e w' ⟨rfl, rfl⟩
      go_wp2_with fail
      refine (HDp.out _).mono ?_
      rintro e w' ⟨rfl, rfl⟩
      go_wp2_with fail
      refine (HDa.out _).mono ?_
      rintro e w' ⟨rfl, rfl⟩
      go_upto_if 22 with fail
      go_cut [5] (fun q wx => ∃ P1 : Nat, q = .int .u64 P1 ∧ FacCase a p P1 ∧ u = wx)
      case first =>
        by_cases hbig : Gf2.len a + 1 < 2 * Gf2.len p
        · have hbI : (Gf2.len a : Int) - 1 < 2 * ((Gf2.len p : Int) - 1) := by omega
          have HC := hide (show FacCase a p a from .inr ⟨rfl, hbig⟩)
          clear hbig
          go_wp2_with fail
          go_meet
          case rel => exact ⟨a, rfl, HC.out, rfl⟩
        · have hbI : ¬ (Gf2.len a : Int) - 1 < 2 * ((Gf2.len p : Int) - 1) := by omega
          have HC := hide (show FacCase a p p from .inl ⟨rfl, by omega, hbig⟩)
          clear hbig
          go_wp2_with fail
          go_meet
          case rel => exact ⟨p, rfl, HC.out, rfl⟩
      case rest =>
      obtain ⟨P1, rfl, hcase, rfl⟩ := hcut
      have HCASE := hide hcase
      have hp12 : 2 ≤ P1 := by
        rcases hcase with ⟨e, _⟩ | ⟨e, _⟩ <;> omega
      have hp1 : P1 ≤ 8589934591 := by
        rcases hcase with ⟨e, _⟩ | ⟨e, _⟩ <;> omega
      have hp10 : P1 ≠ 0 := by omega
      clear hcase hla2
      have HJ0 := hide (Gf2.FacJ.start (a := a) (p1 := P1) ha0)
      have hsz := hI.out.sz
      go_wp2_with fail
      go_loop [0, 6] (fun x i => ∃ x' t : Nat, Hid (Gf2.FacJ a P1 x' t) ∧ x' ≤ 8589934591 ∧ t ≤ 64 ∧ x = .int .u64 x' ∧ i = .int .i64 t) (fun x _ => Gf2.len (intOf x).toNat)
      case atStart => exact ⟨a, 0, HJ0, ha, by omega, rfl, rfl⟩
      case round =>
        obtain ⟨x, t, hJ, hx, ht, rfl, rfl⟩ := hrel
        clear HJ0
        have HQ := hide (HREST.out x P1 (by omega) (by omega) hp10)
        by_cases hr : Gf2.rem x P1 = 0 ∧ x ≠ 1
        · obtain ⟨hr, hx1⟩ := hr
          have hxb : ((x : Int) != 1) = true := by rw [bne_iff_ne]; omega
          obtain ⟨hn1, hn2⟩ := hJ.out.next hp12 hr
          have HW := hide (HWH.out x P1 (by omega) (by omega) hp10)
          rw [hr] at HQ HW
          have hq33 : Gf2.quo x P1 < 2 ^ 33 := Gf2.lt_of_len (by have : Gf2.len x ≤ 33 := Gf2.len_le (by omega); omega)
          have hq64 : Gf2.quo x P1 % 2 ^ 64 = Gf2.quo x P1 := Nat.mod_eq_of_lt (by omega)
          unfold quoL at HW
          rw [hq64] at HW
          generalize Gf2.quo x P1 = y at *
          have HN := hide hn1
          have HLT := hide hn2
          have htn : t < 64 := by have := hJ.out.sz; have : Gf2.len x ≠ 0 := fun e => hJ.out.x0 (Gf2.len_eq_zero.1 e); omega
          clear hr hn1 hn2 hq64 hJ hx1 ha1
          go_wp2_with fail
          refine (HQ.out _).mono ?_
          rintro e w' ⟨rfl, rfl⟩
          go_wp2_with fail
          refine (HW.out _).mono ?_
          rintro e w' ⟨rfl, rfl⟩
          go_wp2_with fail
          go_round
          case rel => exact ⟨y, t + 1, HN, by omega, by omega, rfl, by simp⟩
          case measure => have := HLT.out; simpa [intOf] using this
        · by_cases hx1 : x = 1
          · have hxb : ((x : Int) != 1) = false := by rw [hx1]; rfl
            have ht1 : 1 ≤ t := by
              apply Nat.pos_of_ne_zero
              intro e
              exact ha1 (by rw [← hJ.out.z e]; exact hx1)
            have hI2 := hI.out.inv.add ha1 HCASE.out hJ.out ht1 (.inl hx1)
            have hsz2 : (l ++ [(P1, t)]).length + Gf2.len x ≤ 40 := by have := hJ.out.sz; rw [List.length_append, List.length_singleton]; omega
            have hmeas : x ≤ 1 ∨ p < 8589934593 ∧ P1 = p := by
              rcases HCASE.out with ⟨e, _⟩ | ⟨e, _⟩
              · exact .inr ⟨by omega, e⟩
              · left
                have h3 := (hJ.out.big ht1).len_le ha0
                have h4 := Gf2.len_cm hJ.out.x0 hp10
                rw [e] at h4 h3
                have := Gf2.len_le_one (by omega) hJ.out.x0
                omega
            have hI2' : Gf2.FacI A x (P1 + 1) ((l ++ [(P1, t)]).map (·.2)) := by rw [List.map_append]; exact hI2
            have HI2 := hide hI2'
            have hll : l.length ≤ 1000 := by omega
            have hti : (0 : Int) < t := by omega
            have hwz := hI.out.below.size
            have HOW := hide (hI.out.own.keep (w' := u.alloc (.cells #[.int .u64 P1, .int .i64 t] 122)) (fun g e => Below.heap_alloc _ _ _ (hI.out.own.lt e).2))
            have HBW := hide hI.out.below
            have HLT := hide (fun g (e : v.ownBlock = some g) => hI.out.own.lt e)
            have HSZ := hide hsz2
            clear hI2 hI2' hsz2 hJ hI ha1 hsz
            clear hr HQ hx1
            skip
            go_wp2_with (first
              | (at_builtin; refine wpList_appF rfl (.tmp 42) (.tmp 46) rfl w.heap.size v l rfl HOW.out u.heap.size 1 P1 t rfl ?ad1 ?ad2 hll ?ad3 ?_)
              | go_in)
            try case ad1 => simp [go_sem]
            try case ad2 => simp [go_sem]
            case ad3 => (try simp); omega
            intro v2 u2 ho2 hgr2 _
            have HF := hide (show FacW w u2 A x (P1 + 1) v2 (l ++ [(P1, t)]) from ⟨ho2, HI2.out, (HBW.out.alloc hwz _).grown hgr2 (by simp; omega) (fun g e => (HLT.out g e).1), HSZ.out⟩)
            clear ho2 hgr2
            go_wp2_with fail
            go_roundw
            case rel => exact ⟨x, P1 + 1, v2, _, hx, by omega, HF, rfl, rfl, by simp⟩
            case measure =>
              have e1 : (intOf (Value.int IntKind.u64 ((P1 : Int) + 1))).toNat = P1 + 1 := by show ((P1 : Int) + 1).toNat = _; omega
              show (if x ≤ 1 then 0 else 8589934593 - (intOf (Value.int IntKind.u64 ((P1 : Int) + 1))).toNat) < if a ≤ 1 then 0 else 8589934593 - p
              rw [e1]
              split <;> split <;> omega
          · have hr0 : Gf2.rem x P1 ≠ 0 := fun e => hr ⟨e, hx1⟩
            have hxb : ((x : Int) != 1) = true := by rw [bne_iff_ne]; omega
            have hrb : ((Gf2.rem x P1 : Int) == 0) = false := by rw [beq_eq_false_iff_ne]; omega
            have hrn : ¬ (Gf2.rem x P1 : Int) = 0 := by omega
            have hnd : ¬ Gf2.Dvd P1 x := fun h => hr0 (h.rem_zero hp10)
            clear hr hr0
            generalize Gf2.rem x P1 = r at *
            by_cases ht0 : t = 0
            · subst ht0
              obtain rfl : x = a := hJ.out.z rfl
              have hcase2 : P1 = p ∧ p < 131072 := by
                rcases HCASE.out with ⟨e, h, _⟩ | ⟨e, _⟩
                · have h4 := Gf2.lt_len p
                  have h5 : 2 ^ Gf2.len p ≤ 2 ^ 17 := Nat.pow_le_pow_right (by omega) (by omega)
                  exact ⟨e, by omega⟩
                · exact absurd (by rw [e]; exact Gf2.Dvd.refl _) hnd
              obtain ⟨rfl, hp17⟩ := hcase2
              have HF := hide (show FacW w u A x (P1 + 1) v l from ⟨hI.out.own, hI.out.inv.keep ha1 hnd hp17, hI.out.below, hI.out.sz⟩)
              have hx2 : ¬ x ≤ 1 := by omega
              clear hnd hJ ha1
              go_wp2_with fail
              refine (HQ.out _).mono ?_
              rintro e w' ⟨rfl, rfl⟩
              go_wp2_with fail
              go_roundw
              case rel => exact ⟨x, P1 + 1, v, l, hx, by omega, HF, rfl, rfl, by simp⟩
              case measure =>
                have e1 : (intOf (Value.int IntKind.u64 ((P1 : Int) + 1))).toNat = P1 + 1 := by show ((P1 : Int) + 1).toNat = _; omega
                show (if x ≤ 1 then 0 else 8589934593 - (intOf (Value.int IntKind.u64 ((P1 : Int) + 1))).toNat) < if x ≤ 1 then 0 else 8589934593 - P1
                rw [e1]
                split <;> omega
            · have hrx := hnd
              have ht1 : 1 ≤ t := by
                apply Nat.pos_of_ne_zero
                intro e
                exact ht0 e
              have hI2 := hI.out.inv.add ha1 HCASE.out hJ.out ht1 (.inr hnd)
              have hsz2 : (l ++ [(P1, t)]).length + Gf2.len x ≤ 40 := by have := hJ.out.sz; rw [List.length_append, List.length_singleton]; omega
              have hmeas : x ≤ 1 ∨ p < 8589934593 ∧ P1 = p := by
                rcases HCASE.out with ⟨e, _⟩ | ⟨e, _⟩
                · exact .inr ⟨by omega, e⟩
                · left
                  have h3 := (hJ.out.big ht1).len_le ha0
                  have h4 := Gf2.len_cm hJ.out.x0 hp10
                  rw [e] at h4 h3
                  have := Gf2.len_le_one (by omega) hJ.out.x0
                  omega
              have hI2' : Gf2.FacI A x (P1 + 1) ((l ++ [(P1, t)]).map (·.2)) := by rw [List.map_append]; exact hI2
              have HI2 := hide hI2'
              have hll : l.length ≤ 1000 := by omega
              have hti : (0 : Int) < t := by omega
              have hwz := hI.out.below.size
              have HOW := hide (hI.out.own.keep (w' := u.alloc (.cells #[.int .u64 P1, .int .i64 t] 122)) (fun g e => Below.heap_alloc _ _ _ (hI.out.own.lt e).2))
              have HBW := hide hI.out.below
              have HLT := hide (fun g (e : v.ownBlock = some g) => hI.out.own.lt e)
              have HSZ := hide hsz2
              clear hI2 hI2' hsz2 hJ hI ha1 hsz
              clear hnd hrx ht0 hx1
              go_wp2_with fail
              refine (HQ.out _).mono ?_
              rintro e w' ⟨rfl, rfl⟩
              go_wp2_with (first
                | (at_builtin; refine wpList_appF rfl (.tmp 42) (.tmp 46) rfl w.heap.size v l rfl HOW.out u.heap.size 1 P1 t rfl ?bd1 ?bd2 hll ?bd3 ?_)
                | go_in)
              try case bd1 => simp [go_sem]
              try case bd2 => simp [go_sem]
              case bd3 => (try simp); omega
              intro v2 u2 ho2 hgr2 _
              have HF := hide (show FacW w u2 A x (P1 + 1) v2 (l ++ [(P1, t)]) from ⟨ho2, HI2.out, (HBW.out.alloc hwz _).grown hgr2 (by simp; omega) (fun g e => (HLT.out g e).1), HSZ.out⟩)
              clear ho2 hgr2
              go_wp2_with fail
              go_roundw
              case rel => exact ⟨x, P1 + 1, v2, _, hx, by omega, HF, rfl, rfl, by simp⟩
              case measure =>
                have e1 : (intOf (Value.int IntKind.u64 ((P1 : Int) + 1))).toNat = P1 + 1 := by show ((P1 : Int) + 1).toNat = _; omega
                show (if x ≤ 1 then 0 else 8589934593 - (intOf (Value.int IntKind.u64 ((P1 : Int) + 1))).toNat) < if a ≤ 1 then 0 else 8589934593 - p
                rw [e1]
                split <;> split <;> omega
set_option maxHeartbeats 400000 in
theorem rirr_any (A : Nat) (hA : 2 ≤ A) (hA33 : Gf2.len A ≤ 33) (w : World) :
    Calls Tryd.prog 50 #[.int .u64 A] w fun e w' => ∃ b : Bool, e = .returned (.tuple #[.bool b, .int .i64 0]) ∧ (b = true → Gf2.Irr A) ∧ Below w.heap.size w w' := by
  have hA64 : A ≤ 18446744073709551615 := le_of_lt64 (Gf2.lt_len A) (by omega)
  have HD := hide (rdegree_any A hA64)
  have HF := hide (rfactor_any A hA hA33)
  have hl2 : 2 ≤ Gf2.len A := by have := Gf2.len_mono hA; have : Gf2.len 2 = 2 := Gf2.len_eq (n := 1) (by decide) (by decide); omega
  have h1 : ¬ (Gf2.len A : Int) - 1 < 1 := by omega
  have h32 : ¬ (32 : Int) < (Gf2.len A : Int) - 1 := by omega
  generalize Gf2.len A = la at *
  go_enter Tryd.func50, Tryd.ntmps50
  go_wp2_with fail
  refine (HD.out _).mono ?_
  rintro e w' ⟨rfl, rfl⟩
  go_wp2_with fail
  refine (HD.out _).mono ?_
  rintro e w' ⟨rfl, rfl⟩
  go_wp2_with fail
  refine (HF.out _).mono ?_
  rintro e w2 ⟨v, l, rfl, ho, hI, hb⟩
  obtain ⟨ad, c, rfl, hform⟩ := ho.form
  have HI := hide hI
  have HB := hide hb
  clear ho hI hb
  by_cases hl1 : l.length = 1
  · obtain ⟨x, rfl⟩ : ∃ x, l = [x] := by
      match l, hl1 with
      | [x], _ => exact ⟨x, rfl⟩
    obtain ⟨g, rfl, hc⟩ := hform x rfl
    have hlb : ((([x] : List (Nat × Nat)).length : Int) == 1) = true := rfl
    obtain ⟨p, t⟩ := x
    simp only at hc
    have HI2 := hide (show t = 1 → Gf2.Irr A from fun e => HI.out (by rw [e]; rfl))
    clear hl1 hform HI
    simp only [List.length_singleton]
    go_wp2_with fail
    go_ret2
    exact ⟨(t : Int) == 1, rfl, fun h => HI2.out (by rw [beq_iff_eq] at h; omega), HB.out⟩
  · have hlb : ((l.length : Int) == 1) = false := by rw [beq_eq_false_iff_ne]; omega
    clear hform HI
    generalize l.length = m at *
    go_wp2_with fail
    go_ret2
    exact ⟨false, rfl, (fun h => by cases h), HB.out⟩
end Go.Proofs.YtknkkoemghceeaaDoor
