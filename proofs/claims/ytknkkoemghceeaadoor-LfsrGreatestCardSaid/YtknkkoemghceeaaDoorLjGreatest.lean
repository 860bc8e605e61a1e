/- The law LfsrGreatest, walked: it returns true. -/
import Derived.Test.YtknkkoemghceeaaDoorRows
import Derived.Test.YtknkkoemghceeaaDoorPolyIrr
import Derived.Test.YtknkkoemghceeaaDoorOwnV
import Derived.Test.YtknkkoemghceeaaDoorR4Per
import Derived.Test.YtknkkoemghceeaaDoorLfLive
import Derived.BigQuiet
import Derived.Deep.QuietTactic
namespace Go.Proofs.YtknkkoemghceeaaDoor
open Go.RowKit
open Gf2.BM

theorem gpol_odd {n T : Nat} (h2 : 2 ≤ n) (hT : T % 2 = 1) : (2 ^ n + T) % 2 = 1 := by
  obtain ⟨d, rfl⟩ : ∃ d, n = d + 1 := ⟨n - 1, by omega⟩
  rw [Nat.pow_succ]; omega
theorem and1_u8 {x : Nat} (h : x ≤ 1) : bits .and .u8 (x : Int) 1 = (x : Int) := by
  rcases (show x = 0 ∨ x = 1 by omega) with rfl | rfl <;> rfl
theorem elem_bool : ElemI 95 4 (.bool false) 1 := ⟨Tryd.underlying95, ⟨Tryd.t4, by kernel_rfl, by kernel_rfl, by kernel_rfl, by kernel_rfl⟩, rfl⟩
/-- which states have been met behind i steps -/
def MetI (n T S N i : Nat) (xs : List Value) : Prop := xs.length = N + 1 ∧ ∀ j, j < N + 1 → ∃ b : Bool, xs[j]? = some (.bool b) ∧ (b = true ↔ ∃ m, m < i ∧ Gf2.stpN n T m S = j)
theorem MetI.start (n T S N : Nat) : MetI n T S N 0 (List.replicate (N + 1) (.bool false)) :=
  ⟨by simp, fun j hj => ⟨false, by simp [hj], by simp⟩⟩
theorem MetI.set {n T S N i s : Nat} {xs : List Value} (h : MetI n T S N i xs) (hs : Gf2.stpN n T i S = s) (hsN : s < N + 1) : MetI n T S N (i + 1) (xs.set s (.bool true)) := by
  refine ⟨by rw [List.length_set]; exact h.1, fun j hj => ?_⟩
  obtain ⟨b, h1, h2⟩ := h.2 j hj
  by_cases e : j = s
  · refine ⟨true, ?_, ?_⟩
    · rw [e, List.getElem?_set_self (by rw [h.1]; exact hsN)]
    · simp only [true_iff]; exact ⟨i, by omega, by rw [hs, e]⟩
  · refine ⟨b, by rw [List.getElem?_set_ne (fun e2 => e e2.symm)]; exact h1, ?_⟩
    rw [h2]
    constructor
    · rintro ⟨m, hm, e2⟩; exact ⟨m, by omega, e2⟩
    · rintro ⟨m, hm, e2⟩
      refine ⟨m, ?_, e2⟩
      rcases Nat.lt_or_ge m i with h3 | h3
      · exact h3
      · obtain rfl : m = i := by omega
        exact absurd (by rw [← e2, hs]) e
/-- a state is not met before its turn -/
theorem MetI.fresh {n T S N i s : Nat} {xs : List Value} (h : MetI n T S N i xs) (hi : i < N) (hN : Gf2.Per n T S N) (hD : 1 ≤ n) (hT : T % 2 = 1) (hS : S < 2 ^ n) (hs : Gf2.stpN n T i S = s) (hsN : s < N + 1) : xs[s]? = some (.bool false) := by
  obtain ⟨b, h1, h2⟩ := h.2 s hsN
  cases b
  · exact h1
  · exfalso
    obtain ⟨m, hm, e⟩ := h2.1 rfl
    have h4 : Gf2.stpN n T m (Gf2.stpN n T (i - m) S) = Gf2.stpN n T m S := by
      rw [← Gf2.stpN_add, show i - m + m = i by omega, hs, e]
    exact hN.2.2 (i - m) (by omega) (by omega) (Gf2.stpN_inj hD hT (Gf2.stpN_lt hD hS _) hS m h4)
/-- what stays while the loop runs -/
structure GrSt (w u : World) (n T S N gl cl g i : Nat) (xs : List Value) : Prop where
  reg : RegL u w.heap.size n T S
  row : OwnB u w.heap.size (.slice (some ⟨gl, 0, none⟩) N cl) (firstL n T S N)
  met : OwnV 4 u w.heap.size (.slice (some ⟨g, 0, none⟩) (N + 1) (N + 1)) xs
  mi : MetI n T S N i xs
  below : Below w.heap.size w u
  nl : gl ≠ g
  nr : g ≠ w.heap.size
theorem GrSt.set {w u : World} {n T S N gl cl g i s : Nat} {xs : List Value} (h : GrSt w u n T S N gl cl g i xs) (hs : Gf2.stpN n T i S = s) (hsN : s < N + 1) (k : Nat) :
    GrSt w ((u.setCell ⟨g, s, none⟩ (.bool true)).drewN k) n T S N gl cl g (i + 1) (xs.set s (.bool true)) := by
  have hg := (h.met.lt (g := g) rfl).1
  exact ⟨h.reg.far (p := ⟨g, s, none⟩) (by exact fun e => h.nr e.symm) _, h.row.far (p := ⟨g, s, none⟩) (fun q e => by simp [Value.ownBlock] at e; exact fun e2 => h.nl (by rw [e]; exact e2)) _, (h.met.set h.mi.1.symm s _).1, h.mi.set hs hsN, below_drewN (h.below.setCell hg _) k, h.nl, h.nr⟩
theorem GrSt.bit {w u : World} {n T S N gl cl g i : Nat} {xs : List Value} (h : GrSt w u n T S N gl cl g i xs) {q : Nat} (hq : q < N) : u.cell? ⟨gl, q, none⟩ = some (.int .u8 (Gf2.stpN n T q S % 2 : Nat)) := by
  rw [h.row.cell (firstL_length _ _ _ _).symm hq, firstL_at n T S hq]
/-- the count of places that agree -/
def alk (n T S by_ i : Nat) : Nat := sumF (fun i => if Gf2.stpN n T i S % 2 = Gf2.stpN n T (i + by_) S % 2 then 1 else 0) i
def onesK (n T S i : Nat) : Nat := sumF (fun i => Gf2.stpN n T i S % 2) i
theorem alk_le (n T S by_ : Nat) : ∀ i, alk n T S by_ i ≤ i
  | 0 => Nat.le_refl _
  | i + 1 => by have := alk_le n T S by_ i; unfold alk at *; rw [sumF]; split <;> omega
theorem onesK_le (n T S : Nat) : ∀ i, onesK n T S i ≤ i
  | 0 => Nat.le_refl _
  | i + 1 => by have := onesK_le n T S i; unfold onesK at *; rw [sumF]; omega
theorem alk_zero (n T S : Nat) : ∀ i, alk n T S 0 i = i
  | 0 => rfl
  | i + 1 => by have := alk_zero n T S i; unfold alk at *; rw [sumF, this, Nat.add_zero, if_pos rfl]
/-- a bit behind a whole turn -/
theorem per_bit {n T S N i : Nat} (hN : Gf2.Per n T S N) : Gf2.stpN n T (i % N) S = Gf2.stpN n T i S := by
  have := Nat.div_add_mod i N
  rw [← this, Gf2.stpN_add, hN.mul, this]
theorem lgreat_bad (D : Int) (T S : Nat) (hT : T ≤ 18446744073709551615) (hS : S ≤ 18446744073709551615) (hne : lchk D T S ≠ 0) (m : Value) (w : World) (ht : TabW w) :
    Calls Tryd.prog 16 #[.agg #[.int .i64 D, .int .u64 T, .int .u64 S], m] w fun e w' => e = .returned (.bool true) ∧ Below w.heap.size w w' := by
  have HC := hide (r4check_any D T S hT hS)
  have hb := nzBne hne
  have HL := hide (fun u (h : Below w.heap.size w u) => llive_any u (ht.below h))
  generalize lchk D T S = cf at *
  clear hne ht
  go_enter Tryd.func16, Tryd.ntmps16
  go_wp2_with fail
  refine (HC.out _).mono ?_
  rintro e w1 ⟨rfl, hb1⟩
  have HB := hide (below_one hb1)
  clear hb1
  go_wp2_with fail
  refine (HL.out _ HB.out).mono ?_
  rintro e w2 ⟨rfl, hb2⟩
  go_wp2_with fail
  go_ret
  exact ⟨rfl, below_then HB.out hb2⟩
set_option maxRecDepth 100000 in
theorem lgreat_neg (n T S : Nat) (hg : GoodL n T S) (m : Int) (hm : m < 0) (w : World) (ht : TabW w) :
    Calls Tryd.prog 16 #[.agg #[.int .i64 n, .int .u64 T, .int .u64 S], .int .i64 m] w fun e w' => e = .returned (.bool true) ∧ Below w.heap.size w w' := by
  have HC := hide (r4check_any n T S (by have := hg.small; omega) (by have := hg.small; omega))
  rw [lchk_good hg] at HC
  have HL := hide (fun u (h : Below w.heap.size w u) => llive_any u (ht.below h))
  clear hg ht
  go_enter Tryd.func16, Tryd.ntmps16
  go_wp2_with fail
  refine (HC.out _).mono ?_
  rintro e w1 ⟨rfl, hb1⟩
  have HB := hide (below_one hb1)
  clear hb1
  go_wp2_with fail
  refine (HL.out _ HB.out).mono ?_
  rintro e w2 ⟨rfl, hb2⟩
  go_wp2_with fail
  go_ret
  exact ⟨rfl, below_then HB.out hb2⟩
set_option maxRecDepth 100000 in
set_option maxHeartbeats 500000 in
theorem lgreat_good (n T S M k : Nat) (hg : GoodL n T S) (hM : Gf2.OrdP (2 ^ n + T) M) (hMl : M ≤ 1048576) (hk : k ≤ 9223372036854775807) (w : World) (ht : TabW w) :
    Calls Tryd.prog 16 #[.agg #[.int .i64 n, .int .u64 T, .int .u64 S], .int .i64 k] w fun e w' => e = .returned (.bool true) ∧ Below w.heap.size w w' := by
  have h2 := hg.lo
  have h20 := hg.hi
  have hp20 := pow20 hg.hi
  have hodd := hg.odd
  have htap := hg.tap
  have hseed := hg.seed
  have hnz := hg.ne
  have ho := gpol_odd hg.lo hg.odd
  have hl : Gf2.len (2 ^ n + T) = n + 1 := Gf2.len_pol hg.tap
  have HC := hide (r4check_any n T S (by have := hg.small; omega) (by have := hg.small; omega))
  rw [lchk_good hg] at HC
  have HP := hide (lpoly_good n T S hg)
  have HPR := hide (primitive_odd (2 ^ n + T) n M ho hl (by omega) h20 hM hMl)
  have HL := hide (fun u (h : Below w.heap.size w u) => llive_any u (ht.below h))
  obtain ⟨N0, hN0, _⟩ := Gf2.per_ex (D := n) (T := T) (v := S) (by omega) hg.odd hg.seed
  have HPE := hide (show Gf2.Irr (2 ^ n + T) ∧ M = 2 ^ n - 1 → Gf2.Per n T S (2 ^ n - 1) from fun ⟨hI, e⟩ => by
    rw [← e, Gf2.per_eq hI (by omega) (by omega) htap hseed hnz hM hN0]; exact hN0)
  have hp4 : 4 ≤ 2 ^ n := by have := Nat.pow_le_pow_right (n := 2) (by omega) h2; omega
  obtain ⟨N, hNe⟩ : ∃ N, N = 2 ^ n - 1 := ⟨_, rfl⟩
  have HNE := hide hNe
  have HBI := hide (lbits_ok n T S hg N (by omega))
  have HG := hide hg
  have HFL := hide (firstL_length n T S N)
  obtain ⟨by_, hby⟩ : ∃ by_, by_ = k % N := ⟨_, rfl⟩
  have hbyN : by_ < N := by rw [hby]; exact Nat.mod_lt _ (by omega)
  have hsh : IntKind.i64.wrap ((2 : Int) ^ n) = (N : Int) + 1 := by
    have e : ((2 : Int) ^ n) = ((2 ^ n : Nat) : Int) := by simp
    rw [e, IntWalk.i64_in _ ⟨by omega, by omega⟩]; omega
  have hsh1 : (2 : Int) ^ n = (N : Int) + 1 := by
    have e : ((2 : Int) ^ n) = ((2 ^ n : Nat) : Int) := by simp
    rw [e]; omega
  have hmin : min n 64 = n := by omega
  have hmk : (k : Int) % (N : Int) = (by_ : Int) := by rw [hby]; omega
  have hN3 : 3 ≤ N := by omega
  have hNle : N ≤ 1048575 := by omega
  clear hg hM ho hl ht hp20 hN0 hNe hby hodd htap hseed hnz hp4
  generalize hPP : 2 ^ n + T = P at *
  have HPP := hide hPP
  clear hPP
  go_enter Tryd.func16, Tryd.ntmps16
  go_wp2_with fail
  refine (HC.out _).mono ?_
  rintro e w1 ⟨rfl, hb1⟩
  have hr1 : RegL w1 w.heap.size n T S := ⟨_, (hb1.block w.heap.size (by simp)).trans (heap_alloc_new w _)⟩
  obtain ⟨hl1, q0, q1, q2, -⟩ := hr1.parts
  have HB1 := hide (below_one hb1)
  have HR1 := hide hr1
  clear hr1 hb1
  go_wp2_with fail
  refine (HP.out _).mono ?_
  rintro e w2 ⟨rfl, hb2⟩
  have HB2 := hide (below_then HB1.out hb2)
  have HR2 := hide (HR1.out.below hb2 hl1)
  obtain ⟨hl2, r0, r1, r2, -⟩ := HR2.out.parts
  clear hb2
  go_wp2_with fail
  refine (HPR.out _).mono ?_
  rintro e w' ⟨b, rfl, hI, rfl⟩
  have HI := hide hI
  clear hI
  cases b
  · go_wp2_with fail
    refine (HL.out _ HB2.out).mono ?_
    rintro e w3 ⟨rfl, hb3⟩
    go_wp2_with fail
    go_ret
    exact ⟨rfl, below_then HB2.out hb3⟩
  · have HI2 := hide (HI.out rfl)
    have HPER := hide (HPE.out HI2.out)
    rw [← HNE.out] at HPER
    clear HI HPE
    go_wp2_with fail
    refine (HBI.out _).mono ?_
    rintro e w3 ⟨v, rfl, ho, hb3⟩
    obtain ⟨gl, cl, rfl, hgl, hgl2, _⟩ := ho.full (by rw [HFL.out]; omega)
    have HB3 := hide (below_then HB2.out hb3)
    have HR3 := hide (HR2.out.below hb3 hl2)
    obtain ⟨hl3, s0, s1, s2, -⟩ := HR3.out.parts
    have HO3 := hide (OwnB.mono ho (B' := w.heap.size) HB2.out.size)
    rw [HFL.out] at HO3
    rw [HFL.out]
    have hz2 : w.heap.size < w2.heap.size := hl2
    clear hb3 ho
    go_wp2_with fail
    refine (num_any _ _).mono ?_
    rintro e w' ⟨rfl, rfl⟩
    go_wp2_with (first
      | (at_make; refine wpList_makeV elem_bool rfl rfl _ _ rfl w.heap.size _ _ (N + 1) rfl rfl ?c1 ?c2 ?c3 ?c4 ?c5 ?_)
      | go_in)
    case c1 => simp
    case c2 => simp
    case c3 => omega
    case c4 => omega
    case c5 => omega
    intro w4 hown4 hgrow4 hz4
    have hS4 : GrSt w w4 n T S N gl cl w3.heap.size 0 (List.replicate (N + 1) (.bool false)) :=
      ⟨HR3.out.grown hgrow4 (by simp), HO3.out.grown hgrow4 (fun g e => by simp), hown4, MetI.start n T S N, HB3.out.grown hgrow4 HB3.out.size (fun k e => by cases e), by omega, by omega⟩
    have HS4 := hide hS4
    have hNI : (3 : Int) ≤ N := by omega
    have hN1I : 0 < (N : Int) := by omega
    have HLG := hide (fun u (h : Below w.heap.size w u) => HL.out u h)
    generalize w3.heap.size = g at *
    clear hown4 hgrow4 hS4 hz4 hl1 hl2 hl3 hz2 hgl hgl2
    go_wp2_with fail
    go_loopw [14, 15, 16] (fun o al ii u => ∃ (i : Nat) (xs : List Value), i ≤ N ∧ Hid (GrSt w u n T S N gl cl g i xs) ∧ o = .int .i64 (onesK n T S i : Nat) ∧ al = .int .i64 (alk n T S by_ i : Nat) ∧ ii = .int .i64 i) (fun _ _ ii _ => N - (intOf ii).toNat)
    case atStart => exact ⟨0, _, by omega, HS4, rfl, rfl, rfl⟩
    case round =>
      rename World => u
      obtain ⟨i, xs, hi, hS, rfl, rfl, rfl⟩ := hrel
      clear HS4 s0 s1 s2 r0 r1 r2 q0 q1 q2
      obtain ⟨hlu, c0, c1, c2, -⟩ := hS.out.reg.parts
      have hal := alk_le n T S by_ i
      have hon := onesK_le n T S i
      by_cases hiN : i < N
      · have hst := Gf2.stpN_lt (T := T) (k := i) (by omega : 1 ≤ n) HG.out.seed
        go_wp2_with fail
        go_loop [17, 18] (fun st kk => ∃ m : Nat, m ≤ n ∧ kk = .int .i64 ((m : Int) - 1) ∧ st = .int .i64 (Gf2.stpN n T i S / 2 ^ m : Nat)) (fun _ kk => (1 + intOf kk).toNat)
        case atStart => exact ⟨n, Nat.le_refl _, rfl, by rw [Nat.div_eq_of_lt hst]; rfl⟩
        case round =>
          obtain ⟨m, hm, rfl, rfl⟩ := hrel
          rcases m with _ | m
          · rw [Nat.pow_zero, Nat.div_one]
            have hne0 := Gf2.stpN_ne (T := T) (by omega : 1 ≤ n) HG.out.odd HG.out.seed HG.out.ne i
            obtain ⟨s, hs⟩ : ∃ s, Gf2.stpN n T i S = s := ⟨_, rfl⟩
            rw [hs] at hst hne0 ⊢
            have hsN : s < N + 1 := by have := HNE.out; omega
            have hfr := hS.out.mi.fresh hiN HPER.out (by omega) HG.out.odd HG.out.seed hs hsN
            have hcm : u.cell? ⟨g, s, none⟩ = some (.bool false) := by rw [hS.out.met.cell hS.out.mi.1.symm hsN]; exact hfr
            have hfz : u.frozen? ⟨g, s, none⟩ = false := hS.out.met.frz hS.out.mi.1.symm s
            have hci : u.cell? ⟨gl, i, none⟩ = some (.int .u8 (Gf2.stpN n T i S % 2 : Nat)) := hS.out.bit hiN
            obtain ⟨q, hq⟩ : ∃ q, q = (i + by_) % N := ⟨_, rfl⟩
            have hqN : q < N := by rw [hq]; exact Nat.mod_lt _ (by omega)
            have hcq : u.cell? ⟨gl, q, none⟩ = some (.int .u8 (Gf2.stpN n T (i + by_) S % 2 : Nat)) := by
              have := hS.out.bit hqN
              rw [hq, per_bit HPER.out] at this
              rw [hq]; exact this
            have hqI : ((i : Int) + (by_ : Int)) % (N : Int) = (q : Int) := by rw [hq, Int.natCast_emod, Int.natCast_add]
            have HSET := hide (fun k => hS.out.set hs hsN k)
            have HAL := hide (show alk n T S by_ (i + 1) = alk n T S by_ i + if Gf2.stpN n T i S % 2 = Gf2.stpN n T (i + by_) S % 2 then 1 else 0 from rfl)
            have HON := hide (show onesK n T S (i + 1) = onesK n T S i + Gf2.stpN n T i S % 2 from rfl)
            rw [hs] at HON HAL hci
            have hb1 : s % 2 ≤ 1 := by omega
            have hb2 : Gf2.stpN n T (i + by_) S % 2 ≤ 1 := by omega
            have hgne : gl ≠ g := hS.out.nl
            have hs0b : ((s : Int) == 0) = false := by rw [beq_eq_false_iff_ne]; omega
            generalize Gf2.stpN n T (i + by_) S % 2 = y at *
            generalize hx : s % 2 = x at *
            generalize onesK n T S i = on at *
            generalize alk n T S by_ i = al at *
            clear hq hs hfr hx hS
            by_cases hxy : x = y
            · subst hxy
              have HAL2 := hide (show alk n T S by_ (i + 1) = al + 1 by rw [HAL.out, if_pos rfl])
              clear HAL
              have hxx : ((x : Int) == (x : Int)) = true := by simp
              go_wp2_with fail
              go_quiet (fail)
              go_wp2_with fail
              go_roundw
              case rel => exact ⟨i + 1, _, by omega, hide (HSET.out nq), by rw [HON.out]; simp, by rw [HAL2.out]; simp, by simp⟩
              case measure => simp [intOf]; omega
            · have HAL2 := hide (show alk n T S by_ (i + 1) = al by rw [HAL.out, if_neg hxy, Nat.add_zero])
              clear HAL
              have hxx : ((x : Int) == (y : Int)) = false := by rw [beq_eq_false_iff_ne]; omega
              clear hxy
              go_wp2_with fail
              go_quiet (fail)
              go_wp2_with fail
              go_roundw
              case rel => exact ⟨i + 1, _, by omega, hide (HSET.out nq), by rw [HON.out]; simp, by rw [HAL2.out], by simp⟩
              case measure => simp [intOf]; omega
          · have ht : Gf2.stpN n T i S / 2 ^ m = 2 * (Gf2.stpN n T i S / 2 ^ (m + 1)) + Gf2.stpN n T i S / 2 ^ m % 2 := by
              rw [Nat.pow_succ, ← Nat.div_div_eq_div_mul]; omega
            obtain ⟨q, hq⟩ : ∃ q, q = (i + m) % N := ⟨_, rfl⟩
            have hqN : q < N := by rw [hq]; exact Nat.mod_lt _ (by omega)
            have hcq : u.cell? ⟨gl, q, none⟩ = some (.int .u8 (Gf2.stpN n T i S / 2 ^ m % 2 : Nat)) := by
              have := hS.out.bit hqN
              rw [hq, per_bit HPER.out, Gf2.stpN_add, ← Gf2.bit_out hst m (by omega)] at this
              rw [hq]; exact this
            have hqI : ((i : Int) + (m : Int)) % (N : Int) = (q : Int) := by rw [hq, Int.natCast_emod, Int.natCast_add]
            have hxl : Gf2.stpN n T i S / 2 ^ m % 2 ≤ 1 := by omega
            have hyl : Gf2.stpN n T i S / 2 ^ (m + 1) ≤ 1048575 := Nat.le_trans (Nat.div_le_self _ _) (by have := HNE.out; omega)
            rw [show (((m + 1 : Nat) : Int) - 1) = (m : Int) by omega]
            have HT := hide ht
            generalize Gf2.stpN n T i S / 2 ^ m % 2 = x at *
            generalize Gf2.stpN n T i S / 2 ^ (m + 1) = y at *
            have hand := and1_u8 hxl
            clear hq ht
            go_wp2_with fail
            go_round
            case rel => exact ⟨m, by omega, by simp, by rw [HT.out]; first | rfl | simp⟩
            case measure => simp [intOf]; omega
      · obtain rfl : i = N := by omega
        have HBU := hide hS.out.below
        obtain ⟨d, hd⟩ : ∃ d, n = d + 1 := ⟨n - 1, by omega⟩
        have hones : onesK n T S i = 2 ^ (n - 1) := by
          have := Gf2.count_states (D := n) (T := T) (v := S) (by omega) HG.out.odd HG.out.seed HG.out.ne (by rw [← HNE.out]; exact HPER.out)
          rw [← HNE.out] at this
          exact this
        have hhalf : i = 2 * 2 ^ (n - 1) - 1 := by
          have := HNE.out
          rw [hd, Nat.pow_succ] at this
          rw [hd, Nat.add_sub_cancel]; omega
        have hnd : n - 1 = d := by omega
        rw [hnd] at hones hhalf
        obtain ⟨h, hh⟩ : ∃ h, h = 2 ^ d := ⟨_, rfl⟩
        have hsn : IntKind.i64.wrap ((n : Int) - 1) = (d : Int) := by rw [IntWalk.i64_in _ ⟨by omega, by omega⟩]; omega
        have hsn1 : (n : Int) - 1 = (d : Int) := by omega
        have hd64 : d ≤ 19 := by omega
        have hpe : ((2 : Int) ^ d) = (h : Int) := by rw [hh]; simp
        rw [← hh] at hones hhalf
        have hpw : IntKind.i64.wrap ((2 : Int) ^ d) = (h : Int) := by rw [hpe, IntWalk.i64_in _ ⟨by omega, by omega⟩]
        have hmin1 : min d 64 = d := by omega
        have hhle : h ≤ 1048576 := by omega
        have hob : ((onesK n T S i : Int) == (h : Int)) = true := by rw [beq_iff_eq, hones]
        have HLU := hide (HLG.out u HBU.out)
        by_cases hb0 : by_ = 0
        · have hzb : ((by_ : Int) == 0) = true := by rw [hb0]; rfl
          have haz : alk n T S by_ i = i := by rw [hb0]; exact alk_zero n T S i
          have hab : ((alk n T S by_ i : Int) == (i : Int)) = true := by rw [haz]; simp
          generalize onesK n T S i = on at *
          generalize alk n T S by_ i = al at *
          clear hones hhalf hb0 haz hh hd hnd hS hmk hsh hsh1 hmin hal hon hbyN c1 c2
          go_wp2_with fail
          refine HLU.out.mono ?_
          rintro e w9 ⟨rfl, hb9⟩
          go_wp2_with fail
          go_ret
          exact ⟨rfl, below_then HBU.out hb9⟩
        · have hzb : ((by_ : Int) == 0) = false := by rw [beq_eq_false_iff_ne]; omega
          have hzn : ((by_ : Int) != 0) = true := by rw [bne_iff_ne]; omega
          have haz : alk n T S by_ i = h - 1 := by
            have := Gf2.alike_count (D := n) (T := T) (v := S) (by_ := by_) (by rw [HPP.out]; exact HI2.out.1) (by omega) (by omega) HG.out.tap HG.out.odd HG.out.seed HG.out.ne (by rw [← HNE.out]; exact HPER.out) (by omega) (by rw [← HNE.out]; omega)
            rw [← HNE.out, hnd, ← hh] at this
            exact this
          have hab : ((alk n T S by_ i : Int) == (h : Int) - 1) = true := by rw [beq_iff_eq, haz]; omega
          have hh1 : 1 ≤ h := by omega
          have hhw : IntKind.i64.wrap ((h : Int) - 1) = (h : Int) - 1 := IntWalk.i64_in _ ⟨by omega, by omega⟩
          generalize onesK n T S i = on at *
          generalize alk n T S by_ i = al at *
          clear hones hhalf hb0 haz hh hd hnd hS hmk hsh hsh1 hmin hal hon hbyN c1 c2
          go_wp2_with fail
          refine HLU.out.mono ?_
          rintro e w9 ⟨rfl, hb9⟩
          go_wp2_with fail
          go_ret
          exact ⟨rfl, below_then HBU.out hb9⟩
theorem law_greatest (D : Int) (T S : Nat) (m : Int) (hT : T ≤ 18446744073709551615) (hS : S ≤ 18446744073709551615) (hm : m ≤ 9223372036854775807) (w : World) (ht : TabW w) :
    Calls Tryd.prog 16 #[.agg #[.int .i64 D, .int .u64 T, .int .u64 S], .int .i64 m] w fun e w' => e = .returned (.bool true) ∧ Below w.heap.size w w' := by
  by_cases h : lchk D T S = 0
  · obtain ⟨n, rfl, hg⟩ := lchk_zero h
    have h2 := hg.lo
    have h20 := hg.hi
    have hp := pow20 hg.hi
    by_cases hm0 : m < 0
    · exact lgreat_neg n T S hg m hm0 w ht
    · obtain ⟨k, rfl⟩ : ∃ k : Nat, m = k := ⟨m.toNat, by omega⟩
      obtain ⟨M, hM, hMl⟩ := Gf2.ord_ex (p := 2 ^ n + T) (n := n) (gpol_odd hg.lo hg.odd) (Gf2.len_pol hg.tap)
      exact lgreat_good n T S M k hg hM (by omega) (by omega) w ht
  · exact lgreat_bad D T S hT hS h _ w ht
end Go.Proofs.YtknkkoemghceeaaDoor
