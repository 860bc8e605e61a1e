/- outpostref06.Wrong, Member, Invert and encoder.Member of whatever input, walked. -/
import Derived.Test.YtmmngcjnofcmmaaRows
import Derived.Test.YtmmngcjnofcmmaaR6Find
import Derived.BigQuiet
import Derived.Deep.QuietTactic
namespace Go.Proofs.Ytmmngcjnofcmmaa
open Go.RowKit

theorem below_drN {B : Nat} {w u : World} (h : Below B w u) (n : Nat) : Below B w (u.drewN n) := ⟨h.os, h.tape, h.output, h.size, h.block⟩
open Classical in
/-- is it a word -/
noncomputable def memB (K R : Int) (a b c : Nat) (S : List Nat) : Bool := decide (rdE K R a b c S = 0 ∧ HasMsg K R a b c S)
open Classical in
theorem memB_err {K R : Int} {a b c : Nat} {S : List Nat} (h : rdE K R a b c S ≠ 0) : memB K R a b c S = false := decide_eq_false fun e => h e.1
open Classical in
theorem memB_no {K R : Int} {a b c : Nat} {S : List Nat} (h : ¬ HasMsg K R a b c S) : memB K R a b c S = false := decide_eq_false fun e => h e.2
open Classical in
theorem memB_yes {K R : Int} {a b c : Nat} {S : List Nat} (h : rdE K R a b c S = 0) (h2 : HasMsg K R a b c S) : memB K R a b c S = true := decide_eq_true ⟨h, h2⟩
set_option maxHeartbeats 400000 in
theorem rwrong_check (K R : Int) (a b c : Nat) (hA : a ≤ 4294967295) (hB : b ≤ 4294967295) (hC : c ≤ 4294967295) (hne : checkF K R a b c ≠ 0) (x : Value) (w : World) :
    Calls Try.prog 46 #[.agg #[.int .i64 K, .int .i64 R, .int .u32 a, .int .u32 b, .int .u32 c], x] w fun e w' => e = .returned (.int .i64 (checkF K R a b c)) ∧ Below w.heap.size w w' := by
  have HN := hide (rcheck_any K R a b c hA hB hC)
  have hb := nzBne hne
  generalize checkF K R a b c = cf at *
  clear hne
  go_enter Try.func46, Try.ntmps46
  go_wp2_with fail
  refine (HN.out _).mono ?_
  rintro e w1 ⟨rfl, hb1⟩
  go_wp2_with fail
  go_ret
  exact ⟨rfl, below_one hb1⟩
set_option maxRecDepth 100000 in
set_option maxHeartbeats 1000000 in
theorem rwrong_mod (n a b c r : Nat) (hr : r = 2 ∨ r = 3) (hn : 2 ≤ n ∧ n ≤ 31) (hA : a ≤ 4294967295) (hB : b ≤ 4294967295) (hC : c ≤ 4294967295) (hck : checkF (n + 1) r a b c = 0) (ad : Option Addr) (cap : Nat) (S : List Nat) (hl : S.length ≤ 140737488351232) (h0 : S.length % r ≠ 0) (w : World) (hx : RowA w ad S) :
    Calls Try.prog 46 #[.agg #[.int .i64 (n + 1), .int .i64 r, .int .u32 a, .int .u32 b, .int .u32 c], .slice ad S.length cap] w fun e w' => e = .returned (.int .i64 5) ∧ Below w.heap.size w w' := by
  have HN := hide (rcheck_any (n + 1) r a b c hA hB hC)
  rw [hck] at HN
  have HX := hide hx
  have hrn : ¬ (r : Int) = 0 := by omega
  have hrb : ((r : Int) == 0) = false := by rw [beq_eq_false_iff_ne]; omega
  have hmod : (S.length : Int).tmod r = ((S.length % r : Nat) : Int) := by rw [Int.tmod_eq_emod_of_nonneg (by omega), Int.natCast_emod]
  have hdiv : (S.length : Int).tdiv r = ((S.length / r : Nat) : Int) := by rw [Int.tdiv_eq_ediv_of_nonneg (by omega), Int.natCast_ediv]
  have hdl : S.length / r ≤ S.length := Nat.div_le_self _ _
  have hml : S.length % r ≤ S.length := Nat.mod_le _ _
  have hm0 : ¬ ((S.length % r : Nat) : Int) = 0 := by omega
  have hmb : (((S.length % r : Nat) : Int) != 0) = true := by rw [bne_iff_ne]; exact hm0
  generalize S.length % r = qm at *
  generalize S.length / r = qd at *
  have hwm : IntKind.i64.wrap (qm : Int) = qm := IntWalk.i64_in _ (by omega)
  have hwd : IntKind.i64.wrap (qd : Int) = qd := IntWalk.i64_in _ (by omega)
  have hwn : IntKind.i64.wrap ((n : Int) + 1 - 1) = n := by rw [IntWalk.i64_in _ (by omega)]; omega
  clear hck hx hr
  go_enter Try.func46, Try.ntmps46
  go_wp2_with fail
  refine (HN.out _).mono ?_
  rintro e w1 ⟨rfl, hb1⟩
  obtain ⟨q0, q1, q2, q3, q4⟩ := ((CodeB.new w (n + 1) r a b c).keep hb1 (by simp)).cells
  have HB1 := hide (below_one hb1)
  clear hb1
  go_wp2_with fail
  go_quiet (fail)
  go_wp2_with fail
  go_ret
  exact ⟨rfl, below_drN HB1.out nq⟩

set_option maxRecDepth 100000 in
set_option maxHeartbeats 1000000 in
theorem rwrong_div (n a b c r : Nat) (hr : r = 2 ∨ r = 3) (hn : 2 ≤ n ∧ n ≤ 31) (hA : a ≤ 4294967295) (hB : b ≤ 4294967295) (hC : c ≤ 4294967295) (hck : checkF (n + 1) r a b c = 0) (ad : Option Addr) (cap : Nat) (S : List Nat) (hl : S.length ≤ 140737488351232) (h0 : S.length % r = 0) (h1 : S.length / r < n) (w : World) (hx : RowA w ad S) :
    Calls Try.prog 46 #[.agg #[.int .i64 (n + 1), .int .i64 r, .int .u32 a, .int .u32 b, .int .u32 c], .slice ad S.length cap] w fun e w' => e = .returned (.int .i64 5) ∧ Below w.heap.size w w' := by
  have HN := hide (rcheck_any (n + 1) r a b c hA hB hC)
  rw [hck] at HN
  have HX := hide hx
  have hrn : ¬ (r : Int) = 0 := by omega
  have hrb : ((r : Int) == 0) = false := by rw [beq_eq_false_iff_ne]; omega
  have hmod : (S.length : Int).tmod r = ((S.length % r : Nat) : Int) := by rw [Int.tmod_eq_emod_of_nonneg (by omega), Int.natCast_emod]
  have hdiv : (S.length : Int).tdiv r = ((S.length / r : Nat) : Int) := by rw [Int.tdiv_eq_ediv_of_nonneg (by omega), Int.natCast_ediv]
  have hdl : S.length / r ≤ S.length := Nat.div_le_self _ _
  have hml : S.length % r ≤ S.length := Nat.mod_le _ _
  rw [h0] at hmod hml
  have hd1 : ((S.length / r : Nat) : Int) < n := by omega
  generalize S.length % r = qm at *
  generalize S.length / r = qd at *
  have hwm : IntKind.i64.wrap (qm : Int) = qm := IntWalk.i64_in _ (by omega)
  have hwd : IntKind.i64.wrap (qd : Int) = qd := IntWalk.i64_in _ (by omega)
  have hwn : IntKind.i64.wrap ((n : Int) + 1 - 1) = n := by rw [IntWalk.i64_in _ (by omega)]; omega
  clear hck hx hr
  go_enter Try.func46, Try.ntmps46
  go_wp2_with fail
  refine (HN.out _).mono ?_
  rintro e w1 ⟨rfl, hb1⟩
  obtain ⟨q0, q1, q2, q3, q4⟩ := ((CodeB.new w (n + 1) r a b c).keep hb1 (by simp)).cells
  have HB1 := hide (below_one hb1)
  clear hb1
  go_wp2_with fail
  go_quiet (fail)
  go_wp2_with fail
  go_ret
  exact ⟨rfl, below_drN HB1.out nq⟩

set_option maxRecDepth 100000 in
set_option maxHeartbeats 1000000 in
theorem rwrong_bit (n a b c r : Nat) (hr : r = 2 ∨ r = 3) (hn : 2 ≤ n ∧ n ≤ 31) (hA : a ≤ 4294967295) (hB : b ≤ 4294967295) (hC : c ≤ 4294967295) (hck : checkF (n + 1) r a b c = 0) (ad : Option Addr) (cap : Nat) (S : List Nat) (hl : S.length ≤ 140737488351232) (h0 : S.length % r = 0) (h1 : ¬ S.length / r < n) (hb : ¬ Bits S) (w : World) (hx : RowA w ad S) :
    Calls Try.prog 46 #[.agg #[.int .i64 (n + 1), .int .i64 r, .int .u32 a, .int .u32 b, .int .u32 c], .slice ad S.length cap] w fun e w' => e = .returned (.int .i64 10) ∧ Below w.heap.size w w' := by
  have HN := hide (rcheck_any (n + 1) r a b c hA hB hC)
  rw [hck] at HN
  have HX := hide hx
  have hrn : ¬ (r : Int) = 0 := by omega
  have hrb : ((r : Int) == 0) = false := by rw [beq_eq_false_iff_ne]; omega
  have hmod : (S.length : Int).tmod r = ((S.length % r : Nat) : Int) := by rw [Int.tmod_eq_emod_of_nonneg (by omega), Int.natCast_emod]
  have hdiv : (S.length : Int).tdiv r = ((S.length / r : Nat) : Int) := by rw [Int.tdiv_eq_ediv_of_nonneg (by omega), Int.natCast_ediv]
  have hdl : S.length / r ≤ S.length := Nat.div_le_self _ _
  have hml : S.length % r ≤ S.length := Nat.mod_le _ _
  rw [h0] at hmod hml
  have hd1 : ¬ ((S.length / r : Nat) : Int) < n := by omega
  have HR := hide fun w hx => rright_no ad cap S hl hb w hx
  generalize S.length % r = qm at *
  generalize S.length / r = qd at *
  have hwm : IntKind.i64.wrap (qm : Int) = qm := IntWalk.i64_in _ (by omega)
  have hwd : IntKind.i64.wrap (qd : Int) = qd := IntWalk.i64_in _ (by omega)
  have hwn : IntKind.i64.wrap ((n : Int) + 1 - 1) = n := by rw [IntWalk.i64_in _ (by omega)]; omega
  clear hck hx hr
  go_enter Try.func46, Try.ntmps46
  go_wp2_with fail
  refine (HN.out _).mono ?_
  rintro e w1 ⟨rfl, hb1⟩
  obtain ⟨q0, q1, q2, q3, q4⟩ := ((CodeB.new w (n + 1) r a b c).keep hb1 (by simp)).cells
  have HB1 := hide (below_one hb1)
  clear hb1
  go_wp2_with fail
  go_quiet (fail)
  go_wp2_with fail
  refine (HR.out (w1.drewN nq) ((HX.out.below HB1.out).keep (Nat.le_refl _) (fun _ _ _ _ => rfl))).mono ?_
  rintro e w' ⟨rfl, rfl⟩
  go_wp2_with fail
  go_ret
  exact ⟨rfl, below_drN HB1.out nq⟩

set_option maxRecDepth 100000 in
set_option maxHeartbeats 1000000 in
theorem rwrong_ok (n a b c r : Nat) (hr : r = 2 ∨ r = 3) (hn : 2 ≤ n ∧ n ≤ 31) (hA : a ≤ 4294967295) (hB : b ≤ 4294967295) (hC : c ≤ 4294967295) (hck : checkF (n + 1) r a b c = 0) (ad : Option Addr) (cap : Nat) (S : List Nat) (hl : S.length ≤ 140737488351232) (h0 : S.length % r = 0) (h1 : ¬ S.length / r < n) (hb : Bits S) (w : World) (hx : RowA w ad S) :
    Calls Try.prog 46 #[.agg #[.int .i64 (n + 1), .int .i64 r, .int .u32 a, .int .u32 b, .int .u32 c], .slice ad S.length cap] w fun e w' => e = .returned (.int .i64 0) ∧ Below w.heap.size w w' := by
  have HN := hide (rcheck_any (n + 1) r a b c hA hB hC)
  rw [hck] at HN
  have HX := hide hx
  have hrn : ¬ (r : Int) = 0 := by omega
  have hrb : ((r : Int) == 0) = false := by rw [beq_eq_false_iff_ne]; omega
  have hmod : (S.length : Int).tmod r = ((S.length % r : Nat) : Int) := by rw [Int.tmod_eq_emod_of_nonneg (by omega), Int.natCast_emod]
  have hdiv : (S.length : Int).tdiv r = ((S.length / r : Nat) : Int) := by rw [Int.tdiv_eq_ediv_of_nonneg (by omega), Int.natCast_ediv]
  have hdl : S.length / r ≤ S.length := Nat.div_le_self _ _
  have hml : S.length % r ≤ S.length := Nat.mod_le _ _
  rw [h0] at hmod hml
  have hd1 : ¬ ((S.length / r : Nat) : Int) < n := by omega
  have HR := hide fun w hx => rright_yes ad cap S hl hb w hx
  generalize S.length % r = qm at *
  generalize S.length / r = qd at *
  have hwm : IntKind.i64.wrap (qm : Int) = qm := IntWalk.i64_in _ (by omega)
  have hwd : IntKind.i64.wrap (qd : Int) = qd := IntWalk.i64_in _ (by omega)
  have hwn : IntKind.i64.wrap ((n : Int) + 1 - 1) = n := by rw [IntWalk.i64_in _ (by omega)]; omega
  clear hck hx hr
  go_enter Try.func46, Try.ntmps46
  go_wp2_with fail
  refine (HN.out _).mono ?_
  rintro e w1 ⟨rfl, hb1⟩
  obtain ⟨q0, q1, q2, q3, q4⟩ := ((CodeB.new w (n + 1) r a b c).keep hb1 (by simp)).cells
  have HB1 := hide (below_one hb1)
  clear hb1
  go_wp2_with fail
  go_quiet (fail)
  go_wp2_with fail
  refine (HR.out (w1.drewN nq) ((HX.out.below HB1.out).keep (Nat.le_refl _) (fun _ _ _ _ => rfl))).mono ?_
  rintro e w' ⟨rfl, rfl⟩
  go_wp2_with fail
  go_ret
  exact ⟨rfl, below_drN HB1.out nq⟩

theorem rwrong_any (K R : Int) (a b c : Nat) (hA : a ≤ 4294967295) (hB : b ≤ 4294967295) (hC : c ≤ 4294967295) (ad : Option Addr) (cap : Nat) (S : List Nat) (hl : S.length ≤ 140737488351232) (w : World) (hx : RowA w ad S) :
    Calls Try.prog 46 #[.agg #[.int .i64 K, .int .i64 R, .int .u32 a, .int .u32 b, .int .u32 c], .slice ad S.length cap] w fun e w' => e = .returned (.int .i64 (rdE K R a b c S)) ∧ Below w.heap.size w w' := by
  by_cases hck : checkF K R a b c = 0
  · obtain ⟨n, rfl, h2, h31, hR⟩ := good_code hck
    obtain ⟨r, rfl, hr⟩ : ∃ r : Nat, R = r ∧ (r = 2 ∨ r = 3) := by
      rcases hR with rfl | rfl
      · exact ⟨2, rfl, .inl rfl⟩
      · exact ⟨3, rfl, .inr rfl⟩
    have hrate : rateN r = r := by rcases hr with rfl | rfl <;> rfl
    have en : ((n : Int) + 1 - 1).toNat = n := by omega
    by_cases h0 : S.length % r = 0
    · by_cases h1 : S.length / r < n
      · rw [rdE_shape hck (.inr (by rw [hrate, en]; exact h1))]
        exact rwrong_div n a b c r hr ⟨h2, h31⟩ hA hB hC hck ad cap S hl h0 h1 w hx
      · have hs : ¬ (S.length % rateN r ≠ 0 ∨ S.length / rateN r < ((n : Int) + 1 - 1).toNat) := by rw [hrate, en]; exact fun h => h.elim (fun e => e h0) h1
        by_cases hb : Bits S
        · rw [rdE_good hck hs hb]
          exact rwrong_ok n a b c r hr ⟨h2, h31⟩ hA hB hC hck ad cap S hl h0 h1 hb w hx
        · rw [rdE_bit hck hs hb]
          exact rwrong_bit n a b c r hr ⟨h2, h31⟩ hA hB hC hck ad cap S hl h0 h1 hb w hx
    · rw [rdE_shape hck (.inl (by rw [hrate]; exact h0))]
      exact rwrong_mod n a b c r hr ⟨h2, h31⟩ hA hB hC hck ad cap S hl h0 w hx
  · rw [rdE_check hck]
    exact rwrong_check K R a b c hA hB hC hck _ w
theorem rfind_good (K R : Int) (a b c : Nat) (hA : a ≤ 4294967295) (hB : b ≤ 4294967295) (hC : c ≤ 4294967295) (ad : Option Addr) (cap : Nat) (S : List Nat) (hl : S.length ≤ 140737488351232) (hz : rdE K R a b c S = 0) (w : World) (hx : RowA w ad S) :
    Calls Try.prog 47 #[.agg #[.int .i64 K, .int .i64 R, .int .u32 a, .int .u32 b, .int .u32 c], .slice ad S.length cap] w fun e w' => ∃ v bs, e = .returned (.tuple #[v, .bool (memB K R a b c S)]) ∧ OwnB w' w.heap.size v bs ∧ (memB K R a b c S = true → bs = invO K R a b c S) ∧ Below w.heap.size w w' := by
  obtain ⟨hck, hs, hb⟩ := rdE_zero hz
  obtain ⟨n, rfl, h2, h31, hR⟩ := good_code hck
  obtain ⟨r, rfl, hr⟩ : ∃ r : Nat, R = r ∧ (r = 2 ∨ r = 3) := by
    rcases hR with rfl | rfl
    · exact ⟨2, rfl, .inl rfl⟩
    · exact ⟨3, rfl, .inr rfl⟩
  have hrate : rateN r = r := by rcases hr with rfl | rfl <;> rfl
  have en : ((n : Int) + 1 - 1).toNat = n := by omega
  rw [hrate, en] at hs
  have h4 : S.length % r = 0 := Classical.byContradiction fun h => hs (.inl h)
  have h5 : ¬ S.length / r < n := fun h => hs (.inr h)
  have hS : S.length = (S.length / r - n + n) * r := by
    rw [Nat.sub_add_cancel (Nat.le_of_not_lt h5)]
    have := Nat.div_add_mod S.length r
    rw [h4, Nat.mul_comm] at this
    omega
  refine (rfind_any n a b c r _ hr ⟨h2, h31⟩ hA hB hC hck ad cap S hS hl hb w hx).mono ?_
  rintro e w' ⟨v, bs, _, rfl, ho, hbb, hys, hbl⟩
  have hsb : sameB (wordF r a b c n bs) S = decide (wordF r a b c n bs = S) := sameB_eq (fun i => Nat.le_trans (getD_le (syms_le _ _ _ _ _ _ _ _) i) (by omega)) (fun i => Nat.le_trans (hb.all i) (by omega))
  have hm : sameB (wordF r a b c n bs) S = memB (n + 1) r a b c S := by
    rw [hsb]
    by_cases e : wordF r a b c n bs = S
    · rw [decide_eq_true e, memB_yes hz ⟨bs, by rw [en]; exact ⟨hbb, e⟩⟩]
    · rw [decide_eq_false e, memB_no]
      rintro ⟨ys, hy⟩
      rw [en] at hy
      exact e (hys ys hy).2
  rw [hm]
  refine ⟨v, bs, rfl, ho, fun ht => ?_, hbl⟩
  have hb' := hm.trans ht
  rw [hsb, decide_eq_true_eq] at hb'
  exact (invE_yes hz (xs := bs) (by rw [en]; exact ⟨hbb, hb'⟩)).2.symm
set_option maxHeartbeats 400000 in
theorem rmember_any (K R : Int) (a b c : Nat) (hA : a ≤ 4294967295) (hB : b ≤ 4294967295) (hC : c ≤ 4294967295) (ad : Option Addr) (cap : Nat) (S : List Nat) (hl : S.length ≤ 140737488351232) (w : World) (hx : RowA w ad S) :
    Calls Try.prog 25 #[.agg #[.int .i64 K, .int .i64 R, .int .u32 a, .int .u32 b, .int .u32 c], .slice ad S.length cap] w fun e w' => e = .returned (.tuple #[.bool (memB K R a b c S), .int .i64 (rdE K R a b c S)]) ∧ Below w.heap.size w w' := by
  have HW := hide fun w hx => rwrong_any K R a b c hA hB hC ad cap S hl w hx
  have HX := hide hx
  clear hx
  by_cases hz : rdE K R a b c S = 0
  · have HF := hide fun w hx => rfind_good K R a b c hA hB hC ad cap S hl hz w hx
    rw [hz] at HW
    rw [hz]
    generalize memB K R a b c S = mb at *
    clear hz
    go_enter Try.func25, Try.ntmps25
    go_wp2_with fail
    refine (HW.out _ (HX.out.alloc _)).mono ?_
    rintro e w1 ⟨rfl, hb1⟩
    obtain ⟨q0, q1, q2, q3, q4⟩ := ((CodeB.new w K R a b c).keep hb1 (by simp)).cells
    have HB1 := hide (below_one hb1)
    clear hb1
    go_wp2_with fail
    refine (HF.out _ (HX.out.below HB1.out)).mono ?_
    rintro e w2 ⟨v, bs, rfl, ho, _, hb2⟩
    go_wp2_with fail
    go_ret2
    exact ⟨rfl, below_then HB1.out hb2⟩
  · have hb := nzBne hz
    rw [memB_err hz]
    generalize rdE K R a b c S = cf at *
    clear hz
    go_enter Try.func25, Try.ntmps25
    go_wp2_with fail
    refine (HW.out _ (HX.out.alloc _)).mono ?_
    rintro e w1 ⟨rfl, hb1⟩
    go_wp2_with fail
    go_ret2
    exact ⟨rfl, below_one hb1⟩
set_option maxHeartbeats 400000 in
theorem rinvert_any (K R : Int) (a b c : Nat) (hA : a ≤ 4294967295) (hB : b ≤ 4294967295) (hC : c ≤ 4294967295) (ad : Option Addr) (cap : Nat) (S : List Nat) (hl : S.length ≤ 140737488351232) (w : World) (hx : RowA w ad S) :
    Calls Try.prog 26 #[.agg #[.int .i64 K, .int .i64 R, .int .u32 a, .int .u32 b, .int .u32 c], .slice ad S.length cap] w fun e w' => ∃ v, e = .returned (.tuple #[v, .int .i64 (invE K R a b c S)]) ∧ OwnB w' w.heap.size v (invO K R a b c S) ∧ Below w.heap.size w w' := by
  have HW := hide fun w hx => rwrong_any K R a b c hA hB hC ad cap S hl w hx
  have HX := hide hx
  clear hx
  by_cases hz : rdE K R a b c S = 0
  · have HF := hide fun w hx => rfind_good K R a b c hA hB hC ad cap S hl hz w hx
    by_cases hm : HasMsg K R a b c S
    · have e1 := memB_yes hz hm
      obtain ⟨xs, hmx⟩ := hm
      rw [(invE_yes hz hmx).1]
      rw [e1] at HF
      rw [hz] at HW
      generalize invO K R a b c S = is at *
      clear hz hmx e1
      go_enter Try.func26, Try.ntmps26
      go_wp2_with fail
      refine (HW.out _ (HX.out.alloc _)).mono ?_
      rintro e w1 ⟨rfl, hb1⟩
      obtain ⟨q0, q1, q2, q3, q4⟩ := ((CodeB.new w K R a b c).keep hb1 (by simp)).cells
      have HB1 := hide (below_one hb1)
      have hz1 := HB1.out.size
      clear hb1
      go_wp2_with fail
      refine (HF.out _ (HX.out.below HB1.out)).mono ?_
      rintro e w2 ⟨v, bs, rfl, ho, he, hb2⟩
      have hbi := he trivial
      subst hbi
      have HO := hide ho
      clear ho he
      go_wp2_with fail
      go_ret2
      exact ⟨v, rfl, OwnB.base HO.out hz1, below_then HB1.out hb2⟩
    · have e1 := memB_no hm
      obtain ⟨e2, e3⟩ := invE_no hz hm
      rw [e2, e3]
      rw [e1] at HF
      rw [hz] at HW
      clear hz hm e1 e2 e3
      go_enter Try.func26, Try.ntmps26
      go_wp2_with fail
      refine (HW.out _ (HX.out.alloc _)).mono ?_
      rintro e w1 ⟨rfl, hb1⟩
      obtain ⟨q0, q1, q2, q3, q4⟩ := ((CodeB.new w K R a b c).keep hb1 (by simp)).cells
      have HB1 := hide (below_one hb1)
      clear hb1
      go_wp2_with fail
      refine (HF.out _ (HX.out.below HB1.out)).mono ?_
      rintro e w2 ⟨v, bs, rfl, ho, _, hb2⟩
      clear ho
      go_wp2_with fail
      go_ret2
      exact ⟨_, rfl, OwnB.nil _ _, below_then HB1.out hb2⟩
  · have hb := nzBne hz
    obtain ⟨e2, e3⟩ := invE_err hz
    rw [e2, e3]
    generalize rdE K R a b c S = cf at *
    clear hz e2 e3
    go_enter Try.func26, Try.ntmps26
    go_wp2_with fail
    refine (HW.out _ (HX.out.alloc _)).mono ?_
    rintro e w1 ⟨rfl, hb1⟩
    go_wp2_with fail
    go_ret2
    exact ⟨_, rfl, OwnB.nil _ _, below_one hb1⟩
set_option maxHeartbeats 400000 in
theorem lmember_any (K R : Int) (a b c : Nat) (hA : a ≤ 4294967295) (hB : b ≤ 4294967295) (hC : c ≤ 4294967295) (ad : Option Addr) (cap : Nat) (S : List Nat) (hl : S.length ≤ 140737488351232) (hcap : S.length ≤ cap) (w : World) (hx : RowA w ad S) :
    Calls Try.prog 24 #[.agg #[.int .i64 K, .int .i64 R, .int .u32 a, .int .u32 b, .int .u32 c], .slice ad S.length cap] w fun e w' => e = .returned (.tuple #[.bool (memB K R a b c S), .int .i64 (rdE K R a b c S)]) ∧ Below w.heap.size w w' := by
  have HX := hide hx
  clear hx
  by_cases hz : rdE K R a b c S = 0
  · have HRD := hide fun w hx => read_ok K R a b c hA hB hC ad cap S hl hcap hz w hx
    have HM := hide (fun xs (h : IsMsg R a b c (K - 1).toNat S xs) => memB_yes hz ⟨xs, h⟩)
    have HN := hide (fun (h : ∀ xs, ¬ IsMsg R a b c (K - 1).toNat S xs) => memB_no (K := K) (fun ⟨xs, hx⟩ => h xs hx))
    rw [hz]
    generalize memB K R a b c S = mb at *
    clear hz
    go_enter Try.func24, Try.ntmps24
    go_wp2_with fail
    refine (HRD.out _ (HX.out.alloc _)).mono ?_
    rintro e w1 h
    rcases h with ⟨ys, v, hm2, rfl, ho, hb⟩ | ⟨hno, rfl, hb⟩
    · have hmb := HM.out ys hm2
      subst hmb
      have HB := hide (below_one hb)
      clear ho hb hm2
      go_wp2_with fail
      go_ret2
      exact ⟨rfl, HB.out⟩
    · have hmb := HN.out hno
      subst hmb
      have HB := hide (below_one hb)
      clear hb hno
      go_wp2_with fail
      go_ret2
      exact ⟨rfl, HB.out⟩
  · have HRD := hide fun w hx => read_err K R a b c hA hB hC ad cap S hl hz w hx
    rw [memB_err hz]
    generalize rdE K R a b c S = cf at *
    clear hz
    go_enter Try.func24, Try.ntmps24
    go_wp2_with fail
    refine (HRD.out _ (HX.out.alloc _)).mono ?_
    rintro e w1 ⟨rfl, hb1⟩
    have HB := hide (below_one hb1)
    clear hb1
    go_wp2_with fail
    go_ret2
    exact ⟨rfl, HB.out⟩
end Go.Proofs.Ytmmngcjnofcmmaa
