/- The law CodeTurns, walked: it returns true. -/
import Derived.Test.YtfjaohadjmigoaaDoorRows
import Derived.Test.YtfjaohadjmigoaaDoorLcMirror
import Derived.Test.YtfjaohadjmigoaaDoorRRev
import Derived.Test.YtfjaohadjmigoaaDoorRInv
import Derived.Test.YtfjaohadjmigoaaDoorRTurn
namespace Go.Proofs.YtfjaohadjmigoaaDoor
open Go.RowKit
set_option linter.unusedVariables false

theorem wpart0 (a b c : Int) (w : World) : (part 37 #[.int .u64 a, .int .u64 b, .int .u64 c] 0).run Tryd.prog w = .ok (.int .u64 a) w := by kernel_rfl
theorem wpart1 (a b c : Int) (w : World) : (part 37 #[.int .u64 a, .int .u64 b, .int .u64 c] Tryd.t37.size).run Tryd.prog w = .ok (.int .u64 b) w := by kernel_rfl
theorem wpart2 (a b c : Int) (w : World) : (part 37 #[.int .u64 a, .int .u64 b, .int .u64 c] (2 * Tryd.t37.size)).run Tryd.prog w = .ok (.int .u64 c) w := by kernel_rfl
theorem eq_words (d : Nat) (a b c x y z : Int) (w : World) :
    (Op.equalIn (d + 2) 39 (.agg #[.int .u64 a, .int .u64 b, .int .u64 c]) (.agg #[.int .u64 x, .int .u64 y, .int .u64 z])).run Tryd.prog w = .ok (a == x && (b == y && c == z)) w := by
  have e (p q : Int) (w : World) := run_equalIn_int (P := Tryd.prog) w d 37 .u64 .u64 p q Tryd.underlying37
  unfold Op.equalIn
  simp only [Sem.run_bind, run_underlying Tryd.underlying39, Result.andThen_ok]
  simp only [Std.Legacy.Range.forIn_eq_forIn_range', sizeOf]
  simp [show List.range' 0 3 = [0, 1, 2] from rfl, wpart0, wpart1, wpart2, e]
  by_cases h1 : a = x <;> by_cases h2 : b = y <;> by_cases h3 : c = z <;> simp [h1, h2, h3]
theorem eq_words_same (a b c : Int) (w : World) :
    (Op.equalIn 10000 39 (.agg #[.int .u64 a, .int .u64 b, .int .u64 c]) (.agg #[.int .u64 a, .int .u64 b, .int .u64 c])).run Tryd.prog w = .ok true w := by
  have := eq_words 9998 a b c a b c w
  simpa using this
/-- three words in a box -/
def WordsB (w : World) (g : Nat) (x y z : Nat) : Prop := w.heap[g]? = some (.cells #[.int .u64 x, .int .u64 y, .int .u64 z] 39 (0, 0))
theorem WordsB.cells {w : World} {g : Nat} {x y z : Nat} (h : WordsB w g x y z) : w.cell? ⟨g, 0, none⟩ = some (.int .u64 x) ∧ w.cell? ⟨g, 1, none⟩ = some (.int .u64 y) ∧ w.cell? ⟨g, 2, none⟩ = some (.int .u64 z) := by
  unfold WordsB at h
  refine ⟨?_, ?_, ?_⟩ <;> simp [World.cell?, h]
theorem WordsB.lt {w : World} {g : Nat} {x y z : Nat} (h : WordsB w g x y z) : g < w.heap.size := by
  unfold WordsB at h
  exact (Array.getElem?_eq_some_iff.1 h).1
theorem WordsB.keep {w w' : World} {g B : Nat} {x y z : Nat} (h : WordsB w g x y z) (hb : Below B w w') (hg : g < B) : WordsB w' g x y z := (hb.block g hg).trans h
theorem WordsB.new (w : World) (x y z : Nat) : WordsB (w.alloc (.cells #[.int .u64 x, .int .u64 y, .int .u64 z] 39)) w.heap.size x y z := heap_alloc_new w _
theorem al_only (w : World) (o : Obj) : Below w.heap.size w (w.alloc o) := (Below.refl _ _).alloc (Nat.le_refl _) _

/-- what the eight calls answer -/
structure TurnsOf (K R : Int) (a b c : Nat) (w0 : World) (e : Int) (K' R' : Int) (a' b' c' : Nat) (x y z : Nat) (s : Bool) (k : Int) (l : Bool) : Prop where
  rev : ∀ w, Calls Tryd.prog 5 #[.agg #[.int .i64 K, .int .i64 R, .int .u32 a, .int .u32 b, .int .u32 c]] w fun r w' => r = .returned (.tuple #[.agg #[.int .i64 K', .int .i64 R', .int .u32 a', .int .u32 b', .int .u32 c'], .int .i64 e]) ∧ Below w.heap.size w w'
  rrev : ∀ w, Calls Tryd.prog 12 #[.agg #[.int .i64 K, .int .i64 R, .int .u32 a, .int .u32 b, .int .u32 c]] w fun r w' => r = .returned (.tuple #[.agg #[.int .i64 K', .int .i64 R', .int .u32 a', .int .u32 b', .int .u32 c'], .int .i64 e]) ∧ Below w.heap.size w w'
  sys : ∀ w, Calls Tryd.prog 9 #[.agg #[.int .i64 K, .int .i64 R, .int .u32 a, .int .u32 b, .int .u32 c]] w fun r w' => r = .returned (.tuple #[.bool s, .int .i64 e]) ∧ Below w.heap.size w w'
  rsys : ∀ w, Calls Tryd.prog 14 #[.agg #[.int .i64 K, .int .i64 R, .int .u32 a, .int .u32 b, .int .u32 c]] w fun r w' => r = .returned (.tuple #[.bool s, .int .i64 e]) ∧ Below w.heap.size w w'
  look : ∀ w, TabW w → Calls Tryd.prog 10 #[.agg #[.int .i64 K, .int .i64 R, .int .u32 a, .int .u32 b, .int .u32 c]] w fun r w' => r = .returned (.tuple #[.int .i64 k, .bool l, .int .i64 e]) ∧ Below w.heap.size w w'
  rlook : ∀ w, Calls Tryd.prog 15 #[.agg #[.int .i64 K, .int .i64 R, .int .u32 a, .int .u32 b, .int .u32 c]] w fun r w' => r = .returned (.tuple #[.int .i64 k, .bool l, .int .i64 e]) ∧ Below w.heap.size w w'
theorem CodeInvR.unique {R : Int} {a b c x y z x' y' z' : Nat} (hb : b ≠ 0) (hc : R ≠ 2 → c ≠ 0) (h : CodeInvR R a b c x y z) (h' : CodeInvR R a b c x' y' z') : x = x' ∧ y = y' ∧ z = z' := by
  rcases h with ⟨h1, h2, h3⟩ | ⟨h1, s, t, u, h2, h3, h4, h5⟩
  · rcases h' with ⟨_, g2, g3⟩ | ⟨g1, _⟩
    · obtain ⟨e1, e2⟩ := h2.unique hb g2
      exact ⟨e1, e2, by rw [h3, g3]⟩
    · exact absurd h1 g1
  · rcases h' with ⟨g1, _⟩ | ⟨_, s', t', u', g2, g3, g4, g5⟩
    · exact absurd g1 h1
    · obtain ⟨e1, e2⟩ := h2.unique hb g2
      obtain ⟨e3, e4⟩ := h3.unique (hc h1) g3
      exact ⟨by rw [h4, g4, e1, e3], by rw [h5, g5, e2, e3], e4⟩
set_option maxRecDepth 100000 in
set_option maxHeartbeats 8000000 in
theorem turns_walk (K R : Int) (a b c : Nat) (w : World) (e K' R' : Int) (a' b' c' : Nat) (s : Bool) (k : Int) (l : Bool) (P : Nat → Nat → Nat → Prop)
    (HT : Hid (TurnsOf K R a b c w e K' R' a' b' c' 0 0 0 s k l))
    (HI : Hid (∀ w, Calls Tryd.prog 11 #[.agg #[.int .i64 K, .int .i64 R, .int .u32 a, .int .u32 b, .int .u32 c]] w fun r w' => ∃ x y z : Nat, P x y z ∧ r = .returned (.tuple #[.agg #[.int .u64 x, .int .u64 y, .int .u64 z], .int .i64 e]) ∧ Below w.heap.size w w'))
    (HJ : Hid (∀ w, Calls Tryd.prog 13 #[.agg #[.int .i64 K, .int .i64 R, .int .u32 a, .int .u32 b, .int .u32 c]] w fun r w' => ∃ x y z : Nat, P x y z ∧ r = .returned (.tuple #[.agg #[.int .u64 x, .int .u64 y, .int .u64 z], .int .i64 e]) ∧ Below w.heap.size w w'))
    (HQ : Hid (∀ x y z x' y' z', P x y z → P x' y' z' → x = x' ∧ y = y' ∧ z = z')) (ht : Hid (TabW w)) :
    Calls Tryd.prog 4 #[.agg #[.int .i64 K, .int .i64 R, .int .u32 a, .int .u32 b, .int .u32 c]] w fun e w' => e = .returned (.bool true) ∧ Below w.heap.size w w' := by
  go_enter Tryd.func4, Tryd.ntmps4
  go_upto_region 1 with fail
  have n0 := CodeB.new w K R a b c
  have al := al_only w (.cells #[.int .i64 K, .int .i64 R, .int .u32 a, .int .u32 b, .int .u32 c] 25)
  generalize hX : (w.alloc (.cells #[.int .i64 K, .int .i64 R, .int .u32 a, .int .u32 b, .int .u32 c] 25)) = X0 at *
  clear hX
  have HBW := hide al
  have HU := hide fun (u : World) (h : Below X0.heap.size X0 u) => (n0.keep h n0.lt).cells
  have HB0 := hide (Below.refl X0.heap.size X0)
  have ht0 := hide (ht.out.below al)
  clear n0 al
  obtain ⟨s0, s1, s2, s3, s4⟩ := HU.out _ HB0.out
  go_wp2_with fail
  refine (HT.out.rev _).mono ?_
  rintro e w1 ⟨rfl, hb⟩
  have nw := CodeB.new w1 K' R' a' b' c'
  have al := al_only w1 (.cells #[.int .i64 K', .int .i64 R', .int .u32 a', .int .u32 b', .int .u32 c'] 25)
  go_upto_region 2 with fail
  generalize hX : (w1.alloc (.cells #[.int .i64 K', .int .i64 R', .int .u32 a', .int .u32 b', .int .u32 c'] 25)) = X1 at *
  clear hX
  have HD1 := hide (below_then hb al)
  have HN1 := hide fun (u : World) (h : Below X1.heap.size X1 u) => (nw.keep h nw.lt).cells
  clear nw al hb
  have HB1 := hide (below_then HB0.out HD1.out)
  clear s0 s1 s2 s3 s4
  obtain ⟨s0, s1, s2, s3, s4⟩ := HU.out _ HB1.out
  go_wp2_with fail
  refine (HI.out _).mono ?_
  rintro e w2 ⟨x, y, z, hp, rfl, hb⟩
  have nw := WordsB.new w2 x y z
  have al := al_only w2 (.cells #[.int .u64 x, .int .u64 y, .int .u64 z] 39)
  go_upto_region 3 with fail
  generalize hX : (w2.alloc (.cells #[.int .u64 x, .int .u64 y, .int .u64 z] 39)) = X2 at *
  clear hX
  have HD2 := hide (below_then hb al)
  have HN2 := hide fun (u : World) (h : Below X2.heap.size X2 u) => (nw.keep h nw.lt).cells
  clear nw al hb
  have HB2 := hide (below_then HB1.out HD2.out)
  clear s0 s1 s2 s3 s4
  obtain ⟨s0, s1, s2, s3, s4⟩ := HU.out _ HB2.out
  have HP := hide hp
  clear hp
  go_wp2_with fail
  refine (HT.out.sys _).mono ?_
  rintro e w3 ⟨rfl, hb⟩
  have HD3 := hide hb
  clear hb
  have HB3 := hide (below_then HB2.out HD3.out)
  clear s0 s1 s2 s3 s4
  obtain ⟨s0, s1, s2, s3, s4⟩ := HU.out _ HB3.out
  go_wp2_with fail
  refine (HT.out.look _ (ht0.out.below HB3.out)).mono ?_
  rintro e w4 ⟨rfl, hb⟩
  have HD4 := hide hb
  clear hb
  have HB4 := hide (below_then HB3.out HD4.out)
  clear s0 s1 s2 s3 s4
  obtain ⟨s0, s1, s2, s3, s4⟩ := HU.out _ HB4.out
  go_wp2_with fail
  refine (HT.out.rrev _).mono ?_
  rintro e w5 ⟨rfl, hb⟩
  have nw := CodeB.new w5 K' R' a' b' c'
  have al := al_only w5 (.cells #[.int .i64 K', .int .i64 R', .int .u32 a', .int .u32 b', .int .u32 c'] 25)
  go_upto_region 6 with fail
  generalize hX : (w5.alloc (.cells #[.int .i64 K', .int .i64 R', .int .u32 a', .int .u32 b', .int .u32 c'] 25)) = X5 at *
  clear hX
  have HD5 := hide (below_then hb al)
  have HN5 := hide fun (u : World) (h : Below X5.heap.size X5 u) => (nw.keep h nw.lt).cells
  clear nw al hb
  have HB5 := hide (below_then HB4.out HD5.out)
  clear s0 s1 s2 s3 s4
  obtain ⟨s0, s1, s2, s3, s4⟩ := HU.out _ HB5.out
  go_wp2_with fail
  refine (HJ.out _).mono ?_
  rintro e w6 ⟨x', y', z', hp', rfl, hb⟩
  have nw := WordsB.new w6 x' y' z'
  have al := al_only w6 (.cells #[.int .u64 x', .int .u64 y', .int .u64 z'] 39)
  go_upto_region 7 with fail
  generalize hX : (w6.alloc (.cells #[.int .u64 x', .int .u64 y', .int .u64 z'] 39)) = X6 at *
  clear hX
  have HD6 := hide (below_then hb al)
  have HN6 := hide fun (u : World) (h : Below X6.heap.size X6 u) => (nw.keep h nw.lt).cells
  clear nw al hb
  have HB6 := hide (below_then HB5.out HD6.out)
  clear s0 s1 s2 s3 s4
  obtain ⟨s0, s1, s2, s3, s4⟩ := HU.out _ HB6.out
  obtain ⟨rfl, rfl, rfl⟩ := HQ.out _ _ _ _ _ _ HP.out hp'
  clear hp'
  go_wp2_with fail
  refine (HT.out.rsys _).mono ?_
  rintro e w7 ⟨rfl, hb⟩
  have HD7 := hide hb
  clear hb
  have HB7 := hide (below_then HB6.out HD7.out)
  clear s0 s1 s2 s3 s4
  obtain ⟨s0, s1, s2, s3, s4⟩ := HU.out _ HB7.out
  go_wp2_with fail
  refine (HT.out.rlook _).mono ?_
  rintro e w8 ⟨rfl, hb⟩
  have HD8 := hide hb
  clear hb
  have HB8 := hide (below_then HB7.out HD8.out)
  clear s0 s1 s2 s3 s4
  obtain ⟨s0, s1, s2, s3, s4⟩ := HU.out _ HB8.out
  obtain ⟨p10, p11, p12, p13, p14⟩ := HN1.out _ (below_then HD2.out (below_then HD3.out (below_then HD4.out (below_then HD5.out (below_then HD6.out (below_then HD7.out (HD8.out)))))))
  obtain ⟨p50, p51, p52, p53, p54⟩ := HN5.out _ (below_then HD6.out (below_then HD7.out (HD8.out)))
  obtain ⟨p20, p21, p22⟩ := HN2.out _ (below_then HD3.out (below_then HD4.out (below_then HD5.out (below_then HD6.out (below_then HD7.out (HD8.out))))))
  obtain ⟨p60, p61, p62⟩ := HN6.out _ (below_then HD7.out (HD8.out))
  have eqs := eq_same a' b' c'
  have eqw := eq_words_same x y z
  have es : (s != s) = false := by cases s <;> rfl
  have el : (l != l) = false := by cases l <;> rfl
  have ek : (k != k) = false := by simp
  have ee : (e == e) = true := by simp
  clear s0 s1 s2 s3 s4
  go_wp2_with fail
  refine (num_any _ _).mono ?_
  rintro e w' ⟨rfl, rfl⟩
  go_wp2_with fail
  refine (num_any _ _).mono ?_
  rintro e w' ⟨rfl, rfl⟩
  go_wp2_with fail
  refine (num_any _ _).mono ?_
  rintro e w' ⟨rfl, rfl⟩
  go_wp2_with fail
  refine (num_any _ _).mono ?_
  rintro e w' ⟨rfl, rfl⟩
  go_wp2_with fail
  refine (knows_any _).mono ?_
  rintro e w9 ⟨rfl, hb9⟩
  go_wp2_with fail
  go_ret
  exact ⟨rfl, below_then HBW.out (below_then HB8.out hb9)⟩
theorem law_turns (K R : Int) (a b c : Nat) (hA : a ≤ 4294967295) (hB : b ≤ 4294967295) (hC : c ≤ 4294967295) (w : World) (ht : TabW w) :
    Calls Tryd.prog 4 #[.agg #[.int .i64 K, .int .i64 R, .int .u32 a, .int .u32 b, .int .u32 c]] w fun e w' => e = .returned (.bool true) ∧ Below w.heap.size w w' := by
  by_cases hck : checkF K R a b c = 0
  · obtain ⟨hh, hgg, _⟩ := checkF_zero hck
    have h1 : 3 ≤ K := Decidable.byContradiction fun e => hh (.inl (by omega))
    have h2 : K ≤ 32 := Decidable.byContradiction fun e => hh (.inr (.inl (by omega)))
    have h3 : R = 2 ∨ R = 3 := by
      by_cases h : R = 2
      · exact .inl h
      · exact .inr (Decidable.byContradiction fun e => hh (.inr (.inr (.inl ⟨h, e⟩))))
    obtain ⟨n, rfl⟩ : ∃ n : Nat, K = (n : Int) + 1 := ⟨(K - 1).toNat, by omega⟩
    obtain ⟨r, rfl⟩ : ∃ r : Nat, R = (r : Int) := ⟨R.toNat, by omega⟩
    have hr : r = 2 ∨ r = 3 := by omega
    have hc0 : r = 3 ∨ c = 0 := by
      rcases hr with rfl | rfl
      · exact .inr (Decidable.byContradiction fun e => hh (.inr (.inr (.inr ⟨rfl, e⟩))))
      · exact .inl rfl
    have hI : Hid (∀ w, Calls Tryd.prog 11 #[.agg #[.int .i64 ((n : Int) + 1), .int .i64 (r : Int), .int .u32 a, .int .u32 b, .int .u32 c]] w fun r' w' => ∃ x y z : Nat, CodeInvR r a b c x y z ∧ r' = .returned (.tuple #[.agg #[.int .u64 x, .int .u64 y, .int .u64 z], .int .i64 0]) ∧ Below w.heap.size w w') := hide fun w => (inv_good _ _ a b c hA hB hC hck w).mono fun r' w' ⟨x, y, z, h, _, _, _, e, hb⟩ => ⟨x, y, z, h, e, hb⟩
    have hJ : Hid (∀ w, Calls Tryd.prog 13 #[.agg #[.int .i64 ((n : Int) + 1), .int .i64 (r : Int), .int .u32 a, .int .u32 b, .int .u32 c]] w fun r' w' => ∃ x y z : Nat, CodeInvR r a b c x y z ∧ r' = .returned (.tuple #[.agg #[.int .u64 x, .int .u64 y, .int .u64 z], .int .i64 0]) ∧ Below w.heap.size w w') := hide fun w => (rinv_good _ _ a b c hA hB hC hck w).mono fun r' w' ⟨x, y, z, h, _, _, _, e, hb⟩ => ⟨x, y, z, h, e, hb⟩
    have hQ := hide fun x y z x' y' z' (h : CodeInvR r a b c x y z) (h' : CodeInvR r a b c x' y' z') => CodeInvR.unique hgg.2.1.1 (fun h => (hgg.2.2 (by rcases hr with rfl | rfl <;> first | rfl | exact absurd rfl h)).1) h h'
    by_cases hp : Gf2.popF 32 (a ^^^ b ^^^ c) = 1
    · have hs := Nat.xor_lt_two_pow (n := 32) (Nat.xor_lt_two_pow (n := 32) (x := a) (y := b) (by omega) (by omega)) (show c < 2 ^ 32 by omega)
      obtain ⟨i, hi, hsi⟩ := Gf2.popF_one 32 _ hs hp
      exact turns_walk _ _ a b c w 0 _ _ _ _ _ (sysB a b c) i true _ (hide ⟨crev_good n r a b c hr (by omega) hA hB hC hck, rrev_good n r a b c hr (by omega) hA hB hC hck, sys_good _ _ a b c hA hB hC hck, rsys_good _ r a b c hr hc0 hA hB hC hck, fun w ht => look_yes _ _ a b c i hA hB hC hck hi hsi w ht, rlook_yes _ _ a b c i hA hB hC hck hi hsi⟩) hI hJ hQ ht
    · exact turns_walk _ _ a b c w 0 _ _ _ _ _ (sysB a b c) 0 false _ (hide ⟨crev_good n r a b c hr (by omega) hA hB hC hck, rrev_good n r a b c hr (by omega) hA hB hC hck, sys_good _ _ a b c hA hB hC hck, rsys_good _ r a b c hr hc0 hA hB hC hck, fun w _ => look_no _ _ a b c hA hB hC hck hp w, rlook_no _ _ a b c hA hB hC hck hp⟩) hI hJ hQ ht
  · have hI : Hid (∀ w, Calls Tryd.prog 11 #[.agg #[.int .i64 K, .int .i64 R, .int .u32 a, .int .u32 b, .int .u32 c]] w fun r' w' => ∃ x y z : Nat, (x = 0 ∧ y = 0 ∧ z = 0) ∧ r' = .returned (.tuple #[.agg #[.int .u64 x, .int .u64 y, .int .u64 z], .int .i64 (checkF K R a b c)]) ∧ Below w.heap.size w w') := hide fun w => (inv_bad _ _ a b c hA hB hC hck w).mono fun r' w' ⟨e, hb⟩ => ⟨0, 0, 0, ⟨rfl, rfl, rfl⟩, e, hb⟩
    have hJ : Hid (∀ w, Calls Tryd.prog 13 #[.agg #[.int .i64 K, .int .i64 R, .int .u32 a, .int .u32 b, .int .u32 c]] w fun r' w' => ∃ x y z : Nat, (x = 0 ∧ y = 0 ∧ z = 0) ∧ r' = .returned (.tuple #[.agg #[.int .u64 x, .int .u64 y, .int .u64 z], .int .i64 (checkF K R a b c)]) ∧ Below w.heap.size w w') := hide fun w => (rinv_bad _ _ a b c hA hB hC hck w).mono fun r' w' ⟨e, hb⟩ => ⟨0, 0, 0, ⟨rfl, rfl, rfl⟩, e, hb⟩
    have hQ := hide fun (x y z x' y' z' : Nat) (h : x = 0 ∧ y = 0 ∧ z = 0) (h' : x' = 0 ∧ y' = 0 ∧ z' = 0) => show x = x' ∧ y = y' ∧ z = z' by omega
    exact turns_walk _ _ a b c w (checkF K R a b c) 0 0 0 0 0 false 0 false (fun x y z => x = 0 ∧ y = 0 ∧ z = 0) (hide ⟨crev_bad K R a b c hA hB hC hck, rrev_bad K R a b c hA hB hC hck, sys_bad K R a b c hA hB hC hck, rsys_bad K R a b c hA hB hC hck, fun w _ => look_bad K R a b c hA hB hC hck w, rlook_bad K R a b c hA hB hC hck⟩) hI hJ hQ ht
end Go.Proofs.YtfjaohadjmigoaaDoor
