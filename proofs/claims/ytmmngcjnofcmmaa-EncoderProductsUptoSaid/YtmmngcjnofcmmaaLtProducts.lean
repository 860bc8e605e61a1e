/- The law EncoderProducts, walked: it returns true. -/
import Derived.Test.YtmmngcjnofcmmaaRows
import Derived.Test.YtmmngcjnofcmmaaWordAt
import Derived.Test.YtmmngcjnofcmmaaProd
import Derived.Test.YtmmngcjnofcmmaaGood
import Derived.Test.YtmmngcjnofcmmaaLive
import Derived.BigQuiet
import Derived.Deep.QuietTactic
import Derived.Deep.RegionHeld3
import Derived.IntWalk
namespace Go.Proofs.Ytmmngcjnofcmmaa
open Go.RowKit

/-- the state of the law's loop -/
structure PrSt (w u : World) (K R : Int) (a b c : Nat) (ad al : Option Addr) (xs ls : List Nat) : Prop where
  code : CodeB u w.heap.size K R a b c
  row : RowA u ad xs
  word : RowA u al ls
  below : Below w.heap.size w u
theorem PrSt.next {w u u' : World} {K R : Int} {a b c : Nat} {ad al : Option Addr} {xs ls : List Nat} (h : PrSt w u K R a b c ad al xs ls) (hb : Below u.heap.size u u') : PrSt w u' K R a b c ad al xs ls :=
  ⟨h.code.keep hb h.code.lt, h.row.below hb, h.word.below hb, below_then h.below hb⟩
theorem PrSt.drewN {w u : World} {K R : Int} {a b c : Nat} {ad al : Option Addr} {xs ls : List Nat} (h : PrSt w u K R a b c ad al xs ls) (m : Nat) : PrSt w (u.drewN m) K R a b c ad al xs ls :=
  ⟨h.code, h.row.keep (Nat.le_refl _) (fun _ _ _ _ => rfl), h.word.keep (Nat.le_refl _) (fun _ _ _ _ => rfl), below_drewN h.below m⟩
theorem RowA.drewN {u : World} {ad : Option Addr} {xs : List Nat} (h : RowA u ad xs) (m : Nat) : RowA (u.drewN m) ad xs := h.keep (Nat.le_refl _) (fun _ _ _ _ => rfl)
set_option maxHeartbeats 400000 in
theorem products_bad (K R : Int) (a b c : Nat) (hA : a ≤ 4294967295) (hB : b ≤ 4294967295) (hC : c ≤ 4294967295) (ad : Option Addr) (cap : Nat) (xs : List Nat) (hl : xs.length ≤ 140737488351232) (he : encE K R a b c xs ≠ 0) (w : World) (hx : RowA w ad xs) :
    Calls Try.prog 10 #[.agg #[.int .i64 K, .int .i64 R, .int .u32 a, .int .u32 b, .int .u32 c], .slice ad xs.length cap] w fun e w' => e = .returned (.bool true) ∧ Below w.heap.size w w' := by
  have HG := hide fun w hr => good_no K R a b c hA hB hC ad cap xs hl he w hr
  have HX := hide hx
  clear he hx
  go_enter Try.func10, Try.ntmps10
  go_wp2_with fail
  refine (HG.out _ (HX.out.alloc _)).mono ?_
  rintro e w1 ⟨rfl, hb1⟩
  go_wp2_with fail
  refine (live_any _).mono ?_
  rintro e w2 ⟨rfl, hb2⟩
  go_wp2_with fail
  go_ret
  exact ⟨rfl, below_then (below_one hb1) hb2⟩
set_option maxRecDepth 100000 in
set_option maxHeartbeats 2000000 in
theorem products_good (n a b c r : Nat) (hr : r = 2 ∨ r = 3) (hA : a ≤ 4294967295) (hB : b ≤ 4294967295) (hC : c ≤ 4294967295) (ad : Option Addr) (cap : Nat) (xs : List Nat) (hl : xs.length ≤ 1048576) (hn : 2 ≤ n ∧ n ≤ 31) (he : encE (n + 1) r a b c xs = 0) (w : World) (hx : RowA w ad xs) :
    Calls Try.prog 10 #[.agg #[.int .i64 (n + 1), .int .i64 r, .int .u32 a, .int .u32 b, .int .u32 c], .slice ad xs.length cap] w fun e w' => e = .returned (.bool true) ∧ Below w.heap.size w w' := by
  obtain ⟨hck, hbits⟩ := encE_zero he
  have hrate : rateN r = r := by rcases hr with rfl | rfl <;> rfl
  have HG := hide fun w hr => good_yes (n + 1) r a b c hA hB hC ad cap xs (by omega) he w hr
  have HO := hide fun w hr => own_any ad cap xs (by omega) w hr
  have HE := hide fun ad cp w hr => encode_any (n + 1) r a b c hA hB hC ad cp xs (by omega) w hr
  rw [he, encO_some he, show ((n : Int) + 1 - 1).toNat = n by omega] at HE
  have HP := hide fun (i : Nat) (hi : i < r) ad cp w hr' => product_ok n a b c r (by omega) hn hA hB hC hck ad cp xs (by omega) hbits i (by omega) w hr'
  have hlen : (wordF r a b c n xs).length = (xs.length + n) * r := by rw [word_length, hrate]
  have HAT := hide fun (i t : Nat) (hi : i < r) (ht : t < xs.length + n) => show (wordF r a b c n xs).getD (t * r + i) 0 = (prodL (genN a b c i) n xs).getD t 0 by
    rw [prodL_at _ ht]; have := word_at (R := r) hck hn.2 hbits (i := i) (by rw [hrate]; exact hi) ht; rwa [hrate] at this
  have HPL := hide fun (i : Nat) => prodL_length (genN a b c i) n xs
  have HX := hide hx
  generalize hls : wordF r a b c n xs = ls at *
  have hmul : (xs.length + n) * r ≤ 3145830 := by
    have := Nat.mul_le_mul (show xs.length + n ≤ 1048607 by omega) (show r ≤ 3 by omega); omega
  obtain ⟨M, hM⟩ : ∃ M, M = ls.length := ⟨_, rfl⟩
  have hwM : IntKind.i64.wrap ((r : Int) * (xs.length + (n + 1) - 1)) = (M : Int) := by
    have e : (r : Int) * (xs.length + (n + 1) - 1) = (((xs.length + n) * r : Nat) : Int) := by
      rw [show (xs.length : Int) + ((n : Int) + 1) - 1 = ((xs.length + n : Nat) : Int) by omega, Nat.mul_comm, Int.natCast_mul]
    rw [e, hM, hlen]
    exact IntWalk.i64_in _ (by omega)
  have hMl : M ≤ 3145830 := by omega
  have HM := hide (hM.trans hlen)
  have HML := hide hM
  clear hls hlen hM hmul hck hbits he hx hrate
  go_enter Try.func10, Try.ntmps10
  go_wp2_with fail
  refine (HG.out _ (HX.out.alloc _)).mono ?_
  rintro e w1 ⟨rfl, hb1⟩
  have HCB := hide ((CodeB.new w (n + 1) r a b c).keep hb1 (by simp))
  have HB1 := hide (below_one hb1)
  have HX1 := hide (HX.out.below HB1.out)
  have hz1 := HCB.out.lt
  clear hb1
  have HU := hide fun (u : World) (hb : Below w1.heap.size w1 u) => (HCB.out.keep hb hz1).cells
  obtain ⟨s0, s1, s2, s3, s4⟩ := HCB.out.cells
  go_wp2_with fail
  go_region_held3 (fun u => u.cell? ⟨w.heap.size, 0, none⟩ = some (.int .i64 (n + 1)) ∧ u.cell? ⟨w.heap.size, 1, none⟩ = some (.int .i64 r) ∧ u.cell? ⟨w.heap.size, 2, none⟩ = some (.int .u32 a) ∧ u.cell? ⟨w.heap.size, 3, none⟩ = some (.int .u32 b) ∧ u.cell? ⟨w.heap.size, 4, none⟩ = some (.int .u32 c))
    (first | exact HU.out _ ((Below.refl _ _).drew) | exact HU.out _ (below_then (Below.refl _ _).drew hbo) | exact HU.out _ hbo | exact HU.out _ (below_then (below_then (Below.refl _ _).drew hbo) hbe) | exact HU.out _ (below_then hbo hbe))
    ((first
      | (go_at_call 15; refine (HO.out _ (HX1.out.below ((Below.refl _ _).drew))).mono ?_; rintro e w2 ⟨L, cl, rfl, hlo, hbo⟩)
      | (go_at_call 14; refine (HE.out _ _ _ hlo.rowx).mono ?_; rintro e w3 ⟨v3, rfl, ho3, hbe⟩)))
  obtain ⟨al, cl2, rfl, rl⟩ := ho3.row
  have HB3 := below_then (below_then ((Below.refl w1.heap.size w1).drew) hbo) hbe
  have HS3 := hide (show PrSt w w3 (n + 1) r a b c ad al xs ls from ⟨HCB.out.keep HB3 hz1, HX1.out.below HB3, rl, below_then HB1.out HB3⟩)
  clear HB3 hlo hbo hbe ho3 rl s0 s1 s2 s3 s4
  obtain ⟨s0, s1, s2, s3, s4⟩ := HS3.out.code.cells
  have hE2 : (xs.length : Int) + ((n : Int) + 1) - 1 = (xs.length : Int) + n := by omega
  rw [hE2] at hwM
  rw [← HML.out]
  have hr2 : (2 : Int) ≤ r := by omega
  have hr3 : (r : Int) ≤ 3 := by omega
  go_wp2_with fail
  refine (num_any _ _).mono ?_
  rintro e w' ⟨rfl, rfl⟩
  go_wp2_with fail
  go_loopw [7] (fun i u => ∃ k : Nat, k ≤ r ∧ i = .int .i64 k ∧ Hid (PrSt w u (n + 1) r a b c ad al xs ls)) (fun i _ => r - (intOf i).toNat)
  case atStart => exact ⟨0, by omega, rfl, HS3⟩
  case round =>
    rename World => wr
    obtain ⟨k, hk, rfl, hS⟩ := hrel
    clear HS3 s0 s1 s2 s3 s4 HU HX1 HB1
    have HC := hide (fun (u : World) (h : Below wr.heap.size wr u) => (hS.out.next h).code.cells)
    obtain ⟨s0, s1, s2, s3, s4⟩ := hS.out.code.cells
    by_cases hlt : k < r
    · have HPk := hide (HP.out k hlt)
      have HATk := hide (fun t ht => HAT.out k t hlt ht)
      have hpl := HPL.out k
      generalize prodL (genN a b c k) n xs = ps at *
      have hps := hide hpl
      clear hpl
      go_wp2_with fail
      go_region_held3 (fun u => u.cell? ⟨w.heap.size, 0, none⟩ = some (.int .i64 (n + 1)) ∧ u.cell? ⟨w.heap.size, 1, none⟩ = some (.int .i64 r) ∧ u.cell? ⟨w.heap.size, 2, none⟩ = some (.int .u32 a) ∧ u.cell? ⟨w.heap.size, 3, none⟩ = some (.int .u32 b) ∧ u.cell? ⟨w.heap.size, 4, none⟩ = some (.int .u32 c))
        (first | exact HC.out _ ((Below.refl _ _).drew) | exact HC.out _ (below_then (Below.refl _ _).drew hbo) | exact HC.out _ hbo | exact HC.out _ (below_then (below_then (Below.refl _ _).drew hbo) hbe) | exact HC.out _ (below_then hbo hbe))
        ((first
          | (go_at_call 15; refine (HO.out _ (hS.out.row.below ((Below.refl _ _).drew))).mono ?_; rintro e w4 ⟨L, cl, rfl, hlo, hbo⟩)
          | (go_at_call 34; refine (HPk.out _ _ _ hlo.rowx).mono ?_; rintro e w5 ⟨v5, rfl, ho5, hbe⟩)))
      obtain ⟨ap, cp, rfl, rp⟩ := ho5.row
      have HB5 := below_then (below_then ((Below.refl wr.heap.size wr).drew) hbo) hbe
      have HS5 := hide (hS.out.next HB5)
      have HP5 := hide rp
      clear HB5 hlo hbo hbe ho5 rp s0 s1 s2 s3 s4 HC
      obtain ⟨s0, s1, s2, s3, s4⟩ := HS5.out.code.cells
      rw [hps.out]
      go_wp2_with fail
      refine (num_any _ _).mono ?_
      rintro e w' ⟨rfl, rfl⟩
      go_wp2_with fail
      go_loopw [10] (fun i u => ∃ t : Nat, t ≤ xs.length + n ∧ i = .int .i64 t ∧ Hid (PrSt w u (n + 1) r a b c ad al xs ls) ∧ Hid (RowA u ap ps)) (fun i _ => xs.length + n - (intOf i).toNat)
      case atStart => exact ⟨0, by omega, rfl, HS5, HP5⟩
      case round =>
        rename World => wt
        obtain ⟨t, ht, rfl, hT, hP⟩ := hrel
        clear HS5 HP5 s0 s1 s2 s3 s4
        obtain ⟨s0, s1, s2, s3, s4⟩ := hT.out.code.cells
        by_cases htl : t < xs.length + n
        · have hq : t * r + k < ls.length := by
            rw [← HML.out, HM.out]
            have : (t + 1) * r ≤ (xs.length + n) * r := Nat.mul_le_mul_right _ htl
            rw [Nat.succ_mul] at this
            omega
          have hat := HATk.out t htl
          obtain ⟨b1, o1, had1, _, hc1⟩ := hP.out.at_ (i := t) (by rw [hps.out]; exact htl)
          obtain ⟨b2, o2, had2, _, hc2⟩ := hT.out.word.at_ hq
          rw [hat] at hc2
          have hqM : t * r + k < M := by rw [HML.out]; exact hq
          have hw1 : IntKind.i64.wrap ((t : Int) * r) = ((t * r : Nat) : Int) := by
            rw [show (t : Int) * r = ((t * r : Nat) : Int) by simp]
            exact IntWalk.i64_in _ (by omega)
          have hw2 : IntKind.i64.wrap (((t * r : Nat) : Int) + k) = ((t * r + k : Nat) : Int) := by
            rw [show ((t * r : Nat) : Int) + k = ((t * r + k : Nat) : Int) by omega]
            exact IntWalk.i64_in _ (by omega)
          clear hat hq
          generalize ps.getD t 0 = y at *
          generalize t * r = q0 at *
          generalize q0 + k = q at *
          have hq0 : (0 : Int) ≤ q := by omega
          have hqi : (q : Int) < M := by omega
          have ht0 : (0 : Int) ≤ t := by omega
          have htp : (t : Int) < xs.length + n := by omega
          have HT2 := hide (fun m => hT.out.drewN m)
          have HP2 := hide (fun m => RowA.drewN hP.out m)
          subst had1 had2
          go_wp2_with fail
          go_quiet (fail)
          have HT3 := HT2.out nq
          have HP3 := HP2.out nq
          generalize wt.drewN nq = wq at *
          go_wp2_with fail
          go_roundw
          case rel => exact ⟨t + 1, by omega, by simp, hide HT3, hide HP3⟩
          case measure => simp [intOf]; omega
        · obtain rfl : t = xs.length + n := by omega
          go_wp2_with fail
          go_roundw
          case rel => exact ⟨k + 1, by omega, by simp, hT⟩
          case measure => simp [intOf]; omega
    · obtain rfl : k = r := by omega
      go_wp2_with fail
      refine (live_any _).mono ?_
      rintro e w6 ⟨rfl, hb6⟩
      go_wp2_with fail
      go_ret
      exact ⟨rfl, below_then hS.out.below hb6⟩
theorem law_products (K R : Int) (a b c : Nat) (hA : a ≤ 4294967295) (hB : b ≤ 4294967295) (hC : c ≤ 4294967295) (ad : Option Addr) (cap : Nat) (xs : List Nat) (hl : xs.length ≤ 1048576) (w : World) (hx : RowA w ad xs) :
    Calls Try.prog 10 #[.agg #[.int .i64 K, .int .i64 R, .int .u32 a, .int .u32 b, .int .u32 c], .slice ad xs.length cap] w fun e w' => e = .returned (.bool true) ∧ Below w.heap.size w w' := by
  by_cases he : encE K R a b c xs = 0
  · obtain ⟨n, rfl, h2, h31, hR⟩ := good_code (encE_zero he).1
    obtain ⟨r, rfl, hr⟩ : ∃ r : Nat, R = r ∧ (r = 2 ∨ r = 3) := by
      rcases hR with rfl | rfl
      · exact ⟨2, rfl, .inl rfl⟩
      · exact ⟨3, rfl, .inr rfl⟩
    exact products_good n a b c r hr hA hB hC ad cap xs hl ⟨h2, h31⟩ he w hx
  · exact products_bad K R a b c hA hB hC ad cap xs (by omega) he w hx
end Go.Proofs.Ytmmngcjnofcmmaa
