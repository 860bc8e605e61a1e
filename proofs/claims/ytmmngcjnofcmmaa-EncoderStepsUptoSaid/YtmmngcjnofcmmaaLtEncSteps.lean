/- The law EncoderSteps, walked: it returns true. -/
import Derived.Test.YtmmngcjnofcmmaaRows
import Derived.Test.YtmmngcjnofcmmaaLtAdds
import Derived.Test.YtmmngcjnofcmmaaAppZ
import Derived.Test.YtmmngcjnofcmmaaStepSt
namespace Go.Proofs.Ytmmngcjnofcmmaa
open Go.RowKit
set_option linter.unusedVariables false

theorem app_b0 {w w' : World} {v : Value} {xs : List Nat} {B : Nat} {X : World} (hx : Below w.heap.size w X) (ho : OwnB X w.heap.size v xs) (h : X.grownBy w' v.ownBlock) : Below w.heap.size w w' := hx.grown h hx.size (fun _ e => (ho.lt e).1)
/-- the fork, where there is one: made before bit k -/
def FkSt (n : Nat) (R : Int) (a b c : Nat) (xs : List Nat) (W : World) (g : Nat) (t : Int) (k : Nat) (got f y two : Value) (u : World) : Prop :=
  (two = .bool false ∧ f = .slice none 0 0 ∧ y = .pointer (some ⟨g, 0, none⟩)) ∨ (two = .bool true ∧ ∃ m h : Nat, t = (m : Int) ∧ m < k ∧ y = .pointer (some ⟨h, 0, none⟩) ∧ Frk n R a b c xs W m h got f u)
theorem FkSt.more {n : Nat} {R : Int} {a b c : Nat} {xs : List Nat} {W : World} {g : Nat} {t : Int} {k : Nat} {got f y two : Value} {u : World} (h : FkSt n R a b c xs W g t k got f y two u) : FkSt n R a b c xs W g t (k + 1) got f y two u := by
  rcases h with h | ⟨h1, m, q, h2, h3, h4⟩
  · exact .inl h
  · exact .inr ⟨h1, m, q, h2, by omega, h4⟩
theorem FkSt.put {n : Nat} {R : Int} {a b c : Nat} {xs : List Nat} {W : World} {g : Nat} {t : Int} {k : Nat} {got f y two : Value} {u u' : World} (h : FkSt n R a b c xs W g t k got f y two u) (hg : g < W.heap.size) (hb : u.grownBy u' (some g)) : FkSt n R a b c xs W g t k got f y two u' := by
  rcases h with h | ⟨h1, m, q, h2, h3, h4, h5⟩
  · exact .inl h
  · exact .inr ⟨h1, m, q, h2, h3, h4, h5.put hg hb⟩
theorem FkSt.app {n : Nat} {R : Int} {a b c : Nat} {xs : List Nat} {W : World} {g : Nat} {t : Int} {k : Nat} {got got' f y two : Value} {u u' : World} (h : FkSt n R a b c xs W g t k got f y two u) (hb : u.grownBy u' got.ownBlock) (hn : got'.ownBlock = got.ownBlock ∨ got'.ownBlock = some u.heap.size) : FkSt n R a b c xs W g t k got' f y two u' := by
  rcases h with h | ⟨h1, m, q, h2, h3, h4, h5⟩
  · exact .inl h
  · exact .inr ⟨h1, m, q, h2, h3, h4, h5.app hb hn⟩
theorem OwnB.rowS {w : World} {B n c : Nat} {ad : Option Addr} {xs : List Nat} (h : OwnB w B (.slice ad n c) xs) : RowA w ad xs := by
  obtain ⟨ad', cap, e, r, _⟩ := h.rowc
  cases e
  exact r
theorem below_grow {X W u : World} {g : Nat} (h : Below X.heap.size X W) (hg : W.grownBy u (some g)) (hx : X.heap.size ≤ g) : Below X.heap.size X u :=
  h.grown hg h.size (fun _ e => by cases e; exact hx)
set_option maxRecDepth 100000 in
theorem steps_bad (K R : Int) (a b c : Nat) (hA : a ≤ 4294967295) (hB : b ≤ 4294967295) (hC : c ≤ 4294967295) (ad : Option Addr) (cap : Nat) (xs : List Nat) (t : Int) (hx : xs.length ≤ 140737488351232) (he : encE K R a b c xs ≠ 0) (w : World) (rx : RowA w ad xs) :
    Calls Try.prog 5 #[.agg #[.int .i64 K, .int .i64 R, .int .u32 a, .int .u32 b, .int .u32 c], .slice ad xs.length cap, .int .i64 t] w fun e w' => e = .returned (.bool true) ∧ Below w.heap.size w w' := by
  have HG := hide fun w hr => good_no K R a b c hA hB hC ad cap xs hx he w hr
  have HX := hide rx
  clear he rx
  go_enter Try.func5, Try.ntmps5
  go_wp2_with fail
  refine (HG.out _ (HX.out.alloc _)).mono ?_
  rintro e w1 ⟨rfl, hb1⟩
  go_wp2_with fail
  refine (live_any _).mono ?_
  rintro e w2 ⟨rfl, hb2⟩
  go_wp2_with fail
  go_ret
  exact ⟨rfl, below_then (below_one hb1) hb2⟩
set_option maxRecDepth 100000 in
set_option maxHeartbeats 8000000 in
theorem steps_good (n : Nat) (R : Int) (a b c : Nat) (hR : R = 2 ∨ R = 3) (hn : 2 ≤ n ∧ n ≤ 31) (hA : a ≤ 4294967295) (hB : b ≤ 4294967295) (hC : c ≤ 4294967295) (hck : checkF (n + 1) R a b c = 0) (ad : Option Addr) (cap : Nat) (xs : List Nat) (hl : xs.length ≤ 1048576) (hbits : Bits xs) (t : Int) (w : World) (rx : RowA w ad xs) :
    Calls Try.prog 5 #[.agg #[.int .i64 (n + 1), .int .i64 R, .int .u32 a, .int .u32 b, .int .u32 c], .slice ad xs.length cap, .int .i64 t] w fun e w' => e = .returned (.bool true) ∧ Below w.heap.size w w' := by
  have he := encE_good hck hbits
  have HG := hide fun w hr => good_yes (n + 1) R a b c hA hB hC ad cap xs (by omega) he w hr
  have HNEW := hide (new_good (n + 1) R a b c hA hB hC hck)
  have HO1 := hide fun ad cp w hr => own_any ad cp xs (by omega) w hr
  have hO : encO (n + 1) R a b c xs = symsAt R a b c n 0 xs (xs.length + n) := by rw [encO_some he]; simp [wordF]
  have HE1 := hide fun ad cp w hr => encode_any (n + 1) R a b c hA hB hC ad cp xs (by omega) w hr
  rw [he, hO] at HE1
  have hbl := hide fun i => hbits.all i
  have hsl := hide fun k => stAt_lt (n := n) (s := 0) (xs := xs) (Nat.two_pow_pos n) k
  have HEND := hide (stAt_end (n := n) (xs := xs))
  have HX := hide rx
  have hK0 : ((n : Int) + 1) ≠ 0 := by omega
  have hwn : IntKind.i64.wrap (n : Int) = n := IntWalk.i64_in _ ⟨by omega, by omega⟩
  clear he hO rx hbits hck
  go_enter Try.func5, Try.ntmps5
  go_upto_region 1 with fail
  have n0 := CodeB.new w (n + 1) R a b c
  have al : Below w.heap.size w (w.alloc (.cells #[.int .i64 (n + 1), .int .i64 R, .int .u32 a, .int .u32 b, .int .u32 c] 25)) := (Below.refl _ _).alloc (Nat.le_refl _) _
  generalize hXe : (w.alloc (.cells #[.int .i64 (n + 1), .int .i64 R, .int .u32 a, .int .u32 b, .int .u32 c] 25)) = X at *
  clear hXe
  have HBW := hide al
  have HU := hide fun (u : World) (h : Below X.heap.size X u) => (n0.keep h n0.lt).cells
  have HX0 := hide (HX.out.below al)
  clear n0 al
  obtain ⟨s0, s1, s2, s3, s4⟩ := HU.out _ (Below.refl _ _)
  go_wp2_with fail
  refine (HG.out _ HX0.out).mono ?_
  rintro e w1 ⟨rfl, hb1⟩
  clear s0 s1 s2 s3 s4
  have HB1 := hide hb1
  clear hb1
  obtain ⟨s0, s1, s2, s3, s4⟩ := HU.out _ HB1.out
  go_wp2_with fail
  refine (HNEW.out _).mono ?_
  rintro e w2 ⟨g, rfl, hreg, hgl, hb2⟩
  clear s0 s1 s2 s3 s4
  have HB2 := hide (below_then HB1.out hb2)
  have HREG := hide hreg
  have HGL := hide hreg.lt
  have HGX2 := hide (Nat.le_trans HB1.out.size hgl)
  clear hb2 hreg hgl
  obtain ⟨s0, s1, s2, s3, s4⟩ := HU.out _ HB2.out
  go_wp2_with fail
  refine (num_any _ _).mono ?_
  rintro e w' ⟨rfl, rfl⟩
  go_wp2_with fail
  have HX2 := hide (HX0.out.below HB2.out)
  go_region_held3 (fun u => u.cell? ⟨w.heap.size, 0, none⟩ = some (.int .i64 (n + 1)) ∧ u.cell? ⟨w.heap.size, 1, none⟩ = some (.int .i64 R) ∧ u.cell? ⟨w.heap.size, 2, none⟩ = some (.int .u32 a) ∧ u.cell? ⟨w.heap.size, 3, none⟩ = some (.int .u32 b) ∧ u.cell? ⟨w.heap.size, 4, none⟩ = some (.int .u32 c))
    (first | exact HU.out _ HB2.out.drew | exact HU.out _ (below_then HB2.out.drew hbo) | exact HU.out _ (below_then HB2.out hbo) | exact HU.out _ (below_then (below_then HB2.out.drew hbo) hbe) | exact HU.out _ (below_then (below_then HB2.out hbo) hbe))
    ((first
      | (go_at_call 14; refine (HE1.out _ _ _ hlo.rowx).mono ?_; rintro e w4 ⟨v4, rfl, ho, hbe⟩)
      | (go_at_call 15; refine (HO1.out _ _ _ (HX2.out.below ((Below.refl _ _).drew))).mono ?_; rintro e w3 ⟨L, cl, rfl, hlo, hbo⟩)))
  have HD4 := hide (by first | exact below_then (below_then (Below.refl _ _).drew hbo) hbe | exact below_then hbo hbe : Below w2.heap.size w2 w4)
  have HB4 := hide (below_then HB2.out HD4.out)
  obtain ⟨al, cl4, rfl, r0_, _, hlb⟩ := ho.rowc
  have HLB := hide (show ∀ b off, al = some ⟨b, off, none⟩ → g < b from fun b off e => by
    have h1 := (hlb b off e).1
    have h2 := HGL.out
    have h3 := hbo.size
    simp at h3
    omega)
  clear hlb
  have RL := hide r0_
  have HX4 := hide (HX2.out.below HD4.out)
  have HR4 := hide (HREG.out.below HD4.out HGL.out)
  clear r0_ ho hlo hbo hbe HX2 s0 s1 s2 s3 s4
  obtain ⟨s0, s1, s2, s3, s4⟩ := HU.out _ HB4.out
  go_upto_region 7 with fail
  go_cut [11] (fun v11 wx => ∃ (au : Option Addr) (cu : Nat), v11 = .slice au (xs.length + n) cu ∧ Hid (RowA wx au (xs ++ List.replicate n 0)) ∧ Hid (Below w4.heap.size w4 wx) ∧ Hid (∀ b off, au = some ⟨b, off, none⟩ → w4.heap.size ≤ b))
  case first =>
    go_region_held3 (fun u => u.cell? ⟨w.heap.size, 0, none⟩ = some (.int .i64 (n + 1)) ∧ u.cell? ⟨w.heap.size, 1, none⟩ = some (.int .i64 R) ∧ u.cell? ⟨w.heap.size, 2, none⟩ = some (.int .u32 a) ∧ u.cell? ⟨w.heap.size, 3, none⟩ = some (.int .u32 b) ∧ u.cell? ⟨w.heap.size, 4, none⟩ = some (.int .u32 c))
      (first | (refine HU.out _ (below_then HB4.out ?_); (repeat (first | exact Below.refl _ _ | refine Below.drew ?_ | refine Below.alloc ?_ (by simp <;> omega) _)); done) | (refine HU.out _ (below_then (below_then HB4.out hbo) ?_); (repeat (first | exact Below.refl _ _ | refine Below.drew ?_ | refine Below.alloc ?_ (by simp <;> omega) _)); done) | (refine HU.out _ (below_then (below_then HB4.out hbp) ?_); (repeat (first | exact Below.refl _ _ | refine Below.drew ?_ | refine Below.alloc ?_ (by simp <;> omega) _)); done))
      ((first
        | (refine step_appB rfl (.tmp 46) (.tmp 47) rfl w4.heap.size (.slice (some ⟨w4.heap.size, 0, none⟩) 0 0) [] rfl (OwnB.below (own_lit0 w4) (by (repeat (first | exact Below.refl _ _ | refine Below.drew ?_ | refine Below.alloc ?_ (by simp <;> omega) _)))) ad xs.length cap xs rfl (HX4.out.below (by (repeat (first | exact Below.refl _ _ | refine Below.drew ?_ | refine Below.alloc ?_ (by simp <;> omega) _)))) rfl (by simp; omega) (by simp <;> omega) ?_
           intro v5 w5 ho5 hg5 _
           have hbo : Below w4.heap.size w4 w5 := by
             refine Below.grown (a := w4) ?_ hg5 (by simp <;> omega) (fun k e => by simp [Value.ownBlock] at e; omega)
             (repeat (first | exact Below.refl _ _ | refine Below.drew ?_ | refine Below.alloc ?_ (by simp <;> omega) _)))
        | (refine step_appZ rfl (.tmp 48) (.tmp 51) rfl w4.heap.size v5 ([] ++ xs) rfl (OwnB.below ho5 (by (repeat (first | exact Below.refl _ _ | refine Below.drew ?_ | refine Below.alloc ?_ (by simp <;> omega) _)))) n rfl (by omega) (by simp; omega) (by have := hbo.size; first | assumption | (simp; omega)) ?_
           intro v6 w6 ho6 hg6 _
           have hbp : Below w4.heap.size w4 w6 := by
             refine Below.grown (a := w4) (below_then hbo ?_) hg6 (by have := hbo.size; first | assumption | (simp; omega)) (fun k e => (ho5.lt e).1)
             (repeat (first | exact Below.refl _ _ | refine Below.drew ?_ | refine Below.alloc ?_ (by simp <;> omega) _)))))
    all_goals
      go_wp2_with fail
      go_meet
      case rel =>
        obtain ⟨au, cu, rfl, ru_, _, hub⟩ := ho6.rowc
        exact ⟨au, cu, by simp, hide (by simpa using ru_), hide hbp, hide (fun b off e => (hub b off e).1)⟩
  case rest =>
  obtain ⟨au, cu, rfl, RU, DU, HUB⟩ := hcut
  generalize wc = W at *
  have hTle : xs.length + n ≤ 1048607 := by omega
  generalize hT : xs.length + n = T at *
  have HBW6 := hide (below_then HB4.out DU.out)
  have hgW : g < W.heap.size := Nat.lt_of_lt_of_le HGL.out (Nat.le_trans HD4.out.size DU.out.size)
  have HGX := hide (show X.heap.size ≤ g from HGX2.out)
  have RLW := hide (RL.out.below DU.out)
  have HRW := hide (HR4.out.below DU.out HR4.out.lt)
  have HUG := hide (show ∀ b off, au = some ⟨b, off, none⟩ → some b ≠ some g from fun b off e e2 => by have h1 := HUB.out b off e; have h2 := HGL.out; have h3 := HD4.out.size; cases e2; omega)
  have HLG := hide (show ∀ b off, al = some ⟨b, off, none⟩ → some b ≠ some g from fun b off e e2 => by have h1 := HLB.out b off e; cases e2; omega)
  have HLEN := hide (show ∀ k, k ≤ T → (symsAt R a b c n 0 xs k).length ≤ 4194304 from fun k hk => by
    rw [syms_rate]
    have : rateN R ≤ 3 := by unfold rateN; rcases hR with rfl | rfl <;> simp
    have h2 : k * rateN R ≤ k * 3 := Nat.mul_le_mul_left _ this
    omega)
  have HSK := hide (show ∀ m, (symK R a b c m).length ≤ 3 from fun m => by
    rw [symK_rate]
    unfold rateN; rcases hR with rfl | rfl <;> simp)
  have HXS := hide (show ∀ k, k < T → (xs ++ List.replicate n 0).getD k 0 = xs.getD k 0 from fun k hk => by
    simp only [List.getD_eq_getElem?_getD, List.getElem?_append]
    split
    · rfl
    · rename_i h
      rw [List.getElem?_eq_none (l := xs) (by omega), List.getElem?_replicate, if_pos (by omega)]; rfl)
  have HPUT := hide fun (k h : Nat) (u : World) (hr : RegB u h (n + 1) R a b c (stAt n 0 xs k)) => eput_any n a b c (stAt n 0 xs k) (xs.getD k 0) h R hR hn hA hB hC (by
    have h1 := hsl.out k
    have h2 : 2 ^ n ≤ 2 ^ 31 := Nat.pow_le_pow_right (by omega) hn.2
    omega) (hbl.out _) u hr
  clear s0 s1 s2 s3 s4 HX4 HR4 HE1 HO1 HG HNEW HU HX0 HX RL HD4 DU
  go_wp2_with fail
  go_loopw [12, 13, 14, 15, 16] (fun got f y two i u => ∃ k : Nat, k ≤ T ∧ i = .int .i64 k ∧ Hid (StSt n R a b c xs g W k k got u) ∧ FkSt n R a b c xs W g t k got f y two u) (fun _ _ _ _ i _ => T - (intOf i).toNat)
  case atStart => exact ⟨0, by omega, rfl, hide ⟨HRW.out, OwnB.nil _ _, World.grownBy.refl _ _⟩, .inl ⟨rfl, rfl, rfl⟩⟩
  case round =>
    rename World => wr
    obtain ⟨k, hk, rfl, HS, hfk⟩ := hrel
    have HFK := hide hfk
    clear hfk
    obtain ⟨ag, cg, rfl, rg_, _, _⟩ := HS.out.own.rowc
    have RG := hide rg_
    clear rg_
    have hkl := HLEN.out k hk
    by_cases hkT : k = T
    · (have hkT2 := hkT.symm; subst hkT2)
      rcases HFK.out with ⟨rfl, rfl, rfl⟩ | ⟨rfl, m, h, rfl, hm, rfl, hf⟩
      · go_wp2_with fail
        go_loopw [13, 19] (fun f q u => f = .slice none 0 0 ∧ u = wr) (fun _ _ _ => 0)
        case atStart => exact ⟨rfl, rfl⟩
        case round =>
          obtain ⟨rfl, rfl⟩ := hrel
          go_wp2_with fail
          refine (num_any _ _).mono ?_
          rintro e w' ⟨rfl, rfl⟩
          go_wp2_with fail
          refine (same_yes _ _ _ _ _ _ _ rfl rfl _ (HS.out.own.rowS) (RLW.out.grown HS.out.grow HLG.out)).mono ?_
          rintro e w' ⟨rfl, rfl⟩
          go_wp2_with fail
          refine (state_good (n + 1) R a b c _ g hK0 _ HS.out.reg).mono ?_
          rintro e w' ⟨rfl, rfl⟩
          rw [HEND.out]
          go_wp2_with fail
          refine (live_any _).mono ?_
          rintro e wl ⟨rfl, hbl2⟩
          go_wp2_with fail
          go_ret
          exact ⟨rfl, below_then HBW.out (below_then (below_grow HBW6.out HS.out.grow HGX.out) hbl2)⟩
      · have HF := hide hf
        clear hf HFK
        go_wp2_with fail
        go_loopw [13, 19] (fun f q u => ∃ k : Nat, k ≤ T ∧ q = .int .i64 k ∧ Hid (StSt n R a b c xs g W (T) (T) (.slice ag (symsAt R a b c n 0 xs (T)).length cg) u) ∧ Hid (Frk n R a b c xs W k h (.slice ag (symsAt R a b c n 0 xs (T)).length cg) f u)) (fun _ q _ => T - (intOf q).toNat)
        case atStart => exact ⟨m, by omega, rfl, HS, HF⟩
        case round =>
          rename World => wq
          clear HS HF hm
          obtain ⟨k, hk2, rfl, HS, HF⟩ := hrel
          by_cases hkT : k = T
          · (have hkT2 := hkT.symm; subst hkT2)
            obtain ⟨af, cf, rfl, rf_, _, _⟩ := HF.out.2.2.1.rowc
            have RF := hide rf_
            clear rf_
            go_wp2_with fail
            refine (num_any _ _).mono ?_
            rintro e w' ⟨rfl, rfl⟩
            go_wp2_with fail
            refine (same_yes _ _ _ _ _ _ _ rfl rfl _ (HS.out.own.rowS) (RLW.out.grown HS.out.grow HLG.out)).mono ?_
            rintro e w' ⟨rfl, rfl⟩
            go_wp2_with fail
            refine (same_yes _ _ _ _ _ _ _ rfl rfl _ RF.out (RLW.out.grown HS.out.grow HLG.out)).mono ?_
            rintro e w' ⟨rfl, rfl⟩
            go_wp2_with fail
            refine (state_good (n + 1) R a b c _ g hK0 _ HS.out.reg).mono ?_
            rintro e w' ⟨rfl, rfl⟩
            rw [HEND.out]
            go_wp2_with fail
            refine (live_any _).mono ?_
            rintro e wl ⟨rfl, hbl2⟩
            go_wp2_with fail
            go_ret
            exact ⟨rfl, below_then HBW.out (below_then (below_grow HBW6.out HS.out.grow HGX.out) hbl2)⟩
          · have hlt : (k : Int) < T := by omega
            have hk1 : k < T := by omega
            obtain ⟨bu, ou, rfl, hbu, hcu⟩ := ((RU.out.grown HS.out.grow HUG.out).at_ (i := k) (by simp; omega))
            rw [HXS.out k hk1] at hcu
            have HP := hide (HPUT.out k h wq HF.out.1)
            have hkl2 := HLEN.out k hk2
            generalize hls : symsAt R a b c n 0 xs k = ls at *
            generalize hxk : xs.getD k 0 = xk at *
            clear hkT
            go_wp2_with fail
            refine (HP.out).mono ?_
            rintro e w10 ⟨sv, rfl, hos, hr10, hg10⟩
            rw [← hxk] at hr10
            have HF10 := hide (HF.out.fput hr10 hg10)
            have HS10 := hide (HS.out.fput hgW HF.out hg10)
            obtain ⟨as_, cs, rfl, rs_, _, _⟩ := hos.rowc
            have RS := hide rs_
            clear hos hr10 hg10 rs_
            go_wp2_with fail
            refine (num_any _ _).mono ?_
            rintro e w' ⟨rfl, rfl⟩
            have h3 := HSK.out (2 * stAt n 0 xs k + xk)
            have HOW := hide HF10.out.2.2.1
            rw [hls] at HOW
            go_wp2_with (first
              | (at_builtin; refine wpList_appB rfl (.tmp 107) (.tmp 108) rfl W.heap.size _ ls rfl HOW.out as_ _ cs _ rfl RS.out rfl ?c1 ?c2 ?_)
              | go_in)
            case c1 => omega
            case c2 => exact HS10.out.grow.size
            intro v11 w11 ho11 hg11 hn11
            rw [← hls, ← hxk] at ho11
            have HF11 := hide (HF10.out.app HS10.out.own ho11 hg11 hn11)
            have HS11 := hide (HS10.out.fapp hgW HF10.out hg11)
            clear ho11 hg11 hn11
            go_wp2_with fail
            go_roundw
            case rel => exact ⟨k + 1, by omega, by go_num, HS11, HF11⟩
            case measure => simp [intOf]; omega
    · have hlt : (k : Int) < T := by omega
      have hk1 : k < T := by omega
      have hz := HS.out.grow.size
      generalize hls : symsAt R a b c n 0 xs k = ls at *
      go_upto_if 62 with fail
      go_cut [13, 14, 15] (fun f y two wx => FkSt n R a b c xs W g t (k + 1) (.slice ag ls.length cg) f y two wx ∧ Hid (Below wr.heap.size wr wx))
      case first =>
        by_cases hkt : (k : Int) = t
        · have hkb : ((k : Int) == t) = true := by rw [beq_iff_eq]; exact hkt
          obtain ⟨hf1, hf2, hf3⟩ : _ ∧ _ ∧ _ := HFK.out.resolve_right (fun ⟨_, m, h, e1, e2, _⟩ => by omega)
          have HKT := hide hkt
          clear hkt hkT
          subst hf1 hf2 hf3
          go_wp2_with fail
          refine (fork_good (n + 1) R a b c _ g hK0 _ HS.out.reg).mono ?_
          rintro e w7 ⟨h, rfl, hrh, hhl, hbf⟩
          go_wp2_with (first
            | (at_builtin; refine wpList_appB rfl (.tmp 67) (.tmp 68) rfl w7.heap.size (.slice (some ⟨w7.heap.size, 0, none⟩) 0 0) [] rfl (own_lit0 w7) ag ls.length cg ls rfl ((RG.out.below hbf).below ((Below.refl _ _).alloc (Nat.le_refl _) _)) rfl ?c1 ?c2 ?_)
            | go_in)
          case c1 => simp; omega
          case c2 => simp
          intro v8 w8 ho8 hg8 _
          have hb8 := app_below0 hg8
          rw [← hls] at ho8
          have HNF := hide (Frk.new HS.out hrh hhl hbf ho8 hb8)
          have HB8 := hide (below_then hbf hb8)
          clear hrh hhl hbf ho8 hb8 hg8
          go_wp2_with fail
          go_meet
          case rel => exact ⟨.inr ⟨rfl, k, h, HKT.out.symm, by omega, rfl, HNF.out⟩, HB8⟩
        · have hkb : ((k : Int) == t) = false := by rw [beq_eq_false_iff_ne]; exact hkt
          clear hkt hkT
          go_wp2_with fail
          go_meet
          case rel => exact ⟨HFK.out.more, hide (Below.refl _ _)⟩
      case rest =>
      rename_i f_ y_ two_ _ _ _
      obtain ⟨hfk, HBC⟩ := hcut
      have HFC := hide hfk
      clear hfk HFK hkT
      generalize wc = w9 at *
      have HS9 := hide (HS.out.below HBC.out)
      obtain ⟨bu, ou, rfl, hbu, hcu⟩ := ((RU.out.grown HS9.out.grow HUG.out).at_ (i := k) (by simp; omega))
      rw [HXS.out k hk1] at hcu
      have HP := hide (HPUT.out k g w9 HS9.out.reg)
      have HXK := hide (rfl : xs.getD k 0 = xs.getD k 0)
      generalize hxk : xs.getD k 0 = xk at *
      go_wp2_with fail
      refine (HP.out).mono ?_
      rintro e w10 ⟨sv, rfl, hos, hr10, hg10⟩
      rw [← hxk] at hr10
      have HS10 := hide (HS9.out.put hgW hr10 hg10)
      have HF10 := hide (HFC.out.put hgW hg10)
      obtain ⟨as_, cs, rfl, rs_, _, _⟩ := hos.rowc
      have RS := hide rs_
      clear hos hr10 hg10 rs_
      go_wp2_with fail
      refine (num_any _ _).mono ?_
      rintro e w' ⟨rfl, rfl⟩
      have h3 := HSK.out (2 * stAt n 0 xs k + xk)
      have HOW := hide HS10.out.own
      rw [hls] at HOW
      go_wp2_with (first
        | (at_builtin; refine wpList_appB rfl (.tmp 82) (.tmp 83) rfl W.heap.size (.slice ag ls.length cg) ls rfl HOW.out as_ _ cs _ rfl RS.out rfl ?c1 ?c2 ?_)
        | go_in)
      case c1 => omega
      case c2 => exact HS10.out.grow.size
      intro v11 w11 ho11 hg11 hn11
      rw [← hls, ← hxk] at ho11
      have HS11 := hide (HS10.out.app hgW ho11 hg11)
      have HF11 := hide (HF10.out.app hg11 hn11)
      clear ho11 hg11 hn11
      go_wp2_with fail
      go_roundw
      case rel => exact ⟨k + 1, by omega, by go_num, HS11, HF11.out⟩
      case measure => simp [intOf]; omega
theorem law_steps (K R : Int) (a b c : Nat) (hA : a ≤ 4294967295) (hB : b ≤ 4294967295) (hC : c ≤ 4294967295) (ad : Option Addr) (cap : Nat) (xs : List Nat) (hl : xs.length ≤ 1048576) (t : Int) (w : World) (rx : RowA w ad xs) :
    Calls Try.prog 5 #[.agg #[.int .i64 K, .int .i64 R, .int .u32 a, .int .u32 b, .int .u32 c], .slice ad xs.length cap, .int .i64 t] w fun e w' => e = .returned (.bool true) ∧ Below w.heap.size w w' := by
  by_cases he : encE K R a b c xs = 0
  · obtain ⟨hck, hb⟩ := encE_zero he
    obtain ⟨hh, _⟩ := checkF_zero hck
    have h1 : 3 ≤ K := Decidable.byContradiction fun e => hh (.inl (by omega))
    have h2 : K ≤ 32 := Decidable.byContradiction fun e => hh (.inr (.inl (by omega)))
    have h3 : R = 2 ∨ R = 3 := by
      by_cases h : R = 2
      · exact .inl h
      · exact .inr (Decidable.byContradiction fun e => hh (.inr (.inr (.inl ⟨h, e⟩))))
    obtain ⟨n, rfl⟩ : ∃ n : Nat, K = (n : Int) + 1 := ⟨(K - 1).toNat, by omega⟩
    exact steps_good n R a b c h3 (by omega) hA hB hC hck ad cap xs hl hb t w rx
  · exact steps_bad K R a b c hA hB hC ad cap xs t (by omega) he w rx
end Go.Proofs.Ytmmngcjnofcmmaa
