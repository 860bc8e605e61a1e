/- outpostref04.solvable, walked. -/
import Derived.Test.YtknkkoemghceeaaDoorRows
import Derived.Test.YtknkkoemghceeaaDoorSolvF
import Derived.Test.YtknkkoemghceeaaDoorOwnV
import Derived.Test.YtknkkoemghceeaaDoorRef2W
import Derived.StillTailTactics
import Derived.IntWalk
import Derived.BigQuiet
import Derived.Deep.QuietTactic
namespace Go.Proofs.YtknkkoemghceeaaDoor
open Go.RowKit
open Gf2.BM

theorem elem_u64 : ElemI 113 22 (.int .u64 0) 8 := ⟨Tryd.underlying113, ⟨Tryd.t22, by kernel_rfl, by kernel_rfl, by kernel_rfl, by kernel_rfl⟩, rfl⟩
/-- numbers as cells -/
def u64L (l : List Nat) : List Value := l.map fun (x : Nat) => .int .u64 (x : Int)
theorem u64L_length (l : List Nat) : (u64L l).length = l.length := by simp [u64L]
theorem u64L_at {l : List Nat} {j : Nat} (h : j < l.length) : (u64L l)[j]? = some (.int .u64 (l.getD j 0 : Nat)) := by simp [u64L, h, List.getD_eq_getElem?_getD]
theorem u64L_set (l : List Nat) (j x : Nat) : (u64L l).set j (.int .u64 (x : Nat)) = u64L (l.set j x) := by simp [u64L, List.map_set]
theorem u64L_app (l m : List Nat) : u64L (l ++ m) = u64L l ++ u64L m := by simp [u64L]
theorem u64L_one {l : List Nat} : ∀ u ∈ u64L l, u.oneCell' = true := fun u hu => by
  obtain ⟨x, _, rfl⟩ := List.mem_map.1 hu
  rfl
/-- the rows while they are turned -/
structure SolS (w u : World) (ad : Option Addr) (cp m : Nat) (l : List Nat) : Prop where
  own : OwnV 22 u w.heap.size (.slice ad m cp) (u64L l)
  len : m = l.length
  below : Below w.heap.size w u
section
variable {w u : World} {g cp m : Nat} {l : List Nat} {ad : Option Addr}
theorem SolS.addr (h : SolS w u ad cp m l) (h0 : 0 < m) : ∃ g, ad = some ⟨g, 0, none⟩ := by
  rcases h.own.form with ⟨_, h2⟩ | ⟨g, cap, e, _⟩
  · have := congrArg List.length h2
    rw [u64L_length] at this
    have := h.len
    simp at *; omega
  · simp only [Value.slice.injEq] at e; exact ⟨g, e.1⟩
theorem SolS.cell (h : SolS w u (some ⟨g, 0, none⟩) cp m l) {j : Nat} (hj : j < m) : u.cell? ⟨g, j, none⟩ = some (.int .u64 (l.getD j 0 : Nat)) := by
  rw [h.own.cell (by rw [u64L_length]; exact h.len) hj]
  exact u64L_at (by rw [← h.len]; exact hj)
theorem SolS.frz (h : SolS w u (some ⟨g, 0, none⟩) cp m l) (j : Nat) : u.frozen? ⟨g, j, none⟩ = false := h.own.frz (by rw [u64L_length]; exact h.len) j
theorem SolS.set (h : SolS w u (some ⟨g, 0, none⟩) cp m l) (j x : Nat) : SolS w (u.setCell ⟨g, j, none⟩ (.int .u64 (x : Nat))) (some ⟨g, 0, none⟩) cp m (l.set j x) := by
  have h1 := (h.own.set (by rw [u64L_length]; exact h.len) j (.int .u64 (x : Nat))).1
  rw [u64L_set] at h1
  exact ⟨h1, by rw [List.length_set]; exact h.len, h.below.setCell (h.own.lt (g := g) rfl).1 _⟩
theorem SolS.drew (h : SolS w u ad cp m l) : SolS w u.drew ad cp m l := ⟨h.own, h.len, h.below.drew⟩
end
/-- what solvable answers -/
def SolQ (L : Nat) (xs : List Nat) (w : World) (e : Ending) (w' : World) : Prop := ∃ b : Bool, e = .returned (.bool b) ∧ (b = true ↔ Sv L xs) ∧ Below w.heap.size w w'
set_option maxRecDepth 100000 in
set_option maxHeartbeats 1000000 in
theorem solvable_any (ad : Option Addr) (cp : Nat) (xs : List Nat) (L : Nat) (hL : L < 64) (hb : ∀ j, j < xs.length → xs.getD j 0 < 2 ^ (L + 1)) (hlen : xs.length ≤ 1000) (w : World) (hr : RowV w ad (u64L xs)) :
    Calls Tryd.prog 68 #[.slice ad xs.length cp, .int .i64 L] w (SolQ L xs w) := by
  have h0 : OwnV 22 (w.alloc (.cells #[] 22)) w.heap.size (.slice (some ⟨w.heap.size, 0, none⟩) 0 0) [] := World.ownsRow_lit w #[] 0 (Nat.le_refl _) (by unfold maxLen; omega) rfl
  have H0 := hide h0
  have HR := hide hr
  have HE := hide (Elim.start hb)
  have hLl := u64L_length xs
  have HLL := hide hLl
  have h264 : 2 ^ (L + 1) ≤ 18446744073709551616 := by
    have : 2 ^ (L + 1) ≤ 2 ^ 64 := Nat.pow_le_pow_right (by omega) (by omega)
    simpa using this
  have HBIT := hide (fun (a n : Nat) (ha : a ≤ 18446744073709551615) (hn : n ≤ 63) => rbit_any a n n ha rfl hn)
  clear h0 hr hb hLl
  go_enter Tryd.func68, Tryd.ntmps68
  go_wp2_with (first
    | (at_builtin; refine wpList_appV elem_u64 rfl (.tmp 12) (.tmp 13) rfl w.heap.size _ [] rfl H0.out ad xs.length cp (u64L xs) rfl (HR.out.alloc _) u64L_one HLL.out.symm ?c1 ?c2 ?c3 ?_)
    | go_in)
  case c1 => rw [HLL.out]; simp; omega
  case c2 => rw [HLL.out]; simp; omega
  case c3 => simp
  intro v1 w1 hown1 hgrow1 _
  have hS1 : ∃ ad1 cp1, v1 = .slice ad1 xs.length cp1 ∧ SolS w w1 ad1 cp1 xs.length xs := by
    have hb1 : Below w.heap.size w w1 := ((Below.refl w.heap.size w).alloc (Nat.le_refl _) (.cells #[] 22)).grown hgrow1 (by simp) (fun k e => by simp [Value.ownBlock] at e; omega)
    rcases hown1.form with ⟨h1, h2⟩ | ⟨g, cap, h1, _⟩
    · have : xs.length = 0 := by rw [← u64L_length, h2]; rfl
      refine ⟨none, 0, by rw [h1, this], ?_⟩
      rw [h1] at hown1
      exact ⟨by rw [this]; exact hown1, rfl, hb1⟩
    · rw [u64L_length] at h1
      exact ⟨_, cap, h1, by rw [h1] at hown1; exact hown1, rfl, hb1⟩
  obtain ⟨ad1, cp1, rfl, hS⟩ := hS1
  have HS := hide hS
  obtain ⟨m, hm⟩ : ∃ m, xs.length = m := ⟨_, rfl⟩
  rw [hm] at HS hlen ⊢
  have HM := hide hm
  clear hgrow1 hown1 hS hm
  go_wp2_with fail
  go_loopw [6, 7] (fun a ii u => ∃ (at_ i : Nat) (l : List Nat), i ≤ L ∧ Hid (Elim L xs l at_ i) ∧ Hid (SolS w u ad1 cp1 m l) ∧ a = .int .i64 at_ ∧ ii = .int .i64 i) (fun _ ii _ => (intOf ii).toNat)
  case atStart => exact ⟨0, L, xs, Nat.le_refl _, HE, HS, rfl, rfl⟩
  case round =>
    rename World => u
    obtain ⟨at_, i, l, hi, hE, hS, rfl, rfl⟩ := hrel
    clear HE HS
    have HML := hide hS.out.len
    have hat := hE.out.atl
    rw [← HML.out] at hat
    rcases i with _ | i
    · have HDY := hide (fun h => hE.out.done_yes hL h)
      have HDN := hide (fun j hj h => hE.out.done_no (j := j) hj h)
      have HBND := hide hE.out.bnd
      clear hE
      go_wp2_with fail
      go_loop [11] (fun jj => ∃ j : Nat, j ≤ m ∧ jj = .int .i64 j ∧ Hid (∀ j', j' < j → l.getD j' 0 ≠ 1)) (fun jj => m - (intOf jj).toNat)
      case atStart => exact ⟨0, by omega, rfl, hide (fun j' h => by omega)⟩
      case round =>
        obtain ⟨j, hj, rfl, hN⟩ := hrel
        by_cases hjm : j < m
        · obtain ⟨g, rfl⟩ := hS.out.addr (by omega)
          have hc := hS.out.cell hjm
          by_cases h1 : l.getD j 0 = 1
          · rw [h1] at hc
            have HX := hide (HDN.out j (by have := HML.out; omega) h1)
            clear h1
            go_wp2_with fail
            go_ret
            exact ⟨false, rfl, ⟨(fun h => by cases h), fun ⟨c, a, b, d⟩ => absurd ⟨c, a, d⟩ HX.out⟩, hS.out.below⟩
          · have hb1 : ((l.getD j 0 : Int) == 1) = false := by rw [beq_eq_false_iff_ne]; omega
            have HN2 := hide (show ∀ j', j' < j + 1 → l.getD j' 0 ≠ 1 from fun j' hj' => by
              by_cases e : j' = j
              · rw [e]; exact h1
              · exact hN.out j' (by omega))
            generalize l.getD j 0 = x at *
            clear h1
            go_wp2_with fail
            go_round
            case rel => exact ⟨j + 1, by omega, by simp, HN2⟩
            case measure => simp [intOf]; omega
        · have HX := hide (HDY.out (fun j' hj' => hN.out j' (by have := HML.out; omega)))
          go_wp2_with fail
          go_ret
          exact ⟨true, rfl, ⟨fun _ => HX.out, fun _ => rfl⟩, hS.out.below⟩
    · have hi1 : (1 : Int) ≤ ((i + 1 : Nat) : Int) := by omega
      obtain ⟨i1, hi1e⟩ : ∃ i1, i1 = i + 1 := ⟨_, rfl⟩
      rw [← hi1e]
      rw [← hi1e] at hi1
      have HI1 := hide hi1e
      have hiL : i1 ≤ 63 := by omega
      have hi0 : ¬ (i1 : Int) < 1 := by omega
      clear hi1e
      go_wp2_with fail
      go_loop [8] (fun kk => ∃ k : Nat, at_ ≤ k ∧ k ≤ m ∧ kk = .int .i64 k ∧ Hid (∀ k', at_ ≤ k' → k' < k → bt (l.getD k' 0) i1 = 0)) (fun kk => m - (intOf kk).toNat)
      case atStart => exact ⟨at_, Nat.le_refl _, hat, rfl, hide (fun k' a b => by omega)⟩
      case round =>
        obtain ⟨k, hk1, hk2, rfl, hN⟩ := hrel
        by_cases hkm : k < m
        · obtain ⟨g, rfl⟩ := hS.out.addr (by omega)
          have hc := hS.out.cell hkm
          have hbd := hE.out.bnd k (by have := HML.out; omega)
          have HB := hide (HBIT.out (l.getD k 0) i1 (by omega) hiL)
          by_cases h1 : bt (l.getD k 0) i1 = 0
          · have HN2 := hide (show ∀ k', at_ ≤ k' → k' < k + 1 → bt (l.getD k' 0) i1 = 0 from fun k' a b => by
              by_cases e : k' = k
              · rw [e]; exact h1
              · exact hN.out k' a (by omega))
            have h1' : l.getD k 0 / 2 ^ i1 % 2 = 0 := h1
            rw [h1'] at HB
            generalize l.getD k 0 = x at *
            clear h1 h1'
            go_wp2_with fail
            refine (HB.out _).mono ?_
            rintro e w' ⟨rfl, rfl⟩
            go_wp2_with fail
            go_round
            case rel => exact ⟨k + 1, by omega, by omega, by simp, HN2⟩
            case measure => simp [intOf]; omega
          · have h1' : l.getD k 0 / 2 ^ i1 % 2 = 1 := by have := bt_le (l.getD k 0) i1; unfold bt at this h1; omega
            have hbt1 : bt (l.getD k 0) i1 = 1 := h1'
            rw [h1'] at HB
            have hkn : ((k : Int) == (m : Int)) = false := by rw [beq_eq_false_iff_ne]; omega
            have hkn2 : ¬ (k : Int) = m := by omega
            have hatm : at_ < m := by omega
            have hc2 := hS.out.cell hatm
            have hf1 := hS.out.frz at_
            have hf2 := hS.out.frz k
            have hbd2 := hE.out.bnd at_ (by have := HML.out; omega)
            have HES := hide (hE.out.swap hk1 (by have := HML.out; omega : k < l.length))
            have HSS := hide ((hS.out.set at_ (l.getD k 0)).set k (l.getD at_ 0))
            have hcs := (hS.out.set at_ (l.getD k 0)).cell hkm
            have hfs := (hS.out.set at_ (l.getD k 0)).frz k
            have hHSS : (l.set at_ (l.getD k 0)).set k (l.getD at_ 0) = swp l at_ k := rfl
            rw [hHSS] at HSS
            have hpv : bt ((swp l at_ k).getD at_ 0) i1 = 1 := by
              rw [swp_at (by have := HML.out; omega) (by have := HML.out; omega)]
              by_cases e : at_ = k
              · rw [if_pos e, e]; exact hbt1
              · rw [if_neg e, if_pos rfl]; exact hbt1
            have HPV := hide hpv
            generalize l.getD k 0 = x at *
            generalize l.getD at_ 0 = y at *
            generalize (l.set at_ x).getD k 0 = z at *
            clear h1 h1' hbt1 hHSS hpv hN hE hS
            go_wp2_with fail
            refine (HB.out _).mono ?_
            rintro e w' ⟨rfl, rfl⟩
            go_wp2_with fail
            generalize swp l at_ k = q at *
            have HQL := hide HSS.out.len
            have hqb := HES.out.bnd
            go_loopw [10] (fun jj v => ∃ j : Nat, j ≤ m ∧ jj = .int .i64 j ∧ Hid (SolS w v (some ⟨g, 0, none⟩) cp1 m (clr q at_ i1 j))) (fun jj _ => m - (intOf jj).toNat)
            case atStart => exact ⟨0, by omega, rfl, by rw [clr_zero]; exact HSS⟩
            case round =>
              rename World => v
              obtain ⟨j, hj, rfl, hV⟩ := hrel
              clear HSS
              by_cases hjm : j < m
              · have hcj := hV.out.cell hjm
                rw [clr_later (by have := HQL.out; omega) (Nat.le_refl _)] at hcj
                by_cases hja : j = at_
                · have hjb : ((j : Int) != (at_ : Int)) = false := by rw [hja]; exact bne_self_eq_false _
                  have HV2 := hide hV.out
                  rw [← clr_stay (by have := HQL.out; omega : j < q.length) (.inl hja)] at HV2
                  clear hja hcj
                  go_wp2_with fail
                  go_roundw
                  case rel => exact ⟨j + 1, by omega, by simp, HV2⟩
                  case measure => simp [intOf]; omega
                · have hjb : ((j : Int) != (at_ : Int)) = true := by rw [bne_iff_ne]; omega
                  have HB2 := hide (HBIT.out (q.getD j 0) i1 (by have := hqb j (by have := HQL.out; omega); omega) hiL)
                  by_cases h1 : bt (q.getD j 0) i1 = 1
                  · have h1' : q.getD j 0 / 2 ^ i1 % 2 = 1 := h1
                    rw [h1'] at HB2
                    have hca := hV.out.cell hatm
                    rw [clr_pivot (by have := HQL.out; omega)] at hca
                    have hfj := hV.out.frz j
                    have HN3 := hide (hV.out.set j (q.getD j 0 ^^^ q.getD at_ 0)).drew
                    rw [← clr_next (by have := HQL.out; omega : j < q.length) hja h1] at HN3
                    have hxo := xor64 (show q.getD j 0 ≤ 18446744073709551615 by have := hqb j (by have := HQL.out; omega); omega) (show q.getD at_ 0 ≤ 18446744073709551615 by have := hqb at_ (by have := HQL.out; omega); omega)
                    generalize q.getD j 0 = xj at *
                    generalize q.getD at_ 0 = xa at *
                    have hj0 : (0 : Int) ≤ j := by omega
                    have hjm2 : (j : Int) < m := by omega
                    have ha0 : (0 : Int) ≤ at_ := by omega
                    have ham2 : (at_ : Int) < m := by omega
                    clear h1 h1' hja
                    go_wp2_with fail
                    refine (HB2.out _).mono ?_
                    rintro e w' ⟨rfl, rfl⟩
                    go_wp2_with fail
                    go_still_tail 12, (by kernel_rfl)
                    change wpList _ _ _ _ _ v.drew
                    go_wp2_with fail
                    go_roundw
                    case rel => exact ⟨j + 1, by omega, by simp, HN3⟩
                    case measure => simp [intOf]; omega
                  · have h1' : q.getD j 0 / 2 ^ i1 % 2 = 0 := by have := bt_le (q.getD j 0) i1; unfold bt at this h1; omega
                    rw [h1'] at HB2
                    have HV2 := hide hV.out
                    rw [← clr_stay (by have := HQL.out; omega : j < q.length) (.inr h1')] at HV2
                    generalize q.getD j 0 = xj at *
                    clear h1 h1' hja
                    go_wp2_with fail
                    refine (HB2.out _).mono ?_
                    rintro e w' ⟨rfl, rfl⟩
                    go_wp2_with fail
                    go_roundw
                    case rel => exact ⟨j + 1, by omega, by simp, HV2⟩
                    case measure => simp [intOf]; omega
              · obtain rfl : j = m := by omega
                have HE4 := hide (show Elim L xs (clr q at_ i1 j) (at_ + 1) i by
                  have := HES.out.clear (by have := HQL.out; omega) (by rw [← HI1.out]; exact HPV.out) (by omega)
                  rw [← HI1.out] at this
                  rw [HQL.out]; exact this)
                clear hqb
                go_wp2_with fail
                go_roundw
                case rel => exact ⟨at_ + 1, i, _, by omega, HE4, hV, by simp, by congr 1; have := HI1.out; omega⟩
                case measure => simp [intOf]; have := HI1.out; omega
        · obtain rfl : k = m := by omega
          have hkn : ((k : Int) == (k : Int)) = true := by simp
          have HE2 := hide (hE.out.none (fun k' a b => by rw [← HI1.out]; exact hN.out k' a (by have := HML.out; omega)))
          clear hE hN
          go_wp2_with fail
          go_roundw
          case rel => exact ⟨at_, i, l, by omega, HE2, hS, rfl, by congr 1; have := HI1.out; omega⟩
          case measure => simp [intOf]; have := HI1.out; omega
end Go.Proofs.YtknkkoemghceeaaDoor
