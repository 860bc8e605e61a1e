/- outpostlaw37.Plain, knows, row, walked. -/
import Derived.Test.YtmagpmoghnmhmaaRows
import Derived.Test.YtmagpmoghnmhmaaWTurn
import Derived.Test.YtmagpmoghnmhmaaLit
namespace Go.Proofs.Ytmagpmoghnmhmaa
open Go.RowKit

theorem all8 {xs : List Nat} (h : ∀ i, i < xs.length → xs.getD i 0 ≤ 255) (i : Nat) : xs.getD i 0 ≤ 255 := by
  rcases Nat.lt_or_ge i xs.length with hi | hi
  · exact h i hi
  · simp [List.getD, hi]
theorem plain_any (w : World) :
    Calls Try.prog 11 #[] w fun e w' => e = .returned (.agg #[.int .i64 3, .int .u64 3, .int .u64 1, .int .i64 160, .int .i64 100, .int .i64 0, .int .i64 100]) ∧ Below w.heap.size w w' := by
  go_enter Try.func11, Try.ntmps11
  go_wp2_with fail
  refine bodyPost_ret (v := .agg #[.int .i64 3, .int .u64 3, .int .u64 1, .int .i64 160, .int .i64 100, .int .i64 0, .int .i64 100]) (by simp [results, Try.results11, go_sem]) rfl ⟨rfl, ?_⟩
  exact (Below.refl _ _).alloc (Nat.le_refl _) _
def plainP : Gf2.Wp := ⟨3, 3, 160, 100, 0, 100⟩
theorem plain_good : GoodL plainP.D plainP.T 1 := ⟨by decide, by decide, by decide, by decide, by decide, by decide⟩
theorem plain_ok : wchk plainP.D plainP.T 1 plainP.W plainP.B plainP.C plainP.M = 0 :=
  wchk_ok (lchk_good plain_good) ⟨⟨by decide, by decide⟩, ⟨by decide, by decide⟩, ⟨by decide, by decide⟩, ⟨by decide, by decide⟩⟩
theorem plain_turn : Gf2.wturn plainP 8 (1, false) [1, 1] = [6, 1] := by decide +kernel
theorem str61 : strN [6, 1] = ⟨#[6, 1]⟩ := by decide +kernel
set_option maxRecDepth 100000 in
set_option maxHeartbeats 1000000 in
theorem knows_any (w : World) :
    Calls Try.prog 14 #[] w fun e w' => e = .returned (.bool true) ∧ Below w.heap.size w w' := by
  have HN := hide (wnew_good plainP 1 plain_good plain_ok)
  have e0 : (#[.agg #[.int .i64 plainP.D, .int .u64 plainP.T, .int .u64 (1 : Nat), .int .i64 plainP.W, .int .i64 plainP.B, .int .i64 plainP.C, .int .i64 plainP.M]] : Array Value) = #[.agg #[.int .i64 3, .int .u64 3, .int .u64 1, .int .i64 160, .int .i64 100, .int .i64 0, .int .i64 100]] := rfl
  rw [e0] at HN
  clear e0
  have HS := hide str61
  have HT := hide fun (x bn g : Nat) (u : World) (ad : Option Addr) (cap : Nat) (h : WSt u x bn g plainP 1 (1, false) 0) (hr : RowA u ad [1, 1]) (hne : ∀ b off, ad = some ⟨b, off, none⟩ → b ≠ x ∧ b ≠ g) =>
    turn_ok 8 (by omega) ad cap [1, 1] (by simp) (by intro i hi; have : i = 0 ∨ i = 1 := by simp at hi; omega
                                                     rcases this with rfl | rfl <;> decide) u h (by simp) hr hne
  rw [plain_turn] at HT
  go_enter Try.func14, Try.ntmps14
  go_wp2_with fail
  refine (plain_any _).mono ?_
  rintro e w1 ⟨rfl, hb1⟩
  go_wp2_with fail
  refine (HN.out _).mono ?_
  rintro e w2 ⟨x, bn, g, rfl, hs2, ⟨a1, a2, a3⟩, hb2⟩
  have HS2 := hide hs2
  have HB2 := hide (below_then hb1 hb2)
  have hlt := hide hs2.lt
  have z1 := hb1.size
  clear hs2 hb1 hb2
  go_wp2_with fail
  refine (num_any _ _).mono ?_
  rintro e w' ⟨rfl, rfl⟩
  go_wp2_with fail
  refine (HT.out x bn g _ _ _ ?hst ?hrow ?hne).mono ?_
  case hst => exact HS2.out.below ((Below.refl _ _).alloc (Nat.le_refl _) _) hlt.out
  case hrow => exact RowA.litAt _ [1, 1] _ (by simp)
  case hne => intro b off e; simp at e; have := hlt.out; omega
  rintro e w3 ⟨v3, rfl, ho3, hs3, ht3⟩
  obtain ⟨al, cl, rfl, rl, _⟩ := ho3.rowg
  have HS3 := hide hs3
  have HB3 := hide (Two.then_ (HB2.out.alloc HB2.out.size _) ht3 (by omega) (by omega) (by have := HB2.out.size; simp; omega))
  have HA := hide (wat_any _ hs3)
  have hcv : (convert 40 9 (.slice al 2 cl)).run Try.prog w3 = .ok (.string ⟨#[6, 1]⟩) w3 := by rw [← HS.out]; exact rl.conv cl
  clear ho3 hs3 ht3 rl
  go_wp2_with fail
  refine (num_any _ _).mono ?_
  rintro e w' ⟨rfl, rfl⟩
  go_wp2_with fail
  refine HA.out.mono ?_
  rintro e w' ⟨rfl, rfl⟩
  go_wp2_with fail
  go_ret
  exact ⟨rfl, HB3.out⟩
set_option maxHeartbeats 1000000 in
theorem row_any (lv : Nat) (hlv : 1 ≤ lv ∧ lv ≤ 256) (ad : Option Addr) (cap : Nat) (xs : List Nat) (hl : xs.length ≤ 140737488351232) (h8 : ∀ i, xs.getD i 0 ≤ 255) (w : World) (hr : RowA w ad xs) :
    Calls Try.prog 17 #[.slice ad xs.length cap, .int .i64 lv] w fun e w' => ∃ v, e = .returned v ∧ OwnB w' w.heap.size v ((List.range xs.length).map fun i => xs.getD i 0 % lv) ∧ Below w.heap.size w w' := by
  have HR := hide hr
  have H8 := hide h8
  clear hr h8
  obtain ⟨l2, l16⟩ := hlv
  go_enter Try.func17, Try.ntmps17
  go_wp2_with (first
    | (at_make; refine wpList_makeB rfl _ _ rfl w.heap.size _ _ xs.length rfl rfl ?c1 ?c2 ?c3 ?c4 ?_)
    | go_in)
  case c1 => rfl
  case c2 => rfl
  case c3 => omega
  case c4 => exact Nat.le_refl _
  intro w1 hown1 hgrow1 hz1
  have HO1 := hide (show OwnB w1 w.heap.size (.slice (some ⟨w.heap.size, 0, none⟩) xs.length xs.length) (fillK (fun i => xs.getD i 0 % lv) xs.length 0) by rw [fillK_zero]; exact hown1)
  have HB1 := hide ((Below.refl w.heap.size w).grown hgrow1 (Nat.le_refl _) (fun k e => by cases e))
  clear hown1 hgrow1
  go_wp2_with fail
  go_loopw [6] (fun i u => ∃ k : Nat, k ≤ xs.length ∧ i = .int .i64 k ∧ Hid (OwnB u w.heap.size (.slice (some ⟨w.heap.size, 0, none⟩) xs.length xs.length) (fillK (fun i => xs.getD i 0 % lv) xs.length k)) ∧ Hid (Below w.heap.size w u)) (fun i _ => xs.length - (intOf i).toNat)
  case atStart => exact ⟨0, by omega, rfl, HO1, HB1⟩
  case round =>
    obtain ⟨k, hk, rfl, ho, ht⟩ := hrel
    by_cases hlt : k < xs.length
    · obtain ⟨b, off, rfl, _, hc⟩ := (HR.out.below ht.out).at_ hlt
      have hcg := ho.out.cell (fillK_length hk).symm hlt
      have hfz := ho.out.frz (fillK_length hk).symm k
      have hset := (ho.out.set (fillK_length hk).symm k (xs.getD k 0 % lv)).1
      rw [fillK_set (f := fun i => xs.getD i 0 % lv) hlt] at hset
      have HO2 := hide hset
      have HT2 := hide (ht.out.setCell (p := ⟨w.heap.size, k, none⟩) (Nat.le_refl _) (.int .u8 (xs.getD k 0 % lv : Nat)))
      clear hset
      have hin : (0 : Int) ≤ k := by omega
      have hin2 : (k : Int) < xs.length := by omega
      have hm : (xs.getD k 0 : Int) % lv = ((xs.getD k 0 % lv : Nat) : Int) := by simp
      have hmt : (xs.getD k 0 : Int).tmod lv = ((xs.getD k 0 % lv : Nat) : Int) := by rw [Int.tmod_eq_emod_of_nonneg (by omega)]; exact hm
      have hml : xs.getD k 0 % lv < lv := Nat.mod_lt _ (by omega)
      have hz : (lv : Int) ≠ 0 := by omega
      have hy8 := H8.out k
      generalize hq : xs.getD k 0 % lv = q at *
      generalize hy : xs.getD k 0 = y at *
      have HQ := hide hq
      have HY := hide hy
      clear hq hy
      go_wp2_with fail
      go_roundw
      case rel => exact ⟨k + 1, by omega, by simp, HO2, HT2⟩
      case measure => simp [intOf]; omega
    · obtain rfl : k = xs.length := by omega
      go_wp2_with fail
      go_ret
      exact ⟨_, rfl, by have := ho.out; rw [fillK_full] at this; exact this, ht.out⟩
end Go.Proofs.Ytmagpmoghnmhmaa
