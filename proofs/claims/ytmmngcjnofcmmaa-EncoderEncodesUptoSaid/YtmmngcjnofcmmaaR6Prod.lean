/- outpostref06.Product, walked. -/
import Derived.Test.YtmmngcjnofcmmaaRows
import Derived.Test.YtmmngcjnofcmmaaProd
import Derived.Test.YtmmngcjnofcmmaaR6Sym
import Derived.Test.YtmmngcjnofcmmaaGood
namespace Go.Proofs.Ytmmngcjnofcmmaa
open Go.RowKit

theorem ProdSt.next {w u u' : World} {gc g1 m : Nat} {K R : Int} {a b c : Nat} {ad : Option Addr} {xs ls : List Nat} (h : ProdSt w u gc g1 m K R a b c ad xs ls) (hb : Below u.heap.size u u') (hg : gc < u.heap.size) : ProdSt w u' gc g1 m K R a b c ad xs ls :=
  ⟨h.own.below hb, h.code.keep hb hg, h.row.below hb, below_then h.below hb⟩
set_option maxRecDepth 100000 in
set_option maxHeartbeats 2000000 in
theorem rproduct_ok (n a b c : Nat) (R : Int) (hR : R = 2 ∨ R = 3) (hn : 2 ≤ n ∧ n ≤ 31) (hA : a ≤ 4294967295) (hB : b ≤ 4294967295) (hC : c ≤ 4294967295) (hck : checkF (n + 1) R a b c = 0) (ad : Option Addr) (cap : Nat) (xs : List Nat) (hl : xs.length ≤ 1048600) (hb : Bits xs) (i : Nat) (hi : (i : Int) < R) (w : World) (hx : RowA w ad xs) :
    Calls Try.prog 35 #[.agg #[.int .i64 (n + 1), .int .i64 R, .int .u32 a, .int .u32 b, .int .u32 c], .slice ad xs.length cap, .int .i64 i] w fun e w' => ∃ v, e = .returned (.tuple #[v, .int .i64 0]) ∧ OwnB w' w.heap.size v (prodL (genN a b c i) n xs) ∧ Below w.heap.size w w' := by
  have HC := hide (rcheck_any (n + 1) R a b c hA hB hC)
  rw [hck] at HC
  have HR := hide fun w hx => rright_yes ad cap xs (by omega) hb w hx
  have HX := hide hx
  have HBT := hide hb.all
  have hi3 : i < 3 := by omega
  have hi0 : ¬ (i : Int) < 0 := by omega
  have hiR : ¬ R ≤ (i : Int) := by omega
  have hR0 : (2 : Int) ≤ R := by omega
  have hR3 : R ≤ 3 := by omega
  have hgl := genN_le hA hB hC i
  have HPS := hide (prodK_start (genN a b c i) n xs)
  have HPN := hide (fun k (h : k < xs.length) => prodK_next (g := genN a b c i) (n := n) h)
  have HPD := hide (prodK_done (genN a b c i) n xs)
  have HPL := hide (fun k j => prodK_length (genN a b c i) n xs k j)
  have HPF := hide (fun k j p (hp : p < xs.length + n) => show (prodK (genN a b c i) n xs k j).getD p 0 ≤ 1 by rw [prodK_at hp]; exact prodF_le HBT.out k j p)
  have HH := hide fun (k : Nat) (hk : k ≤ 31) (v : Bool) (hv : (genN a b c i / 2 ^ k % 2 == 1) = v) => rhas_any (n + 1) R a b c i k hA hB hC hi3 hk v hv
  have HKY := hide (fun k j (h : k < xs.length) (h2 : j ≤ n) (hb : genN a b c i / 2 ^ j % 2 = 1) => prodK_yes (g := genN a b c i) (j := j) h h2 hb)
  have HKN := hide (fun k j (hb : genN a b c i / 2 ^ j % 2 = 0) => prodK_no (g := genN a b c i) (n := n) (xs := xs) (k := k) (j := j) hb)
  generalize genN a b c i = g at *
  clear hx hb hck hR
  go_enter Try.func35, Try.ntmps35
  go_wp2_with fail
  refine (HC.out _).mono ?_
  rintro e w1 ⟨rfl, hb1⟩
  have hz1 := hb1.size
  simp at hz1
  have HCB1 := hide ((CodeB.new w (n + 1) R a b c).keep hb1 (by simp))
  have HB1 := hide (below_one hb1)
  obtain ⟨q0, q1, q2, q3, q4⟩ := HCB1.out.cells
  clear hb1
  go_wp2_with fail
  refine (HR.out _ (HX.out.below HB1.out)).mono ?_
  rintro e w' ⟨rfl, rfl⟩
  go_wp2_with (first
    | (at_make; refine wpList_makeB rfl _ _ rfl w.heap.size _ _ (xs.length + n) rfl rfl ?c1 ?c2 ?c3 ?c4 ?_)
    | go_in)
  case c1 => omega
  case c2 => omega
  case c3 => omega
  case c4 => omega
  intro w2 hown2 hgrow2 hz2
  have hadw := hide (fun (h0 : 0 < xs.length) b off (e : ad = some ⟨b, off, none⟩) => RowA.lt_of HX.out h0 b off e)
  have HS0 := hide (show ProdSt w w2 w.heap.size w1.heap.size (xs.length + n) (n + 1) R a b c ad xs (prodK g n xs 0 0) from
    ⟨by rw [HPS.out]; exact hown2, HCB1.out.grown hgrow2 (by simp), (HX.out.below HB1.out).grown hgrow2 (by simp), HB1.out.grown hgrow2 HB1.out.size (fun k e => by cases e)⟩)
  clear hown2 hgrow2 q0 q1 q2 q3 q4 HC HR
  have hg1 : w.heap.size < w1.heap.size := by omega
  go_wp2_with fail
  go_loopw [10] (fun i u => ∃ k : Nat, k ≤ xs.length ∧ i = .int .i64 k ∧ Hid (ProdSt w u w.heap.size w1.heap.size (xs.length + n) (n + 1) R a b c ad xs (prodK g n xs k 0))) (fun i _ => xs.length - (intOf i).toNat)
  case atStart => exact ⟨0, by omega, rfl, HS0⟩
  case round =>
    rename World => wr
    obtain ⟨k, hk, rfl, hS⟩ := hrel
    clear HS0
    by_cases hlt : k < xs.length
    · have hne := hide (show ∀ b off, ad = some ⟨b, off, none⟩ → b ≠ w1.heap.size from fun b off e => by have := hadw.out (by omega) b off e; omega)
      have HS1 := hide hS.out
      clear hS
      have hx1 := HBT.out k
      have HKYk := hide (fun j h2 hb => HKY.out k j hlt h2 hb)
      have HKNk := hide (fun j hb => HKN.out k j hb)
      have hkI : (k : Int) < xs.length := by omega
      have hk0 : (0 : Int) ≤ k := by omega
      go_wp2_with fail
      go_loopw [11] (fun i u => ∃ j : Nat, j ≤ n + 1 ∧ i = .int .i64 j ∧ Hid (ProdSt w u w.heap.size w1.heap.size (xs.length + n) (n + 1) R a b c ad xs (prodK g n xs k j))) (fun i _ => n + 1 - (intOf i).toNat)
      case atStart => exact ⟨0, by omega, rfl, HS1⟩
      case round =>
        rename World => wj
        obtain ⟨j, hj, rfl, hS⟩ := hrel
        clear HS1
        obtain ⟨q0, q1, q2, q3, q4⟩ := hS.out.code.cells
        by_cases hlj : j < n + 1
        · by_cases hbit : g / 2 ^ j % 2 = 1
          · have HHj := hide (HH.out j (by omega) true (by rw [hbit]; rfl))
            have HKYj := hide (HKYk.out j (by omega) hbit)
            clear hbit
            go_wp2_with fail
            refine (HHj.out _).mono ?_
            rintro e w3 ⟨rfl, hb3⟩
            have hS3 := hide (hS.out.next hb3 hS.out.code.lt)
            clear hb3 q0 q1 q2 q3 q4
            have hln := (HPL.out k j).symm
            have hkj : k + j < xs.length + n := by omega
            obtain ⟨b', off, had, _, hcx⟩ := hS3.out.row.at_ hlt
            have hc := hS3.out.own.cell hln hkj
            have hf := hS3.out.own.frz hln (k + j)
            have hy1 := HPF.out k j _ hkj
            have hset := hS3.out.drew.set (i := k + j) (y := (prodK g n xs k j).getD (k + j) 0 ^^^ xs.getD k 0) hln (by omega) (by omega) hne.out
            rw [HKYj.out] at hset
            have HS2 := hide hset
            clear hset hln
            generalize (prodK g n xs k j).getD (k + j) 0 = y at *
            generalize xs.getD k 0 = x at *
            have HE := hide (xorU8 (a := y) (b := x) (by omega) (by omega))
            generalize y ^^^ x = z at *
            have hwp : IntKind.i64.wrap ((k : Int) + j) = ((k + j : Nat) : Int) := by rw [IntWalk.i64_in _ (by omega)]; omega
            have hp0 : (0 : Int) ≤ ((k + j : Nat) : Int) := by omega
            have hp1 : ((k + j : Nat) : Int) < xs.length + n := by omega
            generalize k + j = p at *
            subst had
            go_wp2_with fail
            go_still_tail 16, (by kernel_rfl)
            change wpList _ _ _ _ _ w3.drew
            rw [HE.out]
            go_wp2_with fail
            go_roundw
            case rel => exact ⟨j + 1, by omega, by simp, HS2⟩
            case measure => simp [intOf]; omega
          · have hbit0 : g / 2 ^ j % 2 = 0 := by omega
            have HHj := hide (HH.out j (by omega) false (by rw [hbit0]; rfl))
            have HKNj := hide (HKNk.out j hbit0)
            clear hbit hbit0
            go_wp2_with fail
            refine (HHj.out _).mono ?_
            rintro e w3 ⟨rfl, hb3⟩
            have hS3 := hide (hS.out.next hb3 hS.out.code.lt)
            clear hb3 q0 q1 q2 q3 q4
            go_wp2_with fail
            go_roundw
            case rel => exact ⟨j + 1, by omega, by simp, by rw [HKNj.out]; exact hS3⟩
            case measure => simp [intOf]; omega
        · obtain rfl : j = n + 1 := by omega
          rw [HPN.out k hlt] at hS
          go_wp2_with fail
          go_roundw
          case rel => exact ⟨k + 1, by omega, by simp, hS⟩
          case measure => simp [intOf]; omega
    · obtain rfl : k = xs.length := by omega
      rw [HPD.out] at hS
      go_wp2_with fail
      go_ret2
      exact ⟨.slice (some ⟨w1.heap.size, 0, none⟩) (xs.length + n) (xs.length + n), rfl, hS.out.own, hS.out.below⟩
end Go.Proofs.Ytmmngcjnofcmmaa
