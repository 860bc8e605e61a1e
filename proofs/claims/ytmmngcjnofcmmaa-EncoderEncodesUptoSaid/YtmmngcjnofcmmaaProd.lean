/- encoder.Product, walked. -/
import Derived.Test.YtmmngcjnofcmmaaRows
import Derived.Test.YtmmngcjnofcmmaaProdM
import Derived.Test.YtmmngcjnofcmmaaCodeB
import Derived.Test.YtmmngcjnofcmmaaRCheck
import Derived.Test.YtmmngcjnofcmmaaEnc
import Derived.StillTailTactics
namespace Go.Proofs.Ytmmngcjnofcmmaa
open Go.RowKit

/-- the state of the product's loops -/
structure ProdSt (w u : World) (gc g1 m : Nat) (K R : Int) (a b c : Nat) (ad : Option Addr) (xs ls : List Nat) : Prop where
  own : OwnB u w.heap.size (.slice (some ⟨g1, 0, none⟩) m m) ls
  code : CodeB u gc K R a b c
  row : RowA u ad xs
  below : Below w.heap.size w u
theorem ProdSt.set {w u : World} {gc g1 m i y : Nat} {K R : Int} {a b c : Nat} {ad : Option Addr} {xs ls : List Nat} (h : ProdSt w u gc g1 m K R a b c ad xs ls) (hm : m = ls.length) (h1 : gc ≠ g1) (h2 : w.heap.size ≤ g1) (hr : ∀ b off, ad = some ⟨b, off, none⟩ → b ≠ g1) : ProdSt w (u.setCell ⟨g1, i, none⟩ (.int .u8 (y : Nat))) gc g1 m K R a b c ad xs (ls.set i y) :=
  ⟨(h.own.set hm i y).1, h.code.far h1 _, h.row.keep (by simp) (fun b off e _ => Below.heap_setCell _ _ _ _ (hr b off e)), h.below.setCell h2 _⟩
theorem ProdSt.drew {w u : World} {gc g1 m : Nat} {K R : Int} {a b c : Nat} {ad : Option Addr} {xs ls : List Nat} (h : ProdSt w u gc g1 m K R a b c ad xs ls) : ProdSt w u.drew gc g1 m K R a b c ad xs ls :=
  ⟨h.own.keep fun _ _ => rfl, h.code, h.row.keep (Nat.le_refl _) (fun _ _ _ _ => rfl), h.below.drew⟩
theorem bit_and {g j : Nat} (hg : g ≤ 4294967295) : bits .and .u32 ((g : Int) / 2 ^ j) 1 = ((g / 2 ^ j % 2 : Nat) : Int) := by
  rw [shrI]
  exact low32 (Nat.le_trans (Nat.div_le_self _ _) hg)
theorem prodK_any {g n : Nat} {xs : List Nat} {k j : Nat} (hx : ∀ i, xs.getD i 0 ≤ 1) (hk : k < xs.length) (hj : j ≤ n) : (prodK g n xs k j).set (k + j) ((prodK g n xs k j).getD (k + j) 0 ^^^ (xs.getD k 0 &&& (g / 2 ^ j % 2))) = prodK g n xs k (j + 1) := by
  have h01 : g / 2 ^ j % 2 = 0 ∨ g / 2 ^ j % 2 = 1 := by omega
  rcases h01 with h | h
  · rw [h, Nat.and_zero, Nat.xor_zero, prodK_no h]
    refine List.ext_getElem (by simp) fun i h1 h2 => ?_
    rw [List.getElem_set]
    split
    · rename_i e; subst e; simp [List.getD, h2]
    · rfl
  · have hx1 := hx k
    have : xs.getD k 0 &&& 1 = xs.getD k 0 := by rw [Nat.and_one_is_mod]; omega
    rw [h, this, prodK_yes hk hj h]
set_option maxRecDepth 100000 in
set_option maxHeartbeats 2000000 in
theorem product_ok (n a b c : Nat) (R : Int) (hR : R = 2 ∨ R = 3) (hn : 2 ≤ n ∧ n ≤ 31) (hA : a ≤ 4294967295) (hB : b ≤ 4294967295) (hC : c ≤ 4294967295) (hck : checkF (n + 1) R a b c = 0) (ad : Option Addr) (cap : Nat) (xs : List Nat) (hl : xs.length ≤ 1048600) (hb : Bits xs) (i : Nat) (hi : (i : Int) < R) (w : World) (hx : RowA w ad xs) :
    Calls Try.prog 34 #[.agg #[.int .i64 (n + 1), .int .i64 R, .int .u32 a, .int .u32 b, .int .u32 c], .slice ad xs.length cap, .int .i64 i] w fun e w' => ∃ v, e = .returned (.tuple #[v, .int .i64 0]) ∧ OwnB w' w.heap.size v (prodL (genN a b c i) n xs) ∧ Below w.heap.size w w' := by
  have HC := hide (check_any (n + 1) R a b c hA hB hC)
  rw [hck] at HC
  have HR := hide fun w hx => erow_yes ad cap xs (by omega) hb w hx
  have HX := hide hx
  have HBT := hide hb.all
  have hi3 : i < 3 := by omega
  have hi0 : ¬ (i : Int) < 0 := by omega
  have hiR : ¬ R ≤ (i : Int) := by omega
  have hR0 : (2 : Int) ≤ R := by omega
  have hR3 : R ≤ 3 := by omega
  have hgl := genN_le hA hB hC i
  have HPS := hide (prodK_start (genN a b c i) n xs)
  have HPN := hide (fun k (h : k < xs.length) => prodK_next (g := genN a b c i) (n := n) h)
  have HPD := hide (prodK_done (genN a b c i) n xs)
  have HPL := hide (fun k j => prodK_length (genN a b c i) n xs k j)
  have HPK := hide (fun k j (h : k < xs.length) (h2 : j ≤ n) => prodK_any (g := genN a b c i) (j := j) HBT.out h h2)
  have HPF := hide (fun k j p (hp : p < xs.length + n) => show (prodK (genN a b c i) n xs k j).getD p 0 ≤ 1 by rw [prodK_at hp]; exact prodF_le HBT.out k j p)
  have HGC := hide (fun (u : World) (gc : Nat) (h : CodeB u gc (n + 1) R a b c) => h.gen hi3)
  have HBA := hide (fun j => bit_and (j := j) hgl)
  generalize genN a b c i = g at *
  clear hx hb hck hR
  go_enter Try.func34, Try.ntmps34
  go_wp2_with fail
  refine (HC.out _).mono ?_
  rintro e w1 ⟨rfl, hb1⟩
  have hz1 := hb1.size
  simp at hz1
  have HCB1 := hide ((CodeB.new w (n + 1) R a b c).keep hb1 (by simp))
  have HB1 := hide (below_one hb1)
  obtain ⟨q0, q1, q2, q3, q4⟩ := HCB1.out.cells
  clear hb1
  go_wp2_with fail
  refine (HR.out _ (HX.out.below HB1.out)).mono ?_
  rintro e w' ⟨rfl, rfl⟩
  go_wp2_with (first
    | (at_make; refine wpList_makeB rfl _ _ rfl w.heap.size _ _ (xs.length + n) rfl rfl ?c1 ?c2 ?c3 ?c4 ?_)
    | go_in)
  case c1 => omega
  case c2 => omega
  case c3 => omega
  case c4 => omega
  intro w2 hown2 hgrow2 hz2
  have hadw := hide (fun (h0 : 0 < xs.length) b off (e : ad = some ⟨b, off, none⟩) => RowA.lt_of HX.out h0 b off e)
  have HS0 := hide (show ProdSt w w2 w.heap.size w1.heap.size (xs.length + n) (n + 1) R a b c ad xs (prodK g n xs 0 0) from
    ⟨by rw [HPS.out]; exact hown2, HCB1.out.grown hgrow2 (by simp), (HX.out.below HB1.out).grown hgrow2 (by simp), HB1.out.grown hgrow2 HB1.out.size (fun k e => by cases e)⟩)
  clear hown2 hgrow2 q0 q1 q2 q3 q4 HC HR
  have hg1 : w.heap.size < w1.heap.size := by omega
  go_wp2_with fail
  go_loopw [41] (fun i u => ∃ k : Nat, k ≤ xs.length ∧ i = .int .i64 k ∧ Hid (ProdSt w u w.heap.size w1.heap.size (xs.length + n) (n + 1) R a b c ad xs (prodK g n xs k 0))) (fun i _ => xs.length - (intOf i).toNat)
  case atStart => exact ⟨0, by omega, rfl, HS0⟩
  case round =>
    rename World => wr
    obtain ⟨k, hk, rfl, hS⟩ := hrel
    clear HS0
    by_cases hlt : k < xs.length
    · obtain ⟨q0, q1, q2, q3, q4⟩ := hS.out.code.cells
      obtain ⟨b', off, had, _, hcx⟩ := hS.out.row.at_ hlt
      have hne := hide (show ∀ b off, ad = some ⟨b, off, none⟩ → b ≠ w1.heap.size from fun b off e => by have := hadw.out (by omega) b off e; omega)
      have HS1 := hide hS.out
      clear hS
      subst had
      have hx1 := HBT.out k
      have HPKk := hide (fun j h => HPK.out k j hlt h)
      generalize hxk : xs.getD k 0 = x at *
      clear hxk
      go_wp2_with fail
      go_loopw [48] (fun i u => ∃ j : Nat, j ≤ n + 1 ∧ i = .int .i64 j ∧ Hid (ProdSt w u w.heap.size w1.heap.size (xs.length + n) (n + 1) R a b c (some ⟨b', off, none⟩) xs (prodK g n xs k j))) (fun i _ => n + 1 - (intOf i).toNat)
      case atStart => exact ⟨0, by omega, rfl, HS1⟩
      case round =>
        rename World => wj
        obtain ⟨j, hj, rfl, hS⟩ := hrel
        clear HS1 hcx q0 q1 q2 q3 q4
        by_cases hlj : j < n + 1
        · have hln := (HPL.out k j).symm
          have hkj : k + j < xs.length + n := by omega
          have hc := hS.out.own.cell hln hkj
          have hf := hS.out.own.frz hln (k + j)
          have hgc := HGC.out wj _ hS.out.code
          have hy1 := HPF.out k j _ hkj
          have hset := hS.out.drew.set (i := k + j) (y := (prodK g n xs k j).getD (k + j) 0 ^^^ (x &&& (g / 2 ^ j % 2))) hln (by omega) (by omega) hne.out
          rw [HPKk.out j (by omega)] at hset
          have HS2 := hide hset
          clear hset hln
          generalize (prodK g n xs k j).getD (k + j) 0 = y at *
          have hE : bits .xor .u8 (y : Int) (bits .and .u8 (x : Int) (IntKind.u8.wrap (bits .and .u32 ((g : Int) / 2 ^ j) 1))) = ((y ^^^ (x &&& (g / 2 ^ j % 2)) : Nat) : Int) := by
            have hb1 : g / 2 ^ j % 2 ≤ 1 := by omega
            rw [HBA.out j]
            generalize g / 2 ^ j % 2 = q at *
            have h1 : x = 0 ∨ x = 1 := by omega
            have h2 : y = 0 ∨ y = 1 := by omega
            have h3 : q = 0 ∨ q = 1 := by omega
            rcases h1 with rfl | rfl <;> rcases h2 with rfl | rfl <;> rcases h3 with rfl | rfl <;> rfl
          have HE := hide hE
          clear hE
          have hwp : IntKind.i64.wrap ((k : Int) + j) = ((k + j : Nat) : Int) := by rw [IntWalk.i64_in _ (by omega)]; omega
          have hp0 : (0 : Int) ≤ ((k + j : Nat) : Int) := by omega
          have hp1 : ((k + j : Nat) : Int) < xs.length + n := by omega
          generalize k + j = p at *
          have hi30 : (0 : Int) ≤ i := by omega
          have hi33 : (i : Int) < 3 := by omega
          generalize y ^^^ (x &&& (g / 2 ^ j % 2)) = z at *
          go_wp2_with fail
          go_still_tail 18, (by kernel_rfl)
          change wpList _ _ _ _ _ wj.drew
          rw [HE.out]
          go_wp2_with fail
          go_roundw
          case rel => exact ⟨j + 1, by omega, by simp, HS2⟩
          case measure => simp [intOf]; omega
        · obtain rfl : j = n + 1 := by omega
          rw [HPN.out k hlt] at hS
          go_wp2_with fail
          go_roundw
          case rel => exact ⟨k + 1, by omega, by simp, hS⟩
          case measure => simp [intOf]; omega
    · obtain rfl : k = xs.length := by omega
      rw [HPD.out] at hS
      go_wp2_with fail
      go_ret2
      exact ⟨.slice (some ⟨w1.heap.size, 0, none⟩) (xs.length + n) (xs.length + n), rfl, hS.out.own, hS.out.below⟩
end Go.Proofs.Ytmmngcjnofcmmaa
