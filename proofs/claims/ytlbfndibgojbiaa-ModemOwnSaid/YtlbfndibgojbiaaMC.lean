/- Several texts in one: Ones Sym Syms Conv Dec Own Push PutC Right1 Enc Encode EncM CodeB ProdM WordAt R6Sym Good R6Word Lentb Str. -/
import Derived.Test.YtlbfndibgojbiaaRows
import Derived.Test.YtlbfndibgojbiaaMA
import Derived.Test.YtlbfndibgojbiaaMB
import Derived.Lib.Tables
import Derived.Lib.BitFns
import Derived.Deep.QuietTactic
import Derived.BigQuiet
import Derived.Deep.DeepCutAuto
import Derived.Deep.RegionLaw
import Derived.Outline

/- math/bits.OnesCount32, walked. -/
namespace Go.Proofs.Ytlbfndibgojbiaa
open Go.RowKit

theorem fold_tab : (⟨((List.append (List.append ([0, 1, 1, 2, 1, 2, 2, 3, 1, 2, 2, 3, 2, 3, 3, 4, 1, 2, 2, 3, 2, 3, 3, 4, 2, 3, 3, 4, 3, 4, 4, 5, 1, 2, 2, 3, 2, 3, 3, 4, 2, 3, 3, 4, 3, 4, 4, 5, 2, 3, 3, 4, 3, 4, 4, 5, 3, 4, 4, 5, 4, 5, 5, 6] : List UInt8)
    ([1, 2, 2, 3, 2, 3, 3, 4, 2, 3, 3, 4, 3, 4, 4, 5, 2, 3, 3, 4, 3, 4, 4, 5, 3, 4, 4, 5, 4, 5, 5, 6, 2, 3, 3, 4, 3, 4, 4, 5, 3, 4, 4, 5, 4, 5, 5, 6, 3, 4, 4, 5, 4, 5, 5, 6, 4, 5, 5, 6, 5, 6, 6, 7] : List UInt8))
    (List.append ([1, 2, 2, 3, 2, 3, 3, 4, 2, 3, 3, 4, 3, 4, 4, 5, 2, 3, 3, 4, 3, 4, 4, 5, 3, 4, 4, 5, 4, 5, 5, 6, 2, 3, 3, 4, 3, 4, 4, 5, 3, 4, 4, 5, 4, 5, 5, 6, 3, 4, 4, 5, 4, 5, 5, 6, 4, 5, 5, 6, 5, 6, 6, 7] : List UInt8)
    ([2, 3, 3, 4, 3, 4, 4, 5, 3, 4, 4, 5, 4, 5, 5, 6, 3, 4, 4, 5, 4, 5, 5, 6, 4, 5, 5, 6, 5, 6, 6, 7, 3, 4, 4, 5, 4, 5, 5, 6, 4, 5, 5, 6, 5, 6, 6, 7, 4, 5, 5, 6, 5, 6, 6, 7, 5, 6, 6, 7, 6, 7, 7, 8] : List UInt8)))).toArray⟩ : ByteArray) = Lib.pop8tab := by decide +kernel
theorem pop8_byte : ∀ n : Fin 256, Lib.pop8 (n.val : Int) = (Gf2.popF 8 n.val : Int) := by decide +kernel
theorem pop8_nat (n : Nat) (h : n < 256) : Lib.pop8 (n : Int) = (Gf2.popF 8 n : Nat) := pop8_byte ⟨n, h⟩
theorem low255 (x : Nat) (hx : x ≤ 4294967295) : bits .and .u32 (x : Int) 255 = ((x : Int) % 256) := by
  have := u32_and_nat x 255 (by omega) (by omega)
  rw [show x &&& 255 = x % 2 ^ 8 from Nat.and_two_pow_sub_one_eq_mod x 8] at this
  simpa using this
theorem pop_parts (x : Nat) : Gf2.popF 32 x = Gf2.popF 8 (x / 16777216) + Gf2.popF 8 (x / 65536 % 256) + Gf2.popF 8 (x / 256 % 256) + Gf2.popF 8 (x % 256) := by
  have h1 := Gf2.popF_add 8 24 x
  have h2 := Gf2.popF_add 8 16 (x / 2 ^ 8)
  have h3 := Gf2.popF_add 8 8 (x / 2 ^ 8 / 2 ^ 8)
  rw [Nat.div_div_eq_div_mul] at h2 h3
  rw [Nat.div_div_eq_div_mul] at h3
  have h4 := Gf2.popF_mod 8 x
  have h5 := Gf2.popF_mod 8 (x / 256)
  have h6 := Gf2.popF_mod 8 (x / 65536)
  simp only [Nat.reducePow, Nat.reduceMul, Nat.reduceAdd] at h1 h2 h3 h4 h5 h6
  omega

theorem ones_any (x : Nat) (hx : x ≤ 4294967295) (w : World) :
    Calls Try.prog 83 #[.int .u32 x] w fun e w' => e = .returned (.int .i64 (Gf2.popF 32 x : Nat)) ∧ ∃ n, w' = w.drewN n := by
  have e0 : bits .and .u32 (x : Int) 255 = ((x : Int) % 256) := low255 x hx
  have e1 : bits .and .u32 ((x : Int) / 256) 255 = ((x : Int) / 256 % 256) := low255 (x / 256) (by omega)
  have e2 : bits .and .u32 ((x : Int) / 65536) 255 = ((x : Int) / 65536 % 256) := low255 (x / 65536) (by omega)
  have p0 : Lib.pop8 ((x : Int) / 16777216) = _ := pop8_nat (x / 16777216) (by omega)
  have p1 : Lib.pop8 ((x : Int) / 65536 % 256) = _ := pop8_nat (x / 65536 % 256) (by omega)
  have p2 : Lib.pop8 ((x : Int) / 256 % 256) = _ := pop8_nat (x / 256 % 256) (by omega)
  have p3 : Lib.pop8 ((x : Int) % 256) = _ := pop8_nat (x % 256) (by omega)
  have h0 : 0 ≤ (x : Int) / 16777216 := by omega
  have h1 : (x : Int) / 16777216 ≤ 255 := by omega
  have hp := pop_parts x
  have l0 := Gf2.popF_le 8 (x / 16777216)
  have l1 := Gf2.popF_le 8 (x / 65536 % 256)
  have l2 := Gf2.popF_le 8 (x / 256 % 256)
  have l3 := Gf2.popF_le 8 (x % 256)
  rw [hp]
  clear hp
  generalize Gf2.popF 8 (x / 16777216) = a at *
  generalize Gf2.popF 8 (x / 65536 % 256) = b at *
  generalize Gf2.popF 8 (x / 256 % 256) = c at *
  generalize Gf2.popF 8 (x % 256) = d at *
  have w1 : IntKind.u8.wrap ((a : Int) + b) = a + b := IntWalk.u8_in _ (by omega)
  have w2 : IntKind.u8.wrap ((a : Int) + b + c) = a + b + c := IntWalk.u8_in _ (by omega)
  have w3 : IntKind.u8.wrap ((a : Int) + b + c + d) = a + b + c + d := IntWalk.u8_in _ (by omega)
  have w4 : IntKind.i64.wrap ((a : Int) + b + c + d) = a + b + c + d := IntWalk.i64_in _ (by omega)
  go_enter Try.func83, Try.ntmps83
  simp only [fold_tab]
  go_wp2
  go_quiet (fail)
  go_wp2_with fail
  go_ret
  exact ⟨by simp, _, rfl⟩
end Go.Proofs.Ytlbfndibgojbiaa

/- A step's symbols: of numbers alone. -/
namespace Go.Proofs.Ytlbfndibgojbiaa
open Go.RowKit

def outF (w g : Nat) : Nat := Gf2.par (w &&& g)
theorem outF_le (w g : Nat) : outF w g ≤ 1 := Gf2.par_le _
theorem or_bit {s x : Nat} (hs : s ≤ 2147483647) (hx : x ≤ 1) : bits .or .u32 ((s : Int) * 2) (x : Int) = ((2 * s + x : Nat) : Int) := by
  have h := or32 (a := 2 * s) (b := x) (by omega) (by omega)
  have e : 2 * s ||| x = 2 * s + x := by
    have := Nat.two_pow_add_eq_or_of_lt (i := 1) (b := x) (by omega) s
    simpa using this.symm
  rw [e] at h
  rw [← h]
  congr 1
  push_cast
  omega
theorem one_bit (n : Nat) : bits .and .i64 (n : Int) 1 % 256 = ((n % 2 : Nat) : Int) := by
  have h1 : (BitVec.ofInt 64 1).toNat = 2 ^ 1 - 1 := by decide
  have key : (BitVec.ofInt 64 (n : Int) &&& BitVec.ofInt 64 1).toNat = ((n : Int) % ((2 ^ 64 : Nat) : Int)).toNat % 2 ^ 1 := by
    rw [BitVec.toNat_and, BitVec.toNat_ofInt, h1, Nat.and_two_pow_sub_one_eq_mod]
  show IntKind.i64.wrap ((BitVec.ofInt 64 (n : Int) &&& BitVec.ofInt 64 1).toNat : Nat) % 256 = ((n % 2 : Nat) : Int)
  rw [key, IntKind.wrap_i64]
  omega
theorem mask_n (m n : Nat) (hm : m ≤ 4294967295) (hn : 2 ≤ n ∧ n ≤ 31) : bits .and .u32 (m : Int) (IntKind.u32.wrap (IntKind.u32.wrap (2 ^ n) - 1)) = ((m % 2 ^ n : Nat) : Int) := by
  have h2 : 2 ^ n ≤ 2 ^ 31 := Nat.pow_le_pow_right (by omega) (by omega)
  have h3 : 1 ≤ 2 ^ n := Nat.one_le_two_pow
  have e : (2 : Int) ^ n = ((2 ^ n : Nat) : Int) := by simp
  rw [e, IntWalk.u32_in ((2 ^ n : Nat) : Int) (by omega), IntWalk.u32_in (((2 ^ n : Nat) : Int) - 1) (by omega)]
  have e2 : ((2 ^ n : Nat) : Int) - 1 = ((2 ^ n - 1 : Nat) : Int) := by omega
  rw [e2, and32 hm (by omega), Nat.and_two_pow_sub_one_eq_mod]
theorem mask_m (m n : Nat) (hm : m ≤ 4294967295) (hn : 2 ≤ n ∧ n ≤ 31) : bits .and .u32 (m : Int) ((2 ^ n - 1) % 4294967296) = ((m % 2 ^ n : Nat) : Int) := by
  have h2 : 2 ^ n ≤ 2 ^ 31 := Nat.pow_le_pow_right (by omega) (by omega)
  have h3 : 1 ≤ 2 ^ n := Nat.one_le_two_pow
  have e : (2 : Int) ^ n = ((2 ^ n : Nat) : Int) := by simp
  have e2 : (((2 ^ n : Nat) : Int) - 1) % 4294967296 = ((2 ^ n - 1 : Nat) : Int) := by omega
  rw [e, e2, and32 hm (by omega), Nat.and_two_pow_sub_one_eq_mod]
def third (R : Int) (x : Nat) : Nat := if R = 2 then 0 else x
end Go.Proofs.Ytlbfndibgojbiaa

/- The register behind some bits, and the symbols of some bits; they add up: of numbers alone. -/
namespace Go.Proofs.Ytlbfndibgojbiaa
open Go.RowKit

/-- the state behind the first k bits -/
def stAt (n s : Nat) (xs : List Nat) : Nat → Nat
  | 0 => s
  | k + 1 => (2 * stAt n s xs k + xs.getD k 0) % 2 ^ n
/-- a step's symbols -/
def symK (R : Int) (a b c m : Nat) : List Nat := if R = 2 then [outF m a, outF m b] else [outF m a, outF m b, outF m c]
/-- the symbols of the first k bits -/
def symsAt (R : Int) (a b c n s : Nat) (xs : List Nat) : Nat → List Nat
  | 0 => []
  | k + 1 => symsAt R a b c n s xs k ++ symK R a b c (2 * stAt n s xs k + xs.getD k 0)
theorem stAt_lt {n s : Nat} {xs : List Nat} (hs : s < 2 ^ n) : ∀ k, stAt n s xs k < 2 ^ n
  | 0 => hs
  | _ + 1 => Nat.mod_lt _ (Nat.two_pow_pos n)
theorem two_bit (a p : Nat) (h : p ≤ 1) : 2 * a + p = 2 * a ^^^ p := by
  have e := Gf2.split_bit (2 * a + p)
  rw [show (2 * a + p) % 2 = p by omega, show (2 * a + p) / 2 = a by omega, Nat.xor_comm] at e
  exact e
theorem xor_bit {p q : Nat} (hp : p ≤ 1) (hq : q ≤ 1) : p ^^^ q ≤ 1 := by
  have := Nat.xor_lt_two_pow (x := p) (y := q) (n := 1) (by omega) (by omega)
  omega
theorem outF_xor (m n g : Nat) : outF (m ^^^ n) g = outF m g ^^^ outF n g := by
  unfold outF
  rw [Nat.and_xor_distrib_right, Gf2.par_xor]
theorem next_xor {p q : Nat} (a b : Nat) (hp : p ≤ 1) (hq : q ≤ 1) : 2 * (a ^^^ b) + (p ^^^ q) = (2 * a + p) ^^^ (2 * b + q) := by
  rw [two_bit _ _ (xor_bit hp hq), two_bit a p hp, two_bit b q hq, Gf2.two_xor, Gf2.xor_swap]
section
variable {n s t : Nat} {xs ys zs : List Nat}
theorem stAt_xor (hx : ∀ i, xs.getD i 0 ≤ 1) (hy : ∀ i, ys.getD i 0 ≤ 1) (hz : ∀ i, zs.getD i 0 = xs.getD i 0 ^^^ ys.getD i 0) : ∀ k, stAt n (s ^^^ t) zs k = stAt n s xs k ^^^ stAt n t ys k
  | 0 => rfl
  | k + 1 => by
    show (2 * stAt n (s ^^^ t) zs k + zs.getD k 0) % 2 ^ n = (2 * stAt n s xs k + xs.getD k 0) % 2 ^ n ^^^ (2 * stAt n t ys k + ys.getD k 0) % 2 ^ n
    rw [stAt_xor hx hy hz k, hz k, next_xor _ _ (hx k) (hy k), Nat.xor_mod_two_pow]
theorem symK_xor (R : Int) (a b c m n : Nat) : symK R a b c (m ^^^ n) = List.zipWith (· ^^^ ·) (symK R a b c m) (symK R a b c n) := by
  by_cases h : R = 2 <;> simp [symK, h, outF_xor]
theorem symK_length (R : Int) (a b c m n : Nat) : (symK R a b c m).length = (symK R a b c n).length := by
  by_cases h : R = 2 <;> simp [symK, h]
theorem syms_length (R : Int) (a b c n s t : Nat) (xs ys : List Nat) : ∀ k, (symsAt R a b c n s xs k).length = (symsAt R a b c n t ys k).length
  | 0 => rfl
  | k + 1 => by
    show (symsAt R a b c n s xs k ++ _).length = (symsAt R a b c n t ys k ++ _).length
    rw [List.length_append, List.length_append, syms_length R a b c n s t xs ys k, symK_length]
theorem syms_xor (R : Int) (a b c : Nat) (hx : ∀ i, xs.getD i 0 ≤ 1) (hy : ∀ i, ys.getD i 0 ≤ 1) (hz : ∀ i, zs.getD i 0 = xs.getD i 0 ^^^ ys.getD i 0) :
    ∀ k, symsAt R a b c n (s ^^^ t) zs k = List.zipWith (· ^^^ ·) (symsAt R a b c n s xs k) (symsAt R a b c n t ys k)
  | 0 => rfl
  | k + 1 => by
    show symsAt R a b c n (s ^^^ t) zs k ++ symK R a b c _ = List.zipWith _ (symsAt R a b c n s xs k ++ symK R a b c _) (symsAt R a b c n t ys k ++ symK R a b c _)
    rw [List.zipWith_append (syms_length R a b c n s t xs ys k), syms_xor R a b c hx hy hz k, stAt_xor hx hy hz k, hz k, next_xor _ _ (hx k) (hy k), symK_xor]
theorem symK_le (R : Int) (a b c m : Nat) : ∀ y ∈ symK R a b c m, y ≤ 1 := by
  by_cases h : R = 2 <;> simp [symK, h, outF_le]
theorem syms_le (R : Int) (a b c n s : Nat) (xs : List Nat) : ∀ k, ∀ y ∈ symsAt R a b c n s xs k, y ≤ 1
  | 0 => fun y h => by cases h
  | k + 1 => fun y h => by
    rcases List.mem_append.1 h with h | h
    · exact syms_le R a b c n s xs k y h
    · exact symK_le R a b c _ y h
theorem getD_le {l : List Nat} {m : Nat} (h : ∀ y ∈ l, y ≤ m) (i : Nat) : l.getD i 0 ≤ m := by
  rcases Nat.lt_or_ge i l.length with hi | hi
  · simp only [List.getD, List.getElem?_eq_getElem hi, Option.getD_some]
    exact h _ (List.getElem_mem hi)
  · simp [List.getD, List.getElem?_eq_none hi]
theorem zip_at {l m : List Nat} {i : Nat} (h : l.length = m.length) : (List.zipWith (· ^^^ ·) l m).getD i 0 = l.getD i 0 ^^^ m.getD i 0 := by
  simp only [List.getD, List.getElem?_zipWith]
  rcases Nat.lt_or_ge i l.length with hi | hi
  · rw [List.getElem?_eq_getElem hi, List.getElem?_eq_getElem (by omega)]; rfl
  · rw [List.getElem?_eq_none hi, List.getElem?_eq_none (by omega)]; rfl
end
end Go.Proofs.Ytlbfndibgojbiaa

/- The symbols of some bits are sums of products: the register's word against the document's. Of numbers alone. -/
namespace Go.Proofs.Ytlbfndibgojbiaa
open Go.RowKit

/-- the bit that lies j places back of place t: 0 ahead of the row and behind it -/
def backAt (xs : List Nat) (t j : Nat) : Nat := if j ≤ t then xs.getD (t - j) 0 else 0
/-- the document's symbol, the first j terms of it -/
def symP (g : Nat) (xs : List Nat) (t : Nat) : Nat → Nat
  | 0 => 0
  | j + 1 => symP g xs t j ^^^ (if g / 2 ^ j % 2 = 1 then backAt xs t j else 0)
theorem div_succ (x j : Nat) : x / 2 ^ (j + 1) = x / 2 / 2 ^ j := by rw [Nat.pow_succ', ← Nat.div_div_eq_div_mul]
theorem mod_bit {x n j : Nat} (h : j < n) : x % 2 ^ n / 2 ^ j % 2 = x / 2 ^ j % 2 := by
  obtain ⟨d, rfl⟩ : ∃ d, n = j + (d + 1) := ⟨n - j - 1, by omega⟩
  rw [Nat.pow_add, Nat.mod_mul_right_div_self, Nat.pow_succ, Nat.mul_comm (2 ^ d) 2]
  exact Nat.mod_mul_right_mod _ _ _
theorem and_bit (w g k : Nat) : (w &&& g) / 2 ^ k % 2 = if g / 2 ^ k % 2 = 1 then w / 2 ^ k % 2 else 0 := by
  have h := Nat.testBit_and w g k
  simp only [Nat.testBit_eq_decide_div_mod_eq] at h
  have h1 : (w &&& g) / 2 ^ k % 2 < 2 := Nat.mod_lt _ (by omega)
  have h2 : w / 2 ^ k % 2 < 2 := Nat.mod_lt _ (by omega)
  generalize (w &&& g) / 2 ^ k % 2 = x at *
  generalize w / 2 ^ k % 2 = y at *
  generalize g / 2 ^ k % 2 = z at *
  by_cases hz : z = 1
  · rw [if_pos hz]
    by_cases hy : y = 1
    · simp [hz, hy] at h; omega
    · simp [hz, hy] at h; omega
  · rw [if_neg hz]
    simp [hz] at h; omega
section
variable {n : Nat} {xs : List Nat}
theorem window (hx : ∀ i, xs.getD i 0 ≤ 1) : ∀ t j, j ≤ n → (2 * stAt n 0 xs t + xs.getD t 0) / 2 ^ j % 2 = backAt xs t j
  | t, 0, _ => by
    have := hx t
    unfold backAt
    rw [if_pos (Nat.zero_le _), Nat.sub_zero, Nat.pow_zero, Nat.div_one]
    omega
  | 0, j + 1, _ => by
    have := hx 0
    show (2 * 0 + xs.getD 0 0) / 2 ^ (j + 1) % 2 = 0
    rw [div_succ, show (2 * 0 + xs.getD 0 0) / 2 = 0 by omega, Nat.zero_div]
  | t + 1, j + 1, hj => by
    have h1 := hx (t + 1)
    have e : (2 * stAt n 0 xs (t + 1) + xs.getD (t + 1) 0) / 2 ^ (j + 1) = stAt n 0 xs (t + 1) / 2 ^ j := by
      rw [div_succ, show (2 * stAt n 0 xs (t + 1) + xs.getD (t + 1) 0) / 2 = stAt n 0 xs (t + 1) by omega]
    have e2 : stAt n 0 xs (t + 1) = (2 * stAt n 0 xs t + xs.getD t 0) % 2 ^ n := rfl
    rw [e, e2, mod_bit (by omega), window hx t j (by omega)]
    unfold backAt
    by_cases h : j ≤ t
    · rw [if_pos h, if_pos (by omega), show t + 1 - (j + 1) = t - j by omega]
    · rw [if_neg h, if_neg (by omega)]
theorem pop_sym {w g t : Nat} : ∀ k, (∀ j, j < k → w / 2 ^ j % 2 = backAt xs t j) → Gf2.popF k (w &&& g) % 2 = symP g xs t k
  | 0, _ => rfl
  | k + 1, h => by
    have ih := pop_sym (g := g) k fun j hj => h j (by omega)
    have e := Gf2.popF_add k 1 (w &&& g)
    have e1 : Gf2.popF 1 ((w &&& g) / 2 ^ k) = (w &&& g) / 2 ^ k % 2 := by simp [Gf2.popF]
    have hb := and_bit w g k
    rw [h k (by omega)] at hb
    show _ = symP g xs t k ^^^ (if g / 2 ^ k % 2 = 1 then backAt xs t k else 0)
    rw [← ih, ← hb, e, e1]
    have hlt : (w &&& g) / 2 ^ k % 2 < 2 := Nat.mod_lt _ (by omega)
    generalize (w &&& g) / 2 ^ k % 2 = x at *
    generalize Gf2.popF k (w &&& g) = y at *
    have hx : x = 0 ∨ x = 1 := by omega
    have hy : y % 2 = 0 ∨ y % 2 = 1 := by omega
    rcases hx with hx | hx <;> rcases hy with hy | hy <;> rw [hx, hy] <;> simp <;> omega
/-- a step's symbol is the document's -/
theorem outF_sym {g : Nat} (hx : ∀ i, xs.getD i 0 ≤ 1) (hn : n ≤ 31) (hg : g < 2 ^ (n + 1)) (t : Nat) : outF (2 * stAt n 0 xs t + xs.getD t 0) g = symP g xs t (n + 1) := by
  have h := pop_sym (w := 2 * stAt n 0 xs t + xs.getD t 0) (g := g) (xs := xs) (t := t) (n + 1) fun j hj => window hx t j (by omega)
  rw [← h]
  unfold outF Gf2.par
  rw [Gf2.popF_small (i := n + 1) (j := 32) (Nat.and_lt_two_pow _ hg) (by omega)]
end
end Go.Proofs.Ytlbfndibgojbiaa

/- Which rows of symbols are words, and whose: of numbers alone. -/
namespace Go.Proofs.Ytlbfndibgojbiaa
open Go.RowKit

section
variable {R : Int} {a b c n : Nat}
/-- how many symbols a step has -/
def rateN (R : Int) : Nat := if R = 2 then 2 else 3
theorem symK_rate (R : Int) (a b c m : Nat) : (symK R a b c m).length = rateN R := by
  by_cases h : R = 2 <;> simp [symK, rateN, h]
theorem syms_rate (R : Int) (a b c n s : Nat) (xs : List Nat) : ∀ k, (symsAt R a b c n s xs k).length = k * rateN R
  | 0 => by simp [symsAt]
  | k + 1 => by
    show (symsAt R a b c n s xs k ++ _).length = _
    rw [List.length_append, syms_rate R a b c n s xs k, symK_rate, Nat.succ_mul]
/-- only the first k bits count -/
theorem stAt_congr {xs ys : List Nat} {s : Nat} : ∀ k, (∀ i, i < k → xs.getD i 0 = ys.getD i 0) → stAt n s xs k = stAt n s ys k
  | 0, _ => rfl
  | k + 1, h => by
    show (2 * stAt n s xs k + xs.getD k 0) % 2 ^ n = (2 * stAt n s ys k + ys.getD k 0) % 2 ^ n
    rw [stAt_congr k fun i hi => h i (by omega), h k (by omega)]
theorem syms_congr {xs ys : List Nat} {s : Nat} : ∀ k, (∀ i, i < k → xs.getD i 0 = ys.getD i 0) → symsAt R a b c n s xs k = symsAt R a b c n s ys k
  | 0, _ => rfl
  | k + 1, h => by
    show symsAt R a b c n s xs k ++ symK R a b c _ = symsAt R a b c n s ys k ++ symK R a b c _
    rw [syms_congr k fun i hi => h i (by omega), stAt_congr k fun i hi => h i (by omega), h k (by omega)]
/-- the code that tells a bit: one of its generators has the term 1 -/
def Tells (R : Int) (a b c : Nat) : Prop := ∀ s, symK R a b c (2 * s) ≠ symK R a b c (2 * s + 1)
theorem outF_odd (s g : Nat) : outF (2 * s + 1) g = outF (2 * s) g ^^^ g % 2 := by
  have e : 2 * s + 1 = 2 * s ^^^ 1 := two_bit s 1 (by omega)
  have h1 : outF 1 g = g % 2 := by
    unfold outF Gf2.par
    rw [Nat.and_comm, and1, Gf2.popF_small (i := 1) (j := 32) (by omega) (by omega)]
    simp [Gf2.popF]
  rw [e, outF_xor, h1]
theorem xor_one_ne (x : Nat) : x ≠ x ^^^ 1 := fun h => by
  have := congrArg (fun y => x ^^^ y) h
  simp only [Nat.xor_self, ← Nat.xor_assoc, Nat.zero_xor] at this
  omega
theorem tells_of (h : a % 2 = 1 ∨ b % 2 = 1 ∨ (R ≠ 2 ∧ c % 2 = 1)) : Tells R a b c := fun s e => by
  by_cases hR : R = 2
  · simp only [symK, if_pos hR, List.cons.injEq, and_true, outF_odd] at e
    rcases h with h | h | ⟨h, _⟩
    · rw [h] at e; exact xor_one_ne _ e.1
    · rw [h] at e; exact xor_one_ne _ e.2
    · exact h hR
  · simp only [symK, if_neg hR, List.cons.injEq, and_true, outF_odd] at e
    rcases h with h | h | ⟨_, h⟩
    · rw [h] at e; exact xor_one_ne _ e.1
    · rw [h] at e; exact xor_one_ne _ e.2.1
    · rw [h] at e; exact xor_one_ne _ e.2.2
theorem symK_inj (h : Tells R a b c) {s x y : Nat} (hx : x ≤ 1) (hy : y ≤ 1) (e : symK R a b c (2 * s + x) = symK R a b c (2 * s + y)) : x = y := by
  have := h s
  have h1 : x = 0 ∨ x = 1 := by omega
  have h2 : y = 0 ∨ y = 1 := by omega
  rcases h1 with rfl | rfl <;> rcases h2 with rfl | rfl
  · rfl
  · exact absurd e this
  · exact absurd e.symm this
  · rfl
theorem syms_inj (h : Tells R a b c) {xs ys : List Nat} {s : Nat} (hx : ∀ i, xs.getD i 0 ≤ 1) (hy : ∀ i, ys.getD i 0 ≤ 1) : ∀ k, symsAt R a b c n s xs k = symsAt R a b c n s ys k → ∀ i, i < k → xs.getD i 0 = ys.getD i 0
  | 0, _ => fun i hi => absurd hi (by omega)
  | k + 1, e => by
    have e' : symsAt R a b c n s xs k ++ symK R a b c _ = symsAt R a b c n s ys k ++ symK R a b c _ := e
    obtain ⟨e1, e2⟩ := List.append_inj e' (by rw [syms_rate, syms_rate])
    have ih := syms_inj h hx hy k e1
    rw [stAt_congr k ih] at e2
    have hk := symK_inj h (hx k) (hy k) e2
    intro i hi
    by_cases hik : i = k
    · rw [hik]; exact hk
    · exact ih i (by omega)
theorem syms_take {xs : List Nat} {s : Nat} : ∀ d k, (symsAt R a b c n s xs (k + d)).take (k * rateN R) = symsAt R a b c n s xs k
  | 0, k => by rw [Nat.add_zero, List.take_of_length_le (by rw [syms_rate]; exact Nat.le_refl _)]
  | d + 1, k => by
    show (symsAt R a b c n s xs (k + d) ++ symK R a b c _).take _ = _
    rw [List.take_append_of_le_length (by rw [syms_rate]; exact Nat.mul_le_mul_right _ (by omega)), syms_take d k]
/-- step k of a row of symbols -/
def blockAt (R : Int) (S : List Nat) (k : Nat) : List Nat := (S.drop (k * rateN R)).take (rateN R)
theorem syms_block {xs : List Nat} {s k d : Nat} (hk : k < d) : blockAt R (symsAt R a b c n s xs d) k = symK R a b c (2 * stAt n s xs k + xs.getD k 0) := by
  have h1 := syms_take (R := R) (a := a) (b := b) (c := c) (n := n) (xs := xs) (s := s) (d - (k + 1)) (k + 1)
  rw [show k + 1 + (d - (k + 1)) = d by omega] at h1
  have h2 : symsAt R a b c n s xs (k + 1) = symsAt R a b c n s xs k ++ symK R a b c (2 * stAt n s xs k + xs.getD k 0) := rfl
  unfold blockAt
  have h3 : ((symsAt R a b c n s xs d).take ((k + 1) * rateN R)).drop (k * rateN R) = symK R a b c (2 * stAt n s xs k + xs.getD k 0) := by
    rw [h1, h2, List.drop_append_of_le_length (by rw [syms_rate]; exact Nat.le_refl _), List.drop_of_length_le (by rw [syms_rate]; exact Nat.le_refl _), List.nil_append]
  rw [← h3, List.drop_take, Nat.succ_mul, Nat.add_sub_cancel_left]
/-- a complete word -/
def wordF (R : Int) (a b c n : Nat) (xs : List Nat) : List Nat := symsAt R a b c n 0 xs (xs.length + n)
/-- xs is the message of S -/
def IsMsg (R : Int) (a b c n : Nat) (S xs : List Nat) : Prop := (∀ i, xs.getD i 0 ≤ 1) ∧ wordF R a b c n xs = S
theorem rateN_pos (R : Int) : 0 < rateN R := by unfold rateN; split <;> omega
theorem IsMsg.len {S xs : List Nat} (h : IsMsg R a b c n S xs) : S.length = (xs.length + n) * rateN R := by
  rw [← h.2, wordF, syms_rate]
theorem getD_far' {l : List Nat} {i : Nat} (h : l.length ≤ i) : l.getD i 0 = 0 := by simp [List.getD, h]
theorem getD_ext {xs ys : List Nat} (hl : xs.length = ys.length) (h : ∀ i, i < xs.length → xs.getD i 0 = ys.getD i 0) : xs = ys := by
  apply List.ext_getElem hl
  intro i h1 h2
  have := h i h1
  simpa [List.getD, h1, h2] using this
theorem IsMsg.unique (ht : Tells R a b c) {S xs ys : List Nat} (h : IsMsg R a b c n S xs) (h' : IsMsg R a b c n S ys) : xs = ys := by
  have hl : xs.length = ys.length := by
    have e := h.len.symm.trans h'.len
    have := Nat.eq_of_mul_eq_mul_right (rateN_pos R) e
    omega
  have e : symsAt R a b c n 0 xs (xs.length + n) = symsAt R a b c n 0 ys (xs.length + n) := by
    have h1 := h.2
    have h2 := h'.2
    unfold wordF at h1 h2
    rw [hl] at h1 ⊢
    rw [h1, h2]
  exact getD_ext hl fun i hi => syms_inj ht h.1 h'.1 _ e i (by omega)
/-- the first k bits of the decoder -/
structure DecR (R : Int) (a b c n m : Nat) (S : List Nat) (k : Nat) (bs : List Nat) : Prop where
  len : bs.length = k
  bit : ∀ i, bs.getD i 0 ≤ 1
  sym : symsAt R a b c n 0 bs k = S.take (k * rateN R)
  tail : ∀ i, m ≤ i → bs.getD i 0 = 0
theorem DecR.start (R : Int) (a b c n m : Nat) (S : List Nat) : DecR R a b c n m S 0 [] := ⟨rfl, fun i => by simp, by simp [symsAt], fun i _ => by simp⟩
theorem getD_snoc (bs : List Nat) (x i : Nat) : (bs ++ [x]).getD i 0 = if i < bs.length then bs.getD i 0 else if i = bs.length then x else 0 := by
  simp only [List.getD]
  rcases Nat.lt_trichotomy i bs.length with h | h | h
  · rw [if_pos h, List.getElem?_append_left h]
  · subst h; simp
  · rw [if_neg (by omega), if_neg (by omega), List.getElem?_eq_none (by simp; omega)]; rfl
theorem DecR.next {m k x : Nat} {S bs : List Nat} (h : DecR R a b c n m S k bs) (hx : x ≤ 1) (hm : k < m ∨ x = 0) (hb : symK R a b c (2 * stAt n 0 bs k + x) = blockAt R S k) : DecR R a b c n m S (k + 1) (bs ++ [x]) := by
  have hk : ∀ i, i < k → (bs ++ [x]).getD i 0 = bs.getD i 0 := fun i hi => by rw [getD_snoc, h.len, if_pos hi]
  have hx2 : (bs ++ [x]).getD k 0 = x := by rw [getD_snoc, h.len, if_neg (by omega), if_pos rfl]
  refine ⟨by simp [h.len], fun i => ?_, ?_, fun i hi => ?_⟩
  · rw [getD_snoc]
    have := h.bit i
    split
    · exact this
    · split <;> omega
  · show symsAt R a b c n 0 (bs ++ [x]) k ++ symK R a b c (2 * stAt n 0 (bs ++ [x]) k + (bs ++ [x]).getD k 0) = _
    rw [syms_congr k hk, stAt_congr k hk, hx2, h.sym, hb, Nat.succ_mul, List.take_add]
    rfl
  · rw [getD_snoc, h.len]
    split
    · exact h.tail i hi
    · split
      · rcases hm with hm | hm <;> omega
      · rfl
theorem DecR.fail (ht : Tells R a b c) {m k : Nat} {S bs : List Nat} (h : DecR R a b c n m S k bs) (hk : k < m + n) (h0 : symK R a b c (2 * stAt n 0 bs k) ≠ blockAt R S k) (h1 : symK R a b c (2 * stAt n 0 bs k + 1) ≠ blockAt R S k ∨ m ≤ k)
    {xs : List Nat} (hl : xs.length = m) : ¬ IsMsg R a b c n S xs := fun hm => by
  have e1 : symsAt R a b c n 0 xs (k + (m + n - k)) = S := by rw [show k + (m + n - k) = m + n by omega, ← hl]; exact hm.2
  have e2 := syms_take (R := R) (a := a) (b := b) (c := c) (n := n) (xs := xs) (s := 0) (m + n - k) k
  rw [e1, ← h.sym] at e2
  have hc := syms_inj ht h.bit hm.1 k e2
  have e3 := syms_block (R := R) (a := a) (b := b) (c := c) (n := n) (xs := xs) (s := 0) (k := k) (d := m + n) hk
  rw [show k + (m + n - k) = m + n by omega] at e1
  rw [e1, ← stAt_congr k hc] at e3
  have hb := hm.1 k
  have : xs.getD k 0 = 0 ∨ xs.getD k 0 = 1 := by omega
  rcases this with hz | ho
  · rw [hz] at e3; exact h0 e3.symm
  · rw [ho] at e3
    rcases h1 with h1 | h1
    · exact h1 e3.symm
    · rw [show xs.getD k 0 = 0 from getD_far' (by omega)] at ho; omega
theorem DecR.done {m : Nat} {S bs : List Nat} (h : DecR R a b c n m S (m + n) bs) (hS : S.length = (m + n) * rateN R) : IsMsg R a b c n S (bs.take m) ∧ (bs.take m).length = m := by
  have hg : ∀ i, (bs.take m).getD i 0 = bs.getD i 0 := fun i => by
    rcases Nat.lt_or_ge i m with hi | hi
    · simp [List.getD, hi]
    · rw [h.tail i hi]; exact getD_far' (by rw [List.length_take]; omega)
  have hl : (bs.take m).length = m := by rw [List.length_take, h.len]; omega
  refine ⟨⟨fun i => by rw [hg]; exact h.bit i, ?_⟩, hl⟩
  unfold wordF
  rw [hl, syms_congr (m + n) fun i _ => hg i, h.sym, List.take_of_length_le (by omega)]
end
end Go.Proofs.Ytlbfndibgojbiaa

/- num, same, own, kept of outpostlaw06. -/
namespace Go.Proofs.Ytlbfndibgojbiaa
open Go.RowKit

/-- are two rows the same, as Go tells it -/
def sameB (xs ys : List Nat) : Bool := (strN xs).toList == (strN ys).toList
theorem sameB_self (xs : List Nat) : sameB xs xs = true := by unfold sameB; exact beq_self_eq_true _
/-- block L is a copy of xs with two marks behind -/
def OwnedB (w : World) (B L cap : Nat) (xs : List Nat) : Prop := OwnB w B (.slice (some ⟨L, 0, none⟩) (xs.length + 2) cap) (xs ++ [201, 202])
section
variable {w w' : World} {B L cap : Nat} {xs : List Nat}
theorem OwnedB.lt (h : OwnedB w B L cap xs) : B ≤ L ∧ L < w.heap.size ∧ xs.length + 2 ≤ cap ∧ cap ≤ maxLen := by
  obtain ⟨g, c, e, h1, h2, h3, h4⟩ := OwnB.full h (by simp)
  simp only [Value.slice.injEq, Option.some.injEq, Addr.mk.injEq, and_true] at e
  simp at h3
  omega
theorem OwnedB.row (h : OwnedB w B L cap xs) : RowA w (some ⟨L, 0, none⟩) (xs ++ [201, 202]) := by
  obtain ⟨ad, c, e, hr⟩ := OwnB.row h
  simp only [Value.slice.injEq] at e
  rw [e.1]; exact hr
theorem OwnedB.rowx (h : OwnedB w B L cap xs) : RowA w (some ⟨L, 0, none⟩) xs := by
  have := h.row.take xs.length
  rwa [List.take_left] at this
theorem OwnedB.below (h : OwnedB w B L cap xs) (hb : Below w.heap.size w w') : OwnedB w' B L cap xs := OwnB.below h hb
end
end Go.Proofs.Ytlbfndibgojbiaa

/- (*register).push, walked. -/
namespace Go.Proofs.Ytlbfndibgojbiaa
open Go.RowKit

/-- block g holds a code and its register -/
def RegB (w : World) (g : Nat) (K R : Int) (a b c s : Nat) : Prop := ∃ T, w.heap[g]? = some (.cells #[.int .i64 K, .int .i64 R, .int .u32 a, .int .u32 b, .int .u32 c, .int .u32 s] T (0, 0))
section
variable {w w' : World} {g : Nat} {K R : Int} {a b c s : Nat}
theorem RegB.parts (h : RegB w g K R a b c s) : g < w.heap.size ∧ w.cell? ⟨g, 0, none⟩ = some (.int .i64 K) ∧ w.cell? ⟨g, 1, none⟩ = some (.int .i64 R) ∧ w.cell? ⟨g, 2, none⟩ = some (.int .u32 a) ∧ w.cell? ⟨g, 3, none⟩ = some (.int .u32 b) ∧ w.cell? ⟨g, 4, none⟩ = some (.int .u32 c) ∧ w.cell? ⟨g, 5, none⟩ = some (.int .u32 s) ∧ w.frozen? ⟨g, 5, none⟩ = false := by
  obtain ⟨T, h⟩ := h
  exact ⟨(Array.getElem?_eq_some_iff.1 h).1, cell_of_row w g 0 _ T (0, 0) h, cell_of_row w g 1 _ T (0, 0) h, cell_of_row w g 2 _ T (0, 0) h, cell_of_row w g 3 _ T (0, 0) h, cell_of_row w g 4 _ T (0, 0) h, cell_of_row w g 5 _ T (0, 0) h, frozen_of_row w g 5 _ T h⟩
theorem RegB.keep (h : RegB w g K R a b c s) (hk : w'.heap[g]? = w.heap[g]?) : RegB w' g K R a b c s := by
  obtain ⟨T, h⟩ := h
  exact ⟨T, hk.trans h⟩
theorem RegB.below {B : Nat} (h : RegB w g K R a b c s) (hb : Below B w w') (hg : g < B) : RegB w' g K R a b c s := h.keep (hb.block g hg)
theorem RegB.lt (h : RegB w g K R a b c s) : g < w.heap.size := h.parts.1
theorem RegB.alloc (h : RegB w g K R a b c s) (o : Obj) : RegB (w.alloc o) g K R a b c s := h.keep (Below.heap_alloc _ _ _ h.lt)
theorem RegB.far (h : RegB w g K R a b c s) {p : Addr} (hp : g ≠ p.block) (u : Value) : RegB (w.setCell p u) g K R a b c s := h.keep (Below.heap_setCell _ _ _ _ hp)
theorem RegB.grown {row : Option Nat} (h : RegB w g K R a b c s) (hb : w.grownBy w' row) (hne : some g ≠ row) : RegB w' g K R a b c s := h.keep (hb.block g h.lt hne)
theorem RegB.set (h : RegB w g K R a b c s) (t : Nat) : RegB (w.setCell ⟨g, 5, none⟩ (.int .u32 (t : Nat))) g K R a b c t := by
  obtain ⟨T, h⟩ := h
  exact ⟨T, heap_setCell_same w g 5 _ T _ h⟩
end
set_option linter.unusedVariables false in
set_option maxHeartbeats 1000000 in
theorem push_two (n a b c s x g : Nat) (hn : 2 ≤ n ∧ n ≤ 31) (hA : a ≤ 4294967295) (hB : b ≤ 4294967295) (hC : c ≤ 4294967295) (hs : s ≤ 2147483647) (hx : x ≤ 1) (w : World) (hr : RegB w g (n + 1) 2 a b c s) :
    Calls Try.prog 66 #[.pointer (some ⟨g, 0, none⟩), .int .u8 x] w fun e w' => e = .returned (.agg #[.int .u8 (outF (2 * s + x) a), .int .u8 (outF (2 * s + x) b), .int .u8 0]) ∧ RegB w' g (n + 1) 2 a b c ((2 * s + x) % 2 ^ n) ∧ w.grownBy w' (some g) := by
  obtain ⟨hg, q0, q1, q2, q3, q4, q5, fz⟩ := hr.parts
  have HR := hide hr
  clear hr
  have eor := or_bit hs hx
  have hm : 2 * s + x ≤ 4294967295 := by omega
  generalize 2 * s + x = m at *
  have ea := and32 hm hA
  have la : m &&& a ≤ 4294967295 := Nat.le_trans Nat.and_le_left hm
  have HOa := hide (ones_any (m &&& a) la)
  have HBa := hide (show bits .and .i64 (Gf2.popF 32 (m &&& a) : Nat) 1 % 256 = (outF m a : Nat) from one_bit _)
  have eb := and32 hm hB
  have lb : m &&& b ≤ 4294967295 := Nat.le_trans Nat.and_le_left hm
  have HOb := hide (ones_any (m &&& b) lb)
  have HBb := hide (show bits .and .i64 (Gf2.popF 32 (m &&& b) : Nat) 1 % 256 = (outF m b : Nat) from one_bit _)
  have HM := hide (mask_m m n hm hn)
  have wn : IntKind.i64.wrap (n : Int) = n := IntWalk.i64_in _ (by omega)
  have hg2 : g < w.heap.size + 1 := by omega
  have hg3 : ¬ w.heap.size = g := by omega
  have hg4 : ¬ w.heap.size + 1 = g := by omega
  go_enter Try.func66, Try.ntmps66
  go_wp2_with fail
  go_loopw [21] (fun i u => ∃ j : Nat,
    (i = .int .i64 0 ∧ u = (((w.alloc (.cells #[.int .u8 0, .int .u8 0, .int .u8 0] 86)).alloc (.cells #[.int .u8 0, .int .u8 0, .int .u8 0] 86)).drewN j)) ∨
    (i = .int .i64 1 ∧ u = (((w.alloc (.cells #[.int .u8 0, .int .u8 0, .int .u8 0] 86)).alloc (.cells #[.int .u8 (outF m a), .int .u8 0, .int .u8 0] 86)).drewN j)) ∨
    (i = .int .i64 2 ∧ u = (((w.alloc (.cells #[.int .u8 0, .int .u8 0, .int .u8 0] 86)).alloc (.cells #[.int .u8 (outF m a), .int .u8 (outF m b), .int .u8 0] 86)).drewN j))) (fun i _ => 2 - (intOf i).toNat)
  case atStart => exact ⟨0, .inl ⟨rfl, rfl⟩⟩
  case round =>
    obtain ⟨j, hrel⟩ := hrel
    rcases hrel with ⟨rfl, rfl⟩ | ⟨rfl, rfl⟩ | ⟨rfl, rfl⟩
    · go_wp2_with fail
      refine (HOa.out _).mono ?_
      rintro e w' ⟨rfl, k, rfl⟩
      go_wp2_with fail
      go_roundw
      case rel =>
        refine ⟨j + k, .inr (.inl ⟨rfl, ?_⟩)⟩
        rw [HBa.out, set_drewN]
        simp [go_sem]
      case measure => simp [intOf]
    · go_wp2_with fail
      refine (HOb.out _).mono ?_
      rintro e w' ⟨rfl, k, rfl⟩
      go_wp2_with fail
      go_roundw
      case rel =>
        refine ⟨j + k, .inr (.inr (⟨rfl, ?_⟩))⟩
        rw [HBb.out, set_drewN]
        simp [go_sem]
      case measure => simp [intOf]
    · go_wp2_with fail
      rw [HM.out]
      go_wp2_with fail
      refine bodyPost_ret (v := .agg #[.int .u8 (outF m a), .int .u8 (outF m b), .int .u8 0]) (by simp [results, Try.results66, go_sem]) rfl ⟨rfl, ?_, ?_⟩
      · have h1 : RegB (((w.alloc (.cells #[.int .u8 0, .int .u8 0, .int .u8 0] 86)).alloc (.cells #[.int .u8 (outF m a), .int .u8 (outF m b), .int .u8 0] 86)).drewN j) g (n + 1) 2 a b c s := ((HR.out.alloc _).alloc _).keep rfl
        exact ((((h1.set _).far (by simp; omega) _).far (by simp; omega) _).far (by simp; omega) _)
      · exact grownBy_set (grownBy_set (grownBy_set (grownBy_set (grownBy_dr (grownBy_al (grownBy_al (World.grownBy.refl w _) _) _) _) _ _ (.inl rfl)) _ _ (.inr (by simp))) _ _ (.inr (by simp))) _ _ (.inr (by simp))
set_option linter.unusedVariables false in
set_option maxHeartbeats 1000000 in
theorem push_three (n a b c s x g : Nat) (hn : 2 ≤ n ∧ n ≤ 31) (hA : a ≤ 4294967295) (hB : b ≤ 4294967295) (hC : c ≤ 4294967295) (hs : s ≤ 2147483647) (hx : x ≤ 1) (w : World) (hr : RegB w g (n + 1) 3 a b c s) :
    Calls Try.prog 66 #[.pointer (some ⟨g, 0, none⟩), .int .u8 x] w fun e w' => e = .returned (.agg #[.int .u8 (outF (2 * s + x) a), .int .u8 (outF (2 * s + x) b), .int .u8 (outF (2 * s + x) c)]) ∧ RegB w' g (n + 1) 3 a b c ((2 * s + x) % 2 ^ n) ∧ w.grownBy w' (some g) := by
  obtain ⟨hg, q0, q1, q2, q3, q4, q5, fz⟩ := hr.parts
  have HR := hide hr
  clear hr
  have eor := or_bit hs hx
  have hm : 2 * s + x ≤ 4294967295 := by omega
  generalize 2 * s + x = m at *
  have ea := and32 hm hA
  have la : m &&& a ≤ 4294967295 := Nat.le_trans Nat.and_le_left hm
  have HOa := hide (ones_any (m &&& a) la)
  have HBa := hide (show bits .and .i64 (Gf2.popF 32 (m &&& a) : Nat) 1 % 256 = (outF m a : Nat) from one_bit _)
  have eb := and32 hm hB
  have lb : m &&& b ≤ 4294967295 := Nat.le_trans Nat.and_le_left hm
  have HOb := hide (ones_any (m &&& b) lb)
  have HBb := hide (show bits .and .i64 (Gf2.popF 32 (m &&& b) : Nat) 1 % 256 = (outF m b : Nat) from one_bit _)
  have ec := and32 hm hC
  have lc : m &&& c ≤ 4294967295 := Nat.le_trans Nat.and_le_left hm
  have HOc := hide (ones_any (m &&& c) lc)
  have HBc := hide (show bits .and .i64 (Gf2.popF 32 (m &&& c) : Nat) 1 % 256 = (outF m c : Nat) from one_bit _)
  have HM := hide (mask_m m n hm hn)
  have wn : IntKind.i64.wrap (n : Int) = n := IntWalk.i64_in _ (by omega)
  have hg2 : g < w.heap.size + 1 := by omega
  have hg3 : ¬ w.heap.size = g := by omega
  have hg4 : ¬ w.heap.size + 1 = g := by omega
  go_enter Try.func66, Try.ntmps66
  go_wp2_with fail
  go_loopw [21] (fun i u => ∃ j : Nat,
    (i = .int .i64 0 ∧ u = (((w.alloc (.cells #[.int .u8 0, .int .u8 0, .int .u8 0] 86)).alloc (.cells #[.int .u8 0, .int .u8 0, .int .u8 0] 86)).drewN j)) ∨
    (i = .int .i64 1 ∧ u = (((w.alloc (.cells #[.int .u8 0, .int .u8 0, .int .u8 0] 86)).alloc (.cells #[.int .u8 (outF m a), .int .u8 0, .int .u8 0] 86)).drewN j)) ∨
    (i = .int .i64 2 ∧ u = (((w.alloc (.cells #[.int .u8 0, .int .u8 0, .int .u8 0] 86)).alloc (.cells #[.int .u8 (outF m a), .int .u8 (outF m b), .int .u8 0] 86)).drewN j)) ∨
    (i = .int .i64 3 ∧ u = (((w.alloc (.cells #[.int .u8 0, .int .u8 0, .int .u8 0] 86)).alloc (.cells #[.int .u8 (outF m a), .int .u8 (outF m b), .int .u8 (outF m c)] 86)).drewN j))) (fun i _ => 3 - (intOf i).toNat)
  case atStart => exact ⟨0, .inl ⟨rfl, rfl⟩⟩
  case round =>
    obtain ⟨j, hrel⟩ := hrel
    rcases hrel with ⟨rfl, rfl⟩ | ⟨rfl, rfl⟩ | ⟨rfl, rfl⟩ | ⟨rfl, rfl⟩
    · go_wp2_with fail
      refine (HOa.out _).mono ?_
      rintro e w' ⟨rfl, k, rfl⟩
      go_wp2_with fail
      go_roundw
      case rel =>
        refine ⟨j + k, .inr (.inl ⟨rfl, ?_⟩)⟩
        rw [HBa.out, set_drewN]
        simp [go_sem]
      case measure => simp [intOf]
    · go_wp2_with fail
      refine (HOb.out _).mono ?_
      rintro e w' ⟨rfl, k, rfl⟩
      go_wp2_with fail
      go_roundw
      case rel =>
        refine ⟨j + k, .inr (.inr (.inl ⟨rfl, ?_⟩))⟩
        rw [HBb.out, set_drewN]
        simp [go_sem]
      case measure => simp [intOf]
    · go_wp2_with fail
      refine (HOc.out _).mono ?_
      rintro e w' ⟨rfl, k, rfl⟩
      go_wp2_with fail
      go_roundw
      case rel =>
        refine ⟨j + k, .inr (.inr (.inr (⟨rfl, ?_⟩)))⟩
        rw [HBc.out, set_drewN]
        simp [go_sem]
      case measure => simp [intOf]
    · go_wp2_with fail
      rw [HM.out]
      go_wp2_with fail
      refine bodyPost_ret (v := .agg #[.int .u8 (outF m a), .int .u8 (outF m b), .int .u8 (outF m c)]) (by simp [results, Try.results66, go_sem]) rfl ⟨rfl, ?_, ?_⟩
      · have h1 : RegB (((w.alloc (.cells #[.int .u8 0, .int .u8 0, .int .u8 0] 86)).alloc (.cells #[.int .u8 (outF m a), .int .u8 (outF m b), .int .u8 (outF m c)] 86)).drewN j) g (n + 1) 3 a b c s := ((HR.out.alloc _).alloc _).keep rfl
        exact ((((h1.set _).far (by simp; omega) _).far (by simp; omega) _).far (by simp; omega) _)
      · exact grownBy_set (grownBy_set (grownBy_set (grownBy_set (grownBy_dr (grownBy_al (grownBy_al (World.grownBy.refl w _) _) _) _) _ _ (.inl rfl)) _ _ (.inr (by simp))) _ _ (.inr (by simp))) _ _ (.inr (by simp))
end Go.Proofs.Ytlbfndibgojbiaa

/- The closure of encoder.Encode that puts a bit, walked. -/
namespace Go.Proofs.Ytlbfndibgojbiaa
open Go.RowKit

theorem push_any (n a b c s x g : Nat) (R : Int) (hR : R = 2 ∨ R = 3) (hn : 2 ≤ n ∧ n ≤ 31) (hA : a ≤ 4294967295) (hB : b ≤ 4294967295) (hC : c ≤ 4294967295) (hs : s ≤ 2147483647) (hx : x ≤ 1) (w : World) (hr : RegB w g (n + 1) R a b c s) :
    Calls Try.prog 66 #[.pointer (some ⟨g, 0, none⟩), .int .u8 x] w fun e w' => e = .returned (.agg #[.int .u8 (outF (2 * s + x) a), .int .u8 (outF (2 * s + x) b), .int .u8 (third R (outF (2 * s + x) c))]) ∧ RegB w' g (n + 1) R a b c ((2 * s + x) % 2 ^ n) ∧ w.grownBy w' (some g) := by
  rcases hR with rfl | rfl
  · exact push_two n a b c s x g hn hA hB hC hs hx w hr
  · exact push_three n a b c s x g hn hA hB hC hs hx w hr
/-- what Encode holds while it runs: x's box, out's box, c's box, the register -/
structure PutSt (w : World) (B bx bo bc g : Nat) (K R : Int) (a b c s : Nat) (v : Value) (ys : List Nat) : Prop where
  x : w.cell? ⟨bx, 0, none⟩ = some (.pointer (some ⟨g, 0, none⟩))
  o : w.cell? ⟨bo, 0, none⟩ = some v
  f : w.frozen? ⟨bo, 0, none⟩ = false
  k : w.cell? ⟨bc, 0, none⟩ = some (.int .i64 K)
  r : w.cell? ⟨bc, 1, none⟩ = some (.int .i64 R)
  reg : RegB w g K R a b c s
  own : OwnB w B v ys
  apart : ∀ k, v.ownBlock = some k → k ≠ bx ∧ k ≠ bo ∧ k ≠ bc ∧ k ≠ g
  ne : bx ≠ bo ∧ bx ≠ bc ∧ bx ≠ g ∧ bo ≠ bc ∧ bo ≠ g ∧ bc ≠ g
  above : B ≤ bx ∧ B ≤ bo ∧ B ≤ bc ∧ B ≤ g
  lt : bx < w.heap.size ∧ bo < w.heap.size ∧ bc < w.heap.size ∧ g < w.heap.size
def symW (R : Int) (a b c m : Nat) : List Nat := symK R a b c m
/-- what the closure leaves -/
theorem put_done {w w1 w2 : World} {B bx bo bc g : Nat} {K R : Int} {a b c s s' : Nat} {v v2 : Value} {ys zs : List Nat} {o : Obj} (hS : PutSt w B bx bo bc g K R a b c s v ys) (hG1 : w.grownBy w1 (some g)) (hR1 : RegB w1 g K R a b c s')
    (hG2 : ((w1.alloc o).drew).grownBy w2 v.ownBlock) (hO : OwnB w2 B v2 zs) (hA2 : v2.ownBlock = v.ownBlock ∨ v2.ownBlock = some ((w1.alloc o).drew).heap.size) :
    PutSt (w2.setCell ⟨bo, 0, none⟩ v2) B bx bo bc g K R a b c s' v2 zs ∧ Below B w (w2.setCell ⟨bo, 0, none⟩ v2) := by
  obtain ⟨l1, l2, l3, l4⟩ := hS.lt
  obtain ⟨a1, a2, a3, a4⟩ := hS.above
  obtain ⟨n1, n2, n3, n4, n5, n6⟩ := hS.ne
  have z1 := hG1.size
  have z2 : w1.heap.size + 1 ≤ w2.heap.size := by have := hG2.size; simpa using this
  have hap := hS.apart
  have hk2 : ∀ q, q < w1.heap.size → some q ≠ v.ownBlock → w2.heap[q]? = w1.heap[q]? := fun q hq hne => (hG2.block q (by show q < (w1.alloc o).heap.size; simp; omega) hne).trans (Below.heap_alloc w1 o q hq)
  have hk : ∀ q, q < w1.heap.size → some q ≠ v.ownBlock → q ≠ bo → (w2.setCell ⟨bo, 0, none⟩ v2).heap[q]? = w1.heap[q]? := fun q hq hne hb => (Below.heap_setCell w2 _ _ q hb).trans (hk2 q hq hne)
  have hx : ∀ q, q < w.heap.size → q ≠ g → some q ≠ v.ownBlock → q ≠ bo → (w2.setCell ⟨bo, 0, none⟩ v2).heap[q]? = w.heap[q]? := fun q hq hg hne hb => (hk q (by omega) hne hb).trans (hG1.block q hq (by simpa using hg))
  have ox : some bx ≠ v.ownBlock := fun e => (hap bx e.symm).1 rfl
  have oo : some bo ≠ v.ownBlock := fun e => (hap bo e.symm).2.1 rfl
  have oc : some bc ≠ v.ownBlock := fun e => (hap bc e.symm).2.2.1 rfl
  have og : some g ≠ v.ownBlock := fun e => (hap g e.symm).2.2.2 rfl
  have hap2 : ∀ k, v2.ownBlock = some k → k ≠ bx ∧ k ≠ bo ∧ k ≠ bc ∧ k ≠ g := fun k e => by
    rcases hA2 with h | h
    · exact hap k (h ▸ e)
    · rw [h] at e
      have e2 : (w1.alloc o).heap.size = k := Option.some.inj e
      simp at e2
      omega
  refine ⟨⟨?_, ?_, ?_, ?_, ?_, ?_, ?_, hap2, hS.ne, hS.above, ?_⟩, ?_⟩
  · exact (World.cell?_of_block (a := ⟨bx, 0, none⟩) (hx bx l1 n3 ox n1)).trans hS.x
  · have : w2.cell? ⟨bo, 0, none⟩ = some v := (World.cell?_of_block (a := ⟨bo, 0, none⟩) ((hk2 bo (by omega) oo).trans (hG1.block bo l2 (by simpa using n5)))).trans hS.o
    exact World.cell?_setCell_same _ _ _ this
  · rw [World.frozen?_setCell]
    exact (World.frozen?_of_block (a := ⟨bo, 0, none⟩) ((hk2 bo (by omega) oo).trans (hG1.block bo l2 (by simpa using n5)))).trans hS.f
  · exact (World.cell?_of_block (a := ⟨bc, 0, none⟩) (hx bc l3 n6 oc (Ne.symm n4))).trans hS.k
  · exact (World.cell?_of_block (a := ⟨bc, 1, none⟩) (hx bc l3 n6 oc (Ne.symm n4))).trans hS.r
  · exact hR1.keep (hk g (by omega) og (Ne.symm n5))
  · exact hO.far (fun q e => (hap2 q e).2.1) _
  · have : w2.heap.size ≤ (w2.setCell ⟨bo, 0, none⟩ v2).heap.size := by simp
    omega
  · exact (((((Below.refl B w).grown hG1 (by omega) (fun k e => by simp at e; omega)).alloc (by omega) o).drew).grown hG2 (by show B ≤ (w1.alloc o).heap.size; simp; omega) (fun k e => (hS.own.lt e).1)).setCell (by simpa using a2) _
set_option maxHeartbeats 2000000 in
theorem putc_any (n a b c s x B bx bo bc g : Nat) (R : Int) (hR : R = 2 ∨ R = 3) (hn : 2 ≤ n ∧ n ≤ 31) (hA : a ≤ 4294967295) (hB : b ≤ 4294967295) (hC : c ≤ 4294967295) (hs : s ≤ 2147483647) (hx : x ≤ 1) (v : Value) (ys : List Nat) (hl : ys.length ≤ 140737488355000) (w : World) (hst : PutSt w B bx bo bc g (n + 1) R a b c s v ys) :
    Calls Try.prog 65 #[.int .u8 x, .pointer (some ⟨bx, 0, none⟩), .pointer (some ⟨bo, 0, none⟩), .pointer (some ⟨bc, 0, none⟩)] w fun e w' => ∃ v', e = .returned (.tuple #[]) ∧ PutSt w' B bx bo bc g (n + 1) R a b c ((2 * s + x) % 2 ^ n) v' (ys ++ symK R a b c (2 * s + x)) ∧ Below B w w' := by
  have HP := hide (push_any n a b c s x g R hR hn hA hB hC hs hx w hst.reg)
  have HS := hide hst
  have hcx := hst.x
  have hlt := hst.lt
  obtain ⟨l1, l2, l3, l4⟩ := hlt
  clear hst
  go_enter Try.func65, Try.ntmps65
  go_wp2_with fail
  refine HP.out.mono ?_
  rintro e w1 ⟨rfl, hr1, hg1⟩
  have hz := hg1.size
  have ho1 := hg1.cell HS.out.o (fun e => by have := HS.out.ne; simp at e; omega)
  have hrr1 := hg1.cell HS.out.r (fun e => by have := HS.out.ne; simp at e; omega)
  have HG1 := hide hg1
  have HR1 := hide hr1
  have hm1 : bo < w1.heap.size := by omega
  have hm2 : bc < w1.heap.size := by omega
  clear hg1 hr1
  have hfr1 : w1.frozen? ⟨bo, 0, none⟩ = false := (HG1.out.frozen_far ⟨bo, 0, none⟩ (by simp; omega) (fun e => by have := HS.out.ne; simp at e; omega)).trans HS.out.f
  have hown0 : OwnB w1 B v ys := HS.out.own.grown HG1.out (fun k e h => by have := HS.out.apart k e; simp at h; omega)
  have HO1 := hide (hown0.alloc (.cells #[.int .u8 (outF (2 * s + x) a), .int .u8 (outF (2 * s + x) b), .int .u8 (third R (outF (2 * s + x) c))] 86)).drew
  have hB1 : B ≤ ((w1.alloc (.cells #[.int .u8 (outF (2 * s + x) a), .int .u8 (outF (2 * s + x) b), .int .u8 (third R (outF (2 * s + x) c))] 86)).drew).heap.size := by have := HS.out.above; show _ ≤ (w1.alloc _).heap.size; simp; omega
  have hne : some bo ≠ v.ownBlock := fun e => (HS.out.apart bo e.symm).2.1 rfl
  clear hown0
  rcases hR with rfl | rfl
  · have hsy : symK 2 a b c (2 * s + x) = [outF (2 * s + x) a, outF (2 * s + x) b] := rfl
    generalize outF (2 * s + x) a = y0 at *
    generalize outF (2 * s + x) b = y1 at *
    generalize third 2 (outF (2 * s + x) c) = y2 at *
    
    
    
    have HSY := hide hsy
    clear hsy
    have hrow : RowA ((w1.alloc (.cells #[.int .u8 y0, .int .u8 y1, .int .u8 y2] 86)).drew) (some ⟨w1.heap.size, 0, none⟩) [y0, y1] := fun _ => ⟨w1.heap.size, 0, rfl, by simp, fun i hi => by
      have : i = 0 ∨ i = 1 := by simp at hi; omega
      rcases this with rfl | rfl <;> simp [go_sem]⟩
    have HROW := hide hrow
    clear hrow
    go_wp2_with fail
    go_region_law ((refine step_appB rfl (.tmp 11) (.tmp 14) rfl B v ys rfl HO1.out (some ⟨w1.heap.size, 0, none⟩) 2 3 [y0, y1] rfl HROW.out rfl (by simp; omega) hB1 ?_; intro v2 w2 hown2 hgrow2 hat2; obtain ⟨g2, cap2, rfl, hg21, hg22, _, _⟩ := hown2.full (by simp); have ho2 := hgrow2.frozen_far ⟨bo, 0, none⟩ (by simp; omega) hne; have ho3 := hgrow2.cell_far ⟨bo, 0, none⟩ (by simp; omega) hne))
    all_goals
      go_wp2_with fail
      go_end0
      have hd := put_done HS.out HG1.out HR1.out hgrow2 hown2 hat2
      exact ⟨_, rfl, by rw [HSY.out]; simpa using hd.1, by simpa using hd.2⟩
  · have hsy : symK 3 a b c (2 * s + x) = [outF (2 * s + x) a, outF (2 * s + x) b, outF (2 * s + x) c] := rfl
    generalize outF (2 * s + x) a = y0 at *
    generalize outF (2 * s + x) b = y1 at *
    have ht : third 3 (outF (2 * s + x) c) = outF (2 * s + x) c := rfl
    rw [ht] at *
    clear ht
    generalize outF (2 * s + x) c = y2 at *
    have HSY := hide hsy
    clear hsy
    have hrow : RowA ((w1.alloc (.cells #[.int .u8 y0, .int .u8 y1, .int .u8 y2] 86)).drew) (some ⟨w1.heap.size, 0, none⟩) [y0, y1, y2] := fun _ => ⟨w1.heap.size, 0, rfl, by simp, fun i hi => by
      have : i = 0 ∨ i = 1 ∨ i = 2 := by simp at hi; omega
      rcases this with rfl | rfl | rfl <;> simp [go_sem]⟩
    have HROW := hide hrow
    clear hrow
    go_wp2_with fail
    go_region_law ((refine step_appB rfl (.tmp 11) (.tmp 14) rfl B v ys rfl HO1.out (some ⟨w1.heap.size, 0, none⟩) 3 3 [y0, y1, y2] rfl HROW.out rfl (by simp; omega) hB1 ?_; intro v2 w2 hown2 hgrow2 hat2; obtain ⟨g2, cap2, rfl, hg21, hg22, _, _⟩ := hown2.full (by simp); have ho2 := hgrow2.frozen_far ⟨bo, 0, none⟩ (by simp; omega) hne; have ho3 := hgrow2.cell_far ⟨bo, 0, none⟩ (by simp; omega) hne))
    all_goals
      go_wp2_with fail
      go_end0
      have hd := put_done HS.out HG1.out HR1.out hgrow2 hown2 hat2
      exact ⟨_, rfl, by rw [HSY.out]; simpa using hd.1, by simpa using hd.2⟩
end Go.Proofs.Ytlbfndibgojbiaa

/- Small facts on tests and on worlds. -/
namespace Go.Proofs.Ytlbfndibgojbiaa
open Go.RowKit

end Go.Proofs.Ytlbfndibgojbiaa

/- encoder.row, New, Encode, walked. -/
namespace Go.Proofs.Ytlbfndibgojbiaa
open Go.RowKit

def Bits (xs : List Nat) : Prop := ∀ i, i < xs.length → xs.getD i 0 ≤ 1
theorem Bits.all {xs : List Nat} (h : Bits xs) (i : Nat) : xs.getD i 0 ≤ 1 := by
  rcases Nat.lt_or_ge i xs.length with hi | hi
  · exact h i hi
  · rw [getD_far' hi]; omega
set_option maxHeartbeats 400000 in
theorem erow_yes (ad : Option Addr) (c : Nat) (xs : List Nat) (hn : xs.length ≤ 140737488351232) (hb : Bits xs) (w : World) (hx : RowA w ad xs) :
    Calls Try.prog 64 #[.slice ad xs.length c] w fun e w' => e = .returned (.bool true) ∧ w = w' := by
  have HX := hide hx
  have HB := hide hb
  clear hx hb
  go_enter Try.func64, Try.ntmps64
  go_wp2_with fail
  go_loop [7] (fun i => ∃ k : Nat, k ≤ xs.length ∧ i = .int .i64 k) (fun i => xs.length - (intOf i).toNat)
  case atStart => exact ⟨0, by omega, rfl⟩
  case round =>
    obtain ⟨k, hk, rfl⟩ := hrel
    by_cases hlt : k < xs.length
    · obtain ⟨b, off, rfl, _, hc⟩ := HX.out.at_ hlt
      have h1 := HB.out k hlt
      generalize xs.getD k 0 = y at *
      go_wp2_with fail
      go_round
      case rel => exact ⟨k + 1, by omega, by simp⟩
      case measure => simp [intOf]; omega
    · go_wp2_with fail
      go_ret
      exact ⟨rfl, rfl⟩
set_option maxHeartbeats 400000 in
theorem erow_no (ad : Option Addr) (c : Nat) (xs : List Nat) (hn : xs.length ≤ 140737488351232) (hb : ¬ Bits xs) (w : World) (hx : RowA w ad xs) :
    Calls Try.prog 64 #[.slice ad xs.length c] w fun e w' => e = .returned (.bool false) ∧ w = w' := by
  have HX := hide hx
  have HB := hide hb
  clear hx hb
  go_enter Try.func64, Try.ntmps64
  go_wp2_with fail
  go_loop [7] (fun i => ∃ k : Nat, k ≤ xs.length ∧ i = .int .i64 k ∧ Hid (∀ i, i < k → xs.getD i 0 ≤ 1)) (fun i => xs.length - (intOf i).toNat)
  case atStart => exact ⟨0, by omega, rfl, hide fun i hi => absurd hi (by omega)⟩
  case round =>
    obtain ⟨k, hk, rfl, hok⟩ := hrel
    by_cases hlt : k < xs.length
    · obtain ⟨b, off, rfl, _, hc⟩ := HX.out.at_ hlt
      generalize hy : xs.getD k 0 = y at *
      have HY := hide hy
      clear hy
      by_cases h1 : 1 < y
      · go_wp2_with fail
        go_ret
        exact ⟨rfl, rfl⟩
      · go_wp2_with fail
        go_round
        case rel =>
          refine ⟨k + 1, by omega, by simp, hide fun i hi => ?_⟩
          by_cases e : i = k
          · subst e; rw [HY.out]; omega
          · exact hok.out i (by omega)
        case measure => simp [intOf]; omega
    · exact absurd (fun i hi => hok.out i (by omega)) HB.out
set_option maxHeartbeats 400000 in
theorem new_bad (K R : Int) (a b c : Nat) (hA : a ≤ 4294967295) (hB : b ≤ 4294967295) (hC : c ≤ 4294967295) (hne : checkF K R a b c ≠ 0) (w : World) :
    Calls Try.prog 63 #[.agg #[.int .i64 K, .int .i64 R, .int .u32 a, .int .u32 b, .int .u32 c]] w fun e w' => e = .returned (.tuple #[.pointer none, .int .i64 (checkF K R a b c)]) ∧ Below w.heap.size w w' := by
  have HC := hide (check_any K R a b c hA hB hC)
  have hb := nzBne hne
  generalize checkF K R a b c = cf at *
  clear hne
  go_enter Try.func63, Try.ntmps63
  go_wp2_with fail
  refine (HC.out _).mono ?_
  rintro e w1 ⟨rfl, hb1⟩
  go_wp2_with fail
  go_ret2
  exact ⟨rfl, below_one hb1⟩
set_option maxHeartbeats 400000 in
theorem new_good (K R : Int) (a b c : Nat) (hA : a ≤ 4294967295) (hB : b ≤ 4294967295) (hC : c ≤ 4294967295) (hck : checkF K R a b c = 0) (w : World) :
    Calls Try.prog 63 #[.agg #[.int .i64 K, .int .i64 R, .int .u32 a, .int .u32 b, .int .u32 c]] w fun e w' => ∃ g, e = .returned (.tuple #[.pointer (some ⟨g, 0, none⟩), .int .i64 0]) ∧ RegB w' g K R a b c 0 ∧ w.heap.size ≤ g ∧ Below w.heap.size w w' := by
  have HC := hide (check_any K R a b c hA hB hC)
  rw [hck] at HC
  clear hck
  go_enter Try.func63, Try.ntmps63
  go_wp2_with fail
  refine (HC.out _).mono ?_
  rintro e w1 ⟨rfl, hb1⟩
  have k1 := bk hb1 w.heap.size (by simp)
  have hz := hb1.size
  simp at hz
  go_wp2_with fail
  go_ret2
  refine ⟨w1.heap.size, rfl, ⟨_, heap_alloc_new w1 _⟩, by omega, (below_one hb1).alloc (by omega) _⟩
end Go.Proofs.Ytlbfndibgojbiaa

/- encoder.Encode, walked. -/
namespace Go.Proofs.Ytlbfndibgojbiaa
open Go.RowKit

set_option maxRecDepth 100000 in
set_option maxHeartbeats 2000000 in
theorem encode_two (n a b c : Nat) (hn : 2 ≤ n ∧ n ≤ 31) (hA : a ≤ 4294967295) (hB : b ≤ 4294967295) (hC : c ≤ 4294967295) (hck : checkF (n + 1) 2 a b c = 0) (ad : Option Addr) (cap : Nat) (xs : List Nat) (hl : xs.length ≤ 1048600) (hb : Bits xs) (w : World) (hx : RowA w ad xs) :
    Calls Try.prog 33 #[.agg #[.int .i64 (n + 1), .int .i64 2, .int .u32 a, .int .u32 b, .int .u32 c], .slice ad xs.length cap] w fun e w' => ∃ v, e = .returned (.tuple #[v, .int .i64 0]) ∧ OwnB w' w.heap.size v (wordF 2 a b c n xs) ∧ Below w.heap.size w w' := by
  have HN := hide (new_good (n + 1) 2 a b c hA hB hC hck)
  have HR := hide fun w hx => erow_yes ad cap xs (by omega) hb w hx
  have HX := hide hx
  have HB := hide hb.all
  have hp : 2 ^ n ≤ 2 ^ 31 := Nat.pow_le_pow_right (by omega) (by omega)
  have HP := hide fun (k bx bo bc g : Nat) (v : Value) (hk : k ≤ xs.length + n) (W : World) (h : PutSt W w.heap.size bx bo bc g (n + 1) 2 a b c (stAt n 0 xs k) v (symsAt 2 a b c n 0 xs k)) =>
    putc_any n a b c (stAt n 0 xs k) (xs.getD k 0) w.heap.size bx bo bc g 2 (.inl rfl) hn hA hB hC (by have := stAt_lt (n := n) (s := 0) (xs := xs) (Nat.two_pow_pos n) k; omega) (hb.all k) v (symsAt 2 a b c n 0 xs k) (by rw [syms_rate]; show k * 2 ≤ _; omega) W h
  clear hx hb hck hp
  go_enter Try.func33, Try.ntmps33
  go_wp2_with fail
  refine (HN.out _).mono ?_
  rintro e w1 ⟨g, rfl, hr1, hg1, hb1⟩
  have k1 := bk hb1 w.heap.size (by simp)
  have hz1 := size_mid hb1
  have hg2 := hr1.lt
  simp at hg1
  have HB1 := hide hb1
  have HR1 := hide hr1
  clear hb1 hr1
  go_wp2_with fail
  refine (HR.out _ ((HX.out.below (below_one HB1.out)).alloc _)).mono ?_
  rintro e w' ⟨rfl, rfl⟩
  go_wp2_with (first
    | (at_make; refine wpList_make0 rfl _ _ rfl w.heap.size _ ((xs.length + n) * 2) rfl rfl ?c1 ?c2 ?c3 ?_)
    | go_in)
  case c1 => simp; omega
  case c2 => omega
  case c3 => simp; omega
  intro w2 hown2 hgrow2 hz2
  try simp at hz2
  have hblk : ∀ q, q < w1.heap.size + 1 → w2.heap[q]? = (w1.alloc (.cells #[.pointer (some ⟨g, 0, none⟩)] 83)).heap[q]? := fun q hq => hgrow2.block q (by simpa using hq) (by simp)
  have HBK := hide hblk
  have HO2 := hide hown2
  have HB2 := hide ((((Below.refl w.heap.size w).trans (below_one HB1.out)).alloc (Nat.le_of_lt hz1) (.cells #[.pointer (some ⟨g, 0, none⟩)] 83)).grown hgrow2 (by simp; omega) (fun k e => by cases e))
  clear hblk hown2 hgrow2
  have hmf : ∀ (fn : Fn) (first cap : Array Value) (w : World), (Instr.makeFunc fn first cap).run Try.prog w = .ok (.func fn first cap) w := fun _ _ _ _ => rfl
  have hst : PutSt (w2.alloc (.cells #[.slice (some ⟨w1.heap.size + 1, 0, none⟩) 0 ((xs.length + n) * 2)] 33)) w.heap.size w1.heap.size w2.heap.size w.heap.size g (n + 1) 2 a b c (stAt n 0 xs 0) (.slice (some ⟨w1.heap.size + 1, 0, none⟩) 0 ((xs.length + n) * 2)) (symsAt 2 a b c n 0 xs 0) := by
    have e1 : (w1.alloc (.cells #[.pointer (some ⟨g, 0, none⟩)] 83)).heap.size = w1.heap.size + 1 := by simp
    have hcell : ∀ q i, q < w1.heap.size + 1 → (w2.alloc (.cells #[.slice (some ⟨w1.heap.size + 1, 0, none⟩) 0 ((xs.length + n) * 2)] 33)).cell? ⟨q, i, none⟩ = (w1.alloc (.cells #[.pointer (some ⟨g, 0, none⟩)] 83)).cell? ⟨q, i, none⟩ := fun q i hq =>
      World.cell?_of_block (a := ⟨q, i, none⟩) ((Below.heap_alloc w2 _ q (by omega)).trans (HBK.out q hq))
    refine ⟨?_, ?_, ?_, ?_, ?_, ?_, ?_, ?_, ?_, ?_, ?_⟩
    · rw [hcell _ _ (by omega)]; simp [go_sem]
    · simp [go_sem]
    · simp [go_sem]
    · rw [hcell _ _ (by omega), World.cell?_alloc_lt _ _ ⟨w.heap.size, 0, none⟩ hz1, k1]; simp [go_sem]
    · rw [hcell _ _ (by omega), World.cell?_alloc_lt _ _ ⟨w.heap.size, 1, none⟩ hz1, k1]; simp [go_sem]
    · exact ((HR1.out.alloc (.cells #[.pointer (some ⟨g, 0, none⟩)] 83)).keep (w' := w2) (HBK.out g (by omega))).alloc _
    · have := HO2.out
      try simp only [e1] at this
      exact this.alloc _
    · intro k e; simp [Value.ownBlock] at e; omega
    · omega
    · omega
    · simp; omega
  have HST := hide hst
  have HB3 := hide (HB2.out.alloc (by have := HB2.out.size; omega) (.cells #[.slice (some ⟨w1.heap.size + 1, 0, none⟩) 0 ((xs.length + n) * 2)] 33))
  clear hst
  go_wp2_with fail
  go_loopw [36] (fun i wr => ∃ (k : Nat) (v : Value), k ≤ xs.length ∧ i = .int .i64 k ∧ Hid (PutSt wr w.heap.size w1.heap.size w2.heap.size w.heap.size g (n + 1) 2 a b c (stAt n 0 xs k) v (symsAt 2 a b c n 0 xs k)) ∧ Hid (Below w.heap.size w wr)) (fun i _ => xs.length - (intOf i).toNat)
  case atStart => exact ⟨0, _, by omega, rfl, HST, HB3⟩
  case round =>
    rename_i wr _
    obtain ⟨k, v, hk, rfl, hs, hbl⟩ := hrel
    by_cases hlt : k < xs.length
    · obtain ⟨b0, off, rfl, _, hc⟩ := (HX.out.below hbl.out).at_ hlt
      have HPk := hide (HP.out k _ _ _ _ v (by omega) wr hs.out)
      have e1 : stAt n 0 xs (k + 1) = (2 * stAt n 0 xs k + xs.getD k 0) % 2 ^ n := rfl
      have e2 : symsAt 2 a b c n 0 xs (k + 1) = symsAt 2 a b c n 0 xs k ++ symK 2 a b c (2 * stAt n 0 xs k + xs.getD k 0) := rfl
      rw [← e1, ← e2] at HPk
      clear e1 e2
      generalize xs.getD k 0 = y at *
      go_wp2_with fail
      refine HPk.out.mono ?_
      rintro e w4 ⟨v', rfl, hs', hb4⟩
      have HS4 := hide hs'
      have HB4 := hide (hbl.out.trans hb4)
      clear hs' hb4
      go_wp2_with fail
      go_roundw
      case rel => exact ⟨k + 1, v', by omega, by simp, HS4, HB4⟩
      case measure => simp [intOf]; omega
    · obtain rfl : k = xs.length := by omega
      have q0 := hs.out.k
      go_wp2_with fail
      go_loopw [47] (fun i wr => ∃ (k : Nat) (v : Value), k ≤ n ∧ i = .int .i64 k ∧ Hid (PutSt wr w.heap.size w1.heap.size w2.heap.size w.heap.size g (n + 1) 2 a b c (stAt n 0 xs (xs.length + k)) v (symsAt 2 a b c n 0 xs (xs.length + k))) ∧ Hid (Below w.heap.size w wr)) (fun i _ => n - (intOf i).toNat)
      case atStart => exact ⟨0, _, by omega, rfl, hs, hbl⟩
      case round =>
        obtain ⟨k, v, hk, rfl, hs, hbl⟩ := hrel
        by_cases hlt : k < n
        · have HPk := hide (HP.out (xs.length + k) _ _ _ _ v (by omega) wr hs.out)
          have e1 : stAt n 0 xs (xs.length + k + 1) = (2 * stAt n 0 xs (xs.length + k) + xs.getD (xs.length + k) 0) % 2 ^ n := rfl
          have e2 : symsAt 2 a b c n 0 xs (xs.length + k + 1) = symsAt 2 a b c n 0 xs (xs.length + k) ++ symK 2 a b c (2 * stAt n 0 xs (xs.length + k) + xs.getD (xs.length + k) 0) := rfl
          rw [← e1, ← e2, getD_far' (Nat.le_add_right _ _)] at HPk
          clear e1 e2
          go_wp2_with fail
          refine HPk.out.mono ?_
          rintro e w4 ⟨v', rfl, hs', hb4⟩
          have HS4 := hide hs'
          have HB4 := hide (hbl.out.trans hb4)
          clear hs' hb4
          go_wp2_with fail
          go_roundw
          case rel => exact ⟨k + 1, v', by omega, by simp, HS4, HB4⟩
          case measure => simp [intOf]; omega
        · obtain rfl : k = n := by omega
          have q1 := hs.out.o
          go_wp2_with fail
          go_ret2
          exact ⟨v, rfl, hs.out.own, hbl.out⟩
set_option maxRecDepth 100000 in
set_option maxHeartbeats 2000000 in
theorem encode_three (n a b c : Nat) (hn : 2 ≤ n ∧ n ≤ 31) (hA : a ≤ 4294967295) (hB : b ≤ 4294967295) (hC : c ≤ 4294967295) (hck : checkF (n + 1) 3 a b c = 0) (ad : Option Addr) (cap : Nat) (xs : List Nat) (hl : xs.length ≤ 1048600) (hb : Bits xs) (w : World) (hx : RowA w ad xs) :
    Calls Try.prog 33 #[.agg #[.int .i64 (n + 1), .int .i64 3, .int .u32 a, .int .u32 b, .int .u32 c], .slice ad xs.length cap] w fun e w' => ∃ v, e = .returned (.tuple #[v, .int .i64 0]) ∧ OwnB w' w.heap.size v (wordF 3 a b c n xs) ∧ Below w.heap.size w w' := by
  have HN := hide (new_good (n + 1) 3 a b c hA hB hC hck)
  have HR := hide fun w hx => erow_yes ad cap xs (by omega) hb w hx
  have HX := hide hx
  have HB := hide hb.all
  have hp : 2 ^ n ≤ 2 ^ 31 := Nat.pow_le_pow_right (by omega) (by omega)
  have HP := hide fun (k bx bo bc g : Nat) (v : Value) (hk : k ≤ xs.length + n) (W : World) (h : PutSt W w.heap.size bx bo bc g (n + 1) 3 a b c (stAt n 0 xs k) v (symsAt 3 a b c n 0 xs k)) =>
    putc_any n a b c (stAt n 0 xs k) (xs.getD k 0) w.heap.size bx bo bc g 3 (.inr rfl) hn hA hB hC (by have := stAt_lt (n := n) (s := 0) (xs := xs) (Nat.two_pow_pos n) k; omega) (hb.all k) v (symsAt 3 a b c n 0 xs k) (by rw [syms_rate]; show k * 3 ≤ _; omega) W h
  clear hx hb hck hp
  go_enter Try.func33, Try.ntmps33
  go_wp2_with fail
  refine (HN.out _).mono ?_
  rintro e w1 ⟨g, rfl, hr1, hg1, hb1⟩
  have k1 := bk hb1 w.heap.size (by simp)
  have hz1 := size_mid hb1
  have hg2 := hr1.lt
  simp at hg1
  have HB1 := hide hb1
  have HR1 := hide hr1
  clear hb1 hr1
  go_wp2_with fail
  refine (HR.out _ ((HX.out.below (below_one HB1.out)).alloc _)).mono ?_
  rintro e w' ⟨rfl, rfl⟩
  go_wp2_with (first
    | (at_make; refine wpList_make0 rfl _ _ rfl w.heap.size _ ((xs.length + n) * 3) rfl rfl ?c1 ?c2 ?c3 ?_)
    | go_in)
  case c1 => simp; omega
  case c2 => omega
  case c3 => simp; omega
  intro w2 hown2 hgrow2 hz2
  try simp at hz2
  have hblk : ∀ q, q < w1.heap.size + 1 → w2.heap[q]? = (w1.alloc (.cells #[.pointer (some ⟨g, 0, none⟩)] 83)).heap[q]? := fun q hq => hgrow2.block q (by simpa using hq) (by simp)
  have HBK := hide hblk
  have HO2 := hide hown2
  have HB2 := hide ((((Below.refl w.heap.size w).trans (below_one HB1.out)).alloc (Nat.le_of_lt hz1) (.cells #[.pointer (some ⟨g, 0, none⟩)] 83)).grown hgrow2 (by simp; omega) (fun k e => by cases e))
  clear hblk hown2 hgrow2
  have hmf : ∀ (fn : Fn) (first cap : Array Value) (w : World), (Instr.makeFunc fn first cap).run Try.prog w = .ok (.func fn first cap) w := fun _ _ _ _ => rfl
  have hst : PutSt (w2.alloc (.cells #[.slice (some ⟨w1.heap.size + 1, 0, none⟩) 0 ((xs.length + n) * 3)] 33)) w.heap.size w1.heap.size w2.heap.size w.heap.size g (n + 1) 3 a b c (stAt n 0 xs 0) (.slice (some ⟨w1.heap.size + 1, 0, none⟩) 0 ((xs.length + n) * 3)) (symsAt 3 a b c n 0 xs 0) := by
    have e1 : (w1.alloc (.cells #[.pointer (some ⟨g, 0, none⟩)] 83)).heap.size = w1.heap.size + 1 := by simp
    have hcell : ∀ q i, q < w1.heap.size + 1 → (w2.alloc (.cells #[.slice (some ⟨w1.heap.size + 1, 0, none⟩) 0 ((xs.length + n) * 3)] 33)).cell? ⟨q, i, none⟩ = (w1.alloc (.cells #[.pointer (some ⟨g, 0, none⟩)] 83)).cell? ⟨q, i, none⟩ := fun q i hq =>
      World.cell?_of_block (a := ⟨q, i, none⟩) ((Below.heap_alloc w2 _ q (by omega)).trans (HBK.out q hq))
    refine ⟨?_, ?_, ?_, ?_, ?_, ?_, ?_, ?_, ?_, ?_, ?_⟩
    · rw [hcell _ _ (by omega)]; simp [go_sem]
    · simp [go_sem]
    · simp [go_sem]
    · rw [hcell _ _ (by omega), World.cell?_alloc_lt _ _ ⟨w.heap.size, 0, none⟩ hz1, k1]; simp [go_sem]
    · rw [hcell _ _ (by omega), World.cell?_alloc_lt _ _ ⟨w.heap.size, 1, none⟩ hz1, k1]; simp [go_sem]
    · exact ((HR1.out.alloc (.cells #[.pointer (some ⟨g, 0, none⟩)] 83)).keep (w' := w2) (HBK.out g (by omega))).alloc _
    · have := HO2.out
      try simp only [e1] at this
      exact this.alloc _
    · intro k e; simp [Value.ownBlock] at e; omega
    · omega
    · omega
    · simp; omega
  have HST := hide hst
  have HB3 := hide (HB2.out.alloc (by have := HB2.out.size; omega) (.cells #[.slice (some ⟨w1.heap.size + 1, 0, none⟩) 0 ((xs.length + n) * 3)] 33))
  clear hst
  go_wp2_with fail
  go_loopw [36] (fun i wr => ∃ (k : Nat) (v : Value), k ≤ xs.length ∧ i = .int .i64 k ∧ Hid (PutSt wr w.heap.size w1.heap.size w2.heap.size w.heap.size g (n + 1) 3 a b c (stAt n 0 xs k) v (symsAt 3 a b c n 0 xs k)) ∧ Hid (Below w.heap.size w wr)) (fun i _ => xs.length - (intOf i).toNat)
  case atStart => exact ⟨0, _, by omega, rfl, HST, HB3⟩
  case round =>
    rename_i wr _
    obtain ⟨k, v, hk, rfl, hs, hbl⟩ := hrel
    by_cases hlt : k < xs.length
    · obtain ⟨b0, off, rfl, _, hc⟩ := (HX.out.below hbl.out).at_ hlt
      have HPk := hide (HP.out k _ _ _ _ v (by omega) wr hs.out)
      have e1 : stAt n 0 xs (k + 1) = (2 * stAt n 0 xs k + xs.getD k 0) % 2 ^ n := rfl
      have e2 : symsAt 3 a b c n 0 xs (k + 1) = symsAt 3 a b c n 0 xs k ++ symK 3 a b c (2 * stAt n 0 xs k + xs.getD k 0) := rfl
      rw [← e1, ← e2] at HPk
      clear e1 e2
      generalize xs.getD k 0 = y at *
      go_wp2_with fail
      refine HPk.out.mono ?_
      rintro e w4 ⟨v', rfl, hs', hb4⟩
      have HS4 := hide hs'
      have HB4 := hide (hbl.out.trans hb4)
      clear hs' hb4
      go_wp2_with fail
      go_roundw
      case rel => exact ⟨k + 1, v', by omega, by simp, HS4, HB4⟩
      case measure => simp [intOf]; omega
    · obtain rfl : k = xs.length := by omega
      have q0 := hs.out.k
      go_wp2_with fail
      go_loopw [47] (fun i wr => ∃ (k : Nat) (v : Value), k ≤ n ∧ i = .int .i64 k ∧ Hid (PutSt wr w.heap.size w1.heap.size w2.heap.size w.heap.size g (n + 1) 3 a b c (stAt n 0 xs (xs.length + k)) v (symsAt 3 a b c n 0 xs (xs.length + k))) ∧ Hid (Below w.heap.size w wr)) (fun i _ => n - (intOf i).toNat)
      case atStart => exact ⟨0, _, by omega, rfl, hs, hbl⟩
      case round =>
        obtain ⟨k, v, hk, rfl, hs, hbl⟩ := hrel
        by_cases hlt : k < n
        · have HPk := hide (HP.out (xs.length + k) _ _ _ _ v (by omega) wr hs.out)
          have e1 : stAt n 0 xs (xs.length + k + 1) = (2 * stAt n 0 xs (xs.length + k) + xs.getD (xs.length + k) 0) % 2 ^ n := rfl
          have e2 : symsAt 3 a b c n 0 xs (xs.length + k + 1) = symsAt 3 a b c n 0 xs (xs.length + k) ++ symK 3 a b c (2 * stAt n 0 xs (xs.length + k) + xs.getD (xs.length + k) 0) := rfl
          rw [← e1, ← e2, getD_far' (Nat.le_add_right _ _)] at HPk
          clear e1 e2
          go_wp2_with fail
          refine HPk.out.mono ?_
          rintro e w4 ⟨v', rfl, hs', hb4⟩
          have HS4 := hide hs'
          have HB4 := hide (hbl.out.trans hb4)
          clear hs' hb4
          go_wp2_with fail
          go_roundw
          case rel => exact ⟨k + 1, v', by omega, by simp, HS4, HB4⟩
          case measure => simp [intOf]; omega
        · obtain rfl : k = n := by omega
          have q1 := hs.out.o
          go_wp2_with fail
          go_ret2
          exact ⟨v, rfl, hs.out.own, hbl.out⟩
open Classical in
/-- Encode's error -/
noncomputable def encE (K R : Int) (a b c : Nat) (xs : List Nat) : Int := if checkF K R a b c ≠ 0 then checkF K R a b c else if Bits xs then 0 else 10
open Classical in
/-- Encode's word -/
noncomputable def encO (K R : Int) (a b c : Nat) (xs : List Nat) : List Nat := if encE K R a b c xs = 0 then wordF R a b c (K - 1).toNat xs else []
section
variable {K R : Int} {a b c : Nat} {xs : List Nat}
theorem encE_bad (h : checkF K R a b c ≠ 0) : encE K R a b c xs = checkF K R a b c := if_pos h
theorem encE_bit (h : checkF K R a b c = 0) (hb : ¬ Bits xs) : encE K R a b c xs = 10 := by unfold encE; rw [if_neg (by simpa using h), if_neg hb]
theorem encE_good (h : checkF K R a b c = 0) (hb : Bits xs) : encE K R a b c xs = 0 := by unfold encE; rw [if_neg (by simpa using h), if_pos hb]
theorem encO_none (h : encE K R a b c xs ≠ 0) : encO K R a b c xs = [] := if_neg h
theorem encO_some (h : encE K R a b c xs = 0) : encO K R a b c xs = wordF R a b c (K - 1).toNat xs := if_pos h
theorem encE_zero (h : encE K R a b c xs = 0) : checkF K R a b c = 0 ∧ Bits xs := by
  by_cases h1 : checkF K R a b c = 0
  · by_cases h2 : Bits xs
    · exact ⟨h1, h2⟩
    · rw [encE_bit h1 h2] at h; exact absurd h (by decide)
  · rw [encE_bad h1] at h; exact absurd h h1
theorem good_code (h : checkF K R a b c = 0) : ∃ n : Nat, K = n + 1 ∧ 2 ≤ n ∧ n ≤ 31 ∧ (R = 2 ∨ R = 3) := by
  obtain ⟨hh, -⟩ := checkF_zero h
  unfold headBad at hh
  simp only [not_or, not_and] at hh
  exact ⟨(K - 1).toNat, by omega, by omega, by omega, by omega⟩
end
set_option maxHeartbeats 400000 in
theorem encode_bad (K R : Int) (a b c : Nat) (hA : a ≤ 4294967295) (hB : b ≤ 4294967295) (hC : c ≤ 4294967295) (hne : checkF K R a b c ≠ 0) (x : Value) (w : World) :
    Calls Try.prog 33 #[.agg #[.int .i64 K, .int .i64 R, .int .u32 a, .int .u32 b, .int .u32 c], x] w fun e w' => e = .returned (.tuple #[.slice none 0 0, .int .i64 (checkF K R a b c)]) ∧ Below w.heap.size w w' := by
  have HN := hide (new_bad K R a b c hA hB hC hne)
  have hb := nzBne hne
  generalize checkF K R a b c = cf at *
  clear hne
  go_enter Try.func33, Try.ntmps33
  go_wp2_with fail
  refine (HN.out _).mono ?_
  rintro e w1 ⟨rfl, hb1⟩
  have hz1 := size_mid hb1
  go_wp2_with fail
  go_ret2
  exact ⟨rfl, (below_one hb1).alloc (Nat.le_of_lt hz1) _⟩
set_option maxHeartbeats 400000 in
theorem encode_bit (K R : Int) (a b c : Nat) (hA : a ≤ 4294967295) (hB : b ≤ 4294967295) (hC : c ≤ 4294967295) (hck : checkF K R a b c = 0) (ad : Option Addr) (cap : Nat) (xs : List Nat) (hl : xs.length ≤ 140737488351232) (hb : ¬ Bits xs) (w : World) (hx : RowA w ad xs) :
    Calls Try.prog 33 #[.agg #[.int .i64 K, .int .i64 R, .int .u32 a, .int .u32 b, .int .u32 c], .slice ad xs.length cap] w fun e w' => e = .returned (.tuple #[.slice none 0 0, .int .i64 10]) ∧ Below w.heap.size w w' := by
  have HN := hide (new_good K R a b c hA hB hC hck)
  have HR := hide fun w hx => erow_no ad cap xs hl hb w hx
  have HX := hide hx
  clear hx hb hck
  go_enter Try.func33, Try.ntmps33
  go_wp2_with fail
  refine (HN.out _).mono ?_
  rintro e w1 ⟨g, rfl, hr1, hg1, hb1⟩
  have hz1 := size_mid hb1
  clear hr1 hg1
  go_wp2_with fail
  refine (HR.out _ ((HX.out.below (below_one hb1)).alloc _)).mono ?_
  rintro e w' ⟨rfl, rfl⟩
  go_wp2_with fail
  go_ret2
  exact ⟨rfl, (below_one hb1).alloc (Nat.le_of_lt hz1) _⟩
theorem encode_any (K R : Int) (a b c : Nat) (hA : a ≤ 4294967295) (hB : b ≤ 4294967295) (hC : c ≤ 4294967295) (ad : Option Addr) (cap : Nat) (xs : List Nat) (hl : xs.length ≤ 1048600) (w : World) (hx : RowA w ad xs) :
    Calls Try.prog 33 #[.agg #[.int .i64 K, .int .i64 R, .int .u32 a, .int .u32 b, .int .u32 c], .slice ad xs.length cap] w fun e w' => ∃ v, e = .returned (.tuple #[v, .int .i64 (encE K R a b c xs)]) ∧ OwnB w' w.heap.size v (encO K R a b c xs) ∧ Below w.heap.size w w' := by
  by_cases h1 : checkF K R a b c = 0
  · by_cases h2 : Bits xs
    · have he := encE_good h1 h2
      obtain ⟨n, rfl, hn1, hn2, hR⟩ := good_code h1
      rw [encO_some he, he, show ((n : Int) + 1 - 1).toNat = n by omega]
      rcases hR with rfl | rfl
      · exact encode_two n a b c ⟨hn1, hn2⟩ hA hB hC h1 ad cap xs hl h2 w hx
      · exact encode_three n a b c ⟨hn1, hn2⟩ hA hB hC h1 ad cap xs hl h2 w hx
    · have he := encE_bit h1 h2
      rw [encO_none (by rw [he]; decide), he]
      exact (encode_bit K R a b c hA hB hC h1 ad cap xs (by omega) h2 w hx).mono fun e w' ⟨e1, e2⟩ => ⟨_, e1, OwnB.nil _ _, e2⟩
  · have he : encE K R a b c xs = checkF K R a b c := encE_bad h1
    rw [encO_none (by rw [he]; exact h1), he]
    exact (encode_bad K R a b c hA hB hC h1 _ w).mono fun e w' ⟨e1, e2⟩ => ⟨_, e1, OwnB.nil _ _, e2⟩
end Go.Proofs.Ytlbfndibgojbiaa

/- The methods of an encoder that New made, walked. -/
namespace Go.Proofs.Ytlbfndibgojbiaa
open Go.RowKit

set_option maxHeartbeats 400000 in
theorem none_good (K R : Int) (a b c s g : Nat) (hK : K ≠ 0) (w : World) (hr : RegB w g K R a b c s) :
    Calls Try.prog 97 #[.pointer (some ⟨g, 0, none⟩)] w fun e w' => e = .returned (.bool false) ∧ w = w' := by
  obtain ⟨l1, q0, q1, q2, q3, q4, q5, fz⟩ := hr.parts
  have hb := nzBeq hK
  clear hr hK
  go_enter Try.func97, Try.ntmps97
  go_wp2_with fail
  go_ret
  exact ⟨rfl, rfl⟩
set_option maxHeartbeats 400000 in
theorem fork_good (K R : Int) (a b c s g : Nat) (hK : K ≠ 0) (w : World) (hr : RegB w g K R a b c s) :
    Calls Try.prog 84 #[.pointer (some ⟨g, 0, none⟩)] w fun e w' => ∃ h, e = .returned (.pointer (some ⟨h, 0, none⟩)) ∧ RegB w' h K R a b c s ∧ w.heap.size ≤ h ∧ Below w.heap.size w w' := by
  obtain ⟨l1, q0, q1, q2, q3, q4, q5, fz⟩ := hr.parts
  have HN := hide (none_good K R a b c s g hK w hr)
  clear hr hK
  go_enter Try.func84, Try.ntmps84
  go_wp2_with fail
  refine HN.out.mono ?_
  rintro e w' ⟨rfl, rfl⟩
  go_wp2_with fail
  go_ret
  exact ⟨w.heap.size, rfl, ⟨_, heap_alloc_new w _⟩, Nat.le_refl _, (Below.refl _ _).alloc (Nat.le_refl _) _⟩
end Go.Proofs.Ytlbfndibgojbiaa

/- A code in a box of its own. -/
namespace Go.Proofs.Ytlbfndibgojbiaa
open Go.RowKit

/-- the code's box: what lies in it -/
def CodeB (w : World) (g : Nat) (K R : Int) (a b c : Nat) : Prop := w.heap[g]? = some (.cells #[.int .i64 K, .int .i64 R, .int .u32 a, .int .u32 b, .int .u32 c] 25 (0, 0))
theorem CodeB.cells {w : World} {g : Nat} {K R : Int} {a b c : Nat} (h : CodeB w g K R a b c) : w.cell? ⟨g, 0, none⟩ = some (.int .i64 K) ∧ w.cell? ⟨g, 1, none⟩ = some (.int .i64 R) ∧ w.cell? ⟨g, 2, none⟩ = some (.int .u32 a) ∧ w.cell? ⟨g, 3, none⟩ = some (.int .u32 b) ∧ w.cell? ⟨g, 4, none⟩ = some (.int .u32 c) := by
  unfold CodeB at h
  refine ⟨?_, ?_, ?_, ?_, ?_⟩ <;> simp [World.cell?, h]
theorem CodeB.lt {w : World} {g : Nat} {K R : Int} {a b c : Nat} (h : CodeB w g K R a b c) : g < w.heap.size := by
  unfold CodeB at h
  exact (Array.getElem?_eq_some_iff.1 h).1
theorem CodeB.keep {w w' : World} {g B : Nat} {K R : Int} {a b c : Nat} (h : CodeB w g K R a b c) (hb : Below B w w') (hg : g < B) : CodeB w' g K R a b c := (hb.block g hg).trans h
theorem CodeB.new (w : World) (K R : Int) (a b c : Nat) : CodeB (w.alloc (.cells #[.int .i64 K, .int .i64 R, .int .u32 a, .int .u32 b, .int .u32 c] 25)) w.heap.size K R a b c := heap_alloc_new w _
theorem CodeB.far {w : World} {g : Nat} {K R : Int} {a b c : Nat} (h : CodeB w g K R a b c) {p : Addr} (hp : g ≠ p.block) (u : Value) : CodeB (w.setCell p u) g K R a b c := (Below.heap_setCell _ _ _ _ hp).trans h
theorem CodeB.alloc {w : World} {g : Nat} {K R : Int} {a b c : Nat} (h : CodeB w g K R a b c) (o : Obj) : CodeB (w.alloc o) g K R a b c := (Below.heap_alloc _ _ _ h.lt).trans h
theorem CodeB.grown {w w' : World} {g : Nat} {K R : Int} {a b c : Nat} {row : Option Nat} (h : CodeB w g K R a b c) (hb : w.grownBy w' row) (hne : some g ≠ row) : CodeB w' g K R a b c := (hb.block g h.lt hne).trans h
theorem CodeB.drewN {w : World} {g : Nat} {K R : Int} {a b c : Nat} (h : CodeB w g K R a b c) (n : Nat) : CodeB (w.drewN n) g K R a b c := h
/-- generator i -/
def genN (a b c i : Nat) : Nat := if i = 0 then a else if i = 1 then b else c
theorem genN_le {a b c : Nat} (hA : a ≤ 4294967295) (hB : b ≤ 4294967295) (hC : c ≤ 4294967295) (i : Nat) : genN a b c i ≤ 4294967295 := by unfold genN; split <;> (try split) <;> omega
theorem CodeB.gen {w : World} {g : Nat} {K R : Int} {a b c : Nat} (h : CodeB w g K R a b c) {i : Nat} (hi : i < 3) : w.cell? ⟨g, 2 + i, none⟩ = some (.int .u32 (genN a b c i : Nat)) := by
  obtain ⟨_, _, h2, h3, h4⟩ := h.cells
  have : i = 0 ∨ i = 1 ∨ i = 2 := by omega
  rcases this with rfl | rfl | rfl
  · exact h2
  · exact h3
  · exact h4
theorem RowA.lt_of {w : World} {ad : Option Addr} {xs : List Nat} (h : RowA w ad xs) (h0 : 0 < xs.length) : ∀ b off, ad = some ⟨b, off, none⟩ → b < w.heap.size := fun b off e => by
  obtain ⟨b', off', e', hl, _⟩ := h.at_ h0
  rw [e] at e'
  simp only [Option.some.injEq, Addr.mk.injEq, and_true] at e'
  rw [e'.1]; exact hl
end Go.Proofs.Ytlbfndibgojbiaa

/- A row of bits times a generator: term by term. Of numbers alone. -/
namespace Go.Proofs.Ytlbfndibgojbiaa
open Go.RowKit

/-- the product, whole -/
def prodL (g n : Nat) (xs : List Nat) : List Nat := (List.range (xs.length + n)).map fun p => symP g xs p (n + 1)
theorem prodL_length (g n : Nat) (xs : List Nat) : (prodL g n xs).length = xs.length + n := by simp [prodL]
theorem symP_nil (g t : Nat) : ∀ m, symP g [] t m = 0
  | 0 => rfl
  | m + 1 => by
    show symP g [] t m ^^^ (if g / 2 ^ m % 2 = 1 then backAt [] t m else 0) = 0
    rw [symP_nil g t m]
    simp [backAt]
theorem take_next {xs : List Nat} {k i : Nat} (hk : k < xs.length) : (xs.take (k + 1)).getD i 0 = if i = k then xs.getD k 0 else (xs.take k).getD i 0 := by
  simp only [List.getD_eq_getElem?_getD, List.getElem?_take]
  by_cases h : i = k
  · subst h; simp
  · by_cases h2 : i < k
    · rw [if_neg h, if_pos (by omega), if_pos h2]
    · rw [if_neg h, if_neg (by omega), if_neg h2]
theorem back_next {xs : List Nat} {k t j : Nat} (hk : k < xs.length) : backAt (xs.take (k + 1)) t j = backAt (xs.take k) t j ^^^ (if k ≤ t ∧ t = k + j then xs.getD k 0 else 0) := by
  unfold backAt
  by_cases h : j ≤ t
  · rw [if_pos h, if_pos h, take_next hk]
    by_cases e : t - j = k
    · rw [if_pos e, if_pos ⟨by omega, by omega⟩]
      have : (xs.take k).getD (t - j) 0 = 0 := by
        rw [List.getD_eq_getElem?_getD, List.getElem?_eq_none (by rw [List.length_take]; omega)]; rfl
      rw [this, Nat.zero_xor]
    · rw [if_neg e, if_neg (by omega), Nat.xor_zero]
  · rw [if_neg h, if_neg h, if_neg (by omega), Nat.xor_zero]
/-- one bit more of the row, the first m terms of the generator -/
theorem symP_next {xs : List Nat} {g k t : Nat} (hk : k < xs.length) : ∀ m, symP g (xs.take (k + 1)) t m = symP g (xs.take k) t m ^^^ (if k ≤ t ∧ t < k + m ∧ g / 2 ^ (t - k) % 2 = 1 then xs.getD k 0 else 0)
  | 0 => by rw [if_neg (by omega), Nat.xor_zero]; rfl
  | m + 1 => by
    show symP g (xs.take (k + 1)) t m ^^^ (if g / 2 ^ m % 2 = 1 then backAt (xs.take (k + 1)) t m else 0) = (symP g (xs.take k) t m ^^^ (if g / 2 ^ m % 2 = 1 then backAt (xs.take k) t m else 0)) ^^^ _
    rw [symP_next hk m, back_next hk]
    by_cases hm : t = k + m
    · have e : t - k = m := by omega
      rw [e, if_neg (by omega)]
      by_cases hb : g / 2 ^ m % 2 = 1
      · rw [if_pos hb, if_pos hb, if_pos ⟨by omega, hm⟩, if_pos ⟨by omega, by omega, hb⟩, Nat.xor_zero, Nat.xor_assoc]
      · rw [if_neg hb, if_neg hb, if_neg (by omega)]
    · have hc : ∀ y : Nat, (if k ≤ t ∧ t < k + (m + 1) ∧ g / 2 ^ (t - k) % 2 = 1 then y else 0) = (if k ≤ t ∧ t < k + m ∧ g / 2 ^ (t - k) % 2 = 1 then y else 0) := fun y => by
        by_cases h2 : k ≤ t ∧ t < k + m ∧ g / 2 ^ (t - k) % 2 = 1
        · rw [if_pos h2, if_pos ⟨h2.1, by omega, h2.2.2⟩]
        · rw [if_neg h2, if_neg (fun h3 => h2 ⟨h3.1, by omega, h3.2.2⟩)]
      rw [hc, if_neg (c := k ≤ t ∧ t = k + m) (fun h => hm h.2), Nat.xor_zero, Nat.xor_assoc, Nat.xor_assoc]
      congr 1
      exact Nat.xor_comm _ _
/-- the product as it stands when k bits are done, and of the next one j terms -/
def prodF (g n : Nat) (xs : List Nat) (k j p : Nat) : Nat := symP g (xs.take k) p (n + 1) ^^^ (if k ≤ p ∧ p < k + j ∧ g / 2 ^ (p - k) % 2 = 1 then xs.getD k 0 else 0)
def prodK (g n : Nat) (xs : List Nat) (k j : Nat) : List Nat := (List.range (xs.length + n)).map (prodF g n xs k j)
theorem prodK_length (g n : Nat) (xs : List Nat) (k j : Nat) : (prodK g n xs k j).length = xs.length + n := by simp [prodK]
theorem prodK_start (g n : Nat) (xs : List Nat) : prodK g n xs 0 0 = List.replicate (xs.length + n) 0 := by
  refine List.ext_getElem (by simp [prodK]) fun i h1 h2 => ?_
  simp [prodK, prodF, symP_nil]
theorem prodK_next {g n : Nat} {xs : List Nat} {k : Nat} (hk : k < xs.length) : prodK g n xs k (n + 1) = prodK g n xs (k + 1) 0 := by
  unfold prodK
  refine List.map_congr_left fun p _ => ?_
  unfold prodF
  rw [symP_next hk, if_neg (c := k + 1 ≤ p ∧ p < k + 1 + 0 ∧ g / 2 ^ (p - (k + 1)) % 2 = 1) (by omega), Nat.xor_zero]
theorem prodK_done (g n : Nat) (xs : List Nat) : prodK g n xs xs.length 0 = prodL g n xs := by
  unfold prodK prodL
  refine List.map_congr_left fun p _ => ?_
  unfold prodF
  rw [List.take_length, if_neg (by omega), Nat.xor_zero]
theorem prodK_at {g n : Nat} {xs : List Nat} {k j p : Nat} (hp : p < xs.length + n) : (prodK g n xs k j).getD p 0 = prodF g n xs k j p := by simp [prodK, List.getD, hp]
theorem prodF_le {g n : Nat} {xs : List Nat} (hx : ∀ i, xs.getD i 0 ≤ 1) (k j p : Nat) : prodF g n xs k j p ≤ 1 := by
  have hx1 : ∀ a b : Nat, a ≤ 1 → b ≤ 1 → a ^^^ b ≤ 1 := fun a b ha hb => by
    have h1 : a = 0 ∨ a = 1 := by omega
    have h2 : b = 0 ∨ b = 1 := by omega
    rcases h1 with rfl | rfl <;> rcases h2 with rfl | rfl <;> decide
  have ht : ∀ i, (xs.take k).getD i 0 ≤ 1 := fun i => by
    rw [List.getD_eq_getElem?_getD, List.getElem?_take]
    split
    · rw [← List.getD_eq_getElem?_getD]; exact hx i
    · simp
  have hs : ∀ m, symP g (xs.take k) p m ≤ 1 := fun m => by
    induction m with
    | zero => show (0 : Nat) ≤ 1; omega
    | succ m ih =>
      refine hx1 _ _ ih ?_
      split
      · unfold backAt; split
        · exact ht _
        · omega
      · omega
  unfold prodF
  refine hx1 _ _ (hs _) ?_
  split
  · exact hx k
  · omega
/-- a term more -/
theorem prodK_yes {g n : Nat} {xs : List Nat} {k j : Nat} (hk : k < xs.length) (hj : j ≤ n) (hb : g / 2 ^ j % 2 = 1) : (prodK g n xs k j).set (k + j) ((prodK g n xs k j).getD (k + j) 0 ^^^ xs.getD k 0) = prodK g n xs k (j + 1) := by
  rw [prodK_at (by omega)]
  refine List.ext_getElem (by simp [prodK]) fun i h1 h2 => ?_
  rw [List.getElem_set]
  have hi : i < xs.length + n := by simpa [prodK] using h2
  simp only [prodK, List.getElem_map, List.getElem_range]
  unfold prodF
  by_cases e : k + j = i
  · subst e
    rw [if_pos rfl, if_neg (c := k ≤ k + j ∧ k + j < k + j ∧ g / 2 ^ (k + j - k) % 2 = 1) (by omega), if_pos ⟨by omega, by omega, by rw [Nat.add_sub_cancel_left]; exact hb⟩, Nat.xor_zero]
  · rw [if_neg e]
    congr 1
    by_cases h3 : k ≤ i ∧ i < k + j ∧ g / 2 ^ (i - k) % 2 = 1
    · rw [if_pos h3, if_pos ⟨h3.1, by omega, h3.2.2⟩]
    · rw [if_neg h3, if_neg (by omega)]
theorem prodK_no {g n : Nat} {xs : List Nat} {k j : Nat} (hb : g / 2 ^ j % 2 = 0) : prodK g n xs k (j + 1) = prodK g n xs k j := by
  unfold prodK
  refine List.map_congr_left fun p _ => ?_
  unfold prodF
  congr 1
  by_cases e : p = k + j
  · subst e
    rw [if_neg (by rw [Nat.add_sub_cancel_left]; omega), if_neg (by omega)]
  · by_cases h3 : k ≤ p ∧ p < k + j ∧ g / 2 ^ (p - k) % 2 = 1
    · rw [if_pos h3, if_pos ⟨h3.1, by omega, h3.2.2⟩]
    · rw [if_neg h3, if_neg (by omega)]
end Go.Proofs.Ytlbfndibgojbiaa

/- A complete word, symbol by symbol: the document's sums. -/
namespace Go.Proofs.Ytlbfndibgojbiaa
open Go.RowKit

section
variable {a b c n i t : Nat} {R : Int} {xs : List Nat}
theorem gen_lt (hck : checkF (n + 1) R a b c = 0) (hi : i < rateN R) : genN a b c i < 2 ^ (n + 1) := by
  obtain ⟨-, hg, -⟩ := checkF_zero hck
  rw [show ((n : Int) + 1).toNat = n + 1 by omega] at hg
  obtain ⟨h1, h2, h3⟩ := hg
  have hr : rateN R = countF R := rfl
  have hc := countF_or R
  unfold genN
  by_cases e0 : i = 0
  · rw [if_pos e0]; exact h1.2
  · rw [if_neg e0]
    by_cases e1 : i = 1
    · rw [if_pos e1]; exact h2.2
    · rw [if_neg e1]; exact (h3 (by omega)).2
theorem symK_at (hi : i < rateN R) (m : Nat) : (symK R a b c m).getD i 0 = outF m (genN a b c i) := by
  unfold rateN at hi
  unfold symK genN
  by_cases h : R = 2
  · rw [if_pos h] at hi ⊢
    have : i = 0 ∨ i = 1 := by omega
    rcases this with rfl | rfl <;> rfl
  · rw [if_neg h] at hi ⊢
    have : i = 0 ∨ i = 1 ∨ i = 2 := by omega
    rcases this with rfl | rfl | rfl <;> rfl
theorem block_at {S : List Nat} {k : Nat} (hi : i < rateN R) : (blockAt R S k).getD i 0 = S.getD (k * rateN R + i) 0 := by
  unfold blockAt
  rw [List.getD_eq_getElem?_getD, List.getElem?_take, if_pos hi, List.getElem?_drop, ← List.getD_eq_getElem?_getD]
theorem word_at (hck : checkF (n + 1) R a b c = 0) (hn : n ≤ 31) (hb : Bits xs) (hi : i < rateN R) (ht : t < xs.length + n) : (wordF R a b c n xs).getD (t * rateN R + i) 0 = symP (genN a b c i) xs t (n + 1) := by
  rw [← block_at hi]
  unfold wordF
  rw [syms_block ht, symK_at hi]
  exact outF_sym hb.all hn (gen_lt hck hi) t
theorem prodL_at (g : Nat) (ht : t < xs.length + n) : (prodL g n xs).getD t 0 = symP g xs t (n + 1) := by simp [prodL, List.getD, ht]
theorem word_length : (wordF R a b c n xs).length = (xs.length + n) * rateN R := by rw [wordF, syms_rate]
end
end Go.Proofs.Ytlbfndibgojbiaa

/- outpostref06.has, Symbol, walked. -/
namespace Go.Proofs.Ytlbfndibgojbiaa
open Go.RowKit

theorem bit_and32 {g j : Nat} (hg : g ≤ 4294967295) : bits .and .u32 ((g : Int) / 2 ^ j) 1 = ((g / 2 ^ j % 2 : Nat) : Int) := by
  rw [shrI]
  exact low32 (Nat.le_trans (Nat.div_le_self _ _) hg)
set_option maxHeartbeats 400000 in
theorem rhas_any (K R : Int) (a b c i j : Nat) (hA : a ≤ 4294967295) (hB : b ≤ 4294967295) (hC : c ≤ 4294967295) (hi : i < 3) (hj : j ≤ 31) (v : Bool) (hv : (genN a b c i / 2 ^ j % 2 == 1) = v) (w : World) :
    Calls Try.prog 103 #[.agg #[.int .i64 K, .int .i64 R, .int .u32 a, .int .u32 b, .int .u32 c], .int .i64 i, .int .i64 j] w fun e w' => e = .returned (.bool v) ∧ Below w.heap.size w w' := by
  have hgl := genN_le hA hB hC i
  have HG := hide ((CodeB.new w K R a b c).gen hi)
  have HV := hide (show ((bits .and .u32 ((genN a b c i : Int) / 2 ^ j) 1) == 1) = v by
    rw [bit_and32 hgl, ← hv]
    have : genN a b c i / 2 ^ j % 2 = 0 ∨ genN a b c i / 2 ^ j % 2 = 1 := by omega
    rcases this with h | h <;> rw [h] <;> rfl)
  generalize genN a b c i = g at *
  have hi0 : (0 : Int) ≤ i := by omega
  have hi3 : (i : Int) < 3 := by omega
  have ewj : IntKind.u64.wrap (j : Int) = j := IntWalk.u64_in _ ⟨by omega, by omega⟩
  clear hv hA hB hC
  have hgc := HG.out
  go_enter Try.func103, Try.ntmps103
  go_wp2_with fail
  trace_state
  go_ret
  exact ⟨by rw [← HV.out]; rfl, (Below.refl _ _).alloc (Nat.le_refl _) _⟩
theorem symP_yes {g t k y : Nat} {xs : List Nat} (h : g / 2 ^ k % 2 = 1) (hy : backAt xs t k = y) : symP g xs t (k + 1) = symP g xs t k ^^^ y := by
  show symP g xs t k ^^^ _ = _
  rw [if_pos h, hy]
theorem symP_no {g t k : Nat} {xs : List Nat} (h : ¬ g / 2 ^ k % 2 = 1) : symP g xs t (k + 1) = symP g xs t k := by
  show symP g xs t k ^^^ _ = _
  rw [if_neg h, Nat.xor_zero]
theorem symP_out {g t k : Nat} {xs : List Nat} (hy : backAt xs t k = 0) : symP g xs t (k + 1) = symP g xs t k := by
  show symP g xs t k ^^^ _ = _
  rw [hy]; split <;> exact Nat.xor_zero _
theorem symP_le {g t : Nat} {xs : List Nat} (hx : ∀ i, xs.getD i 0 ≤ 1) : ∀ k, symP g xs t k ≤ 1
  | 0 => by show (0 : Nat) ≤ 1; omega
  | k + 1 => by
    refine xor_le1 (symP_le hx k) ?_
    split
    · unfold backAt; split
      · exact hx _
      · omega
    · omega
set_option maxRecDepth 100000 in
set_option maxHeartbeats 1000000 in
theorem rsymbol_any (n a b c : Nat) (R : Int) (hn : n ≤ 31) (hA : a ≤ 4294967295) (hB : b ≤ 4294967295) (hC : c ≤ 4294967295) (ad : Option Addr) (cap : Nat) (xs : List Nat) (hl : xs.length ≤ 140737488351232) (hb : Bits xs) (i t : Nat) (hi : i < 3) (ht : t ≤ 140737488351232) (w : World) (hx : RowA w ad xs) :
    Calls Try.prog 98 #[.agg #[.int .i64 (n + 1), .int .i64 R, .int .u32 a, .int .u32 b, .int .u32 c], .slice ad xs.length cap, .int .i64 i, .int .i64 t] w fun e w' => e = .returned (.int .u8 (symP (genN a b c i) xs t (n + 1) : Nat)) ∧ Below w.heap.size w w' := by
  have HH := hide fun (k : Nat) (hk : k ≤ 31) (v : Bool) (hv : (genN a b c i / 2 ^ k % 2 == 1) = v) => rhas_any (n + 1) R a b c i k hA hB hC hi hk v hv
  have HX := hide hx
  have HBT := hide hb.all
  have HSL := hide (fun k => symP_le (g := genN a b c i) (t := t) hb.all k)
  have HC0 := hide (CodeB.new w (n + 1) R a b c)
  have HB0 := hide ((Below.refl w.heap.size w).alloc (Nat.le_refl _) (.cells #[.int .i64 (n + 1), .int .i64 R, .int .u32 a, .int .u32 b, .int .u32 c] 25))
  generalize genN a b c i = g at *
  clear hx hb
  go_enter Try.func98, Try.ntmps98
  go_wp2_with fail
  go_loopw [9, 10] (fun s j u => ∃ k : Nat, k ≤ n + 1 ∧ s = .int .u8 (symP g xs t k : Nat) ∧ j = .int .i64 k ∧ Hid (CodeB u w.heap.size (n + 1) R a b c) ∧ Hid (Below w.heap.size w u)) (fun _ j _ => n + 1 - (intOf j).toNat)
  case atStart => exact ⟨0, by omega, rfl, rfl, HC0, HB0⟩
  case round =>
    rename World => wr
    obtain ⟨k, hk, rfl, rfl, hc, hbl⟩ := hrel
    clear HC0 HB0
    obtain ⟨q0, q1, q2, q3, q4⟩ := hc.out.cells
    by_cases hlt : k < n + 1
    · have hs1 := HSL.out k
      by_cases hbit : g / 2 ^ k % 2 = 1
      · have HHk := hide (HH.out k (by omega) true (by rw [hbit]; rfl))
        by_cases hkt : k ≤ t
        · by_cases htl : t - k < xs.length
          · have hyb : backAt xs t k = xs.getD (t - k) 0 := by unfold backAt; rw [if_pos hkt]
            have HS := hide (symP_yes hbit hyb)
            obtain ⟨b', off, had, _, hcx⟩ := (HX.out.below hbl.out).at_ htl
            have hy1 := HBT.out (t - k)
            have HXO := hide (xorU8 (a := symP g xs t k) (b := xs.getD (t - k) 0) (by omega) (by omega))
            have HRW := hide fun (u : World) (hb : Below wr.heap.size wr u) => (bcell hb (b := b') (o := off + (t - k)) (by assumption) hcx)
            have hw : IntKind.i64.wrap ((t : Int) - k) = ((t - k : Nat) : Int) := by rw [IntWalk.i64_in _ (by omega)]; omega
            have hd0 : (0 : Int) ≤ ((t - k : Nat) : Int) := by omega
            have hdl : ((t - k : Nat) : Int) < xs.length := by omega
            generalize xs.getD (t - k) 0 = y at *
            have hdt : (t : Int) - k = ((t - k : Nat) : Int) := by omega
            generalize t - k = d at *
            generalize symP g xs t k = s0 at *
            clear hbit hyb htl hcx
            subst had
            go_wp2_with fail
            refine (HHk.out _).mono ?_
            rintro e w2 ⟨rfl, hb2⟩
            have hcy := HRW.out w2 hb2
            have HC2 := hide (hc.out.keep hb2 hc.out.lt)
            have HB2 := hide (below_then hbl.out hb2)
            clear hb2 q0 q1 q2 q3 q4
            go_wp2_with fail
            rw [HXO.out]
            go_roundw
            case rel => exact ⟨k + 1, by omega, by rw [HS.out], by simp, HC2, HB2⟩
            case measure => simp [intOf]; omega
          · have HS := hide (symP_out (g := g) (show backAt xs t k = 0 by unfold backAt; rw [if_pos hkt]; exact getD_far' (by omega)))
            have hw : IntKind.i64.wrap ((t : Int) - k) = ((t - k : Nat) : Int) := by rw [IntWalk.i64_in _ (by omega)]; omega
            have hdt : (t : Int) - k = ((t - k : Nat) : Int) := by omega
            have hd0 : (0 : Int) ≤ ((t - k : Nat) : Int) := by omega
            have hdl : ¬ ((t - k : Nat) : Int) < xs.length := by omega
            generalize t - k = d at *
            generalize symP g xs t k = s0 at *
            clear hbit htl
            go_wp2_with fail
            refine (HHk.out _).mono ?_
            rintro e w2 ⟨rfl, hb2⟩
            have HC2 := hide (hc.out.keep hb2 hc.out.lt)
            have HB2 := hide (below_then hbl.out hb2)
            clear hb2 q0 q1 q2 q3 q4
            go_wp2_with fail
            go_roundw
            case rel => exact ⟨k + 1, by omega, by rw [HS.out], by simp, HC2, HB2⟩
            case measure => simp [intOf]; omega
        · have HS := hide (symP_out (g := g) (show backAt xs t k = 0 by unfold backAt; rw [if_neg hkt]))
          have hw : IntKind.i64.wrap ((t : Int) - k) = (t : Int) - k := IntWalk.i64_in _ (by omega)
          have hdn : ¬ (0 : Int) ≤ (t : Int) - k := by omega
          generalize symP g xs t k = s0 at *
          clear hbit
          go_wp2_with fail
          refine (HHk.out _).mono ?_
          rintro e w2 ⟨rfl, hb2⟩
          have HC2 := hide (hc.out.keep hb2 hc.out.lt)
          have HB2 := hide (below_then hbl.out hb2)
          clear hb2 q0 q1 q2 q3 q4
          go_wp2_with fail
          go_roundw
          case rel => exact ⟨k + 1, by omega, by rw [HS.out], by simp, HC2, HB2⟩
          case measure => simp [intOf]; omega
      · have HHk := hide (HH.out k (by omega) false (by rw [beq_eq_false_iff_ne]; exact hbit))
        have HS := hide (symP_no (xs := xs) (t := t) hbit)
        generalize symP g xs t k = s0 at *
        clear hbit
        go_wp2_with fail
        refine (HHk.out _).mono ?_
        rintro e w2 ⟨rfl, hb2⟩
        have HC2 := hide (hc.out.keep hb2 hc.out.lt)
        have HB2 := hide (below_then hbl.out hb2)
        clear hb2 q0 q1 q2 q3 q4
        go_wp2_with fail
        go_roundw
        case rel => exact ⟨k + 1, by omega, by rw [HS.out], by simp, HC2, HB2⟩
        case measure => simp [intOf]; omega
    · obtain rfl : k = n + 1 := by omega
      go_wp2_with fail
      go_ret
      exact ⟨rfl, hbl.out⟩
end Go.Proofs.Ytlbfndibgojbiaa

/- outpostref06.Right and outpostlaw06.good, walked. -/
namespace Go.Proofs.Ytlbfndibgojbiaa
open Go.RowKit

set_option maxHeartbeats 400000 in
theorem rright_yes (ad : Option Addr) (c : Nat) (xs : List Nat) (hn : xs.length ≤ 140737488351232) (hb : Bits xs) (w : World) (hx : RowA w ad xs) :
    Calls Try.prog 85 #[.slice ad xs.length c] w fun e w' => e = .returned (.bool true) ∧ w = w' := by
  have HX := hide hx
  have HB := hide hb
  clear hx hb
  go_enter Try.func85, Try.ntmps85
  go_wp2_with fail
  go_loop [3] (fun i => ∃ k : Nat, k ≤ xs.length ∧ i = .int .i64 k) (fun i => xs.length - (intOf i).toNat)
  case atStart => exact ⟨0, by omega, rfl⟩
  case round =>
    obtain ⟨k, hk, rfl⟩ := hrel
    by_cases hlt : k < xs.length
    · obtain ⟨b, off, rfl, _, hc⟩ := HX.out.at_ hlt
      have h1 := HB.out k hlt
      generalize xs.getD k 0 = y at *
      go_wp2_with fail
      go_round
      case rel => exact ⟨k + 1, by omega, by simp⟩
      case measure => simp [intOf]; omega
    · go_wp2_with fail
      go_ret
      exact ⟨rfl, rfl⟩
set_option maxHeartbeats 400000 in
theorem rright_no (ad : Option Addr) (c : Nat) (xs : List Nat) (hn : xs.length ≤ 140737488351232) (hb : ¬ Bits xs) (w : World) (hx : RowA w ad xs) :
    Calls Try.prog 85 #[.slice ad xs.length c] w fun e w' => e = .returned (.bool false) ∧ w = w' := by
  have HX := hide hx
  have HB := hide hb
  clear hx hb
  go_enter Try.func85, Try.ntmps85
  go_wp2_with fail
  go_loop [3] (fun i => ∃ k : Nat, k ≤ xs.length ∧ i = .int .i64 k ∧ Hid (∀ i, i < k → xs.getD i 0 ≤ 1)) (fun i => xs.length - (intOf i).toNat)
  case atStart => exact ⟨0, by omega, rfl, hide fun i hi => absurd hi (by omega)⟩
  case round =>
    obtain ⟨k, hk, rfl, hok⟩ := hrel
    by_cases hlt : k < xs.length
    · obtain ⟨b, off, rfl, _, hc⟩ := HX.out.at_ hlt
      generalize hy : xs.getD k 0 = y at *
      have HY := hide hy
      clear hy
      by_cases h1 : 1 < y
      · go_wp2_with fail
        go_ret
        exact ⟨rfl, rfl⟩
      · go_wp2_with fail
        go_round
        case rel =>
          refine ⟨k + 1, by omega, by simp, hide fun i hi => ?_⟩
          by_cases e : i = k
          · subst e; rw [HY.out]; omega
          · exact hok.out i (by omega)
        case measure => simp [intOf]; omega
    · exact absurd (fun i hi => hok.out i (by omega)) HB.out
/-- Go's comparison of rows of bits tells them apart -/
theorem strN_inj {xs ys : List Nat} (hx : ∀ i, xs.getD i 0 ≤ 255) (hy : ∀ i, ys.getD i 0 ≤ 255) (h : (strN xs).toList = (strN ys).toList) : xs = ys := by
  have e : ∀ zs : List Nat, (strN zs).toList = zs.map fun z => UInt8.ofNat z := fun zs => by
    simp [strN, strOfNums, ByteArray.toList_eq]
  rw [e, e] at h
  have hl : xs.length = ys.length := by have := congrArg List.length h; simpa using this
  refine getD_ext hl fun i hi => ?_
  have h1 := congrArg (fun l => (l.getD i 0).toNat) h
  simp only [List.getD, List.getElem?_map, List.getElem?_eq_getElem hi, List.getElem?_eq_getElem (show i < ys.length by omega), Option.map_some, Option.getD_some] at h1
  have a1 := hx i
  have a2 := hy i
  simp only [List.getD, List.getElem?_eq_getElem hi, List.getElem?_eq_getElem (show i < ys.length by omega), Option.getD_some] at a1 a2 ⊢
  simp [UInt8.toNat_ofNat'] at h1
  omega
end Go.Proofs.Ytlbfndibgojbiaa

/- outpostref06.word, Encode, walked. -/
namespace Go.Proofs.Ytlbfndibgojbiaa
open Go.RowKit

theorem take_step {L : List Nat} {m : Nat} (h : m < L.length) : L.take m ++ [L.getD m 0] = L.take (m + 1) := by
  rw [List.take_add_one, List.getD_eq_getElem?_getD, List.getElem?_eq_getElem h]
  rfl
set_option maxRecDepth 100000 in
set_option maxHeartbeats 2000000 in
theorem rword_any (n a b c r : Nat) (hr : r = 2 ∨ r = 3) (hn : 2 ≤ n ∧ n ≤ 31) (hA : a ≤ 4294967295) (hB : b ≤ 4294967295) (hC : c ≤ 4294967295) (hck : checkF (n + 1) r a b c = 0) (ad : Option Addr) (cap : Nat) (xs : List Nat) (hmul : (xs.length + n) * r ≤ 140737488351232) (hb : Bits xs) (w : World) (hx : RowA w ad xs) :
    Calls Try.prog 86 #[.agg #[.int .i64 (n + 1), .int .i64 r, .int .u32 a, .int .u32 b, .int .u32 c], .slice ad xs.length cap] w fun e w' => ∃ v, e = .returned v ∧ OwnB w' w.heap.size v (wordF r a b c n xs) ∧ Below w.heap.size w w' := by
  have hrate : rateN r = r := by rcases hr with rfl | rfl <;> rfl
  have hl : xs.length + n ≤ 140737488351232 := Nat.le_trans (Nat.le_mul_of_pos_right _ (by omega)) hmul
  have HSY := hide fun (i t : Nat) (hi : i < 3) (ht : t ≤ 140737488351232) w hx => rsymbol_any n a b c r hn.2 hA hB hC ad cap xs (by omega) hb i t hi ht w hx
  have hlen : (wordF r a b c n xs).length = (xs.length + n) * r := by rw [word_length, hrate]
  have HAT := hide fun (i t : Nat) (hi : i < r) (ht : t < xs.length + n) => show (wordF r a b c n xs).getD (t * r + i) 0 = symP (genN a b c i) xs t (n + 1) by
    have := word_at (R := r) hck hn.2 hb (i := i) (by rw [hrate]; exact hi) ht; rwa [hrate] at this
  have HX := hide hx
  generalize wordF r a b c n xs = ls at *
  have HLN := hide hlen
  have HC0 := hide (CodeB.new w (n + 1) r a b c)
  have HB0 := hide ((Below.refl w.heap.size w).alloc (Nat.le_refl _) (.cells #[.int .i64 (n + 1), .int .i64 r, .int .u32 a, .int .u32 b, .int .u32 c] 25))
  have HML := hide hmul
  clear hx hb hck hrate hlen hmul
  have hE2 : (xs.length : Int) + ((n : Int) + 1) - 1 = (xs.length : Int) + n := by omega
  go_enter Try.func86, Try.ntmps86
  go_wp2_with fail
  go_loopw [5, 6] (fun v t u => ∃ (k : Nat) (vv : Value), k ≤ xs.length + n ∧ vv = v ∧ t = .int .i64 k ∧ Hid (OwnB u (w.heap.size + 1) vv (ls.take (k * r))) ∧ Hid (CodeB u w.heap.size (n + 1) r a b c) ∧ Hid (Below w.heap.size w u)) (fun _ t _ => xs.length + n - (intOf t).toNat)
  case atStart => exact ⟨0, _, by omega, rfl, rfl, hide (by rw [Nat.zero_mul, List.take_zero]; exact OwnB.nil _ _), HC0, HB0⟩
  case round =>
    rename World => wr
    obtain ⟨k, vk, hk, rfl, rfl, hO, hc, hbl⟩ := hrel
    clear HC0 HB0
    obtain ⟨q0, q1, q2, q3, q4⟩ := hc.out.cells
    by_cases hlt : k < xs.length + n
    · have hkI : (k : Int) < xs.length + n := by omega
      have HOa := hide (show OwnB wr (w.heap.size + 1) vk (ls.take (k * r + 0)) from hO.out)
      have hkl := hide (show k * r + r ≤ ls.length by
        rw [HLN.out]
        have : (k + 1) * r ≤ (xs.length + n) * r := Nat.mul_le_mul_right _ hlt
        rw [Nat.succ_mul] at this; exact this)
      have HATk := hide (fun i hi => HAT.out i k hi hlt)
      have HNX := hide (show ls.take (k * r + r) = ls.take ((k + 1) * r) by rw [Nat.succ_mul])
      clear hO
      go_wp2_with fail
      go_loopw [5, 7] (fun v i u => ∃ (j : Nat) (vv : Value), j ≤ r ∧ vv = v ∧ i = .int .i64 j ∧ Hid (OwnB u (w.heap.size + 1) vv (ls.take (k * r + j))) ∧ Hid (CodeB u w.heap.size (n + 1) r a b c) ∧ Hid (Below w.heap.size w u)) (fun _ i _ => r - (intOf i).toNat)
      case atStart => exact ⟨0, vk, by omega, rfl, rfl, HOa, hc, hbl⟩
      case round =>
        rename World => wj
        obtain ⟨j, vj, hj, rfl, rfl, hO, hc2, hbl2⟩ := hrel
        clear HOa hc hbl q0 q1 q2 q3 q4
        obtain ⟨q0, q1, q2, q3, q4⟩ := hc2.out.cells
        by_cases hjr : j < r
        · have hat := HATk.out j hjr
          have HSYj := hide (HSY.out j k (by omega) (by omega) wj (HX.out.below hbl2.out))
          have hm : k * r + j < ls.length := by have := hkl.out; omega
          have hts := take_step hm
          rw [hat] at hts
          have HT := hide hts
          have hml := hide (show (ls.take (k * r + j)).length ≤ 140737488351232 by
            rw [List.length_take]; have := HLN.out; have := HML.out; omega)
          clear hat hts hm
          generalize symP (genN a b c j) xs k (n + 1) = y at *
          go_wp2_with fail
          refine HSYj.out.mono ?_
          rintro e w2 ⟨rfl, hb2⟩
          have HC2 := hide (hc2.out.keep hb2 hc2.out.lt)
          have HO2 := hide (hO.out.below hb2)
          have HB2 := hide (below_then hbl2.out hb2)
          clear hb2 q0 q1 q2 q3 q4
          go_wp2_with (first
            | (at_builtin; refine wpList_appB rfl (.tmp 24) (.tmp 30) rfl (w.heap.size + 1) vj (ls.take (k * r + j)) rfl (HO2.out.alloc _) (some ⟨w2.heap.size, 0, none⟩) 1 1 [y] rfl ?d1 rfl ?d2 ?d3 ?_)
            | go_in)
          case d1 => exact fun _ => ⟨w2.heap.size, 0, rfl, by simp, fun i hi => by
            obtain rfl : i = 0 := by simpa using hi
            simp [go_sem]⟩
          case d2 => have := hml.out; simp only [List.length_cons, List.length_nil]; omega
          case d3 => have := HC2.out.lt; simp; omega
          intro v5 w5 ho5 hg5 _
          rw [HT.out] at ho5
          have HO5 := hide ho5
          have HC5 := hide ((HC2.out.alloc _).grown hg5 (fun e => by have := (HO2.out.lt e.symm).1; omega))
          have HB5 := hide ((HB2.out.alloc HB2.out.size _).grown hg5 (by have := HB2.out.size; simp; omega) (fun g e => by have := (HO2.out.lt e).1; omega))
          clear ho5 hg5
          go_wp2_with fail
          go_roundw
          case rel => exact ⟨j + 1, v5, by omega, rfl, by simp, HO5, HC5, HB5⟩
          case measure => simp [intOf]; omega
        · obtain rfl : j = r := by omega
          rw [HNX.out] at hO
          go_wp2_with fail
          go_roundw
          case rel => exact ⟨k + 1, vj, by omega, rfl, by simp, hO, hc2, hbl2⟩
          case measure => simp [intOf]; omega
    · obtain rfl : k = xs.length + n := by omega
      rw [show ls.take ((xs.length + n) * r) = ls by rw [← HLN.out, List.take_length]] at hO
      go_wp2_with fail
      go_ret
      exact ⟨vk, rfl, OwnB.base hO.out (by omega), hbl.out⟩
set_option maxHeartbeats 400000 in
theorem rencode_bad (K R : Int) (a b c : Nat) (hA : a ≤ 4294967295) (hB : b ≤ 4294967295) (hC : c ≤ 4294967295) (hne : checkF K R a b c ≠ 0) (x : Value) (w : World) :
    Calls Try.prog 68 #[.agg #[.int .i64 K, .int .i64 R, .int .u32 a, .int .u32 b, .int .u32 c], x] w fun e w' => e = .returned (.tuple #[.slice none 0 0, .int .i64 (checkF K R a b c)]) ∧ Below w.heap.size w w' := by
  have HN := hide (rcheck_any K R a b c hA hB hC)
  have hb := nzBne hne
  generalize checkF K R a b c = cf at *
  clear hne
  go_enter Try.func68, Try.ntmps68
  go_wp2_with fail
  refine (HN.out _).mono ?_
  rintro e w1 ⟨rfl, hb1⟩
  go_wp2_with fail
  go_ret2
  exact ⟨rfl, below_one hb1⟩
set_option maxHeartbeats 400000 in
theorem rencode_bit (K R : Int) (a b c : Nat) (hA : a ≤ 4294967295) (hB : b ≤ 4294967295) (hC : c ≤ 4294967295) (hck : checkF K R a b c = 0) (ad : Option Addr) (cap : Nat) (xs : List Nat) (hl : xs.length ≤ 140737488351232) (hb : ¬ Bits xs) (w : World) (hx : RowA w ad xs) :
    Calls Try.prog 68 #[.agg #[.int .i64 K, .int .i64 R, .int .u32 a, .int .u32 b, .int .u32 c], .slice ad xs.length cap] w fun e w' => e = .returned (.tuple #[.slice none 0 0, .int .i64 10]) ∧ Below w.heap.size w w' := by
  have HN := hide (rcheck_any K R a b c hA hB hC)
  rw [hck] at HN
  have HR := hide fun w hx => rright_no ad cap xs hl hb w hx
  have HX := hide hx
  clear hx hb hck
  go_enter Try.func68, Try.ntmps68
  go_wp2_with fail
  refine (HN.out _).mono ?_
  rintro e w1 ⟨rfl, hb1⟩
  go_wp2_with fail
  refine (HR.out _ (HX.out.below (below_one hb1))).mono ?_
  rintro e w' ⟨rfl, rfl⟩
  go_wp2_with fail
  go_ret2
  exact ⟨rfl, below_one hb1⟩
set_option maxHeartbeats 400000 in
theorem rencode_ok (n a b c r : Nat) (hr : r = 2 ∨ r = 3) (hn : 2 ≤ n ∧ n ≤ 31) (hA : a ≤ 4294967295) (hB : b ≤ 4294967295) (hC : c ≤ 4294967295) (hck : checkF (n + 1) r a b c = 0) (ad : Option Addr) (cap : Nat) (xs : List Nat) (hl : xs.length ≤ 1048600) (hb : Bits xs) (w : World) (hx : RowA w ad xs) :
    Calls Try.prog 68 #[.agg #[.int .i64 (n + 1), .int .i64 r, .int .u32 a, .int .u32 b, .int .u32 c], .slice ad xs.length cap] w fun e w' => ∃ v, e = .returned (.tuple #[v, .int .i64 0]) ∧ OwnB w' w.heap.size v (wordF r a b c n xs) ∧ Below w.heap.size w w' := by
  have HN := hide (rcheck_any (n + 1) r a b c hA hB hC)
  rw [hck] at HN
  have HR := hide fun w hx => rright_yes ad cap xs (by omega) hb w hx
  have HW := hide fun w hx => rword_any n a b c r hr hn hA hB hC hck ad cap xs (by have := Nat.mul_le_mul (show xs.length + n ≤ 1048631 by omega) (show r ≤ 3 by omega); omega) hb w hx
  have HX := hide hx
  clear hx hb hck
  go_enter Try.func68, Try.ntmps68
  go_wp2_with fail
  refine (HN.out _).mono ?_
  rintro e w1 ⟨rfl, hb1⟩
  have HC1 := (CodeB.new w (n + 1) r a b c).keep hb1 (by simp)
  obtain ⟨q0, q1, q2, q3, q4⟩ := HC1.cells
  have HB1 := hide (below_one hb1)
  have hz1 := HB1.out.size
  clear hb1 HC1
  go_wp2_with fail
  refine (HR.out _ (HX.out.below HB1.out)).mono ?_
  rintro e w' ⟨rfl, rfl⟩
  go_wp2_with fail
  refine (HW.out _ (HX.out.below HB1.out)).mono ?_
  rintro e w2 ⟨v, rfl, ho, hb2⟩
  go_wp2_with fail
  go_ret2
  exact ⟨v, rfl, OwnB.base ho hz1, below_then HB1.out hb2⟩
end Go.Proofs.Ytlbfndibgojbiaa

/- outpostlaw01.Lent, Stays, Spoil. -/
namespace Go.Proofs.Ytlbfndibgojbiaa
open Go.RowKit

def marksK (k : Nat) : List Nat := (List.range k).map fun i => 200 + i
theorem marksK_succ (k : Nat) : marksK (k + 1) = marksK k ++ [200 + k] := by simp [marksK, List.range_succ]
theorem marksK_length (k : Nat) : (marksK k).length = k := by simp [marksK]
/-- block L is a lent copy of xs: the marks behind it -/
def LentB (w : World) (B L cap : Nat) (xs : List Nat) : Prop := OwnB w B (.slice (some ⟨L, 0, none⟩) (xs.length + 8) cap) (xs ++ marksK 8)
set_option maxHeartbeats 1000000 in
theorem lent_any (ad : Option Addr) (c : Nat) (xs : List Nat) (hn : xs.length ≤ 140737488351232) (w : World) (hx : RowA w ad xs) :
    Calls Try.prog 21 #[.slice ad xs.length c] w fun e w' => ∃ L cap, e = .returned (.slice (some ⟨L, 0, none⟩) xs.length cap) ∧ LentB w' w.heap.size L cap xs ∧ Below w.heap.size w w' := by
  have HX := hide hx
  have h0 : OwnB (w.alloc (.cells #[] 5)) w.heap.size (.slice (some ⟨w.heap.size, 0, none⟩) 0 0) [] := World.ownsRow_lit w #[] 0 (Nat.le_refl _) (by unfold maxLen; omega) rfl
  have H0 := hide h0
  clear hx h0
  go_enter Try.func21, Try.ntmps21
  go_wp2_with (first
    | (at_builtin; refine wpList_appB rfl _ _ rfl w.heap.size _ [] rfl H0.out ad xs.length c xs rfl (HX.out.alloc _) rfl ?c1 ?c2 ?_)
    | go_in)
  case c1 => simp; omega
  case c2 => simp
  · intro v1 w1 hown1 hgrow1 _
    have hb1 : Below w.heap.size w w1 := ((Below.refl w.heap.size w).alloc (Nat.le_refl _) (.cells #[] 5)).grown hgrow1 (by simp) (fun k e => by simp [Value.ownBlock] at e; omega)
    go_wp2_with fail
    go_loopw [3, 4] (fun v i wr => ∃ k : Nat, k ≤ 8 ∧ i = .int .i64 k ∧ OwnB wr w.heap.size v (xs ++ marksK k) ∧ Below w.heap.size w wr) (fun _ i _ => 8 - (intOf i).toNat)
    case atStart => exact ⟨0, by omega, rfl, by simpa [marksK] using hown1, hb1⟩
    case round =>
      rename_i wr _
      obtain ⟨k, hk, rfl, hown, hbl⟩ := hrel
      by_cases hlt : k < 8
      · have hw : ((200 : Int) + k) % 256 = ((200 + k : Nat) : Int) := by omega
        have HB := hide hbl
        have HO := hide hown
        clear hbl hown
        go_wp2_with (first
          | (at_builtin; refine wpList_appB rfl _ _ rfl w.heap.size _ (xs ++ marksK k) rfl (HO.out.alloc _) (some ⟨wr.heap.size, 0, none⟩) 1 1 [200 + k] rfl ?c1 rfl ?c2 ?c3 ?_)
          | go_in)
        case c1 => exact fun _ => ⟨wr.heap.size, 0, rfl, by simp, fun i hi => by obtain rfl : i = 0 := by simp at hi; omega
                                                                                 simp [go_sem]⟩
        case c2 => simp [marksK_length]; omega
        case c3 => have := HB.out.size; simp; omega
        · intro v2 w2 hown2 hgrow2 _
          have hb2 : Below w.heap.size w w2 := (HB.out.alloc HB.out.size _).grown hgrow2 (by have := HB.out.size; simp; omega) (fun g e => (HO.out.lt e).1)
          go_wp2_with fail
          go_roundw
          case rel => exact ⟨k + 1, by omega, by simp, by rw [marksK_succ]; exact hown2, hb2⟩
          case measure => simp [intOf]; omega
      · obtain rfl : k = 8 := by omega
        have HB := hide hbl
        obtain ⟨g, cap, rfl, hg1, hg2, hg3, hg4⟩ := hown.full (by simp [marksK_length])
        have hg5 := hg3
        rw [List.length_append, marksK_length] at hown hg5
        have HO := hide hown
        have h5 : (xs.length : Int) ≤ cap := by omega
        clear hbl hown
        go_wp2_with fail
        go_ret
        refine ⟨g, cap, rfl, HO.out, HB.out⟩
theorem LentB.row {w : World} {B L cap : Nat} {xs : List Nat} (h : LentB w B L cap xs) : RowA w (some ⟨L, 0, none⟩) (xs ++ marksK 8) := by
  have hl : (xs ++ marksK 8).length = xs.length + 8 := by rw [List.length_append, marksK_length]
  obtain ⟨ad, c, e, hr⟩ := OwnB.row h
  simp only [Value.slice.injEq] at e
  rw [e.1]; exact hr
theorem LentB.rowx {w : World} {B L cap : Nat} {xs : List Nat} (h : LentB w B L cap xs) : RowA w (some ⟨L, 0, none⟩) xs := by
  have := h.row.take xs.length
  rwa [List.take_left] at this
theorem LentB.lt {w : World} {B L cap : Nat} {xs : List Nat} (h : LentB w B L cap xs) : B ≤ L ∧ L < w.heap.size ∧ xs.length + 8 ≤ cap ∧ cap ≤ maxLen := by
  have hl : (xs ++ marksK 8).length = xs.length + 8 := by rw [List.length_append, marksK_length]
  obtain ⟨g, c, e, h1, h2, h3, h4⟩ := OwnB.full h (by omega)
  simp only [Value.slice.injEq, Option.some.injEq, Addr.mk.injEq, and_true] at e
  rw [hl] at h3
  omega
theorem marks_at (k : Nat) (h : k < 8) (xs : List Nat) : (xs ++ marksK 8).getD (xs.length + k) 0 = 200 + k := by
  simp [List.getD, List.getElem?_append_right, marksK, List.getElem?_range h]
set_option maxHeartbeats 1000000 in
theorem stays_any (ad : Option Addr) (c B L cap : Nat) (xs : List Nat) (hn : xs.length ≤ 140737488351232) (w : World) (hL : LentB w B L cap xs) (hx : RowA w ad xs) :
    Calls Try.prog 26 #[.slice (some ⟨L, 0, none⟩) xs.length cap, .slice ad xs.length c] w fun e w' => e = .returned (.bool true) ∧ ∃ n, w' = w.drewN n := by
  have hlt := hL.lt
  have hcap : (xs.length : Int) + 8 ≤ cap := by omega
  have hcap2 : (xs.length : Int) ≤ cap := by omega
  clear hlt
  have HR1 := hide hL.rowx
  have HR2 := hide hx
  have HM := hide fun k (hk : k < 8) => show w.cell? ⟨L, xs.length + k, none⟩ = some (.int .u8 (200 + (k : Int))) by
    obtain ⟨b, off, e, _, hc⟩ := hL.row.at_ (i := xs.length + k) (by rw [List.length_append, marksK_length]; omega)
    simp only [Option.some.injEq, Addr.mk.injEq, and_true] at e
    obtain ⟨rfl, rfl⟩ := e
    rw [Nat.zero_add] at hc
    rw [hc, marks_at k hk, Int.natCast_add]; rfl
  have hn2 : (xs.length : Int) ≤ 9223372036854775799 := by omega
  clear hx hL hn
  go_enter Try.func26, Try.ntmps26
  go_wp2_with fail
  go_loop [6] (fun i => ∃ k : Nat, k ≤ 8 ∧ i = .int .i64 k) (fun i => 8 - (intOf i).toNat)
  case atStart => exact ⟨0, by omega, rfl⟩
  case round =>
    obtain ⟨k, hk, rfl⟩ := hrel
    by_cases hlt : k < 8
    · have hw : ((200 : Int) + k) % 256 = 200 + k := by omega
      have hck := HM.out k hlt
      go_wp2_with fail
      go_round
      case rel => exact ⟨k + 1, by omega, by simp⟩
      case measure => simp [intOf]; omega
    · go_wp2_with fail
      have cv1 := fun n => RowA.conv (w := w.drewN n) HR1.out cap
      have cv2 := fun n => RowA.conv (w := w.drewN n) HR2.out c
      go_quiet (fail)
      go_wp2_with fail
      go_ret
      exact ⟨rfl, _, rfl⟩
theorem xor85 (x : Nat) (h : x ≤ 255) : bits .xor .u8 (x : Int) 85 = ((x ^^^ 85 : Nat) : Int) := u8_xor_nat x 85 (by omega) (by omega)
set_option maxHeartbeats 1000000 in
theorem spoil_any (B L cap : Nat) (xs : List Nat) (h8 : ∀ i, i < xs.length → xs.getD i 0 ≤ 255) (hn : xs.length ≤ 140737488351232) (w : World) (hL : LentB w B L cap xs) :
    Calls Try.prog 36 #[.slice (some ⟨L, 0, none⟩) xs.length cap] w fun e w' => e = .returned (.tuple #[]) ∧ w.grownBy w' (some L) := by
  have HL := hide hL
  have H8 := hide h8
  clear hL h8
  go_enter Try.func36, Try.ntmps36
  go_wp2_with fail
  go_loopw [2] (fun i wr => ∃ (k : Nat) (ys : List Value), k ≤ xs.length ∧ i = .int .i64 k ∧ wr.ownsRow B 5 1 (.slice (some ⟨L, 0, none⟩) (xs.length + 8) cap) (xs.length + 8) ys ∧ w.grownBy wr (some L) ∧ Hid (∀ i, k ≤ i → i < xs.length → wr.cell? ⟨L, i, none⟩ = some (.int .u8 (xs.getD i 0 : Nat)))) (fun i _ => xs.length - (intOf i).toNat)
  case atStart => exact ⟨0, _, by omega, rfl, by have := HL.out; unfold LentB OwnB at this; rwa [List.length_append, marksK_length] at this, World.grownBy.refl _ _, hide fun i _ hi => by
    obtain ⟨b, off, e, _, hc⟩ := HL.out.rowx.at_ hi
    simp only [Option.some.injEq, Addr.mk.injEq, and_true] at e
    obtain ⟨rfl, rfl⟩ := e
    rw [Nat.zero_add] at hc
    exact hc⟩
  case round =>
    obtain ⟨k, ys, hk, rfl, hown, hg, hcell⟩ := hrel
    by_cases hlt : k < xs.length
    · have hck := hcell.out k (Nat.le_refl _) hlt
      have hfk := hown.frozenAt k
      have h85 := xor85 (xs.getD k 0) (H8.out k hlt)
      have hst := hown.stored k (.int .u8 ((xs.getD k 0 ^^^ 85 : Nat) : Int))
      generalize xs.getD k 0 ^^^ 85 = z at *
      generalize xs.getD k 0 = y at *
      have HO := hide hown
      have HG := hide hg
      have HS := hide hst
      clear hst hg hown
      go_wp2_with fail
      go_roundw
      case rel =>
        refine ⟨k + 1, _, by omega, by simp, HS.out.1, World.grownBy.trans HG.out HS.out.2, hide fun i h1 h2 => ?_⟩
        have hne : (⟨L, k, none⟩ : Addr) ≠ ⟨L, i, none⟩ := fun e => by cases e; omega
        rw [World.cell?_setCell_other _ _ _ _ hne]
        exact hcell.out i (by omega) h2
      case measure => simp [intOf]; omega
    · go_wp2_with fail
      go_end0
      exact ⟨rfl, hg⟩
end Go.Proofs.Ytlbfndibgojbiaa

/- Rows of bytes as strings: lengths, sums. -/
namespace Go.Proofs.Ytlbfndibgojbiaa
open Go.RowKit

theorem strN_size (xs : List Nat) : (strN xs).size = xs.length := by
  simp [strN, strOfNums, ByteArray.size]
theorem strN_append (xs ys : List Nat) : strN (xs ++ ys) = strN xs ++ strN ys := by
  apply ByteArray.ext
  simp [strN, strOfNums, ByteArray.data_append]
end Go.Proofs.Ytlbfndibgojbiaa
