/- encoder.read, walked. -/
import Derived.Test.YtmmngcjnofcmmaaRows
import Derived.Test.YtmmngcjnofcmmaaEncM
import Derived.Test.YtmmngcjnofcmmaaEq3
import Derived.Deep.RegionHeld3
import Derived.Deep.DeepCutAuto
import Derived.Laws.CopyOwn
namespace Go.Proofs.Ytmmngcjnofcmmaa
open Go.RowKit

/-- what read comes to: the message, or there is none -/
def ReadQ (R : Int) (a b c n : Nat) (S : List Nat) (w : World) (e : Ending) (w' : World) : Prop :=
  (∃ xs v, IsMsg R a b c n S xs ∧ e = .returned (.tuple #[v, .bool true, .int .i64 0]) ∧ OwnB w' w.heap.size v xs ∧ Below w.heap.size w w') ∨
  ((∀ xs, ¬ IsMsg R a b c n S xs) ∧ e = .returned (.tuple #[.slice none 0 0, .bool false, .int .i64 0]) ∧ Below w.heap.size w w')
theorem size_u8 : (Try.prog.info? 5).map (·.size) = some 1 := by kernel_rfl
theorem take_two (l : List Nat) (i : Nat) (h : i + 2 ≤ l.length) : (l.drop i).take 2 = [l.getD i 0, l.getD (i + 1) 0] := by
  have h1 : l.drop i = l[i] :: l.drop (i + 1) := List.drop_eq_getElem_cons (by omega)
  have h2 : l.drop (i + 1) = l[i + 1] :: l.drop (i + 1 + 1) := List.drop_eq_getElem_cons (by omega)
  have g0 : l.getD i 0 = l[i] := by simp [List.getD, show i < l.length by omega]
  have g1 : l.getD (i + 1) 0 = l[i + 1] := by simp [List.getD, show i + 1 < l.length by omega]
  rw [g0, g1, h1, h2, List.take_succ_cons, List.take_succ_cons, List.take_zero]
theorem take_three (l : List Nat) (i : Nat) (h : i + 3 ≤ l.length) : (l.drop i).take 3 = [l.getD i 0, l.getD (i + 1) 0, l.getD (i + 2) 0] := by
  have h1 : l.drop i = l[i] :: l.drop (i + 1) := List.drop_eq_getElem_cons (by omega)
  have g0 : l.getD i 0 = l[i] := by simp [List.getD, show i < l.length by omega]
  rw [g0, h1, List.take_succ_cons, take_two l (i + 1) (by omega)]
theorem block_two {S : List Nat} {k : Nat} (h : k * 2 + 2 ≤ S.length) : blockAt 2 S k = [S.getD (k * 2) 0, S.getD (k * 2 + 1) 0] := take_two S (k * 2) h
theorem block_three {S : List Nat} {k : Nat} (h : k * 3 + 3 ≤ S.length) : blockAt 3 S k = [S.getD (k * 3) 0, S.getD (k * 3 + 1) 0, S.getD (k * 3 + 2) 0] := take_three S (k * 3) h
/-- the decoder's state -/
structure RdSt (R : Int) (a b c n m : Nat) (S : List Nat) (w w1 wr : World) (k h : Nat) (v : Value) (bs : List Nat) : Prop where
  reg : RegB wr h (n + 1) R a b c (stAt n 0 bs k)
  own : OwnB wr w1.heap.size v bs
  dec : DecR R a b c n m S k bs
  ne : ∀ q, v.ownBlock = some q → q ≠ h
  gt : w.heap.size + 1 ≤ h
  bel : Below (w.heap.size + 1) w1 wr
theorem stAt_snoc {n k x : Nat} {bs : List Nat} (h : bs.length = k) : stAt n 0 (bs ++ [x]) (k + 1) = (2 * stAt n 0 bs k + x) % 2 ^ n := by
  show (2 * stAt n 0 (bs ++ [x]) k + (bs ++ [x]).getD k 0) % 2 ^ n = _
  have e := stAt_congr (n := n) (s := 0) (xs := bs ++ [x]) (ys := bs) k fun i hi => by rw [getD_snoc, if_pos (by omega)]
  have e2 : (bs ++ [x]).getD k 0 = x := by rw [getD_snoc, if_neg (by omega), if_pos h.symm]
  rw [e, e2]
theorem want_parts {u : World} {g q : Nat} {x y z v : Value} {T : TypeId} (h : u.heap[g]? = some (.cells #[x, y, z] T (0, 0))) (hv : u.cell? ⟨q, 0, none⟩ = some v) :
    u.cell? ⟨g, 0, none⟩ = some x ∧ u.cell? ⟨g, 1, none⟩ = some y ∧ u.cell? ⟨g, 2, none⟩ = some z ∧ u.cell? ⟨q, 0, none⟩ = some v :=
  ⟨cell_of_row u g 0 _ T (0, 0) h, cell_of_row u g 1 _ T (0, 0) h, cell_of_row u g 2 _ T (0, 0) h, hv⟩
/-- behind a round of the decoder -/
theorem rd_done {R : Int} {a b c n m k s' h p : Nat} {S bs : List Nat} {w w1 w3 w4 w5 : World} {v v5 : Value} {zs : List Nat} {o : Obj} (hB : Below (w.heap.size + 1) w1 w3) (hg4 : w3.drew.grownBy w4 (some p)) (hr : RegB w4 h (n + 1) R a b c s') (ho : OwnB w3 w1.heap.size v bs)
    (hne : ∀ q, v.ownBlock = some q → q ≠ h) (hgt : w.heap.size + 1 ≤ h) (hp : w.heap.size + 1 ≤ p) (hlt : h < w3.heap.size)
    (hown5 : OwnB w5 w1.heap.size v5 zs) (hgrow5 : (w4.alloc o).grownBy w5 v.ownBlock) (hat5 : v5.ownBlock = v.ownBlock ∨ v5.ownBlock = some (w4.heap.size + 1)) (hw : w.heap.size < w1.heap.size) :
    ∀ t, t = s' → DecR R a b c n m S (k + 1) zs → stAt n 0 zs (k + 1) = t → Hid (RdSt R a b c n m S w w1 w5 (k + 1) h v5 zs) := by
  intro t ht hd hst
  have z4 : w3.heap.size ≤ w4.heap.size := hg4.size
  refine ⟨?_, hown5, hd, ?_, hgt, ?_⟩
  · rw [hst, ht]
    exact (hr.alloc o).grown hgrow5 (fun e => hne h e.symm rfl)
  · intro q e
    rcases hat5 with h5 | h5
    · exact hne q (h5 ▸ e)
    · rw [h5] at e
      have e2 := Option.some.inj e
      omega
  · have z3 := hB.size
    exact ((hB.drew.grown hg4 (by show _ ≤ w3.heap.size; omega) (fun q e => by have := Option.some.inj e; omega)).alloc (by omega) o).grown hgrow5 (by simp; omega) (fun q e => by have := (ho.lt e).1; omega)
theorem read_no {R : Int} {a b c n m p : Nat} {S : List Nat} {w w1 w4 w6 : World} {e : Ending} (hf : ∀ xs : List Nat, xs.length = m → ¬ IsMsg R a b c n S xs) (hS : S.length = (m + n) * rateN R) (hB1 : Below w.heap.size w w1) (hB4 : Below (w.heap.size + 1) w1 w4) (hg6 : w4.drew.grownBy w6 (some p)) (hp : w.heap.size ≤ p)
    (he : e = .returned (.tuple #[.slice none 0 0, .bool false, .int .i64 0])) : ReadQ R a b c n S w e w6 :=
  .inr ⟨fun xs h => hf xs (by
    have e := hS.symm.trans h.len
    have := Nat.eq_of_mul_eq_mul_right (rateN_pos R) e
    omega) h, he, (hB1.trans (hB4.mono (by omega))).drew.grown hg6 (by have := hB1.size; have := hB4.size; show _ ≤ w4.heap.size; omega) (fun q e => by have := Option.some.inj e; omega)⟩
theorem OwnB.cut {w : World} {B g cap L : Nat} {xs : List Nat} (h : OwnB w B (.slice (some ⟨g, 0, none⟩) L cap) xs) (hL : L = xs.length) {m : Nat} (hm : m ≤ xs.length) : OwnB w B (.slice (some ⟨g, 0, none⟩) m cap) (xs.take m) := by
  subst hL
  obtain ⟨h1, h2⟩ := h
  have hl : (xs.take m).length = m := by rw [List.length_take]; omega
  refine ⟨by rw [hl, bytesV_length, hl, Nat.mul_one], ?_⟩
  rcases h2 with ⟨h2, _⟩ | ⟨g', cap', cur, h2, hb, hg, hn, hc, hcs, ht⟩
  · cases h2
  · simp only [Value.slice.injEq, Option.some.injEq, Addr.mk.injEq, and_true, true_and] at h2
    obtain ⟨rfl, rfl⟩ := h2
    refine .inr ⟨g, cap, cur, by rw [hl], hb, hg, by omega, hc, hcs, ?_⟩
    rw [hl]
    have := congrArg (List.take m) ht
    rw [List.take_take, Nat.mul_one, Nat.min_eq_left hm] at this
    rw [Nat.mul_one, this]
    simp [bytesV, List.map_take]
theorem RdSt.start {R : Int} {a b c n m : Nat} {S : List Nat} {w w1 : World} {g : Nat} (hr : RegB w1 g (n + 1) R a b c 0) (hg : w.heap.size + 1 ≤ g) : Hid (RdSt R a b c n m S w w1 w1 0 g (.slice none 0 0) []) :=
  ⟨hr, OwnB.nil _ _, DecR.start _ _ _ _ _ _ _, fun q e => (by cases e), hg, Below.refl _ _⟩
set_option maxRecDepth 100000 in
set_option maxHeartbeats 4000000 in
theorem read_two (n m a b c : Nat) (hn : 2 ≤ n ∧ n ≤ 31) (hA : a ≤ 4294967295) (hB : b ≤ 4294967295) (hC : c ≤ 4294967295) (hck : checkF (n + 1) 2 a b c = 0) (ht : Tells 2 a b c) (ad : Option Addr) (cap : Nat) (S : List Nat) (hl : S.length ≤ 140737488351232) (hcap : S.length ≤ cap) (hS : S.length = (m + n) * 2) (hb : Bits S) (w : World) (hx : RowA w ad S) :
    Calls Try.prog 43 #[.agg #[.int .i64 (n + 1), .int .i64 2, .int .u32 a, .int .u32 b, .int .u32 c], .slice ad S.length cap] w (ReadQ 2 a b c n S w) := by
  have HN := hide (new_good (n + 1) 2 a b c hA hB hC hck)
  have HR := hide fun w hx => erow_yes ad cap S hl hb w hx
  have HX := hide hx
  have hq : (S.length : Int) / 2 = (m : Int) + n := by omega
  have hrm : (S.length : Int) % 2 = 0 := by omega
  have hp : 2 ^ n ≤ 2 ^ 31 := Nat.pow_le_pow_right (by omega) (by omega)
  have HSL := hide hS
  have hS1 : (S.length : Int) = ((m : Int) + n) * 2 := by omega
  have HSI := hide hS1
  clear hx hb hck hS hS1
  go_enter Try.func43, Try.ntmps43
  go_wp2_with fail
  refine (HN.out _).mono ?_
  rintro e w1 ⟨g, rfl, hr1, hg1, hb1⟩
  have k1 := bk hb1 w.heap.size (by simp)
  have hz1 := size_mid hb1
  have hk0 : w1.cell? ⟨w.heap.size, 0, none⟩ = some (.int .i64 (n + 1)) := by rw [k1]; simp [go_sem]
  simp at hg1
  have HB1 := hide (below_one hb1)
  have HR1 := hide hr1
  clear hb1 hr1
  go_wp2_with fail
  refine (HR.out _ (HX.out.below HB1.out)).mono ?_
  rintro e w' ⟨rfl, rfl⟩
  go_wp2_with fail
  go_loopw [7, 10, 50] (fun x v i wr => ∃ (k h : Nat) (bs : List Nat), k ≤ m + n ∧ x = .pointer (some ⟨h, 0, none⟩) ∧ i = .int .i64 k ∧ Hid (RdSt 2 a b c n m S w w1 wr k h v bs)) (fun _ _ i _ => m + n - (intOf i).toNat)
  case atStart => exact ⟨0, g, [], by omega, rfl, rfl, RdSt.start HR1.out hg1⟩
  case round =>
    rename_i wr _
    obtain ⟨k, h, bs, hk, rfl, rfl, hs⟩ := hrel
    have HBL := hide hs.out.bel
    have hz2 : w.heap.size < wr.heap.size := Nat.lt_of_lt_of_le hz1 HBL.out.size
    have k2 := bk HBL.out w.heap.size (by omega)
    by_cases hlt : k < m + n
    · have hlen := HSL.out
      obtain ⟨b0, off, rfl, hb0, hcs⟩ := (HX.out.below (HB1.out.trans (HBL.out.mono (by omega)))) (by omega)
      have s0 := hcs (k * 2) (by omega)
      have s1 := hcs (k * 2 + 1) (by omega)
      
      have hblk : blockAt 2 S k = [S.getD (k * 2) 0, S.getD (k * 2 + 1) 0] := block_two (by omega)
      have hi1 : ((k : Int) + 1) * 2 ≤ cap := by omega
      have hi2 : (k : Int) * 2 ≤ ((k : Int) + 1) * 2 := by omega
      have hi3 : ¬ k * 2 = cap := by omega
      have hi4 : (k + 1) * 2 - k * 2 = 2 := by omega
      generalize S.getD (k * 2) 0 = z0 at *
      generalize S.getD (k * 2 + 1) 0 = z1 at *
      
      have HBK := hide hblk
      have hsrc : ∀ (j : Nat) (v : Value), ([.int .u8 z0, .int .u8 z1] : List Value)[j]? = some v → ((wr.alloc (.cells #[.int .u8 0, .int .u8 0, .int .u8 0] 76)).drew).cell? ((⟨b0, off + k * 2, none⟩ : Addr).add j) = some v := fun j v hj => by
        have hq : ((wr.alloc (.cells #[.int .u8 0, .int .u8 0, .int .u8 0] 76)).drew).cell? ((⟨b0, off + k * 2, none⟩ : Addr).add j) = wr.cell? ⟨b0, off + (k * 2 + j), none⟩ := by
          rw [addr_plain, show off + k * 2 + j = off + (k * 2 + j) by omega]
          exact World.cell?_alloc_lt wr _ ⟨b0, off + (k * 2 + j), none⟩ hb0
        match j, hj with
        | 0, hj => exact hq.trans (s0.trans hj)
        | 1, hj => exact hq.trans (s1.trans hj)
        
      have HSRC := hide hsrc
      clear hblk hcs hlen hsrc
      go_upto_region 16 with fail
      go_cut [11, 12] (fun v11 v12 wx => v11 = .int .i64 k ∧ v12 = .pointer (some ⟨wr.heap.size, 0, none⟩) ∧ Hid (wx.heap[wr.heap.size]? = some (.cells #[.int .u8 z0, .int .u8 z1, (.int .u8 0)] 76 (0, 0))) ∧ Hid (Below wr.heap.size wr wx))
      case first =>
        have x1 : IntKind.i64.wrap ((k : Int) + 1) = (k : Int) + 1 := IntWalk.i64_in _ (by omega)
        have x2 : IntKind.i64.wrap (((k : Int) + 1) * 2) = ((k : Int) + 1) * 2 := IntWalk.i64_in _ (by omega)
        have x3 : IntKind.i64.wrap ((k : Int) * 2) = (k : Int) * 2 := IntWalk.i64_in _ (by omega)
        have x4 : ((k : Int) * 2).toNat = k * 2 := by omega
        have x5 : (((k : Int) + 1) * 2).toNat = k * 2 + 2 := by omega
        have x6 : max (((k : Int) + 1) * 2) 0 = ((k : Int) + 1) * 2 := by omega
        have x7 : ¬ cap = k * 2 := by omega
        have x8 : (0 : Int) ≤ ((k : Int) + 1) * 2 := by omega
        have x9 : (0 : Int) ≤ (k : Int) * 2 := by omega
        have x10 : (k : Int) * 2 ≤ (k : Int) * 2 + 2 := by omega
        have x11 : (0 : Int) ≤ (k : Int) * 2 + 2 := by omega
        have x12 : (k : Int) * 2 + 2 ≤ cap := by omega
        have x13 : ((k : Int) * 2 + 2).toNat = k * 2 + 2 := by omega
        have x14 : max ((k : Int) * 2 + 2) 0 = (k : Int) * 2 + 2 := by omega
        have x15 : k * 2 + 2 - k * 2 = 2 := by omega
        clear hi3 hi4
        go_region_law ((refine step_copy_splice rfl (.tmp 54) (.tmp 65) _ _ rfl 5 Try.underlying26 size_u8 _ _ 3 3 2 _ rfl rfl wr.heap.size 0 [.int .u8 0, .int .u8 0, .int .u8 0] 76 (heap_alloc_new wr _) [.int .u8 z0, .int .u8 z1] rfl (fun _ => ⟨rfl, _, rfl, HSRC.out⟩) (by simp) (by simp [Value.oneCell']) wr.heap.size wr (((Below.refl _ _).alloc (Nat.le_refl _) _).drew) (Nat.le_refl _) ?_; intro w2 hw2 hb2))
        all_goals
          go_wp2_with fail
          go_meet
          exact ⟨rfl, rfl, hw2, hb2⟩
      case rest =>
      obtain ⟨rfl, rfl, hw2, hb2⟩ := hcut
      clear hi1 hi2 hi3 hi4 s0 s1 
      have hr2 := hs.out.reg.keep (w' := wc) (hb2.out.block h hs.out.reg.lt)
      have HF := hide (fork_good (n + 1) 2 a b c (stAt n 0 bs k) h (by omega) wc hr2)
      go_wp2_with fail
      refine HF.out.mono ?_
      rintro e w3 ⟨h', rfl, hr3, hh3, hb3⟩
      have hlh := hs.out.reg.lt
      have hst := stAt_lt (n := n) (s := 0) (xs := bs) (Nat.two_pow_pos n) k
      have hw3 : w3.heap[wr.heap.size]? = some (.cells #[.int .u8 z0, .int .u8 z1, (.int .u8 0)] 76 (0, 0)) := (hb3.block wr.heap.size (Array.getElem?_eq_some_iff.1 hw2.out).1).trans hw2.out
      have hrr3 := hr2.below hb3 hr2.lt
      have hbx : Below wr.heap.size wr w3 := hb2.out.trans (hb3.mono hb2.out.size)
      have hw0 : ∀ o, w3.cell? ⟨w.heap.size, o, none⟩ = wr.cell? ⟨w.heap.size, o, none⟩ := bk hbx w.heap.size (by omega)
      have hz3 := hbx.size
      have hwlt := (Array.getElem?_eq_some_iff.1 hw3).1
      have hh4 : h' ≠ h := by have := hr2.lt; omega
      have hh5 : h' ≠ wr.heap.size := by have := (Array.getElem?_eq_some_iff.1 hw2.out).1; omega
      have hh6 : h ≠ wr.heap.size := by omega
      have hgt := hs.out.gt
      have HP0 := hide (push_any n a b c (stAt n 0 bs k) 0 h 2 (.inl rfl) hn hA hB hC (by omega) (by omega) w3.drew (hrr3.keep rfl))
      have HP1 := hide fun W (hW : RegB W h' (n + 1) 2 a b c (stAt n 0 bs k)) => push_any n a b c (stAt n 0 bs k) 1 h' 2 (.inl rfl) hn hA hB hC (by omega) (by omega) W hW
      have hS0 : symK 2 a b c (2 * stAt n 0 bs k) = [outF (2 * stAt n 0 bs k) a, outF (2 * stAt n 0 bs k) b] := rfl
      have hS1 : symK 2 a b c (2 * stAt n 0 bs k + 1) = [outF (2 * stAt n 0 bs k + 1) a, outF (2 * stAt n 0 bs k + 1) b] := rfl
      have ht0 : ∀ q, third 2 q = 0 := fun _ => rfl
      rw [Nat.add_zero, ht0] at HP0
      simp only [ht0] at HP1
      have hz00 : ((0 : Nat) : Int) = 0 := rfl
      rw [hz00] at HP0 HP1
      have hsn := fun x => stAt_snoc (n := n) (x := x) (bs := bs) (k := k) hs.out.dec.len
      have hnx0 := fun hb => hs.out.dec.next (x := 0) (by omega) (.inr rfl) hb
      have hnx1 := fun hm hb => hs.out.dec.next (x := 1) (by omega) (.inl hm) hb
      have hfl := fun h0 h1 (xs : List Nat) (hl : xs.length = m) => hs.out.dec.fail ht (k := k) hlt h0 h1 hl
      rw [Nat.add_zero] at hnx0
      rw [HBK.out] at hnx0 hnx1 hfl
      rw [hS0] at hnx0 hfl
      rw [hS1] at hnx1 hfl
      have HS0 := hide hnx0
      have HS1 := hide hnx1
      have HFL := hide hfl
      have HSN := hide hsn
      clear hnx0 hnx1 hfl hsn ht0 hS0 hS1 hz00 hst hw2 hr2 HF
      generalize outF (2 * stAt n 0 bs k) a = y0 at *
      generalize outF (2 * stAt n 0 bs k) b = y1 at *
      
      generalize outF (2 * stAt n 0 bs k + 1) a = u0 at *
      generalize outF (2 * stAt n 0 bs k + 1) b = u1 at *
      
      have HU := hide fun (u : World) (hu : u.heap[wr.heap.size]? = w3.heap[wr.heap.size]?) (hu2 : u.heap[w.heap.size]? = w3.heap[w.heap.size]?) => want_parts (u := u) (hu.trans hw3) ((World.cell?_of_block (a := ⟨w.heap.size, 0, none⟩) hu2).trans ((hw0 0).trans ((k2 0).trans hk0)))
      have HO3 := hide ((hs.out.own.below hbx))
      have HR3 := hide hrr3
      have HR3' := hide hr3
      have HNE := hide hs.out.ne
      have HNE2 := hide fun q (e : u10.ownBlock = some q) => (show q ≠ h' by have := (hs.out.own.lt e).2; have := hb2.out.size; omega)
      have hgt2 : w.heap.size + 1 ≤ h' := by have := hb2.out.size; omega
      have HBX := hide (hs.out.bel.trans (hbx.mono (by omega)))
      have HDL := hide hs.out.dec.len
      have HW3 := hide hw3
      clear hr3 hrr3 hw3
      by_cases e0 : [y0, y1] = [z0, z1]
      · have hnx := HS0.out e0
        have q := e0
        simp only [List.cons.injEq, and_true] at q
        obtain ⟨rfl, rfl⟩ := q
        clear e0
        have eqr := eq_sym_same y0 y1 0
        have HNX := hide hnx
        clear hnx
        go_wp2_with fail
        go_region_held3 (fun u => u.cell? ⟨wr.heap.size, 0, none⟩ = some (.int .u8 y0) ∧ u.cell? ⟨wr.heap.size, 1, none⟩ = some (.int .u8 y1) ∧ u.cell? ⟨wr.heap.size, 2, none⟩ = some (.int .u8 0) ∧ u.cell? ⟨w.heap.size, 0, none⟩ = some (.int .i64 (n + 1)))
          (first | exact HU.out _ rfl rfl | exact HU.out _ (hg4.block wr.heap.size hwlt (fun e => hh6 (Option.some.inj e).symm)) (hg4.block w.heap.size (Nat.lt_of_lt_of_le hz2 hz3) (fun e => by have := Option.some.inj e; omega)))
          ((go_at_call 42; refine HP0.out.mono ?_; rintro e w4 ⟨rfl, hr4, hg4⟩))
        have HG4 := hide hg4
        have HR4 := hide hr4
        have HO4 := hide (OwnB.grown (w := w3.drew) HO3.out hg4 (fun q e => by have := HNE.out q e; simp; omega))
        clear hg4 hr4
        go_wp2_with (first
          | (at_builtin; refine wpList_appB rfl (.tmp 91) (.tmp 93) rfl w1.heap.size _ bs rfl (HO4.out.alloc _) (some ⟨w4.heap.size, 0, none⟩) 1 1 [0] rfl ?c1 rfl ?c2 ?c3 ?_)
          | go_in)
        case c1 => exact fun _ => ⟨w4.heap.size, 0, rfl, by simp, fun i hi => by
          have : i = 0 := by simp at hi; omega
          subst this; simp [go_sem]⟩
        case c2 => have := HDL.out; simp; omega
        case c3 => have := HG4.out.size; have := HBX.out.size; simp at *; omega
        intro v5 w5 hown5 hgrow5 hat5
        have hd := rd_done HBX.out HG4.out HR4.out HO3.out HNE.out hgt hgt (by omega) hown5 hgrow5 hat5 hz1 _ (by rw [Nat.add_zero]) HNX.out (HSN.out 0)
        go_wp2_with fail
        go_roundw
        case rel => exact ⟨k + 1, h, bs ++ [0], by omega, rfl, by simp, hd⟩
        case measure => simp [intOf]; omega
      · have eqr : ∀ u : World, (Op.equalIn 10000 76 (.agg #[.int .u8 y0, .int .u8 y1, (.int .u8 0)]) (.agg #[.int .u8 z0, .int .u8 z1, (.int .u8 0)])).run Try.prog u = .ok false u := fun u => eq_sym_ne (fun e => e0 (by simp only [List.cons.injEq, and_true] at e ⊢; exact e)) u
        have HE0 := hide e0
        clear e0
        go_wp2_with fail
        go_region_held3 (fun u => u.cell? ⟨wr.heap.size, 0, none⟩ = some (.int .u8 z0) ∧ u.cell? ⟨wr.heap.size, 1, none⟩ = some (.int .u8 z1) ∧ u.cell? ⟨wr.heap.size, 2, none⟩ = some (.int .u8 0) ∧ u.cell? ⟨w.heap.size, 0, none⟩ = some (.int .i64 (n + 1)))
          (first | exact HU.out _ rfl rfl | exact HU.out _ (hg4.block wr.heap.size hwlt (fun e => hh6 (Option.some.inj e).symm)) (hg4.block w.heap.size (Nat.lt_of_lt_of_le hz2 hz3) (fun e => by have := Option.some.inj e; omega)))
          ((go_at_call 42; refine HP0.out.mono ?_; rintro e w4 ⟨rfl, hr4, hg4⟩))
        have hr4' := RegB.grown (w := w3.drew) (HR3'.out.keep rfl) hg4 (by simpa using hh4)
        have HG4 := hide hg4
        have HO4 := hide (OwnB.grown (w := w3.drew) HO3.out hg4 (fun q e => by have := HNE.out q e; simp; omega))
        have hwr4 : w4.heap[wr.heap.size]? = w3.heap[wr.heap.size]? := hg4.block wr.heap.size hwlt (fun e => hh6 (Option.some.inj e).symm)
        have hw4 : w4.heap[w.heap.size]? = w3.heap[w.heap.size]? := hg4.block w.heap.size (Nat.lt_of_lt_of_le hz2 hz3) (fun e => by have := Option.some.inj e; omega)
        have HU4 := hide fun (u : World) (hu : u.heap[wr.heap.size]? = w4.heap[wr.heap.size]?) (hu2 : u.heap[w.heap.size]? = w4.heap[w.heap.size]?) => HU.out u (hu.trans hwr4) (hu2.trans hw4)
        have HP2 := hide (HP1.out w4.drew (hr4'.keep rfl))
        have hz4 : w3.heap.size ≤ w4.heap.size := HG4.out.size
        have hwlt4 : wr.heap.size < w4.heap.size := by omega
        have HB4 := hide ((HBX.out.drew.grown HG4.out (by have := HBX.out.size; show _ ≤ w3.heap.size; omega) (fun q e => by have := Option.some.inj e; omega)))
        have HR4 := hide hr4'
        clear hg4 hwr4 hw4 eqr hr4'
        by_cases e1 : [u0, u1] = [z0, z1]
        · have hsub := e1
          simp only [List.cons.injEq, and_true] at hsub
          obtain ⟨rfl, rfl⟩ := hsub
          have eqr := eq_sym_same u0 u1 0
          by_cases hkm : k < m
          · have hnx := HS1.out hkm rfl
            have HNX := hide hnx
            clear hnx
            have x1 : IntKind.i64.wrap ((m : Int) + n - (n + 1)) = (m : Int) + n - (n + 1) := IntWalk.i64_in _ (by omega)
            have x2 : IntKind.i64.wrap ((m : Int) + n - (n + 1) + 1) = (m : Int) + n - (n + 1) + 1 := IntWalk.i64_in _ (by omega)
            have x3 : (decide ((m : Int) + n - (n + 1) + 1 ≤ k)) = false := by simp; omega
            have x4 : ¬ ((m : Int) + n - (n + 1) + 1 ≤ k) := by omega
            go_wp2_with fail
            go_region_held3 (fun u => u.cell? ⟨wr.heap.size, 0, none⟩ = some (.int .u8 u0) ∧ u.cell? ⟨wr.heap.size, 1, none⟩ = some (.int .u8 u1) ∧ u.cell? ⟨wr.heap.size, 2, none⟩ = some (.int .u8 0) ∧ u.cell? ⟨w.heap.size, 0, none⟩ = some (.int .i64 (n + 1)))
              (first | exact HU4.out _ rfl rfl | exact HU4.out _ (hg6.block wr.heap.size hwlt4 (fun e => hh5 (Option.some.inj e).symm)) (hg6.block w.heap.size (show w.heap.size < w4.heap.size by omega) (fun e => by have := Option.some.inj e; omega)))
              ((go_at_call 42; refine HP2.out.mono ?_; rintro e w6 ⟨rfl, hr6, hg6⟩))

            have HG6 := hide hg6
            have HR6 := hide hr6
            have HO6 := hide (OwnB.grown (w := w4.drew) HO4.out hg6 (fun q e => by have := HNE2.out q e; simp; omega))
            clear hg6 hr6 x1 x2 x3 x4
            go_wp2_with (first
              | (at_builtin; refine wpList_appB rfl (.tmp 91) (.tmp 93) rfl w1.heap.size _ bs rfl (HO6.out.alloc _) (some ⟨w6.heap.size, 0, none⟩) 1 1 [1] rfl ?c1 rfl ?c2 ?c3 ?_)
              | go_in)
            case c1 => exact fun _ => ⟨w6.heap.size, 0, rfl, by simp, fun i hi => by
              have : i = 0 := by simp at hi; omega
              subst this; simp [go_sem]⟩
            case c2 => have := HDL.out; simp; omega
            case c3 => have := HG6.out.size; have := HBX.out.size; simp at *; omega
            intro v5 w5 hown5 hgrow5 hat5
            have hd := rd_done (S := S) HB4.out HG6.out HR6.out HO4.out HNE2.out hgt2 hgt2 HR4.out.lt hown5 hgrow5 hat5 hz1 _ rfl HNX.out (HSN.out 1)
            go_wp2_with fail
            go_roundw
            case rel => exact ⟨k + 1, h', bs ++ [1], by omega, rfl, by simp, hd⟩
            case measure => simp [intOf]; omega
          · have hfl := HFL.out HE0.out (.inr (by omega))
            have HF := hide hfl
            clear hfl
            have x1 : IntKind.i64.wrap ((m : Int) + n - (n + 1)) = (m : Int) + n - (n + 1) := IntWalk.i64_in _ (by omega)
            have x2 : IntKind.i64.wrap ((m : Int) + n - (n + 1) + 1) = (m : Int) + n - (n + 1) + 1 := IntWalk.i64_in _ (by omega)
            have x3 : (decide ((m : Int) + n - (n + 1) + 1 ≤ k)) = true := by simp; omega
            have x4 : ((m : Int) + n - (n + 1) + 1 ≤ k) := by omega
            go_wp2_with fail
            go_region_held3 (fun u => u.cell? ⟨wr.heap.size, 0, none⟩ = some (.int .u8 u0) ∧ u.cell? ⟨wr.heap.size, 1, none⟩ = some (.int .u8 u1) ∧ u.cell? ⟨wr.heap.size, 2, none⟩ = some (.int .u8 0) ∧ u.cell? ⟨w.heap.size, 0, none⟩ = some (.int .i64 (n + 1)))
              (first | exact HU4.out _ rfl rfl | exact HU4.out _ (hg6.block wr.heap.size hwlt4 (fun e => hh5 (Option.some.inj e).symm)) (hg6.block w.heap.size (show w.heap.size < w4.heap.size by omega) (fun e => by have := Option.some.inj e; omega)))
              ((go_at_call 42; refine HP2.out.mono ?_; rintro e w6 ⟨rfl, hr6, hg6⟩))

            have HG6 := hide hg6
            clear hg6 hr6 x1 x2 x3 x4
            go_wp2_with fail
            go_ret3
            exact read_no HF.out HSL.out HB1.out HB4.out HG6.out (by omega) rfl
        · have hfl := HFL.out HE0.out (.inl e1)
          have HF := hide hfl
          have eqr : ∀ u : World, (Op.equalIn 10000 76 (.agg #[.int .u8 u0, .int .u8 u1, (.int .u8 0)]) (.agg #[.int .u8 z0, .int .u8 z1, (.int .u8 0)])).run Try.prog u = .ok false u := fun u => eq_sym_ne (fun e => e1 (by simp only [List.cons.injEq, and_true] at e ⊢; exact e)) u
          clear hfl e1
          go_wp2_with fail
          obtain ⟨p0, p1, p2, p3⟩ := HU4.out w4 rfl rfl
          have HA := hide fun (w6 : World) (hg6 : w4.drew.grownBy w6 (some h')) => HU4.out w6 (hg6.block wr.heap.size hwlt4 (fun e => hh5 (Option.some.inj e).symm)) (hg6.block w.heap.size (show w.heap.size < w4.heap.size by omega) (fun e => by have := Option.some.inj e; omega))
          have HZ := hide (fun (w6 : World) (hg6 : w4.drew.grownBy w6 (some h')) => read_no (e := .returned (.tuple #[.slice none 0 0, .bool false, .int .i64 0])) HF.out HSL.out HB1.out HB4.out hg6 (by omega) rfl)
          clear HU4 HF HSL HB1 HB4 HU HE0 HS0 HS1 HFL HSN HDL HO3 HO4 HR3 HR3' HR4 HNE HNE2 HBX HW3 HG4 HP0 HP1 HBK HBL HSRC hs HX HR HN HSI hq hrm hk0 k1 k2 hw0 hbx hz1 hz2 hz3 hz4 hwlt hwlt4 hh3 hh4 hh5 hh6 hgt hgt2 hlt hlh hg1 hb0 hb2 hb3 HR1 ht hl hcap hn hA hB hC hp
          first | (go_region_with (go_at_call 42; refine HP2.out.mono ?_; rintro e w6 ⟨rfl, hr6, hg6⟩; obtain ⟨q0, q1, q2, q3⟩ := HA.out w6 hg6)) | fail
          all_goals
            have HG6 := hide hg6
            clear hg6 hr6
            go_wp2_with fail
            go_ret3
            exact HZ.out _ HG6.out
    · obtain rfl : k = m + n := by omega
      have hdone := hs.out.dec.done HSL.out
      have hlen := hs.out.dec.len
      obtain ⟨gq, cq, rfl, hq1, hq2, hq3, hq4⟩ := hs.out.own.full (by omega)
      have hown := OwnB.cut hs.out.own rfl (m := m) (by omega)
      have HD := hide hdone
      have HOW := hide hown
      have HBB := hide (HB1.out.trans (HBL.out.mono (by omega)))
      have HHS := hide hs.out
      have hlx : ((bs.length : Nat) : Int) = (m : Int) + n := by omega
      have hcx : (m : Int) ≤ cq := by omega
      have hmx : ((m : Int) + n - (n + 1) + 1).toNat = m := by omega
      have hk0' : wr.cell? ⟨w.heap.size, 0, none⟩ = some (.int .i64 (n + 1)) := (k2 0).trans hk0
      clear hdone hown hlen hq4 hs
      go_wp2_with fail
      go_ret3
      exact .inl ⟨bs.take m, _, HD.out.1, rfl, HOW.out.mono (Nat.le_of_lt hz1), HBB.out⟩
end Go.Proofs.Ytmmngcjnofcmmaa
