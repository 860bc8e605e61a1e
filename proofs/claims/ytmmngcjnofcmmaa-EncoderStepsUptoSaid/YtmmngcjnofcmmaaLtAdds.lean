/- The law EncoderAdds, walked: it returns true. -/
import Derived.Test.YtmmngcjnofcmmaaRows
import Derived.Test.YtmmngcjnofcmmaaAdded
import Derived.Test.YtmmngcjnofcmmaaLtBack
namespace Go.Proofs.Ytmmngcjnofcmmaa
open Go.RowKit

theorem code_start (K R : Int) (a b c : Nat) (w : World) :
    CodeB (w.alloc (.cells #[.int .i64 K, .int .i64 R, .int .u32 a, .int .u32 b, .int .u32 c] 25)) w.heap.size K R a b c ∧ Below w.heap.size w (w.alloc (.cells #[.int .i64 K, .int .i64 R, .int .u32 a, .int .u32 b, .int .u32 c] 25)) ∧ w.heap.size < (w.alloc (.cells #[.int .i64 K, .int .i64 R, .int .u32 a, .int .u32 b, .int .u32 c] 25)).heap.size :=
  ⟨heap_alloc_new w _, (Below.refl _ _).alloc (Nat.le_refl _) _, by simp⟩
theorem own_lit1 (w : World) (x : Nat) : OwnB (w.alloc (.cells #[.int .u8 x] 5)) w.heap.size (.slice (some ⟨w.heap.size, 0, none⟩) 1 1) [x] := World.ownsRow_lit w #[.int .u8 x] 1 (Nat.le_refl _) (by unfold maxLen; omega) rfl
theorem own_lit0 (w : World) : OwnB (w.alloc (.cells #[] 5)) w.heap.size (.slice (some ⟨w.heap.size, 0, none⟩) 0 0) [] := World.ownsRow_lit w #[] 0 (Nat.le_refl _) (by unfold maxLen; omega) rfl
theorem own_lit1d (w : World) (x : Nat) : OwnB (w.alloc (.cells #[.int .u8 x] 5)).drew w.heap.size (.slice (some ⟨w.heap.size, 0, none⟩) 1 1) [x] := own_lit1 w x
theorem own_lit0d (w : World) : OwnB (w.alloc (.cells #[] 5)).drew w.heap.size (.slice (some ⟨w.heap.size, 0, none⟩) 0 0) [] := own_lit0 w
theorem app_below {w w' : World} {o : Obj} {n m : Nat} (h : (w.alloc o).drew.grownBy w' (Value.slice (some ⟨w.heap.size, 0, none⟩) n m).ownBlock) : Below w.heap.size w w' :=
  (((Below.refl _ _).alloc (Nat.le_refl _) o).drew).grown h (by simp) (fun k e => by simp [Value.ownBlock] at e; omega)
theorem encode_n (K R : Int) (a b c : Nat) (hA : a ≤ 4294967295) (hB : b ≤ 4294967295) (hC : c ≤ 4294967295) (ad : Option Addr) (cap : Nat) (xs : List Nat) (n : Nat) (hn : xs.length = n) (hl : n ≤ 1048600) (w : World) (hx : RowA w ad xs) :
    Calls Try.prog 14 #[.agg #[.int .i64 K, .int .i64 R, .int .u32 a, .int .u32 b, .int .u32 c], .slice ad n cap] w fun e w' => ∃ v, e = .returned (.tuple #[v, .int .i64 (encE K R a b c xs)]) ∧ OwnB w' w.heap.size v (encO K R a b c xs) ∧ Below w.heap.size w w' := by
  subst hn
  exact encode_any K R a b c hA hB hC ad cap xs hl w hx
theorem OwnB.rown {w : World} {B : Nat} {v : Value} {xs : List Nat} {n : Nat} (h : OwnB w B v xs) (hn : xs.length = n) : ∃ ad cap, v = .slice ad n cap ∧ RowA w ad xs := by
  subst hn
  obtain ⟨ad, cap, e, r, _⟩ := h.rowc
  exact ⟨ad, cap, e, r⟩
theorem own_lit0s (w : World) (o : Obj) : OwnB ((w.alloc o).drew.alloc (.cells #[] 5)) w.heap.size (.slice (some ⟨w.heap.size + 1, 0, none⟩) 0 0) [] := by
  have h := own_lit0 (w.alloc o).drew
  have e : (w.alloc o).drew.heap.size = w.heap.size + 1 := by simp
  rw [e] at h
  exact h.mono (by omega)
theorem al_below (w : World) (o : Obj) : Below w.heap.size w (w.alloc o).drew := ((Below.refl _ _).alloc (Nat.le_refl _) o).drew
theorem rate_two_three {K R : Int} {a b c : Nat} (h : checkF K R a b c = 0) : R = ((rateN R : Nat) : Int) ∧ rateN R ≤ 3 := by
  obtain ⟨_, rfl, _, _, hR⟩ := good_code h
  rcases hR with rfl | rfl <;> simp [rateN]
theorem adds_facts {K R : Int} {a b c : Nat} {us vs : List Nat} (hl : us.length = vs.length) (e1 : encE K R a b c us = 0) (e2 : encE K R a b c vs = 0) :
    encE K R a b c (zipX us vs) = 0 ∧ encO K R a b c (zipX us vs) = zipX (encO K R a b c us) (encO K R a b c vs) ∧
    encE K R a b c ([0] ++ us) = 0 ∧ encO K R a b c ([0] ++ us) = List.replicate (rateN R) 0 ++ encO K R a b c us ∧
    encE K R a b c (us ++ [0]) = 0 ∧ encO K R a b c (us ++ [0]) = encO K R a b c us ++ List.replicate (rateN R) 0 := by
  obtain ⟨hc, h1⟩ := encE_zero e1
  have h2 := (encE_zero e2).2
  have e3 := encE_good hc (zipX_bits hl h1 h2)
  have e4 : encE K R a b c ([0] ++ us) = 0 := encE_good hc (xs := 0 :: us) (fun i _ => by
    cases i with
    | zero => simp [List.getD]
    | succ i => exact h1.all i)
  have e5 := encE_good hc (xs := us ++ [0]) (fun i _ => by
    rw [getD_snoc]
    have := h1.all i
    split
    · exact this
    · split <;> omega)
  exact ⟨e3, by rw [encO_some e3, encO_some e1, encO_some e2, word_add hl h1 h2], e4, (encO_some e4).trans (by rw [encO_some e1]; exact word_ahead us), e5, by rw [encO_some e5, encO_some e1, word_behind]⟩

theorem app_below0 {w w' : World} {o : Obj} {n m : Nat} (h : (w.alloc o).grownBy w' (Value.slice (some ⟨w.heap.size, 0, none⟩) n m).ownBlock) : Below w.heap.size w w' :=
  ((Below.refl _ _).alloc (Nat.le_refl _) o).grown h (by simp) (fun k e => by simp [Value.ownBlock] at e; omega)
theorem app_below1 {w w1 w2 : World} {v : Value} {xs : List Nat} (hb : Below w.heap.size w w1) (ho : OwnB w1 w.heap.size v xs) (h : w1.grownBy w2 v.ownBlock) : Below w.heap.size w w2 :=
  hb.grown h hb.size (fun _ e => (ho.lt e).1)
theorem wpList_appG {w : World} {ops : Array Oper} {rest : List Oper} {o : Oper} {a : Act} {Q : Exit → Act → World → Prop} (hw : Region.wanted o (yielded ops a.tmps) = true) (s x : Operand)
    (ho : o.op = .call { callee := .builtin .append, args := #[s, x], argTypes := #[26, 26] })
    (B : Nat) (v : Value) (xs : List Nat) (hs : a.eval s = v) (hown : OwnB w B v xs) (ad : Option Addr) (m c : Nat) (ys : List Nat) (hx : a.eval x = .slice ad m c) (hr : RowA w ad ys) (hm : m = ys.length)
    (hb : xs.length + ys.length ≤ 140737488355328) (hB : B ≤ w.heap.size)
    (h : ∀ v' w', OwnB w' B v' (xs ++ ys) → w.grownBy w' v.ownBlock → (v'.ownBlock = v.ownBlock ∨ v'.ownBlock = some w.heap.size) → wpList Try.prog ops Q rest (a.put o.dst v') w') : wpList Try.prog ops Q (o :: rest) a w :=
  wpList_step fun K hK => by rw [if_pos hw]; exact wp_appB s x ho B v xs hs hown ad m c ys hx hr hm hb hB fun v' w' h2 h3 h4 => hK _ _ (h v' w' h2 h3 h4)

set_option maxRecDepth 100000 in
set_option maxHeartbeats 8000000 in
theorem law_adds (K R : Int) (a b c : Nat) (hA : a ≤ 4294967295) (hB : b ≤ 4294967295) (hC : c ≤ 4294967295) (A1 A2 : Option Addr) (c1 c2 : Nat) (xs ys : List Nat) (hc1 : xs.length ≤ c1) (hc2 : ys.length ≤ c2) (hx : xs.length ≤ 1048576) (hy : ys.length ≤ 1048576) (w : World) (rx : RowA w A1 xs) (ry : RowA w A2 ys) :
    Calls Try.prog 3 #[.agg #[.int .i64 K, .int .i64 R, .int .u32 a, .int .u32 b, .int .u32 c], .slice A1 xs.length c1, .slice A2 ys.length c2] w fun e w' => e = .returned (.bool true) ∧ Below w.heap.size w w' := by
  obtain ⟨hcb, hb0, hg0⟩ := code_start K R a b c w
  have HU0 := hide hcb
  have HB00 := hide hb0
  have HX := hide rx
  have HY := hide ry
  clear rx ry hcb hb0 hg0
  go_enter Try.func3, Try.ntmps3
  go_upto_if 22 with fail
  go_cut [1] (fun v1 wx => ∃ (B1 : Option Addr) (k1 : Nat) (us : List Nat), v1 = .slice B1 us.length k1 ∧ Hid (us.length ≤ ys.length ∧ us.length ≤ 1048576) ∧ Hid (RowA w B1 us) ∧ wx = w.alloc (.cells #[.int .i64 K, .int .i64 R, .int .u32 a, .int .u32 b, .int .u32 c] 25))
  case first =>
    by_cases hlt : ys.length < xs.length
    · obtain ⟨b1, o1, rfl, _⟩ := HX.out (by omega)
      have hi2 : (ys.length : Int) ≤ c1 := by omega
      have hl : (xs.take ys.length).length = ys.length := by simp; omega
      have HR := hide (HX.out.take ys.length)
      generalize xs.take ys.length = us at *
      have HL := hide hl
      clear hl
      go_wp2_with fail
      go_meet
      case rel => exact ⟨_, _, us, by rw [HL.out], hide ⟨by rw [HL.out]; omega, by rw [HL.out]; omega⟩, HR, rfl⟩
    · go_wp2_with fail
      go_meet
      case rel => exact ⟨_, _, xs, rfl, hide ⟨by omega, by omega⟩, HX, rfl⟩
  case rest =>
  obtain ⟨B1, k1, us, rfl, hl, HUS, rfl⟩ := hcut
  obtain ⟨hl1, hl2⟩ := hl.out
  have hi3 : (us.length : Int) ≤ c2 := by omega
  have hvl : (ys.take us.length).length = us.length := by simp; omega
  have HVS := hide (HY.out.take us.length)
  generalize ys.take us.length = vs at *
  have HUS1 := hide (HUS.out.below HB00.out)
  have HVS1 := hide (HVS.out.below HB00.out)
  generalize hXe : w.alloc (.cells #[.int .i64 K, .int .i64 R, .int .u32 a, .int .u32 b, .int .u32 c] 25) = X at *
  have HU := hide fun (u : World) (hb : Below X.heap.size X u) => (HU0.out.keep hb HU0.out.lt).cells
  have HB0 := hide HB00.out
  obtain ⟨s0, s1, s2, s3, s4⟩ := HU.out X (Below.refl _ _)
  clear hXe
  by_cases e1 : encE K R a b c us = 0
  · have HG1 := hide fun ad cp w hr => good_yes K R a b c hA hB hC ad cp us (by omega) e1 w hr
    by_cases e2 : encE K R a b c vs = 0
    · have HG2 := fun ad cp w hr => good_yes K R a b c hA hB hC ad cp vs (by omega) e2 w hr
      rw [hvl] at HG2
      have HG2 := hide HG2
      have HO1 := hide fun ad cp w hr => own_any ad cp us (by omega) w hr
      have HO2 := fun ad cp w hr => own_any ad cp vs (by omega) w hr
      rw [hvl] at HO2
      have HO2 := hide HO2
      have HE1 := hide fun ad cp w hr => encode_any K R a b c hA hB hC ad cp us (by omega) w hr
      have HE2 := fun ad cp w hr => encode_any K R a b c hA hB hC ad cp vs (by omega) w hr
      rw [hvl] at HE2
      have HE2 := hide HE2
      have hzl : (zipX us vs).length = us.length := zipX_length _ _
      have HE3 := hide fun ad cp w hr => encode_any K R a b c hA hB hC ad cp (zipX us vs) (by omega) w hr
      have HE4 := hide fun ad cp w hr => encode_n K R a b c hA hB hC ad cp ([0] ++ us) (us.length + 1) (by simp) (by omega) w hr
      have HE5 := hide fun ad cp w hr => encode_n K R a b c hA hB hC ad cp (us ++ [0]) (us.length + 1) (by simp) (by omega) w hr
      obtain ⟨q3, q3o, q4, q4o, q5, q5o⟩ := adds_facts hvl.symm e1 e2
      have hpl := encO_short e1 (by omega)
      have hql : (encO K R a b c vs).length = (encO K R a b c us).length := by rw [encO_length e1, encO_length e2, hvl]
      have hp8 : ∀ i, (encO K R a b c us).getD i 0 ≤ 255 := fun i => Nat.le_trans (encO_le _ _ _ _ _ _ i) (by omega)
      have hq8 : ∀ i, (encO K R a b c vs).getD i 0 ≤ 255 := fun i => Nat.le_trans (encO_le _ _ _ _ _ _ i) (by omega)
      obtain ⟨hR1, hR3⟩ := rate_two_three (encE_zero e1).1
      have HAD := fun ax cx ay cy w hx hy => added_any ax ay cx cy us vs hvl.symm (by omega) (fun i => Nat.le_trans ((encE_zero e1).2.all i) (by omega)) (fun i => Nat.le_trans ((encE_zero e2).2.all i) (by omega)) w hx hy
      rw [hvl] at HAD
      have HAD := hide HAD
      have HAD2 := fun ax cx ay cy w hx hy => added_any ax ay cx cy (encO K R a b c us) (encO K R a b c vs) hql.symm (by omega) hp8 hq8 w hx hy
      have HAD2 := hide HAD2
      have hz2 : (zipX (encO K R a b c us) (encO K R a b c vs)).length = (encO K R a b c us).length := zipX_length _ _
      rw [e1] at HE1
      rw [e2] at HE2
      rw [q3, q3o] at HE3
      rw [q4, q4o] at HE4
      rw [q5, q5o] at HE5
      generalize encO K R a b c us = P at *
      generalize encO K R a b c vs = Q at *
      generalize zipX us vs = zs at *
      generalize hPQ : zipX P Q = Z at *
      generalize rateN R = rn at *
      generalize hZP : List.replicate rn 0 ++ P = ZP at HE4
      generalize hPZ : P ++ List.replicate rn 0 = PZ at HE5
      have HZP := hide hZP
      have HPZ := hide hPZ
      have HPL := hide hpl
      clear hZP hPZ
      have HR1 := hide hR1
      clear hR1
      have HZL := hide hz2
      have HQL := hide hql
      have HVL := hide hvl
      clear hz2 hql hvl q3 q3o q4 q4o q5 q5o hp8 hq8 hzl hPQ e1 e2
      go_wp2_with fail
      refine (HG1.out _ _ _ HUS1.out).mono ?_
      rintro e w1 ⟨rfl, hb1⟩
      have HB1 := hide hb1
      clear hb1 s0 s1 s2 s3 s4
      obtain ⟨s0, s1, s2, s3, s4⟩ := HU.out _ HB1.out
      go_wp2_with fail
      refine (HG2.out _ _ _ (HVS1.out.below HB1.out)).mono ?_
      rintro e w2 ⟨rfl, hb2⟩
      have HB2 := hide (below_then HB1.out hb2)
      clear hb2 s0 s1 s2 s3 s4
      have HUS2 := hide (HUS1.out.below HB2.out)
      have HVS2 := hide (HVS1.out.below HB2.out)
      go_wp2_with fail
      go_region_held3 (fun u => u.cell? ⟨w.heap.size, 0, none⟩ = some (.int .i64 K) ∧ u.cell? ⟨w.heap.size, 1, none⟩ = some (.int .i64 R) ∧ u.cell? ⟨w.heap.size, 2, none⟩ = some (.int .u32 a) ∧ u.cell? ⟨w.heap.size, 3, none⟩ = some (.int .u32 b) ∧ u.cell? ⟨w.heap.size, 4, none⟩ = some (.int .u32 c))
        (first | exact HU.out _ HB2.out.drew | exact HU.out _ (below_then HB2.out.drew hbo) | exact HU.out _ (below_then HB2.out hbo) | exact HU.out _ (below_then (below_then HB2.out.drew hbo) hbe) | exact HU.out _ (below_then (below_then HB2.out hbo) hbe) | exact HU.out _ (below_then HB2.out (al_below _ _)))
        ((first
          | (go_at_call 14; refine (HE1.out _ _ _ hlo.rowx).mono ?_; rintro e w4 ⟨v4, rfl, ho, hbe⟩)
          | (go_at_call 15; refine (HO1.out _ _ _ (HUS1.out.below HB2.out.drew)).mono ?_; rintro e w3 ⟨L, cl, rfl, hlo, hbo⟩)))
      have HB4 := hide (by first | exact below_then (below_then HB2.out.drew hbo) hbe | exact below_then (below_then HB2.out hbo) hbe : Below X.heap.size X _)
      have DB := hide (by first | exact below_then ((Below.refl _ _).drew) (below_then hbo hbe) | exact below_then hbo hbe)
      obtain ⟨ap, cp, rfl, r0_, _, _⟩ := ho.rowc
      have RP := hide r0_
      clear r0_ ho
      have HVS2n := hide (HVS2.out.below DB.out)
      clear HVS2
      have HVS2 := HVS2n
      clear HVS2n
      have HUS2n := hide (HUS2.out.below DB.out)
      clear HUS2
      have HUS2 := HUS2n
      clear HUS2n
      clear hlo hbo hbe DB
      go_wp2_with fail
      go_region_held3 (fun u => u.cell? ⟨w.heap.size, 0, none⟩ = some (.int .i64 K) ∧ u.cell? ⟨w.heap.size, 1, none⟩ = some (.int .i64 R) ∧ u.cell? ⟨w.heap.size, 2, none⟩ = some (.int .u32 a) ∧ u.cell? ⟨w.heap.size, 3, none⟩ = some (.int .u32 b) ∧ u.cell? ⟨w.heap.size, 4, none⟩ = some (.int .u32 c))
        (first | exact HU.out _ HB4.out.drew | exact HU.out _ (below_then HB4.out.drew hbo) | exact HU.out _ (below_then HB4.out hbo) | exact HU.out _ (below_then (below_then HB4.out.drew hbo) hbe) | exact HU.out _ (below_then (below_then HB4.out hbo) hbe) | exact HU.out _ (below_then HB4.out (al_below _ _)))
        ((first
          | (go_at_call 14; refine (HE2.out _ _ _ hlo.rowx).mono ?_; rintro e w6 ⟨v6, rfl, ho, hbe⟩)
          | (go_at_call 15; refine (HO2.out _ _ _ (HVS1.out.below HB4.out.drew)).mono ?_; rintro e w5 ⟨L, cl, rfl, hlo, hbo⟩)))
      have HB6 := hide (by first | exact below_then (below_then HB4.out.drew hbo) hbe | exact below_then (below_then HB4.out hbo) hbe : Below X.heap.size X _)
      have DB := hide (by first | exact below_then ((Below.refl _ _).drew) (below_then hbo hbe) | exact below_then hbo hbe)
      obtain ⟨aq, cq, rfl, r0_, _, _⟩ := ho.rowc
      have RQ := hide r0_
      clear r0_ ho
      have RPn := hide (RP.out.below DB.out)
      clear RP
      have RP := RPn
      clear RPn
      have HVS2n := hide (HVS2.out.below DB.out)
      clear HVS2
      have HVS2 := HVS2n
      clear HVS2n
      have HUS2n := hide (HUS2.out.below DB.out)
      clear HUS2
      have HUS2 := HUS2n
      clear HUS2n
      clear hlo hbo hbe DB
      go_wp2_with fail
      go_region_held3 (fun u => u.cell? ⟨w.heap.size, 0, none⟩ = some (.int .i64 K) ∧ u.cell? ⟨w.heap.size, 1, none⟩ = some (.int .i64 R) ∧ u.cell? ⟨w.heap.size, 2, none⟩ = some (.int .u32 a) ∧ u.cell? ⟨w.heap.size, 3, none⟩ = some (.int .u32 b) ∧ u.cell? ⟨w.heap.size, 4, none⟩ = some (.int .u32 c))
        (first | exact HU.out _ HB6.out.drew | exact HU.out _ (below_then HB6.out.drew hbo) | exact HU.out _ (below_then HB6.out hbo) | exact HU.out _ (below_then (below_then HB6.out.drew hbo) hbe) | exact HU.out _ (below_then (below_then HB6.out hbo) hbe) | exact HU.out _ (below_then HB6.out (al_below _ _)))
        ((first
          | (go_at_call 14; obtain ⟨az0, cz0, rfl, rz0, _, _⟩ := hlo.rowc; refine (HE3.out _ _ _ rz0).mono ?_; rintro e w8 ⟨v8, rfl, ho, hbe⟩)
          | (go_at_call 16; refine (HAD.out _ _ _ _ _ (HUS2.out.below (Below.refl _ _).drew) (HVS2.out.below (Below.refl _ _).drew)).mono ?_; rintro e w7 ⟨va, rfl, hlo, hbo⟩)))
      have HB8 := hide (by first | exact below_then (below_then HB6.out.drew hbo) hbe | exact below_then (below_then HB6.out hbo) hbe : Below X.heap.size X _)
      have DB := hide (by first | exact below_then ((Below.refl _ _).drew) (below_then hbo hbe) | exact below_then hbo hbe)
      obtain ⟨az, cz, rfl, r0_, _, _⟩ := ho.rowc
      have RZ := hide r0_
      clear r0_ ho
      have RPn := hide (RP.out.below DB.out)
      clear RP
      have RP := RPn
      clear RPn
      have RQn := hide (RQ.out.below DB.out)
      clear RQ
      have RQ := RQn
      clear RQn
      have HUS2n := hide (HUS2.out.below DB.out)
      clear HUS2
      have HUS2 := HUS2n
      clear HUS2n
      clear hlo hbo hbe DB
      go_wp2_with fail
      have bPQ : ((P.length : Int) != (Q.length : Int)) = false := by have := HQL.out; simp [this]
      refine (num_any _ _).mono ?_
      rintro e w' ⟨rfl, rfl⟩
      go_wp2_with fail
      refine (num_any _ _).mono ?_
      rintro e w' ⟨rfl, rfl⟩
      go_wp2_with fail
      refine (num_any _ _).mono ?_
      rintro e w' ⟨rfl, rfl⟩
      go_wp2_with fail
      refine (HAD2.out _ _ _ _ _ RP.out RQ.out).mono ?_
      rintro e w9 ⟨v9, rfl, ho, hb9⟩
      have HB9 := hide (below_then HB8.out hb9)
      have DB := hide hb9
      obtain ⟨asm, csm, rfl, r0_, _, _⟩ := ho.rowc
      have RS := hide r0_
      clear r0_ ho
      have RPn := hide (RP.out.below DB.out)
      clear RP
      have RP := RPn
      clear RPn
      have RZn := hide (RZ.out.below DB.out)
      clear RZ
      have RZ := RZn
      clear RZn
      have HUS2n := hide (HUS2.out.below DB.out)
      clear HUS2
      have HUS2 := HUS2n
      clear HUS2n
      clear hb9 DB
      go_wp2_with fail
      refine (same_yes _ _ _ _ _ _ Z rfl rfl _ RS.out RZ.out).mono ?_
      rintro e w' ⟨rfl, rfl⟩
      obtain ⟨s0, s1, s2, s3, s4⟩ := HU.out _ HB9.out
      have hrn : rn ≤ 140737488355328 := by omega
      go_wp2_with (first
        | (at_make; refine wpList_makeB rfl _ _ rfl w9.heap.size _ _ rn rfl rfl ?m1 ?m2 ?m3 ?m4 ?_)
        | go_in)
      case m1 => first | rfl | exact HR1.out
      case m2 => first | rfl | exact HR1.out
      case m3 => exact hrn
      case m4 => exact Nat.le_refl _
      intro w10 hown10 hg10 hz10
      have hb10 : Below w9.heap.size w9 w10 := (Below.refl _ _).grown hg10 (Nat.le_refl _) (fun k e => by cases e)
      have HB10 := hide (below_then HB9.out hb10)
      have DB := hide hb10
      obtain ⟨a0, cp0, ev0, r0_, _, _⟩ := hown10.rowc
      have RPn := hide (RP.out.below DB.out)
      clear RP
      have RP := RPn
      clear RPn
      have HUS2n := hide (HUS2.out.below DB.out)
      clear HUS2
      have HUS2 := HUS2n
      clear HUS2n
      have RZZ := hide r0_
      clear r0_ hown10 hg10 hb10 DB s0 s1 s2 s3 s4
      obtain ⟨s0, s1, s2, s3, s4⟩ := HU.out _ HB10.out
      go_wp2_with fail
      go_region_held3 (fun u => u.cell? ⟨w.heap.size, 0, none⟩ = some (.int .i64 K) ∧ u.cell? ⟨w.heap.size, 1, none⟩ = some (.int .i64 R) ∧ u.cell? ⟨w.heap.size, 2, none⟩ = some (.int .u32 a) ∧ u.cell? ⟨w.heap.size, 3, none⟩ = some (.int .u32 b) ∧ u.cell? ⟨w.heap.size, 4, none⟩ = some (.int .u32 c))
        (first | exact HU.out _ HB10.out.drew | exact HU.out _ (below_then HB10.out.drew hbo) | exact HU.out _ (below_then HB10.out hbo) | exact HU.out _ (below_then (below_then HB10.out.drew hbo) hbe) | exact HU.out _ (below_then (below_then HB10.out hbo) hbe) | exact HU.out _ (below_then HB10.out (al_below _ _)))
        ((first
          | (go_at_call 14; obtain ⟨ax, cx, rfl, rx_⟩ := ho2.rown (n := us.length + 1) (by simp); refine (HE4.out _ _ _ rx_).mono ?_; rintro e w12 ⟨v12, rfl, ho, hbe⟩)
          | (refine step_appB rfl (.tmp 97) (.tmp 98) rfl w10.heap.size (.slice (some ⟨w10.heap.size, 0, none⟩) 1 1) [0] rfl (own_lit1d w10 0) B1 us.length k1 us rfl (HUS2.out.below (al_below w10 _)) rfl (by simp; omega) (by simp) ?_; intro v11 w11 ho2 hg2 _; have hbo := app_below hg2)))
      have HB12 := hide (by first | exact below_then (below_then HB10.out.drew hbo) hbe | exact below_then (below_then HB10.out hbo) hbe : Below X.heap.size X _)
      have DB := hide (by first | exact below_then ((Below.refl _ _).drew) (below_then hbo hbe) | exact below_then hbo hbe)
      obtain ⟨av, cv, rfl, r0_, _, _⟩ := ho.rowc
      have RV := hide r0_
      clear r0_ ho
      have RPn := hide (RP.out.below DB.out)
      clear RP
      have RP := RPn
      clear RPn
      have RZZn := hide (RZZ.out.below DB.out)
      clear RZZ
      have RZZ := RZZn
      clear RZZn
      have HUS2n := hide (HUS2.out.below DB.out)
      clear HUS2
      have HUS2 := HUS2n
      clear HUS2n
      clear ho2 hg2 hbo hbe DB s0 s1 s2 s3 s4
      obtain ⟨s0, s1, s2, s3, s4⟩ := HU.out _ HB12.out
      go_upto_region 13 with fail
      go_cut [16, 17] (fun v16 v17 wx => ∃ (aw : Option Addr) (cw : Nat), v16 = .slice aw PZ.length cw ∧ v17 = .int .i64 0 ∧ Hid (RowA wx aw PZ) ∧ Hid (Below w12.heap.size w12 wx))
      case first =>
        go_region_held3 (fun u => u.cell? ⟨w.heap.size, 0, none⟩ = some (.int .i64 K) ∧ u.cell? ⟨w.heap.size, 1, none⟩ = some (.int .i64 R) ∧ u.cell? ⟨w.heap.size, 2, none⟩ = some (.int .u32 a) ∧ u.cell? ⟨w.heap.size, 3, none⟩ = some (.int .u32 b) ∧ u.cell? ⟨w.heap.size, 4, none⟩ = some (.int .u32 c))
          (first | (refine HU.out _ (below_then HB12.out ?_); (repeat (first | exact Below.refl _ _ | refine Below.drew ?_ | refine Below.alloc ?_ (by simp <;> omega) _)); done) | (refine HU.out _ (below_then (below_then HB12.out hbo) ?_); (repeat (first | exact Below.refl _ _ | refine Below.drew ?_ | refine Below.alloc ?_ (by simp <;> omega) _)); done) | (refine HU.out _ (below_then (below_then HB12.out hbp) ?_); (repeat (first | exact Below.refl _ _ | refine Below.drew ?_ | refine Below.alloc ?_ (by simp <;> omega) _)); done) | exact HU.out _ (below_then (below_then HB12.out hbp) hbe))
          ((first
            | (go_at_call 14; obtain ⟨ay, cy, rfl, ry_⟩ := ho4.rown (n := us.length + 1) (by simp); refine (HE5.out _ _ _ ry_).mono ?_; rintro e w15 ⟨v15, rfl, ho, hbe⟩)
            | (refine step_appB rfl (.tmp 105) (.tmp 106) rfl w12.heap.size (.slice (some ⟨w12.heap.size, 0, none⟩) 0 0) [] rfl (OwnB.below (own_lit0 w12) (by (repeat (first | exact Below.refl _ _ | refine Below.drew ?_ | refine Below.alloc ?_ (by simp <;> omega) _)))) B1 us.length k1 us rfl (HUS2.out.below (by (repeat (first | exact Below.refl _ _ | refine Below.drew ?_ | refine Below.alloc ?_ (by simp <;> omega) _)))) rfl (by simp; omega) (by simp <;> omega) ?_
               intro v13 w13 ho3 hg3 _
               have hbo : Below w12.heap.size w12 w13 := by
                 refine Below.grown (a := w12) ?_ hg3 (by simp <;> omega) (fun k e => by simp [Value.ownBlock] at e; omega)
                 (repeat (first | exact Below.refl _ _ | refine Below.drew ?_ | refine Below.alloc ?_ (by simp <;> omega) _)))
            | (refine step_appB rfl (.tmp 105) (.tmp 106) rfl w12.heap.size (.slice (some ⟨w12.heap.size + 1, 0, none⟩) 0 0) [] rfl (OwnB.below (own_lit0s w12 _) (by (repeat (first | exact Below.refl _ _ | refine Below.drew ?_ | refine Below.alloc ?_ (by simp <;> omega) _)))) B1 us.length k1 us rfl (HUS2.out.below (by (repeat (first | exact Below.refl _ _ | refine Below.drew ?_ | refine Below.alloc ?_ (by simp <;> omega) _)))) rfl (by simp; omega) (by simp <;> omega) ?_
               intro v13 w13 ho3 hg3 _
               have hbo : Below w12.heap.size w12 w13 := by
                 refine Below.grown (a := w12) ?_ hg3 (by simp <;> omega) (fun k e => by simp [Value.ownBlock] at e; omega)
                 (repeat (first | exact Below.refl _ _ | refine Below.drew ?_ | refine Below.alloc ?_ (by simp <;> omega) _)))
            | (refine step_appB rfl (.tmp 107) (.tmp 108) rfl w12.heap.size v13 ([] ++ us) rfl (OwnB.below ho3 (by (repeat (first | exact Below.refl _ _ | refine Below.drew ?_ | refine Below.alloc ?_ (by simp <;> omega) _)))) (some ⟨w13.heap.size, 0, none⟩) 1 1 [0] rfl (RowA.below (RowA.litAt w13 [0] 5 rfl) (by (repeat (first | exact Below.refl _ _ | refine Below.drew ?_ | refine Below.alloc ?_ (by simp <;> omega) _)))) rfl (by simp; omega) (by have := hbo.size; first | assumption | (simp; omega)) ?_
               intro v14 w14 ho4 hg4 _
               have hbp : Below w12.heap.size w12 w14 := by
                 refine Below.grown (a := w12) (below_then hbo ?_) hg4 (by have := hbo.size; first | assumption | (simp; omega)) (fun k e => (ho3.lt e).1)
                 (repeat (first | exact Below.refl _ _ | refine Below.drew ?_ | refine Below.alloc ?_ (by simp <;> omega) _)))
            | (refine step_appB rfl (.tmp 107) (.tmp 108) rfl w12.heap.size v13 ([] ++ us) rfl (OwnB.below ho3 (by (repeat (first | exact Below.refl _ _ | refine Below.drew ?_ | refine Below.alloc ?_ (by simp <;> omega) _)))) (some ⟨w12.heap.size + 1, 0, none⟩) 1 1 [0] rfl (RowA.below (RowA.grown (RowA.below (RowA.litAt (w12.alloc (.cells #[] 5)).drew [0] 5 (by simp)) (by (repeat (first | exact Below.refl _ _ | refine Below.drew ?_ | refine Below.alloc ?_ (by simp <;> omega) _)))) hg3 (fun b off e h => by simp [Value.ownBlock] at e h; omega)) (by (repeat (first | exact Below.refl _ _ | refine Below.drew ?_ | refine Below.alloc ?_ (by simp <;> omega) _)))) rfl (by simp; omega) (by have := hbo.size; first | assumption | (simp; omega)) ?_
               intro v14 w14 ho4 hg4 _
               have hbp : Below w12.heap.size w12 w14 := by
                 refine Below.grown (a := w12) (below_then hbo ?_) hg4 (by have := hbo.size; first | assumption | (simp; omega)) (fun k e => (ho3.lt e).1)
                 (repeat (first | exact Below.refl _ _ | refine Below.drew ?_ | refine Below.alloc ?_ (by simp <;> omega) _)))
            | (refine step_appB rfl (.tmp 107) (.tmp 108) rfl w12.heap.size v13 ([] ++ us) rfl (OwnB.below ho3 (by (repeat (first | exact Below.refl _ _ | refine Below.drew ?_ | refine Below.alloc ?_ (by simp <;> omega) _)))) (some ⟨w12.heap.size, 0, none⟩) 1 1 [0] rfl (RowA.below (RowA.grown (RowA.below (RowA.litAt w12 [0] 5 rfl) (by (repeat (first | exact Below.refl _ _ | refine Below.drew ?_ | refine Below.alloc ?_ (by simp <;> omega) _)))) hg3 (fun b off e h => by simp [Value.ownBlock] at e h; omega)) (by (repeat (first | exact Below.refl _ _ | refine Below.drew ?_ | refine Below.alloc ?_ (by simp <;> omega) _)))) rfl (by simp; omega) (by have := hbo.size; first | assumption | (simp; omega)) ?_
               intro v14 w14 ho4 hg4 _
               have hbp : Below w12.heap.size w12 w14 := by
                 refine Below.grown (a := w12) (below_then hbo ?_) hg4 (by have := hbo.size; first | assumption | (simp; omega)) (fun k e => (ho3.lt e).1)
                 (repeat (first | exact Below.refl _ _ | refine Below.drew ?_ | refine Below.alloc ?_ (by simp <;> omega) _)))))
        all_goals
          go_wp2_with fail
          go_meet
          case rel =>
            obtain ⟨aw, cw, rfl, rw_, _, _⟩ := ho.rowc
            exact ⟨aw, cw, rfl, rfl, hide rw_, hide (below_then hbp hbe)⟩
      case rest =>
        obtain ⟨aw, cw, rfl, rfl, RW, BW⟩ := hcut
        generalize wc = w16 at *
        have HB16 := hide (below_then HB12.out BW.out)
        have RP16 := hide (RP.out.below BW.out)
        have RV16 := hide (RV.out.below BW.out)
        have RZ16 := hide (RZZ.out.below BW.out)
        clear BW RP RV RZZ s0 s1 s2 s3 s4
        go_wp2_with fail
        refine (num_any _ _).mono ?_
        rintro e w' ⟨rfl, rfl⟩
        go_wp2_with fail
        refine (num_any _ _).mono ?_
        rintro e w' ⟨rfl, rfl⟩
        go_wp2_with (first
          | (at_builtin; refine wpList_appG (by (first | rfl | (simp [Region.wanted, yielded, go_sem]))) (.tmp 123) (.tmp 124) rfl w16.heap.size (.slice (some ⟨w16.heap.size, 0, none⟩) 0 0) [] rfl (own_lit0 w16) a0 rn cp0 (List.replicate rn 0) rfl (RZ16.out.below ((Below.refl _ _).alloc (Nat.le_refl _) _)) (by simp) (by simp; omega) (by simp) ?_)
          | go_in)
        intro v17 w17 ho17 hg17 _
        have HB17 := hide (app_below0 hg17)
        have HO17 := hide ho17
        clear ho17 hg17
        go_wp2_with (first
          | (at_builtin; refine wpList_appG (by (first | rfl | (simp [Region.wanted, yielded, go_sem]))) (.tmp 125) (.tmp 126) rfl w16.heap.size v17 ([] ++ List.replicate rn 0) rfl HO17.out ap P.length cp P rfl (RP16.out.below HB17.out) rfl (by simp; omega) HB17.out.size ?_)
          | go_in)
        intro v18 w18 ho18 hg18 _
        have HB18 := hide (app_below1 HB17.out HO17.out hg18)
        first | rw [HZP.out] at ho18 | rw [List.nil_append, HZP.out] at ho18
        obtain ⟨ax, cx, rfl, rx_, _, _⟩ := ho18.rowc
        have RX := hide rx_
        clear ho18 hg18 HO17 rx_
        go_wp2_with fail
        refine (same_yes _ _ _ _ _ _ ZP rfl rfl _ (RV16.out.below HB18.out) RX.out).mono ?_
        rintro e w' ⟨rfl, rfl⟩
        have RP18 := hide (RP16.out.below HB18.out)
        have RZ18 := hide (RZ16.out.below HB18.out)
        have RW18 := hide (RW.out.below HB18.out)
        have HB18x := hide (below_then HB16.out HB18.out)
        clear RP16 RZ16 RW RX RV16 HB17 HB18
        go_wp2_with (first
          | (at_builtin; refine wpList_appG (by (first | rfl | (simp [Region.wanted, yielded, go_sem]))) (.tmp 132) (.tmp 133) rfl w18.heap.size (.slice (some ⟨w18.heap.size, 0, none⟩) 0 0) [] rfl (own_lit0 w18) ap P.length cp P rfl (RP18.out.below ((Below.refl _ _).alloc (Nat.le_refl _) _)) rfl (by simp; omega) (by simp) ?_)
          | go_in)
        intro v19 w19 ho19 hg19 _
        have HB19 := hide (app_below0 hg19)
        have HO19 := hide ho19
        clear ho19 hg19
        go_wp2_with (first
          | (at_builtin; refine wpList_appG (by (first | rfl | (simp [Region.wanted, yielded, go_sem]))) (.tmp 134) (.tmp 135) rfl w18.heap.size v19 ([] ++ P) rfl HO19.out a0 rn cp0 (List.replicate rn 0) rfl (RZ18.out.below HB19.out) (by simp) (by simp; omega) HB19.out.size ?_)
          | go_in)
        intro v20 w20 ho20 hg20 _
        have HB20 := hide (app_below1 HB19.out HO19.out hg20)
        first | rw [HPZ.out] at ho20 | rw [List.nil_append, HPZ.out] at ho20
        obtain ⟨ay, cy, rfl, ry_, _, _⟩ := ho20.rowc
        have RY := hide ry_
        clear ho20 hg20 HO19 ry_
        go_wp2_with fail
        refine (same_yes _ _ _ _ _ _ PZ rfl rfl _ (RW18.out.below HB20.out) RY.out).mono ?_
        rintro e w' ⟨rfl, rfl⟩
        have HB20x := hide (below_then HB18x.out HB20.out)
        go_wp2_with fail
        refine (live_any _).mono ?_
        rintro e wl ⟨rfl, hbl⟩
        go_wp2_with fail
        go_ret
        exact ⟨rfl, below_then (below_then HB0.out HB20x.out) hbl⟩

    · have HG2 := fun ad cp w hr => good_no K R a b c hA hB hC ad cp vs (by omega) e2 w hr
      rw [hvl] at HG2
      have HG2 := hide HG2
      clear e1 e2 hvl
      go_wp2_with fail
      refine (HG1.out _ _ _ HUS1.out).mono ?_
      rintro e w1 ⟨rfl, hb1⟩
      have HB1 := hide hb1
      clear hb1 s0 s1 s2 s3 s4
      obtain ⟨s0, s1, s2, s3, s4⟩ := HU.out _ HB1.out
      go_wp2_with fail
      refine (HG2.out _ _ _ (HVS1.out.below HB1.out)).mono ?_
      rintro e w2 ⟨rfl, hb2⟩
      have HB2 := hide (below_then HB1.out hb2)
      go_wp2_with fail
      refine (live_any _).mono ?_
      rintro e wl ⟨rfl, hbl⟩
      go_wp2_with fail
      go_ret
      exact ⟨rfl, below_then (below_then HB0.out HB2.out) hbl⟩

  · have HG1 := hide fun ad cp w hr => good_no K R a b c hA hB hC ad cp us (by omega) e1 w hr
    clear e1 hvl
    go_wp2_with fail
    refine (HG1.out _ _ _ HUS1.out).mono ?_
    rintro e w1 ⟨rfl, hb1⟩
    have HB1 := hide hb1
    go_wp2_with fail
    refine (live_any _).mono ?_
    rintro e wl ⟨rfl, hbl⟩
    go_wp2_with fail
    go_ret
    exact ⟨rfl, below_then (below_then HB0.out HB1.out) hbl⟩


end Go.Proofs.Ytmmngcjnofcmmaa
