/- Single calls of EncoderPlays: what each leaves of the state. -/
import Derived.Test.YtmmngcjnofcmmaaRows
import Derived.Test.YtmmngcjnofcmmaaPlayMk
import Derived.Test.YtmmngcjnofcmmaaGood
namespace Go.Proofs.Ytmmngcjnofcmmaa
open Go.RowKit
def Gh.putA (d : Gh) (k s : Nat) (y : Value) (ys : List Nat) : Gh := { d with S := updV d.S k s, q := d.q + 1, vs := updV d.vs d.q y, cs := updV d.cs d.q ys, lab := fun g => if y.ownBlock = some g then 3 * d.q + 4 else d.lab g }
def Gh.putB (d : Gh) (k : Nat) (X' : List Nat) (v' : Value) : Gh := { d with X := updV d.X k X', V := updV d.V k v', lab := fun g => if v'.ownBlock = some g then 5 else d.lab g }
def Gh.push (d : Gh) (H : Nat) : Gh := { d with p := d.p + 1, lab := fun g => if g = H + 1 then 2 else d.lab g }
def Gh.forkA (d : Gh) (g s H : Nat) : Gh := { d with m := d.m + 1, G := updV d.G d.m g, S := updV d.S d.m s, lab := fun x => if x = g then 3 * d.m + 3 else if x = H + 1 then 0 else d.lab x }
def Gh.forkB (d : Gh) (k H : Nat) : Gh := { d with mb := d.mb + 1, X := updV d.X d.mb (d.X k), V := updV d.V d.mb (d.V k), lab := fun g => if g = H + 1 then 1 else d.lab g }
theorem bits_snoc {xs : List Nat} {x : Nat} (h : Bits xs) (hx : x ≤ 1) : Bits (xs ++ [x]) := fun i hi => by
  rw [List.length_append, List.length_singleton] at hi
  rw [List.getD_eq_getElem?_getD]
  by_cases e : i < xs.length
  · rw [List.getElem?_append_left e, ← List.getD_eq_getElem?_getD]; exact h i e
  · rw [List.getElem?_append_right (by omega), show i - xs.length = 0 by omega]; exact hx
section
variable {n r a b c : Nat} {w u : World} {va vb vl : Value} {d : Gh}
/-- an encoder's Put -/
theorem PlaySt.eput (hr : r = 2 ∨ r = 3) (hn : 2 ≤ n ∧ n ≤ 31) (hA : a ≤ 4294967295) (hB : b ≤ 4294967295) (hC : c ≤ 4294967295) (h : PlaySt n r a b c w u va vb vl d) {k x : Nat} (hk : k < d.m) (hx : x ≤ 1) :
    Calls Try.prog 22 #[.pointer (some ⟨d.G k, 0, none⟩), .int .u8 x] u.drew fun e u' => ∃ y, e = .returned (.tuple #[y, .int .i64 0]) ∧ PlaySt n r a b c w u' va vb vl (d.putA k ((2 * d.S k + x) % 2 ^ n) y (symK r a b c (2 * d.S k + x))) := by
  have hD := h.next ((Below.refl _ _).drew)
  have hsl := h.sl k hk
  have hp31 : 2 ^ n ≤ 2 ^ 31 := Nat.pow_le_pow_right (by omega) hn.2
  exact (eput_any n a b c (d.S k) x (d.G k) r (by omega) hn hA hB hC (by omega) hx u.drew (hD.ra k hk)).mono (fun e u' ⟨y, he, hy, hr', hg⟩ => ⟨y, he, hD.setA hk hr' (Nat.mod_lt _ (Nat.two_pow_pos n)) hg hy (by rw [symK_rate]; unfold rateN; split <;> omega)⟩)
/-- a Put of more than a bit -/
theorem PlaySt.ebad (h : PlaySt n r a b c w u va vb vl d) {k x : Nat} (hk : k < d.m) (hx : 1 < x) :
    Calls Try.prog 22 #[.pointer (some ⟨d.G k, 0, none⟩), .int .u8 x] u.drew fun e u' => ∃ y, y = .slice none 0 0 ∧ e = .returned (.tuple #[y, .int .i64 10]) ∧ PlaySt n r a b c w u' va vb vl (d.putA k (d.S k) y []) := by
  have hD := h.next ((Below.refl _ _).drew)
  refine (eput_bit (n + 1) r a b c (d.S k) (d.G k) x (by omega) hx u.drew (hD.ra k hk)).mono ?_
  rintro e u' ⟨he, rfl⟩
  exact ⟨_, rfl, he, hD.setA hk (hD.ra k hk) (h.sl k hk) (World.grownBy.refl _ _) (OwnB.nil _ _) (by simp)⟩
/-- the reference's Put of more than a bit -/
theorem PlaySt.rbad (h : PlaySt n r a b c w u va vb vl d) (gb o x : Nat) (hx : 1 < x) (hx2 : x ≤ 255) :
    Calls Try.prog 30 #[.pointer (some ⟨gb, o, none⟩), .int .u8 x] u.drew fun e u' => e = .returned (.tuple #[.slice none 0 0, .int .i64 10]) ∧ PlaySt n r a b c w u' va vb vl d := by
  have hD := h.next ((Below.refl _ _).drew)
  refine (rput6_bad gb o x hx hx2 u.drew).mono ?_
  rintro e u' ⟨he, rfl⟩
  exact ⟨he, hD⟩
/-- Reset -/
theorem PlaySt.reset (h : PlaySt n r a b c w u va vb vl d) {k : Nat} (hk : k < d.m) :
    Calls Try.prog 32 #[.pointer (some ⟨d.G k, 0, none⟩)] u fun e u' => e = .returned (.tuple #[]) ∧ PlaySt n r a b c w u' va vb vl (d.putA k 0 (.slice none 0 0) []) := by
  refine (reset_good (n + 1) r a b c (d.S k) (d.G k) (by omega) u (h.ra k hk)).mono ?_
  rintro e u' ⟨he, hr', hg⟩
  exact ⟨he, h.setA hk hr' (Nat.two_pow_pos n) hg (OwnB.nil _ _) (by simp)⟩
/-- the reference's Put -/
theorem PlaySt.rput (hr : r = 2 ∨ r = 3) (hn : 2 ≤ n ∧ n ≤ 31) (hA : a ≤ 4294967295) (hB : b ≤ 4294967295) (hC : c ≤ 4294967295) (hck : checkF (n + 1) r a b c = 0) {gb m cb : Nat} (h : PlaySt n r a b c w u va (.slice (some ⟨gb, 0, none⟩) m cb) vl d) {k x o : Nat} (hk : k < m) (hm : d.mb = m) (hl : (d.X k).length + 1 ≤ 140737488351232) (hx : x ≤ 1) (ho : o = 6 * k) :
    Calls Try.prog 30 #[.pointer (some ⟨gb, o, none⟩), .int .u8 x] u.drew fun e u' => ∃ v v2, e = .returned (.tuple #[v, .int .i64 0]) ∧ PlaySt n r a b c w u' va (.slice (some ⟨gb, 0, none⟩) m cb) vl (d.putB k (d.X k ++ [x]) v2) ∧ OwnB u' w.heap.size v (symK r a b c (2 * stAt n 0 (d.X k) (d.X k).length + x)) := by
  have hD := h.next ((Below.refl _ _).drew)
  subst hm ho
  obtain ⟨ad, cap, hV, hR⟩ := (hD.rx k hk).row
  have hwu := hD.below.size
  refine (rput6_any n r a b c gb d.mb cb k w.heap.size hr hn hA hB hC hck (lst d.V d.mb) hk ad cap (d.X k) (by rw [lst_at hk, hV]) hl (hD.bx k hk) x hx u.drew hD.lb (lst_length _ _).symm hR).mono (fun e u' ⟨v, v2, he, hy, hy2, hE, hg, hne⟩ => ⟨v, v2, he, ?_, hy.mono hwu⟩)
  exact hD.setB (k := k) (gb := gb) rfl hE hg (hy2.mono hwu) (fun g e => (hy2.lt e).1) (bits_snoc (hD.bx k hk) hx)
/-- a row more in the list -/
theorem PlaySt.row (h : PlaySt n r a b c w u va vb vl d) {i : Nat} (hi : i < d.q) : ∃ ad cap, d.vs i = .slice ad (d.cs i).length cap ∧ RowA u ad (d.cs i) := (h.ro i hi).row
/-- the row that was told comes into the list -/
theorem PlaySt.keepRow (h : PlaySt n r a b c w u va vb vl d) {y : Value} (hq : d.q = d.p + 1) (hy : d.vs d.p = y) (o : Obj) {u' : World} {vl' : Value} (ho : OwnV 26 u' w.heap.size vl' (lst d.vs d.p ++ [y])) (hgr : (u.alloc o).grownBy u' vl.ownBlock) (hd : vl'.ownBlock = vl.ownBlock ∨ vl'.ownBlock = some (u.heap.size + 1)) :
    PlaySt n r a b c w u' va vb vl' (d.push u.heap.size) := h.pushL (by omega) o (by rw [hy]; exact ho) hgr hd
/-- the reference's row is emptied -/
theorem PlaySt.nilB {gb m cb k o : Nat} (h : PlaySt n r a b c w u va (.slice (some ⟨gb, 0, none⟩) m cb) vl d) (hm : d.mb = m) (ho : o = 6 * k + 5) :
    PlaySt n r a b c w (u.setCell ⟨gb, o, none⟩ (.slice none 0 0)) va (.slice (some ⟨gb, 0, none⟩) m cb) vl (d.putB k [] (.slice none 0 0)) := by
  subst ho
  exact h.setB (k := k) (gb := gb) rfl (h.lb.set (by rw [lst_length]; exact hm.symm) k (.slice none 0 0)) (grownBy_set (World.grownBy.refl u (some gb)) ⟨gb, 6 * k + 5, none⟩ _ (.inl rfl)) (OwnB.nil _ _) (fun g e => by cases e) (fun i hi => by simp at hi)
theorem PlaySt.cellB {gb m cb k o : Nat} (h : PlaySt n r a b c w u va (.slice (some ⟨gb, 0, none⟩) m cb) vl d) (hm : d.mb = m) (hk : k < m) (ho : o = 6 * k + 5) :
    u.cell? ⟨gb, o, none⟩ = some (d.V k) ∧ u.frozen? ⟨gb, o, none⟩ = false := by
  subst ho hm
  exact ⟨(h.lb.at_ (lst_at hk)).c5, h.lb.frz (lst_length _ _).symm _⟩
/-- both states -/
theorem PlaySt.stA (h : PlaySt n r a b c w u va vb vl d) {k : Nat} (hk : k < d.m) (u' : World) (hb : Below u.heap.size u u') :
    Calls Try.prog 23 #[.pointer (some ⟨d.G k, 0, none⟩)] u' fun e w' => e = .returned (.int .u32 (d.S k : Nat)) ∧ u' = w' := state_good (n + 1) r a b c (d.S k) (d.G k) (by omega) u' ((h.next hb).ra k hk)
theorem PlaySt.stB (hn : n ≤ 31) {gb m cb k o : Nat} (h : PlaySt n r a b c w u va (.slice (some ⟨gb, 0, none⟩) m cb) vl d) (hm : d.mb = m) (hk : k < m) (hl : (d.X k).length ≤ 140737488351232) (ho : o = 6 * k) (hS : d.S k = stAt n 0 (d.X k) (d.X k).length) (u' : World) (hb : Below u.heap.size u u') :
    Calls Try.prog 31 #[.pointer (some ⟨gb, o, none⟩)] u' fun e w' => e = .returned (.int .u32 (d.S k : Nat)) ∧ u' = w' := by
  have hD := h.next hb
  subst hm ho
  obtain ⟨ad, cap, hV, hR⟩ := (hD.rx k hk).row
  rw [hS]
  exact rstate6_any n a b c gb (6 * k) r hn ad cap (d.X k) hl (hD.bx k hk).all u' hR (hD.lb.at_ (by rw [lst_at hk, hV]))
/-- Fork -/
theorem PlaySt.efork (h : PlaySt n r a b c w u va vb vl d) {k : Nat} (hk : k < d.m) :
    Calls Try.prog 21 #[.pointer (some ⟨d.G k, 0, none⟩)] u fun e u1 => ∃ g, e = .returned (.pointer (some ⟨g, 0, none⟩)) ∧ u.heap.size ≤ g ∧ PlaySt n r a b c w u1 va vb vl d ∧ ∀ (o : Obj) (u' : World) (va' : Value), OwnV 40 u' w.heap.size va' (lst d.ptr d.m ++ [.pointer (some ⟨g, 0, none⟩)]) → (u1.alloc o).grownBy u' va.ownBlock → (va'.ownBlock = va.ownBlock ∨ va'.ownBlock = some (u1.heap.size + 1)) → PlaySt n r a b c w u' va' vb vl (d.forkA g (d.S k) u1.heap.size) := by
  refine (fork_good (n + 1) r a b c (d.S k) (d.G k) (by omega) u (h.ra k hk)).mono ?_
  rintro e u1 ⟨g, he, hr', hg, hb⟩
  exact ⟨g, he, hg, h.next hb, fun o u' va' ho hgr hd => h.forkA hr' (h.sl k hk) hg hb o ho hgr hd⟩
/-- what was told last -/
theorem PlaySt.told {k s k2 : Nat} {y v2 : Value} {ys X2 : List Nat} (h : PlaySt n r a b c w u va vb vl ((d.putA k s y ys).putB k2 X2 v2)) : ∃ ad cap, y = .slice ad ys.length cap ∧ RowA u ad ys := by
  have h1 := h.row (i := d.q) (Nat.lt_succ_self _)
  have e1 : ((d.putA k s y ys).putB k2 X2 v2).vs d.q = y := updV_same _ _ _
  have e2 : ((d.putA k s y ys).putB k2 X2 v2).cs d.q = ys := updV_same _ _ _
  rw [e1, e2] at h1
  exact h1
theorem PlaySt.told1 {k s : Nat} {y : Value} {ys : List Nat} (h : PlaySt n r a b c w u va vb vl (d.putA k s y ys)) : ∃ ad cap, y = .slice ad ys.length cap ∧ RowA u ad ys := by
  have h1 := h.row (i := d.q) (Nat.lt_succ_self _)
  have e1 : (d.putA k s y ys).vs d.q = y := updV_same _ _ _
  have e2 : (d.putA k s y ys).cs d.q = ys := updV_same _ _ _
  rw [e1, e2] at h1
  exact h1
end
end Go.Proofs.Ytmmngcjnofcmmaa
