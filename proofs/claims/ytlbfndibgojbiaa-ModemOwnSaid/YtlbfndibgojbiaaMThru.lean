/- modem.through, walked over four stages and over two. -/
import Derived.Test.YtlbfndibgojbiaaRows
import Derived.Test.YtlbfndibgojbiaaMStage
namespace Go.Proofs.Ytlbfndibgojbiaa
open Go.RowKit

/-- a row that a stage has made, or the first one -/
def RowAt (B : Nat) (w0 u : World) (v : Value) (xs : List Nat) : Prop := (∃ ad cap, v = .slice ad xs.length cap ∧ RowA u ad xs) ∧ Below B w0 u
set_option maxHeartbeats 2000000 in
theorem thru4 (B F g : Nat) (w0 : World) (x0 x1 x2 x3 x4 : List Nat)
    (h0 : Stage 55 #[.pointer (some ⟨g, 0, none⟩)] B w0 x0 x1)
    (h1 : Stage 56 #[.pointer (some ⟨g, 0, none⟩)] B w0 x1 x2)
    (h2 : Stage 58 #[.pointer (some ⟨g, 0, none⟩)] B w0 x2 x3)
    (h3 : Stage 60 #[.pointer (some ⟨g, 0, none⟩)] B w0 x3 x4)
    (hF : F < B) (hf : w0.cell? ⟨F, 0, none⟩ = some (.func (.func 55) #[] #[.pointer (some ⟨g, 0, none⟩)]) ∧ w0.cell? ⟨F, 1, none⟩ = some (.func (.func 56) #[] #[.pointer (some ⟨g, 0, none⟩)]) ∧ w0.cell? ⟨F, 2, none⟩ = some (.func (.func 58) #[] #[.pointer (some ⟨g, 0, none⟩)]) ∧ w0.cell? ⟨F, 3, none⟩ = some (.func (.func 60) #[] #[.pointer (some ⟨g, 0, none⟩)]))
    (ad : Option Addr) (cap : Nat) (hB : B ≤ w0.heap.size) (hx : RowA w0 ad x0) :
    Calls Try.prog 50 #[.slice ad x0.length cap, .slice (some ⟨F, 0, none⟩) 4 4] w0 fun e w' => ∃ v, e = .returned (.tuple #[v, .int .i64 0]) ∧ OwnB w' B v x4 ∧ Below B w0 w' := by
  have HF := hide fun (u : World) (hb : Below B w0 u) => (show u.cell? ⟨F, 0, none⟩ = some (.func (.func 55) #[] #[.pointer (some ⟨g, 0, none⟩)]) ∧ u.cell? ⟨F, 1, none⟩ = some (.func (.func 56) #[] #[.pointer (some ⟨g, 0, none⟩)]) ∧ u.cell? ⟨F, 2, none⟩ = some (.func (.func 58) #[] #[.pointer (some ⟨g, 0, none⟩)]) ∧ u.cell? ⟨F, 3, none⟩ = some (.func (.func 60) #[] #[.pointer (some ⟨g, 0, none⟩)]) by
    have hk := bk hb F hF
    refine ⟨?_, ?_, ?_, ?_⟩ <;> rw [hk]
    · exact hf.1
    · exact hf.2.1
    · exact hf.2.2.1
    · exact hf.2.2.2
    )
  have H0 := hide h0
  have H1 := hide h1
  have H2 := hide h2
  have H3 := hide h3
  have HX := hide hx
  have HBS := hide hB
  clear hf hx h0 h1 h2 h3
  go_enter Try.func50, Try.ntmps50
  go_wp2_with fail
  go_loopw [0, 11] (fun v i u => (i = .int .i64 0 ∧ Hid (RowAt B w0 u v x0)) ∨ (i = .int .i64 1 ∧ Hid (RowAt B w0 u v x1)) ∨ (i = .int .i64 2 ∧ Hid (RowAt B w0 u v x2)) ∨ (i = .int .i64 3 ∧ Hid (RowAt B w0 u v x3)) ∨ (i = .int .i64 4 ∧ Hid (RowAt B w0 u v x4) ∧ Hid (OwnB u B v x4))) (fun _ i _ => 4 - (intOf i).toNat)
  case atStart => exact .inl ⟨rfl, hide ⟨⟨_, _, rfl, HX.out⟩, Below.refl _ _⟩⟩
  case round =>
    rename World => wr
    rcases hrel with ⟨rfl, hr⟩ | ⟨rfl, hr⟩ | ⟨rfl, hr⟩ | ⟨rfl, hr⟩ | ⟨rfl, hr, ho⟩
    · obtain ⟨⟨ad, cap, rfl, hra⟩, hbl⟩ := hr.out
      obtain ⟨f0, f1, f2, f3⟩ := HF.out _ hbl
      have HS := hide (H0.out wr ad cap hbl hra)
      have HB := hide hbl
      have HSZ := hide hbl.size
      clear hbl hra hr
      go_wp2_with fail
      refine HS.out.mono ?_
      rintro e w1 ⟨v1, rfl, ho1, hb1⟩
      have HO1 := hide ho1
      have HB1 := hide hb1
      clear ho1 hb1
      go_wp2_with fail
      go_roundw
      case rel =>
        refine .inr (.inl ⟨rfl, hide ⟨?_, HB.out.trans (HB1.out.mono (Nat.le_trans HBS.out HSZ.out))⟩⟩)
        obtain ⟨ad1, c1, e1, r1, _⟩ := HO1.out.rowg
        exact ⟨ad1, c1, e1, r1⟩
      case measure => simp [intOf]
    · obtain ⟨⟨ad, cap, rfl, hra⟩, hbl⟩ := hr.out
      obtain ⟨f0, f1, f2, f3⟩ := HF.out _ hbl
      have HS := hide (H1.out wr ad cap hbl hra)
      have HB := hide hbl
      have HSZ := hide hbl.size
      clear hbl hra hr
      go_wp2_with fail
      refine HS.out.mono ?_
      rintro e w1 ⟨v1, rfl, ho1, hb1⟩
      have HO1 := hide ho1
      have HB1 := hide hb1
      clear ho1 hb1
      go_wp2_with fail
      go_roundw
      case rel =>
        refine .inr (.inr (.inl ⟨rfl, hide ⟨?_, HB.out.trans (HB1.out.mono (Nat.le_trans HBS.out HSZ.out))⟩⟩))
        obtain ⟨ad1, c1, e1, r1, _⟩ := HO1.out.rowg
        exact ⟨ad1, c1, e1, r1⟩
      case measure => simp [intOf]
    · obtain ⟨⟨ad, cap, rfl, hra⟩, hbl⟩ := hr.out
      obtain ⟨f0, f1, f2, f3⟩ := HF.out _ hbl
      have HS := hide (H2.out wr ad cap hbl hra)
      have HB := hide hbl
      have HSZ := hide hbl.size
      clear hbl hra hr
      go_wp2_with fail
      refine HS.out.mono ?_
      rintro e w1 ⟨v1, rfl, ho1, hb1⟩
      have HO1 := hide ho1
      have HB1 := hide hb1
      clear ho1 hb1
      go_wp2_with fail
      go_roundw
      case rel =>
        refine .inr (.inr (.inr (.inl ⟨rfl, hide ⟨?_, HB.out.trans (HB1.out.mono (Nat.le_trans HBS.out HSZ.out))⟩⟩)))
        obtain ⟨ad1, c1, e1, r1, _⟩ := HO1.out.rowg
        exact ⟨ad1, c1, e1, r1⟩
      case measure => simp [intOf]
    · obtain ⟨⟨ad, cap, rfl, hra⟩, hbl⟩ := hr.out
      obtain ⟨f0, f1, f2, f3⟩ := HF.out _ hbl
      have HS := hide (H3.out wr ad cap hbl hra)
      have HB := hide hbl
      have HSZ := hide hbl.size
      clear hbl hra hr
      go_wp2_with fail
      refine HS.out.mono ?_
      rintro e w1 ⟨v1, rfl, ho1, hb1⟩
      have HO1 := hide ho1
      have HB1 := hide hb1
      clear ho1 hb1
      go_wp2_with fail
      go_roundw
      case rel =>
        refine .inr (.inr (.inr (.inr ⟨rfl, hide ⟨?_, HB.out.trans (HB1.out.mono (Nat.le_trans HBS.out HSZ.out))⟩, hide (HO1.out.mono (Nat.le_trans HBS.out HSZ.out))⟩)))
        obtain ⟨ad1, c1, e1, r1, _⟩ := HO1.out.rowg
        exact ⟨ad1, c1, e1, r1⟩
      case measure => simp [intOf]
    · go_wp2_with fail
      go_ret2
      exact ⟨_, rfl, ho.out, hr.out.2⟩
set_option maxHeartbeats 2000000 in
theorem thru2 (B F g g2 : Nat) (w0 : World) (x0 x1 x2 : List Nat)
    (h0 : Stage 51 #[.pointer (some ⟨g, 0, none⟩), .pointer (some ⟨g2, 0, none⟩)] B w0 x0 x1)
    (h1 : Stage 53 #[.pointer (some ⟨g, 0, none⟩)] B w0 x1 x2)
    (hF : F < B) (hf : w0.cell? ⟨F, 0, none⟩ = some (.func (.func 51) #[] #[.pointer (some ⟨g, 0, none⟩), .pointer (some ⟨g2, 0, none⟩)]) ∧ w0.cell? ⟨F, 1, none⟩ = some (.func (.func 53) #[] #[.pointer (some ⟨g, 0, none⟩)]))
    (ad : Option Addr) (cap : Nat) (hB : B ≤ w0.heap.size) (hx : RowA w0 ad x0) :
    Calls Try.prog 50 #[.slice ad x0.length cap, .slice (some ⟨F, 0, none⟩) 2 2] w0 fun e w' => ∃ v, e = .returned (.tuple #[v, .int .i64 0]) ∧ OwnB w' B v x2 ∧ Below B w0 w' := by
  have HF := hide fun (u : World) (hb : Below B w0 u) => (show u.cell? ⟨F, 0, none⟩ = some (.func (.func 51) #[] #[.pointer (some ⟨g, 0, none⟩), .pointer (some ⟨g2, 0, none⟩)]) ∧ u.cell? ⟨F, 1, none⟩ = some (.func (.func 53) #[] #[.pointer (some ⟨g, 0, none⟩)]) by
    have hk := bk hb F hF
    refine ⟨?_, ?_⟩ <;> rw [hk]
    · exact hf.1
    · exact hf.2
    )
  have H0 := hide h0
  have H1 := hide h1
  have HX := hide hx
  have HBS := hide hB
  clear hf hx h0 h1
  go_enter Try.func50, Try.ntmps50
  go_wp2_with fail
  go_loopw [0, 11] (fun v i u => (i = .int .i64 0 ∧ Hid (RowAt B w0 u v x0)) ∨ (i = .int .i64 1 ∧ Hid (RowAt B w0 u v x1)) ∨ (i = .int .i64 2 ∧ Hid (RowAt B w0 u v x2) ∧ Hid (OwnB u B v x2))) (fun _ i _ => 2 - (intOf i).toNat)
  case atStart => exact .inl ⟨rfl, hide ⟨⟨_, _, rfl, HX.out⟩, Below.refl _ _⟩⟩
  case round =>
    rename World => wr
    rcases hrel with ⟨rfl, hr⟩ | ⟨rfl, hr⟩ | ⟨rfl, hr, ho⟩
    · obtain ⟨⟨ad, cap, rfl, hra⟩, hbl⟩ := hr.out
      obtain ⟨f0, f1⟩ := HF.out _ hbl
      have HS := hide (H0.out wr ad cap hbl hra)
      have HB := hide hbl
      have HSZ := hide hbl.size
      clear hbl hra hr
      go_wp2_with fail
      refine HS.out.mono ?_
      rintro e w1 ⟨v1, rfl, ho1, hb1⟩
      have HO1 := hide ho1
      have HB1 := hide hb1
      clear ho1 hb1
      go_wp2_with fail
      go_roundw
      case rel =>
        refine .inr (.inl ⟨rfl, hide ⟨?_, HB.out.trans (HB1.out.mono (Nat.le_trans HBS.out HSZ.out))⟩⟩)
        obtain ⟨ad1, c1, e1, r1, _⟩ := HO1.out.rowg
        exact ⟨ad1, c1, e1, r1⟩
      case measure => simp [intOf]
    · obtain ⟨⟨ad, cap, rfl, hra⟩, hbl⟩ := hr.out
      obtain ⟨f0, f1⟩ := HF.out _ hbl
      have HS := hide (H1.out wr ad cap hbl hra)
      have HB := hide hbl
      have HSZ := hide hbl.size
      clear hbl hra hr
      go_wp2_with fail
      refine HS.out.mono ?_
      rintro e w1 ⟨v1, rfl, ho1, hb1⟩
      have HO1 := hide ho1
      have HB1 := hide hb1
      clear ho1 hb1
      go_wp2_with fail
      go_roundw
      case rel =>
        refine .inr (.inr ⟨rfl, hide ⟨?_, HB.out.trans (HB1.out.mono (Nat.le_trans HBS.out HSZ.out))⟩, hide (HO1.out.mono (Nat.le_trans HBS.out HSZ.out))⟩)
        obtain ⟨ad1, c1, e1, r1, _⟩ := HO1.out.rowg
        exact ⟨ad1, c1, e1, r1⟩
      case measure => simp [intOf]
    · go_wp2_with fail
      go_ret2
      exact ⟨_, rfl, ho.out, hr.out.2⟩
end Go.Proofs.Ytlbfndibgojbiaa
