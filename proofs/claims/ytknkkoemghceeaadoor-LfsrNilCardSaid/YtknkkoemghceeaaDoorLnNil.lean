/- The law LfsrNil, walked: it returns true. -/
import Derived.Test.YtknkkoemghceeaaDoorRows
import Derived.Test.YtknkkoemghceeaaDoorLfLive
namespace Go.Proofs.YtknkkoemghceeaaDoor
open Go.RowKit

/-- no runner, or one that nobody made -/
def NoRun (w : World) (p : Option Addr) : Prop := p = none ∨ ∃ g, p = some ⟨g, 0, none⟩ ∧ RegL w g 0 0 0
theorem nnone_any (p : Option Addr) (w : World) (h : NoRun w p) :
    Calls Tryd.prog 64 #[.pointer p] w fun e w' => e = .returned (.bool true) ∧ w = w' := by
  rcases h with rfl | ⟨g, rfl, hr⟩
  · go_enter Tryd.func64, Tryd.ntmps64
    go_wp2_with fail
    go_ret
    exact ⟨rfl, rfl⟩
  · obtain ⟨hlt, q0, q1, q2, fz⟩ := hr.parts
    clear hr
    go_enter Tryd.func64, Tryd.ntmps64
    go_wp2_with fail
    go_ret
    exact ⟨rfl, rfl⟩
theorem nskip_any (p : Option Addr) (k : Value) (w : World) (h : NoRun w p) :
    Calls Tryd.prog 34 #[.pointer p, k] w fun e w' => e = .returned (.tuple #[]) ∧ w = w' := by
  have HN := hide (nnone_any p w h)
  clear h
  go_enter Tryd.func34, Tryd.ntmps34
  go_wp2_with fail
  refine HN.out.mono ?_
  rintro e w' ⟨rfl, rfl⟩
  go_wp2_with fail
  exact bodyPost_ret (v := .tuple #[]) (by simp [results, Tryd.results34, go_sem]) rfl ⟨rfl, rfl⟩
theorem nnext_any (p : Option Addr) (w : World) (h : NoRun w p) :
    Calls Tryd.prog 32 #[.pointer p] w fun e w' => e = .returned (.int .u8 0) ∧ w = w' := by
  have HN := hide (nnone_any p w h)
  clear h
  go_enter Tryd.func32, Tryd.ntmps32
  go_wp2_with fail
  refine HN.out.mono ?_
  rintro e w' ⟨rfl, rfl⟩
  go_wp2_with fail
  go_ret
  exact ⟨rfl, rfl⟩
theorem nstate_any (p : Option Addr) (w : World) (h : NoRun w p) :
    Calls Tryd.prog 36 #[.pointer p] w fun e w' => e = .returned (.int .u64 0) ∧ w = w' := by
  have HN := hide (nnone_any p w h)
  clear h
  go_enter Tryd.func36, Tryd.ntmps36
  go_wp2_with fail
  refine HN.out.mono ?_
  rintro e w' ⟨rfl, rfl⟩
  go_wp2_with fail
  go_ret
  exact ⟨rfl, rfl⟩
set_option maxHeartbeats 1000000 in
theorem law_nil (w : World) (ht : TabW w) :
    Calls Tryd.prog 7 #[] w fun e w' => e = .returned (.bool true) ∧ Below w.heap.size w w' := by
  have HN := hide fun (u : World) => nnext_any none u (.inl rfl)
  have HS := hide fun (u : World) => nstate_any none u (.inl rfl)
  have HK := hide fun (k : Value) (u : World) => nskip_any none k u (.inl rfl)
  have hz : NoRun (w.alloc (.cells #[.int .i64 0, .int .u64 0, .int .u64 0] 70)) (some ⟨w.heap.size, 0, none⟩) := .inr ⟨_, rfl, ⟨_, heap_alloc_new w _⟩⟩
  have ZN := hide (nnext_any _ _ hz)
  have ZS := hide (nstate_any _ _ hz)
  have ZK := hide fun (k : Value) => nskip_any _ k _ hz
  have HL := hide (llive_any _ (ht.below ((Below.refl _ _).alloc (Nat.le_refl _) (.cells #[.int .i64 0, .int .u64 0, .int .u64 0] 70))))
  clear hz ht
  go_enter Tryd.func7, Tryd.ntmps7
  go_wp2_with fail
  refine (HK.out _ _).mono ?_
  rintro e w' ⟨rfl, rfl⟩
  go_wp2_with fail
  refine (ZK.out _).mono ?_
  rintro e w' ⟨rfl, rfl⟩
  go_wp2_with fail
  refine (HN.out _).mono ?_
  rintro e w' ⟨rfl, rfl⟩
  go_wp2_with fail
  refine (HS.out _).mono ?_
  rintro e w' ⟨rfl, rfl⟩
  go_wp2_with fail
  refine ZN.out.mono ?_
  rintro e w' ⟨rfl, rfl⟩
  go_wp2_with fail
  refine ZS.out.mono ?_
  rintro e w' ⟨rfl, rfl⟩
  go_wp2_with fail
  refine HL.out.mono ?_
  rintro e w1 ⟨rfl, hb1⟩
  go_wp2_with fail
  go_ret
  exact ⟨rfl, below_one hb1⟩
end Go.Proofs.YtknkkoemghceeaaDoor
