/- weather.New, eight, outpostlaw37.Plain, num, walked. -/
import Derived.Test.YtmagpmoghnmhmaaRows
import Derived.Test.YtmagpmoghnmhmaaWCheck
import Derived.Deep.RegionHeld3
namespace Go.Proofs.Ytmagpmoghnmhmaa
open Go.RowKit

theorem num_any (e : Int) (w : World) : Calls Try.prog 12 #[.int .i64 e] w fun x w' => x = .returned (.int .i64 e) ∧ w = w' := by
  go_enter Try.func12, Try.ntmps12
  go_wp2_with fail
  go_ret
  exact ⟨rfl, rfl⟩
theorem eight_any (fn : Fn) (fs cs : Array Value) (w : World) : Calls Try.prog 27 #[.func fn fs cs] w fun e w' => e = .returned (.func (.func 43) #[] #[.pointer (some ⟨w.heap.size, 0, none⟩)]) ∧ w.alloc (.cells #[.func fn fs cs] 67) = w' := by
  have hmf : ∀ (fn : Fn) (first cap : Array Value) (w : World), (Instr.makeFunc fn first cap).run Try.prog w = .ok (.func fn first cap) w := fun _ _ _ _ => rfl
  go_enter Try.func27, Try.ntmps27
  go_wp2_with fail
  go_ret
  exact ⟨rfl, rfl⟩
set_option maxHeartbeats 400000 in
theorem wnew_bad (D : Int) (T S : Nat) (W B C M : Int) (hT : T ≤ 18446744073709551615) (hS : S ≤ 18446744073709551615) (hne : wchk D T S W B C M ≠ 0) (w : World) :
    Calls Try.prog 9 #[.agg #[.int .i64 D, .int .u64 T, .int .u64 S, .int .i64 W, .int .i64 B, .int .i64 C, .int .i64 M]] w fun e w' => e = .returned (.tuple #[.pointer none, .int .i64 (wchk D T S W B C M)]) ∧ Below w.heap.size w w' := by
  have HC := hide (wcheck_any D T S W B C M hT hS)
  have hb := nzBne hne
  generalize wchk D T S W B C M = cf at *
  clear hne
  go_enter Try.func9, Try.ntmps9
  go_wp2_with fail
  refine (HC.out _).mono ?_
  rintro e w1 ⟨rfl, hb1⟩
  go_wp2_with fail
  go_ret2
  exact ⟨rfl, below_one hb1⟩
theorem new_wea (w2 : World) (p : Gf2.Wp) (S g : Nat) (hr : RegL w2 g p.D p.T S) (hg : GoodL p.D p.T S) :
    WSt ((w2.alloc (.cells #[.func (.func 28) #[.pointer (some ⟨g, 0, none⟩)] #[]] 67)).alloc (.cells #[.int .i64 p.D, .int .u64 p.T, .int .u64 S, .int .i64 p.W, .int .i64 p.B, .int .i64 p.C, .int .i64 p.M, .func (.func 43) #[] #[.pointer (some ⟨w2.heap.size, 0, none⟩)], .bool false, .int .u64 0] 46)).drew (w2.heap.size + 1) w2.heap.size g p S (S, false) 0 := by
  have hl := hr.lt
  refine ⟨⟨46, ?_⟩, ⟨67, ?_⟩, (hr.alloc _).alloc _, hg, ⟨by omega, by omega, by omega⟩⟩
  · have := heap_alloc_new (w2.alloc (.cells #[.func (.func 28) #[.pointer (some ⟨g, 0, none⟩)] #[]] 67)) (.cells #[.int .i64 p.D, .int .u64 p.T, .int .u64 S, .int .i64 p.W, .int .i64 p.B, .int .i64 p.C, .int .i64 p.M, .func (.func 43) #[] #[.pointer (some ⟨w2.heap.size, 0, none⟩)], .bool false, .int .u64 0] 46)
    rw [show (w2.alloc (.cells #[.func (.func 28) #[.pointer (some ⟨g, 0, none⟩)] #[]] 67)).heap.size = w2.heap.size + 1 by simp] at this
    exact this
  · have h1 := heap_alloc_new w2 (.cells #[.func (.func 28) #[.pointer (some ⟨g, 0, none⟩)] #[]] 67)
    exact (Below.heap_alloc _ _ _ (by simp)).trans h1
set_option maxHeartbeats 1000000 in
theorem wnew_good (p : Gf2.Wp) (S : Nat) (hg : GoodL p.D p.T S) (h0 : wchk p.D p.T S p.W p.B p.C p.M = 0) (w : World) :
    Calls Try.prog 9 #[.agg #[.int .i64 p.D, .int .u64 p.T, .int .u64 S, .int .i64 p.W, .int .i64 p.B, .int .i64 p.C, .int .i64 p.M]] w fun e w' => ∃ x bn g, e = .returned (.tuple #[.pointer (some ⟨x, 0, none⟩), .int .i64 0]) ∧ WSt w' x bn g p S (S, false) 0 ∧ (w.heap.size ≤ x ∧ w.heap.size ≤ bn ∧ w.heap.size ≤ g) ∧ Below w.heap.size w w' := by
  have HC := hide (wcheck_any p.D p.T S p.W p.B p.C p.M (by have := hg.small; omega) (by have := hg.small; omega))
  rw [h0] at HC
  have HS := hide (lseries_good p.D p.T S hg)
  have hmf : ∀ (fn : Fn) (first cap : Array Value) (w : World), (Instr.makeFunc fn first cap).run Try.prog w = .ok (.func fn first cap) w := fun _ _ _ _ => rfl
  have HG := hide hg
  clear h0 hg
  go_enter Try.func9, Try.ntmps9
  go_wp2_with fail
  refine (HC.out _).mono ?_
  rintro e w1 ⟨rfl, hb1⟩
  have k1 := bk hb1 w.heap.size (by simp)
  have hz1 := hb1.size
  simp at hz1
  have hzl : w.heap.size < w1.heap.size := by omega
  have HB1 := hide (below_one hb1)
  clear hb1
  go_wp2_with fail
  refine (HS.out _).mono ?_
  rintro e w2 ⟨g, rfl, hr2, hg2, hb2⟩
  have k2 := bk hb2 w.heap.size hzl
  have hz2 : w.heap.size < w2.heap.size := by have := hb2.size; omega
  have HB2 := hide (below_then HB1.out hb2)
  have HR2 := hide hr2
  have hgl := hr2.lt
  have c0 : w2.cell? ⟨w.heap.size, 0, none⟩ = some (.int .i64 p.D) := by rw [k2, k1]; simp [go_sem]
  have c1 : w2.cell? ⟨w.heap.size, 1, none⟩ = some (.int .u64 p.T) := by rw [k2, k1]; simp [go_sem]
  have c2 : w2.cell? ⟨w.heap.size, 2, none⟩ = some (.int .u64 S) := by rw [k2, k1]; simp [go_sem]
  have c3 : w2.cell? ⟨w.heap.size, 3, none⟩ = some (.int .i64 p.W) := by rw [k2, k1]; simp [go_sem]
  have c4 : w2.cell? ⟨w.heap.size, 4, none⟩ = some (.int .i64 p.B) := by rw [k2, k1]; simp [go_sem]
  have c5 : w2.cell? ⟨w.heap.size, 5, none⟩ = some (.int .i64 p.C) := by rw [k2, k1]; simp [go_sem]
  have c6 : w2.cell? ⟨w.heap.size, 6, none⟩ = some (.int .i64 p.M) := by rw [k2, k1]; simp [go_sem]
  clear k1 k2 hr2 hb2
  go_wp2_with fail
  go_region_held3 (fun u => u.cell? ⟨w.heap.size, 0, none⟩ = some (.int .i64 p.D) ∧ u.cell? ⟨w.heap.size, 1, none⟩ = some (.int .u64 p.T) ∧ u.cell? ⟨w.heap.size, 2, none⟩ = some (.int .u64 S) ∧ u.cell? ⟨w.heap.size, 3, none⟩ = some (.int .i64 p.W) ∧ u.cell? ⟨w.heap.size, 4, none⟩ = some (.int .i64 p.B) ∧ u.cell? ⟨w.heap.size, 5, none⟩ = some (.int .i64 p.C) ∧ u.cell? ⟨w.heap.size, 6, none⟩ = some (.int .i64 p.M))
    (simp [go_sem, *])
    ((go_at_call 27; refine (eight_any _ _ _ _).mono ?_; rintro e w3 ⟨rfl, rfl⟩))
  go_wp2_with fail
  go_ret2
  have hx := new_wea w2 p S g HR2.out HG.out
  refine ⟨w2.heap.size + 1, w2.heap.size, g, rfl, hx, ⟨by omega, by omega, by omega⟩, ?_⟩
  exact ((HB2.out.alloc (by omega) _).alloc (by simp; omega) _).drew
end Go.Proofs.Ytmagpmoghnmhmaa
