/- The methods of an encoder that New made, walked. -/
import Derived.Test.YtmmngcjnofcmmaaRows
import Derived.Test.YtmmngcjnofcmmaaEnc
namespace Go.Proofs.Ytmmngcjnofcmmaa
open Go.RowKit

set_option maxHeartbeats 400000 in
theorem none_good (K R : Int) (a b c s g : Nat) (hK : K ≠ 0) (w : World) (hr : RegB w g K R a b c s) :
    Calls Try.prog 45 #[.pointer (some ⟨g, 0, none⟩)] w fun e w' => e = .returned (.bool false) ∧ w = w' := by
  obtain ⟨l1, q0, q1, q2, q3, q4, q5, fz⟩ := hr.parts
  have hb := nzBeq hK
  clear hr hK
  go_enter Try.func45, Try.ntmps45
  go_wp2_with fail
  go_ret
  exact ⟨rfl, rfl⟩
set_option maxHeartbeats 400000 in
theorem fork_good (K R : Int) (a b c s g : Nat) (hK : K ≠ 0) (w : World) (hr : RegB w g K R a b c s) :
    Calls Try.prog 21 #[.pointer (some ⟨g, 0, none⟩)] w fun e w' => ∃ h, e = .returned (.pointer (some ⟨h, 0, none⟩)) ∧ RegB w' h K R a b c s ∧ w.heap.size ≤ h ∧ Below w.heap.size w w' := by
  obtain ⟨l1, q0, q1, q2, q3, q4, q5, fz⟩ := hr.parts
  have HN := hide (none_good K R a b c s g hK w hr)
  clear hr hK
  go_enter Try.func21, Try.ntmps21
  go_wp2_with fail
  refine HN.out.mono ?_
  rintro e w' ⟨rfl, rfl⟩
  go_wp2_with fail
  go_ret
  exact ⟨w.heap.size, rfl, ⟨_, heap_alloc_new w _⟩, Nat.le_refl _, (Below.refl _ _).alloc (Nat.le_refl _) _⟩
set_option maxHeartbeats 400000 in
theorem state_good (K R : Int) (a b c s g : Nat) (hK : K ≠ 0) (w : World) (hr : RegB w g K R a b c s) :
    Calls Try.prog 23 #[.pointer (some ⟨g, 0, none⟩)] w fun e w' => e = .returned (.int .u32 s) ∧ w = w' := by
  obtain ⟨l1, q0, q1, q2, q3, q4, q5, fz⟩ := hr.parts
  have HN := hide (none_good K R a b c s g hK w hr)
  clear hr hK
  go_enter Try.func23, Try.ntmps23
  go_wp2_with fail
  refine HN.out.mono ?_
  rintro e w' ⟨rfl, rfl⟩
  go_wp2_with fail
  go_ret
  exact ⟨rfl, rfl⟩
set_option maxHeartbeats 1000000 in
theorem eput_two (n a b c s x g : Nat) (hn : 2 ≤ n ∧ n ≤ 31) (hA : a ≤ 4294967295) (hB : b ≤ 4294967295) (hC : c ≤ 4294967295) (hs : s ≤ 2147483647) (hx : x ≤ 1) (w : World) (hr : RegB w g (n + 1) 2 a b c s) :
    Calls Try.prog 22 #[.pointer (some ⟨g, 0, none⟩), .int .u8 x] w fun e w' => ∃ v, e = .returned (.tuple #[v, .int .i64 0]) ∧ OwnB w' w.heap.size v (symK 2 a b c (2 * s + x)) ∧ RegB w' g (n + 1) 2 a b c ((2 * s + x) % 2 ^ n) ∧ w.grownBy w' (some g) := by
  have HP := hide (push_any n a b c s x g 2 (.inl rfl) hn hA hB hC hs hx w hr)
  have HN := hide (none_good (n + 1) 2 a b c s g (by omega) w hr)
  have hsy : symK 2 a b c (2 * s + x) = [outF (2 * s + x) a, outF (2 * s + x) b] := rfl
  rw [hsy]
  clear hsy
  
  
  
  generalize outF (2 * s + x) a = y0 at *
  generalize outF (2 * s + x) b = y1 at *
  generalize third 2 (outF (2 * s + x) c) = y2 at *
  have hlt := hr.lt
  clear hr
  go_enter Try.func22, Try.ntmps22
  go_wp2_with fail
  refine HN.out.mono ?_
  rintro e w' ⟨rfl, rfl⟩
  go_wp2_with fail
  refine HP.out.mono ?_
  rintro e w1 ⟨rfl, hr1, hg1⟩
  obtain ⟨l1, q0, q1, q2, q3, q4, q5, fz⟩ := hr1.parts
  have hz := hg1.size
  have HG1 := hide hg1
  have HR1 := hide hr1
  clear hr1 hg1
  have hrow : RowA (w1.alloc (.cells #[.int .u8 y0, .int .u8 y1, .int .u8 y2] 76)) (some ⟨w1.heap.size, 0, none⟩) [y0, y1] := fun _ => ⟨w1.heap.size, 0, rfl, by simp, fun i hi => by
    have : i = 0 ∨ i = 1 := by simp at hi; omega
    rcases this with rfl | rfl <;> simp [go_sem]⟩
  have HROW := hide hrow
  clear hrow
  go_wp2_with (first
    | (at_builtin; refine wpList_appB rfl _ (.tmp 22) rfl w.heap.size (.slice none 0 0) [] rfl (OwnB.nil _ _) (some ⟨w1.heap.size, 0, none⟩) 2 3 [y0, y1] rfl HROW.out rfl ?c1 ?c2 ?_)
    | go_in)
  case c1 => simp
  case c2 => simp; omega
  intro v2 w2 hown2 hgrow2 _
  have HG2 := hide (grownBy_below (grownBy_al HG1.out (.cells #[.int .u8 y0, .int .u8 y1, .int .u8 y2] 76)) ((Below.refl _ _).grown hgrow2 (Nat.le_refl _) (fun k e => by cases e)))
  have HR2 := hide ((HR1.out.alloc (.cells #[.int .u8 y0, .int .u8 y1, .int .u8 y2] 76)).grown hgrow2 (by intro e; cases e))
  have HO2 := hide hown2
  clear hown2 hgrow2
  go_wp2_with fail
  go_ret2
  exact ⟨v2, rfl, HO2.out, HR2.out, HG2.out⟩
set_option maxHeartbeats 1000000 in
theorem eput_three (n a b c s x g : Nat) (hn : 2 ≤ n ∧ n ≤ 31) (hA : a ≤ 4294967295) (hB : b ≤ 4294967295) (hC : c ≤ 4294967295) (hs : s ≤ 2147483647) (hx : x ≤ 1) (w : World) (hr : RegB w g (n + 1) 3 a b c s) :
    Calls Try.prog 22 #[.pointer (some ⟨g, 0, none⟩), .int .u8 x] w fun e w' => ∃ v, e = .returned (.tuple #[v, .int .i64 0]) ∧ OwnB w' w.heap.size v (symK 3 a b c (2 * s + x)) ∧ RegB w' g (n + 1) 3 a b c ((2 * s + x) % 2 ^ n) ∧ w.grownBy w' (some g) := by
  have HP := hide (push_any n a b c s x g 3 (.inr rfl) hn hA hB hC hs hx w hr)
  have HN := hide (none_good (n + 1) 3 a b c s g (by omega) w hr)
  have hsy : symK 3 a b c (2 * s + x) = [outF (2 * s + x) a, outF (2 * s + x) b, outF (2 * s + x) c] := rfl
  rw [hsy]
  clear hsy
  have ht : third 3 (outF (2 * s + x) c) = outF (2 * s + x) c := rfl
  rw [ht] at HP
  clear ht
  generalize outF (2 * s + x) a = y0 at *
  generalize outF (2 * s + x) b = y1 at *
  generalize outF (2 * s + x) c = y2 at *
  have hlt := hr.lt
  clear hr
  go_enter Try.func22, Try.ntmps22
  go_wp2_with fail
  refine HN.out.mono ?_
  rintro e w' ⟨rfl, rfl⟩
  go_wp2_with fail
  refine HP.out.mono ?_
  rintro e w1 ⟨rfl, hr1, hg1⟩
  obtain ⟨l1, q0, q1, q2, q3, q4, q5, fz⟩ := hr1.parts
  have hz := hg1.size
  have HG1 := hide hg1
  have HR1 := hide hr1
  clear hr1 hg1
  have hrow : RowA (w1.alloc (.cells #[.int .u8 y0, .int .u8 y1, .int .u8 y2] 76)) (some ⟨w1.heap.size, 0, none⟩) [y0, y1, y2] := fun _ => ⟨w1.heap.size, 0, rfl, by simp, fun i hi => by
    have : i = 0 ∨ i = 1 ∨ i = 2 := by simp at hi; omega
    rcases this with rfl | rfl | rfl <;> simp [go_sem]⟩
  have HROW := hide hrow
  clear hrow
  go_wp2_with (first
    | (at_builtin; refine wpList_appB rfl _ (.tmp 22) rfl w.heap.size (.slice none 0 0) [] rfl (OwnB.nil _ _) (some ⟨w1.heap.size, 0, none⟩) 3 3 [y0, y1, y2] rfl HROW.out rfl ?c1 ?c2 ?_)
    | go_in)
  case c1 => simp
  case c2 => simp; omega
  intro v2 w2 hown2 hgrow2 _
  have HG2 := hide (grownBy_below (grownBy_al HG1.out (.cells #[.int .u8 y0, .int .u8 y1, .int .u8 y2] 76)) ((Below.refl _ _).grown hgrow2 (Nat.le_refl _) (fun k e => by cases e)))
  have HR2 := hide ((HR1.out.alloc (.cells #[.int .u8 y0, .int .u8 y1, .int .u8 y2] 76)).grown hgrow2 (by intro e; cases e))
  have HO2 := hide hown2
  clear hown2 hgrow2
  go_wp2_with fail
  go_ret2
  exact ⟨v2, rfl, HO2.out, HR2.out, HG2.out⟩
theorem eput_any (n a b c s x g : Nat) (R : Int) (hR : R = 2 ∨ R = 3) (hn : 2 ≤ n ∧ n ≤ 31) (hA : a ≤ 4294967295) (hB : b ≤ 4294967295) (hC : c ≤ 4294967295) (hs : s ≤ 2147483647) (hx : x ≤ 1) (w : World) (hr : RegB w g (n + 1) R a b c s) :
    Calls Try.prog 22 #[.pointer (some ⟨g, 0, none⟩), .int .u8 x] w fun e w' => ∃ v, e = .returned (.tuple #[v, .int .i64 0]) ∧ OwnB w' w.heap.size v (symK R a b c (2 * s + x)) ∧ RegB w' g (n + 1) R a b c ((2 * s + x) % 2 ^ n) ∧ w.grownBy w' (some g) := by
  rcases hR with rfl | rfl
  · exact eput_two n a b c s x g hn hA hB hC hs hx w hr
  · exact eput_three n a b c s x g hn hA hB hC hs hx w hr
end Go.Proofs.Ytmmngcjnofcmmaa
