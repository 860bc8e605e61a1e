/- The state of the law EncoderPlays: its beginning, rows left out; append on the reference's list. -/
import Derived.Test.YtmmngcjnofcmmaaRows
import Derived.Test.YtmmngcjnofcmmaaPlaySt
namespace Go.Proofs.Ytmmngcjnofcmmaa
open Go.RowKit

section
variable {n r a b c : Nat} {w u u' : World} {va vb vl : Value} {d : Gh}
theorem PlaySt.less (h : PlaySt n r a b c w u va vb vl d) {q : Nat} (h1 : d.p ≤ q) (h2 : q ≤ d.q) : PlaySt n r a b c w u va vb vl { d with q := q } :=
  { la := h.la, lb := h.lb, ll := h.ll, ra := h.ra, rx := h.rx, bx := h.bx, ro := fun i (hi : i < q) => h.ro i (by omega), cl := fun i (hi : i < q) => h.cl i (by omega), sl := h.sl, xa := h.xa, xb := h.xb, xl := h.xl, xg := h.xg, xo := fun i g (hi : i < q) e => h.xo i g (by omega) e, xv := h.xv, ge := h.ge, pq := h1, below := h.below }
end
theorem inf_renc : ∃ i : TypeInfo, Try.prog.info? 58 = some i ∧ i.zero = some (.agg #[.int .i64 0, .int .i64 0, .int .u32 0, .int .u32 0, .int .u32 0, .slice none 0 0]) ∧ i.size = 6 ∧ i.bytes = 56 := ⟨Try.t58, by kernel_rfl, by kernel_rfl, by kernel_rfl, by kernel_rfl⟩
theorem run_appE {w : World} {B : Nat} {v u : Value} {K R : Int} {a b c : Nat} {vs : List Value} (ty : TypeId) (hown : OwnE w B v K R a b c vs) (g cp : Nat) (hu : EncAt w g 0 K R a b c u) (h1 : u.oneCell' = true) (hb : vs.length ≤ 2000000) (hB : B ≤ w.heap.size) :
    ∃ v' w', (Builtin.append_ #[59, 59] ty #[v, .slice (some ⟨g, 0, none⟩) 1 cp]).run Try.prog w = .ok v' w' ∧ OwnE w' B v' K R a b c (vs ++ [u]) ∧ w.grownBy w' v.ownBlock ∧ (v'.ownBlock = v.ownBlock ∨ v'.ownBlock = some w.heap.size) := by
  obtain ⟨i0, hi, hi0, hi1, hi2⟩ := inf_renc
  obtain ⟨h0, e1, e2, e3, e4, e5⟩ := hu
  obtain ⟨v', w', g1, g2, g3, _, g5⟩ := run_append_own_at (P := Try.prog) w B 59 ty 58 i0 _ 6 56 Try.underlying59 hi hi0 hi1 hi2 rfl (by decide) v vs.length (encC K R a b c vs) hown ⟨g, 0, none⟩ 1 cp (encC K R a b c [u])
    rfl (fun j x hj => by
      rw [addr_plain, Nat.zero_add]
      match j, hj with
      | 0, hj => simp [encC] at hj; subst hj; exact h0
      | 1, hj => simp [encC] at hj; subst hj; exact e1
      | 2, hj => simp [encC] at hj; subst hj; exact e2
      | 3, hj => simp [encC] at hj; subst hj; exact e3
      | 4, hj => simp [encC] at hj; subst hj; exact e4
      | 5, hj => simp [encC] at hj; subst hj; exact e5
      | j + 6, hj => simp [encC] at hj) (fun x hx => by
      simp [encC] at hx
      rcases hx with rfl | rfl | rfl | rfl | rfl | rfl <;> first | rfl | exact h1) (by unfold maxLen; omega) (by omega) hB
  refine ⟨v', w', g1, ?_, g3, g5⟩
  unfold OwnE
  rw [List.length_append, encC_app]
  exact g2
theorem wpList_appE {w : World} {ops : Array Oper} {rest : List Oper} {o : Oper} {a : Act} {Q : Exit → Act → World → Prop} (hgd : o.guard = none) (s x : Operand)
    (ho : o.op = .call { callee := .builtin .append, args := #[s, x], argTypes := #[59, 59] })
    (B : Nat) (v u : Value) (K R : Int) (ka kb kc : Nat) (vs : List Value) (hs : a.eval s = v) (hown : OwnE w B v K R ka kb kc vs) (g cp : Nat) (hx : a.eval x = .slice (some ⟨g, 0, none⟩) 1 cp) (hu : EncAt w g 0 K R ka kb kc u) (h1 : u.oneCell' = true) (hb : vs.length ≤ 2000000) (hB : B ≤ w.heap.size)
    (h : ∀ v' w', OwnE w' B v' K R ka kb kc (vs ++ [u]) → w.grownBy w' v.ownBlock → (v'.ownBlock = v.ownBlock ∨ v'.ownBlock = some w.heap.size) → wpList Try.prog ops Q rest (a.put o.dst v') w') :
    wpList Try.prog ops Q (o :: rest) a w := by
  obtain ⟨v', w', hrun, h2, h3, h4⟩ := run_appE o.type hown g cp hu h1 hb hB
  refine wpList_plain hgd fun _ hK => ?_
  unfold Oper.wp execOp
  simp only [ho, resolve, invoke, builtin, Sem.run_bind, Sem.run_pure, Result.andThen_ok, List.map_toArray, List.map_cons, List.map_nil, hs, hx, hrun]
  exact hK _ _ (h v' w' h2 h3 h4)
/-- what only the proof sees, at the beginning -/
def gh0 (g H : Nat) : Gh := { m := 1, mb := 1, p := 0, q := 0, G := fun _ => g, S := fun _ => 0, X := fun _ => [], V := fun _ => .slice none 0 0, vs := fun _ => .slice none 0 0, cs := fun _ => [], lab := fun x => if x = H then 0 else if x = H + 1 then 1 else 3 }
theorem PlaySt.start {n r a b c g : Nat} {w u : World} (hr : RegB u g (n + 1) r a b c 0) (hg : w.heap.size ≤ g) (hb : Below w.heap.size w u) :
    PlaySt n r a b c w ((u.alloc (.cells #[.pointer (some ⟨g, 0, none⟩)] 40)).alloc (.cells #[.int .i64 (n + 1), .int .i64 r, .int .u32 a, .int .u32 b, .int .u32 c, .slice none 0 0] 58))
      (.slice (some ⟨u.heap.size, 0, none⟩) 1 1) (.slice (some ⟨u.heap.size + 1, 0, none⟩) 1 1) (.slice none 0 0) (gh0 g u.heap.size) := by
  have hgl := hr.lt
  have hz := hb.size
  have hb2 : Below u.heap.size u ((u.alloc (.cells #[.pointer (some ⟨g, 0, none⟩)] 40)).alloc (.cells #[.int .i64 (n + 1), .int .i64 r, .int .u32 a, .int .u32 b, .int .u32 c, .slice none 0 0] 58)) := ((Below.refl _ _).alloc (Nat.le_refl _) _).alloc (by simp) _
  refine { la := ?_, lb := ?_, ll := World.ownsRow_nil _ _ _ _, ra := fun i _ => hr.below hb2 hgl, rx := fun i _ => OwnB.nil _ _, bx := fun i _ j hj => absurd hj (by simp [gh0]), ro := fun i hi => absurd hi (by simp [gh0]), cl := fun i hi => absurd hi (by simp [gh0]), sl := fun i _ => Nat.two_pow_pos n, xa := fun q e => ?_, xb := fun q e => ?_, xl := (fun q e => by cases e), xg := fun i hi => ?_, xo := fun i q hi => absurd hi (by simp [gh0]), xv := (fun i q _ e => by cases e), ge := fun i _ => hg, pq := Nat.le_refl _, below := below_then hb hb2 }
  · have h0 : OwnV 40 (u.alloc (.cells #[.pointer (some ⟨g, 0, none⟩)] 40)) w.heap.size (.slice (some ⟨u.heap.size, 0, none⟩) 1 1) [.pointer (some ⟨g, 0, none⟩)] := World.ownsRow_lit u #[.pointer (some ⟨g, 0, none⟩)] 1 hz (by unfold maxLen; omega) rfl
    exact h0.alloc _
  · have h0 := World.ownsRow_lit (base := w.heap.size) (e := 58) (size := 6) (u.alloc (.cells #[.pointer (some ⟨g, 0, none⟩)] 40)) #[.int .i64 (n + 1), .int .i64 r, .int .u32 a, .int .u32 b, .int .u32 c, .slice none 0 0] 1 (by simp; omega) (by unfold maxLen; omega) rfl
    simp only [World.size_alloc] at h0
    exact h0
  · simp [Value.ownBlock] at e; subst e; simp [gh0]
  · simp [Value.ownBlock] at e; subst e; simp [gh0]
  · have hi : i < 1 := hi
    obtain rfl : i = 0 := by omega
    show (if g = u.heap.size then 0 else if g = u.heap.size + 1 then 1 else 3) = 3
    rw [if_neg (by omega), if_neg (by omega)]
end Go.Proofs.Ytmmngcjnofcmmaa
