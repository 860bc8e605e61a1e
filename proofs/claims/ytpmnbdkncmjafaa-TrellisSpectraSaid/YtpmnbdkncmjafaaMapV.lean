/- Maps as functions from keys to elements, whatever the keys and the elements: made, looked up, written, struck, counted, ranged over. -/
import Derived.Test.YtpmnbdkncmjafaaRows
import Derived.Test.YtpmnbdkncmjafaaBytes
import Derived.Maps.RangeWalk
import Derived.Maps.Ext
namespace Go.Proofs.Ytpmnbdkncmjafaa
open Go.RowKit
open Go.Maps (Keyed)

/-- how the keys and the elements of a map's type are told -/
structure MapK (P : Program) (t k e : TypeId) (α β : Type) where
  und : P.underlying t = some (.map k e)
  K : Keyed P k
  kv : α → Value
  lt : α → Lit
  ok : α → Prop
  mv : β → Value
  vok : β → Prop
  zero : β
  vzero : vok zero
  hz : ∀ w, (zeroValue e).run P w = .ok (mv zero) w
  hkey : ∀ x, ok x → keyOf P k (kv x) = some (lt x)
  linj : ∀ x y, ok x → ok y → lt x = lt y → x = y
  inv : ∀ key kl, keyOf P k key = some kl → ∃ x, ok x ∧ key = kv x
  vinj : ∀ c d, mv c = mv d → c = d
section
variable {P : Program} {t k e : TypeId} {α β : Type}
open Classical in
/-- what an element reads as: itself -/
noncomputable def MapK.R (M : MapK P t k e α β) (v : Value) : Option (DataW Value × List MemPlace) := if ∃ c, M.vok c ∧ v = M.mv c then some (.held v, []) else none
theorem MapK.r_mv (M : MapK P t k e α β) {c : β} (hc : M.vok c) : M.R (M.mv c) = some (.held (M.mv c), []) := if_pos ⟨c, hc, rfl⟩
theorem MapK.r_inv (M : MapK P t k e α β) {v : Value} {y : DataW Value × List MemPlace} (h : M.R v = some y) : ∃ c, M.vok c ∧ v = M.mv c ∧ y = (.held (M.mv c), []) := by
  unfold MapK.R at h
  split at h
  · rename_i hc
    obtain ⟨c, hc, rfl⟩ := hc
    cases h
    exact ⟨c, hc, rfl, rfl⟩
  · cases h
/-- the datum at a key is what the function says -/
def MapK.Agr (M : MapK P t k e α β) (D : DataW Value) (x : α) : Option β → Prop
  | none => Maps.has D (M.lt x) = false
  | some c => M.vok c ∧ ∀ z, D.atKey (M.lt x) z = .held (M.mv c)
/-- block b is a map of at most n entries that holds what f says -/
def MapF (M : MapK P t k e α β) (w : World) (b n : Nat) (f : α → Option β) : Prop := ∃ D, w.ownsMap P k M.R b n D ∧ ∀ x, M.ok x → M.Agr D x (f x)
/-- such a map is ranged over; rem: what is still to come -/
def RangeF (M : MapK P t k e α β) (w : World) (b r n : Nat) (f : α → Option β) (rem : α → Bool) (cnt : Nat) : Prop :=
  ∃ D left, w.ranges P k M.R b r n D left cnt ∧ (∀ x, M.ok x → M.Agr D x (f x)) ∧ ∀ x, M.ok x → left (M.lt x) = rem x
variable {M : MapK P t k e α β} {w w' : World} {b r n cnt : Nat} {f : α → Option β} {rem : α → Bool}
theorem MapK.isKey (M : MapK P t k e α β) {x : α} (hx : M.ok x) : WideAt.IsKeyLit (M.lt x) := M.K.key (M.hkey x hx)
theorem MapK.Agr.has {D : DataW Value} {x : α} {o : Option β} (h : M.Agr D x o) : Maps.has D (M.lt x) = o.isSome := by
  cases o with
  | none => exact h
  | some c => exact Maps.has_true_of_atKey h.2
theorem MapK.Agr.at_ {D : DataW Value} {x : α} {o : Option β} (h : M.Agr D x o) : D.atKey (M.lt x) (.held (M.mv M.zero)) = .held (M.mv (o.getD M.zero)) := by
  cases o with
  | none => exact Maps.atKey_of_not_has h _
  | some c => exact h.2 _
theorem MapF.made (M : MapK P t k e α β) (w : World) : MapF M (w.alloc (.map #[] 0)) w.heap.size 0 (fun _ => none) := ⟨_, World.ownsMap_made w P k M.R, fun _ _ => rfl⟩
theorem MapF.lt (h : MapF M w b n f) : b < w.heap.size := by obtain ⟨D, h, _⟩ := h; exact h.lt
theorem MapF.mono (h : MapF M w b n f) {n' : Nat} (hn : n ≤ n') : MapF M w b n' f := by obtain ⟨D, h, g⟩ := h; exact ⟨D, h.mono hn, g⟩
theorem MapF.grown {row : Option Nat} (h : MapF M w b n f) (hg : w.grownBy w' row) (hne : some b ≠ row) : MapF M w' b n f := by obtain ⟨D, h, g⟩ := h; exact ⟨D, h.kept hg hne, g⟩
theorem MapF.below (h : MapF M w b n f) (hb : Below w.heap.size w w') : MapF M w' b n f := h.grown (grownBy_of (row := none) hb) (by simp)
theorem MapF.alloc (h : MapF M w b n f) (o : Obj) : MapF M (w.alloc o) b n f := h.grown (World.grownBy_alloc w o none) (by simp)
theorem MapF.keep (h : MapF M w b n f) (hk : w'.heap[b]? = w.heap[b]?) : MapF M w' b n f := by
  obtain ⟨D, ⟨es, clock, hb, r⟩, g⟩ := h
  exact ⟨D, ⟨es, clock, hk.trans hb, r⟩, g⟩
theorem MapF.congr {f' : α → Option β} (h : MapF M w b n f) (he : ∀ x, M.ok x → f x = f' x) : MapF M w b n f' := by
  obtain ⟨D, h, g⟩ := h
  exact ⟨D, h, fun x hx => he x hx ▸ g x hx⟩
theorem MapF.vok (h : MapF M w b n f) {x : α} (hx : M.ok x) {c : β} (hc : f x = some c) : M.vok c := by
  obtain ⟨D, h, g⟩ := h
  have := g x hx
  rw [hc] at this
  exact this.1
theorem RangeF.owns (h : RangeF M w b r n f rem cnt) : MapF M w b n f := by obtain ⟨D, left, h, g, _⟩ := h; exact ⟨D, h.owns, g⟩
theorem RangeF.lt (h : RangeF M w b r n f rem cnt) : r < w.heap.size := by obtain ⟨D, left, h, g, _⟩ := h; exact h.lt
theorem RangeF.ne (h : RangeF M w b r n f rem cnt) : r ≠ b := by obtain ⟨D, left, h, g, _⟩ := h; exact h.ne
theorem RangeF.left_eq (h : RangeF M w b r n f rem cnt) : w.rangeLeft b r = cnt := by obtain ⟨D, left, h, g, _⟩ := h; exact h.left_eq
theorem RangeF.grown {row : Option Nat} (h : RangeF M w b r n f rem cnt) (hg : w.grownBy w' row) (h1 : some b ≠ row) (h2 : some r ≠ row) : RangeF M w' b r n f rem cnt := by
  obtain ⟨D, left, h, g⟩ := h
  exact ⟨D, left, h.kept hg h1 h2, g⟩
theorem RangeF.congr {rem' : α → Bool} (h : RangeF M w b r n f rem cnt) (he : ∀ x, M.ok x → rem x = rem' x) : RangeF M w b r n f rem' cnt := by
  obtain ⟨D, left, h, g, q⟩ := h
  exact ⟨D, left, h, g, fun x hx => (q x hx).trans (he x hx)⟩
theorem MapF.look (h : MapF M w b n f) {x : α} (hx : M.ok x) (c : Bool) : (Instr.lookup t (.map (some b)) (M.kv x) c).run P w = .ok (if c then .tuple #[M.mv ((f x).getD M.zero), .bool (f x).isSome] else M.mv ((f x).getD M.zero)) w := by
  obtain ⟨D, h, g⟩ := h
  have a1 := (g x hx).at_
  have a2 := (g x hx).has
  cases c with
  | false =>
    obtain ⟨v, ps, hrun, hv⟩ := h.lookup M.K M.und (M.hz w) (M.r_mv M.vzero) (M.hkey x hx)
    rw [a1] at hv
    obtain ⟨c, _, rfl, hy⟩ := M.r_inv hv
    injection hy with hy _
    injection hy with hy
    rw [hrun, ← hy]; rfl
  | true =>
    obtain ⟨v, ps, hrun, hv⟩ := h.look_ok M.K M.und (M.hz w) (M.r_mv M.vzero) (M.hkey x hx)
    rw [a1] at hv
    obtain ⟨c, _, rfl, hy⟩ := M.r_inv hv
    injection hy with hy _
    injection hy with hy
    rw [hrun, ← hy, a2]; rfl
theorem MapF.put [DecidableEq α] (h : MapF M w b n f) (hn : n < maxLen) {x : α} (hx : M.ok x) {c : β} (hc : M.vok c) : ∃ w', (Instr.mapUpdate t (.map (some b)) (M.kv x) (M.mv c)).run P w = .ok () w' ∧ MapF M w' b (n + 1) (fun y => if y = x then some c else f y) ∧ w.grownBy w' (some b) := by
  obtain ⟨D, h, g⟩ := h
  have hm := h.isMap
  obtain ⟨w', h1, h2, h3⟩ := h.update M.K M.und hn (M.hkey x hx) (M.r_mv hc)
  refine ⟨w', h1, ⟨_, h2, fun y hy => ?_⟩, h3⟩
  by_cases e : y = x
  · subst e
    simp only [if_true]
    exact ⟨hc, fun z => Maps.atKey_put_same hm (M.isKey hy) _ _⟩
  · have hne : M.lt y ≠ M.lt x := fun h => e (M.linj _ _ hy hx h)
    have := g y hy
    simp only [e, if_false]
    cases hf : f y with
    | none => rw [hf] at this; exact (Maps.has_put_other hne _).trans this
    | some d => rw [hf] at this; exact ⟨this.1, fun z => (Maps.atKey_put_other hne _ _).trans (this.2 z)⟩
theorem MapF.del [DecidableEq α] (h : MapF M w b n f) (ty : TypeId) {x : α} (hx : M.ok x) : ∃ w', (Builtin.delete_ #[t, k] ty #[.map (some b), M.kv x]).run P w = .ok (.tuple #[]) w' ∧ MapF M w' b n (fun y => if y = x then none else f y) ∧ w.grownBy w' (some b) := by
  obtain ⟨D, h, g⟩ := h
  obtain ⟨w', h1, h2, h3⟩ := h.drop M.K M.und (M.hkey x hx) ty
  refine ⟨w', h1, ⟨_, h2, fun y hy => ?_⟩, h3.grown⟩
  by_cases e : y = x
  · subst e
    simp only [if_true]
    exact Maps.has_del_same
  · have hne : M.lt y ≠ M.lt x := fun h => e (M.linj _ _ hy hx h)
    have := g y hy
    simp only [e, if_false]
    cases hf : f y with
    | none => rw [hf] at this; exact (Maps.has_del_other hne).trans this
    | some d => rw [hf] at this; exact ⟨this.1, fun z => (Maps.atKey_del_other hne _).trans (this.2 z)⟩
/-- of a map that holds nothing, and of none else, the length is 0 -/
theorem MapF.len (h : MapF M w b n f) (ty : TypeId) : ∃ N : Nat, (Builtin.len_ #[t] ty #[.map (some b)]).run P w = .ok (.int .i64 N) w ∧ N ≤ n ∧ (N = 0 ↔ ∀ x, M.ok x → f x = none) := by
  obtain ⟨D, h, g⟩ := h
  refine ⟨_, h.len M.und ty, h.size_le, ?_⟩
  obtain ⟨es, clock, hb, F, hs, rfl⟩ := h
  constructor
  · intro h0 x hx
    have := (g x hx).has
    rw [show Maps.has (DataW.map ((es.toList.map (WideElems.rg P k M.R)).foldr DataW.insert [])) (M.lt x) = false from by
      have h0 : ((es.toList.map (WideElems.rg P k M.R)).foldr DataW.insert []).length = 0 := h0
      rw [List.length_eq_zero_iff.1 h0]; rfl] at this
    cases hf : f x with
    | none => rfl
    | some c => rw [hf] at this; cases this
  · intro h0
    rcases Nat.eq_zero_or_pos es.size with hz | hz
    · show ((es.toList.map (WideElems.rg P k M.R)).foldr DataW.insert []).length = 0
      rw [length_sorted]; simpa using hz
    · exfalso
      have hmem : es[0] ∈ es.toList := by simp
      obtain ⟨y, hy⟩ := F.reads _ hmem
      obtain ⟨x, hx, ek⟩ := M.inv _ _ (WideElems.rd_key hy)
      have hk2 := WideElems.rd_key hy
      rw [ek, M.hkey x hx] at hk2
      have hhas : Maps.has (DataW.map ((es.toList.map (WideElems.rg P k M.R)).foldr DataW.insert [])) (M.lt x) = true :=
        List.any_eq_true.2 ⟨WideElems.rg P k M.R es[0], mem_sorted.2 (List.mem_map.2 ⟨_, hmem, rfl⟩), by
          rw [WideElems.rg_of hy, ← Option.some.inj hk2]; exact WideAt.sameKey_self (M.isKey hx)⟩
      have := (g x hx).has
      rw [h0 x hx, hhas] at this
      cases this
theorem MapF.range (h : MapF M w b n f) : ∃ w' cnt, (Instr.range t (.map (some b))).run P w = .ok (.pointer (some ⟨w.heap.size, 0, none⟩)) w' ∧ cnt ≤ n ∧ RangeF M w' b w.heap.size n f (fun x => (f x).isSome) cnt ∧ w.grownBy w' none ∧ w'.heap.size = w.heap.size + 1 := by
  obtain ⟨D, h, g⟩ := h
  obtain ⟨w', h1, h2, h3, h4⟩ := h.range M.K M.und
  exact ⟨w', _, h1, h.size_le, ⟨D, _, h2, g, fun x hx => (g x hx).has⟩, h3, h4⟩
end
section
variable {P : Program} {t k e : TypeId} {α β : Type} (M : MapK P t k e α β) {w : World} {ops : Array Oper} {rest : List Oper} {o : Oper} {a : Act} {Q : Exit → Act → World → Prop} {b r n cnt : Nat} {f : α → Option β} {rem : α → Bool}
theorem wpList_lookF (hg : o.guard = none) (m x : Operand) (c : Bool) (hop : o.op = Op.lookup t m x c) (hm : a.eval m = .map (some b)) (h : MapF M w b n f) (y : α) (hx : a.eval x = M.kv y) (hy : M.ok y)
    (hK : wpList P ops Q rest (a.put o.dst (if c then .tuple #[M.mv ((f y).getD M.zero), .bool (f y).isSome] else M.mv ((f y).getD M.zero))) w) : wpList P ops Q (o :: rest) a w := by
  refine wpList_plain hg fun K' hK' => ?_
  have hrun := h.look hy c
  unfold Oper.wp
  simp only [execOp, hop, hm, hx, Sem.run_bind, Sem.run_pure, hrun, Result.andThen_ok]
  exact hK' _ _ hK
theorem wpList_lookF_none (hg : o.guard = none) (m x : Operand) (hop : o.op = Op.lookup t m x true) (hm : a.eval m = .map (some b)) (h : MapF M w b n f) (y : α) (hx : a.eval x = M.kv y) (hy : M.ok y) (hf : f y = none) (z : Value) (hz : M.mv M.zero = z)
    (hK : wpList P ops Q rest (a.put o.dst (.tuple #[z, .bool false])) w) : wpList P ops Q (o :: rest) a w :=
  wpList_lookF M hg m x true hop hm h y hx hy (by rw [hf, if_pos rfl]; subst hz; exact hK)
theorem wpList_lookF_some (hg : o.guard = none) (m x : Operand) (hop : o.op = Op.lookup t m x true) (hm : a.eval m = .map (some b)) (h : MapF M w b n f) (y : α) (hx : a.eval x = M.kv y) (hy : M.ok y) (c : β) (hf : f y = some c) (z : Value) (hz : M.mv c = z)
    (hK : wpList P ops Q rest (a.put o.dst (.tuple #[z, .bool true])) w) : wpList P ops Q (o :: rest) a w :=
  wpList_lookF M hg m x true hop hm h y hx hy (by rw [hf, if_pos rfl]; subst hz; exact hK)
theorem wpList_lookF_get (hg : o.guard = none) (m x : Operand) (hop : o.op = Op.lookup t m x false) (hm : a.eval m = .map (some b)) (h : MapF M w b n f) (y : α) (hx : a.eval x = M.kv y) (hy : M.ok y) (z : Value) (hz : M.mv ((f y).getD M.zero) = z)
    (hK : wpList P ops Q rest (a.put o.dst z) w) : wpList P ops Q (o :: rest) a w :=
  wpList_lookF M hg m x false hop hm h y hx hy (by subst hz; exact hK)
theorem wpList_putF [DecidableEq α] (hg : o.guard = none) (m x v : Operand) (hop : o.op = Op.mapUpdate t m x v) (hm : a.eval m = .map (some b)) (h : MapF M w b n f) (hn : n < maxLen) (y : α) (hx : a.eval x = M.kv y) (hy : M.ok y) (c : β) (hv : a.eval v = M.mv c) (hc : M.vok c)
    (hK : ∀ w', MapF M w' b (n + 1) (fun z => if z = y then some c else f z) → w.grownBy w' (some b) → wpList P ops Q rest (a.put o.dst undef) w') : wpList P ops Q (o :: rest) a w := by
  refine wpList_plain hg fun K' hK' => ?_
  obtain ⟨w', hrun, h1, h2⟩ := h.put hn hy hc
  unfold Oper.wp
  simp only [execOp, hop, hm, hx, hv, Sem.run_bind, Sem.run_pure, hrun, Result.andThen_ok]
  exact hK' _ _ (hK w' h1 h2)
theorem wpList_delF [DecidableEq α] (hg : o.guard = none) (m x : Operand) (hop : o.op = Op.call { callee := Callee.builtin Builtin.delete, args := #[m, x], argTypes := #[t, k] }) (hm : a.eval m = .map (some b)) (h : MapF M w b n f) (y : α) (hx : a.eval x = M.kv y) (hy : M.ok y)
    (hK : ∀ w', MapF M w' b n (fun z => if z = y then none else f z) → w.grownBy w' (some b) → wpList P ops Q rest (a.put o.dst (.tuple #[])) w') : wpList P ops Q (o :: rest) a w := by
  refine wpList_plain hg fun K' hK' => ?_
  obtain ⟨w', hrun, h1, h2⟩ := h.del o.type hy
  unfold Oper.wp
  simp [execOp, hop, resolve, invoke, builtin, hm, hx, hrun, Result.andThen]
  exact hK' _ _ (hK w' h1 h2)
theorem wpList_lenF (hg : o.guard = none) (m : Operand) (hop : o.op = Op.call { callee := Callee.builtin Builtin.len, args := #[m], argTypes := #[t] }) (hm : a.eval m = .map (some b)) (h : MapF M w b n f)
    (hK : ∀ N : Nat, N ≤ n → (N = 0 ↔ ∀ x, M.ok x → f x = none) → wpList P ops Q rest (a.put o.dst (.int .i64 (N : Int))) w) : wpList P ops Q (o :: rest) a w := by
  refine wpList_plain hg fun K' hK' => ?_
  obtain ⟨N, hrun, h1, h2⟩ := h.len o.type
  unfold Oper.wp
  simp [execOp, hop, resolve, invoke, builtin, hm, hrun, Result.andThen]
  exact hK' _ _ (hK N h1 h2)
theorem wpList_rangeF (hg : o.guard = none) (m : Operand) (hop : o.op = Op.range t m) (hm : a.eval m = .map (some b)) (h : MapF M w b n f)
    (hK : ∀ w' cnt, cnt ≤ n → RangeF M w' b w.heap.size n f (fun x => (f x).isSome) cnt → w.grownBy w' none → w'.heap.size = w.heap.size + 1 → wpList P ops Q rest (a.put o.dst (.pointer (some ⟨w.heap.size, 0, none⟩))) w') : wpList P ops Q (o :: rest) a w := by
  refine wpList_plain hg fun K' hK' => ?_
  obtain ⟨w', cnt, hrun, h0, h1, h2, h3⟩ := h.range
  unfold Oper.wp
  simp [execOp, hop, hm, hrun, Result.andThen]
  exact hK' _ _ (hK w' cnt h0 h1 h2 h3)
theorem wpList_nextF [DecidableEq α] (hg : o.guard = none) (it : Operand) (hop : o.op = Op.next it false) (hit : a.eval it = .pointer (some ⟨r, 0, none⟩)) (h : RangeF M w b r n f rem cnt) (kv' : α → Value) (mv' : β → Value) (hkv : ∀ x, M.kv x = kv' x) (hmv : ∀ c, M.mv c = mv' c)
    (hDone : (∀ x, M.ok x → rem x = false) → wpList P ops Q rest (a.put o.dst (.tuple #[.bool false])) w)
    (hMore : ∀ (x : α) (c : β) (w' : World) (cnt' : Nat), M.ok x → M.vok c → rem x = true → f x = some c → RangeF M w' b r n f (fun y => rem y && !decide (y = x)) cnt' → cnt' < cnt → w.grownBy w' (some r) → w'.heap.size = w.heap.size →
      (Instr.entry (.pointer (some ⟨r, 0, none⟩))).run P w' = .ok (.tuple #[kv' x, mv' c]) w' → wpList P ops Q rest (a.put o.dst (.tuple #[.bool true, kv' x, mv' c])) w') :
    wpList P ops Q (o :: rest) a w := by
  obtain rfl : M.kv = kv' := funext hkv
  obtain rfl : M.mv = mv' := funext hmv
  obtain ⟨D, left, h, g, hl⟩ := h
  refine wpList_next_ranges w hg it hop k M.K M.R (fun x : { x // M.ok x } => M.kv x.1) M.mv (fun key kl hk => ?_) (fun v y hv => ?_) b r n D left cnt hit h (fun _ h0 => hDone fun x hx => (hl x hx).symm.trans (h0 _)) ?_
  · obtain ⟨x, hx, rfl⟩ := M.inv key kl hk
    exact ⟨⟨x, hx⟩, rfl⟩
  · obtain ⟨c, _, rfl, _⟩ := M.r_inv hv
    exact ⟨c, rfl⟩
  · rintro ⟨x, hx⟩ c kl y w' cnt' hkey hlk hv hat hrg hlt hgr hsz hen
    have hkey : keyOf P k (M.kv x) = some kl := hkey
    rw [M.hkey x hx] at hkey
    cases hkey
    obtain ⟨c', hc', ec, rfl⟩ := M.r_inv hv
    obtain rfl := M.vinj _ _ ec
    have hfx : f x = some c := by
      have := g x hx
      cases hf : f x with
      | none =>
        rw [hf] at this
        have h2 := Maps.has_true_of_atKey hat
        rw [this] at h2; cases h2
      | some d =>
        rw [hf] at this
        have h2 := (this.2 .nil).symm.trans (hat .nil)
        injection h2 with h2
        rw [M.vinj _ _ h2]
    refine hMore x c w' cnt' hx hc' ((hl x hx).symm.trans hlk) hfx ⟨D, _, hrg, g, fun y hy => ?_⟩ hlt hgr hsz hen
    rw [hl y hy]
    congr 2
    by_cases e : y = x
    · subst e
      simp [WideAt.sameKey_self (M.isKey hy)]
    · have hne : M.lt y ≠ M.lt x := fun h => e (M.linj _ _ hy hx h)
      rw [Maps.sameKey_ne hne]
      simp [e]
end
/-- a cell that no turn reaches -/
theorem gcell {w w' : World} {row : Option Nat} (hg : w.grownBy w' row) {b o : Nat} {v : Value} (hb : b < w.heap.size) (hne : some b ≠ row) (h : w.cell? ⟨b, o, none⟩ = some v) : w'.cell? ⟨b, o, none⟩ = some v := (World.cell?_of_block (a := ⟨b, o, none⟩) (hg.block b hb hne)).trans h
/-- keys of type uint32 -/
theorem keyOf_u32_inv {P : Program} {k : TypeId} (hk : P.underlying k = some (.int .u32)) {key : Value} {kl : Lit} (h : keyOf P k key = some kl) : ∃ x : Nat, x ≤ 4294967295 ∧ key = .int .u32 (x : Int) := by
  obtain ⟨x, rfl, rfl, hw⟩ := Maps.keyOf_int_inv hk h
  have : 0 ≤ x ∧ x ≤ 4294967295 := by
    simpa [Lit.wf, IntKind.min, IntKind.max, IntKind.signed, IntKind.bits] using hw
  exact ⟨x.toNat, by omega, by rw [Int.toNat_of_nonneg this.1]⟩
end Go.Proofs.Ytpmnbdkncmjafaa
