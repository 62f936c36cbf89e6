/- A range over a map that is a function of its keys; a map as a function of its keys' values. No condition. -/
import Derived.Test.YtlcjdlnhniemcaaDoorMapV
import Derived.Maps.RangeWalk
namespace Go.Proofs.YtlcjdlnhniemcaaDoor
open Go.RowKit Go.Maps Go.WideShapes Go.ChangeMaps Go.MapKept

/-- a range over the map under way: left: which entries are still to come -/
def MapR (w : World) (P : Program) (k : TypeId) (b r n : Nat) (m : Lit → Option Value) (left : Lit → Bool) (cnt : Nat) : Prop :=
  ∃ D : DataW Value, w.ranges P k selfElem b r n D left cnt ∧ ∀ kl, WideAt.IsKeyLit kl → ∀ zd, D.atKey kl zd = viewOf (m kl) zd
section
variable {P : Program} {k e t : TypeId} {w w' : World} {b r n cnt : Nat} {m : Lit → Option Value} {left : Lit → Bool}
theorem MapR.kept {row : Option Nat} (h : MapR w P k b r n m left cnt) (hg : w.grownBy w' row) (hb : some b ≠ row) (hr : some r ≠ row) : MapR w' P k b r n m left cnt := by
  obtain ⟨D, h1, h2⟩ := h; exact ⟨D, h1.kept hg hb hr, h2⟩
theorem MapR.same (h : MapR w P k b r n m left cnt) (hb : w'.heap[b]? = w.heap[b]?) (hr : w'.heap[r]? = w.heap[r]?) : MapR w' P k b r n m left cnt := by
  obtain ⟨D, ⟨es, clock, since, seen, c0, h1, F, hs, hD, h3, rest⟩, h2⟩ := h
  exact ⟨D, ⟨es, clock, since, seen, c0, hb.trans h1, F, hs, hD, hr.trans h3, rest⟩, h2⟩
theorem MapR.lt (h : MapR w P k b r n m left cnt) : b < w.heap.size ∧ r < w.heap.size := by obtain ⟨D, h1, h2⟩ := h; exact ⟨h1.owns.lt, h1.lt⟩
theorem MapR.next (h : MapR w P k b r n m left cnt) (hb : Below w.heap.size w w') : MapR w' P k b r n m left cnt := h.same (hb.block b h.lt.1) (hb.block r h.lt.2)
theorem MapR.left_eq (h : MapR w P k b r n m left cnt) : w.rangeLeft b r = cnt := by obtain ⟨D, h1, _⟩ := h; exact h1.left_eq
variable {ops : Array Oper} {rest : List Oper} {o : Oper} {a : Act} {Q : Exit → Act → World → Prop}
theorem wp_mrange (w : World) (hg : o.guard = none) (mm : Operand) (t : TypeId) (hop : o.op = Op.range t mm) (e : TypeId) (K : Keyed P k) (ht : P.underlying t = some (.map k e)) (hm : a.eval mm = .map (some b)) (h : MapV w P k b n m)
    (hK : ∀ w' left cnt, MapR w' P k b w.heap.size n m left cnt → (∀ kl, WideAt.IsKeyLit kl → m kl ≠ none → left kl = true) → w.grownBy w' none → w'.heap.size = w.heap.size + 1 → wpList P ops Q rest (a.put o.dst (.pointer (some ⟨w.heap.size, 0, none⟩))) w') :
    wpList P ops Q (o :: rest) a w := by
  obtain ⟨D, h1, h2, h3⟩ := h
  refine wpList_range_own w hg mm t hop k e K ht selfElem b n D hm h1 fun w' r1 r2 r3 => hK w' _ _ ⟨D, r1, h3⟩ (fun kl hk hne => ?_) r2 r3
  cases hh : Maps.has D kl
  · exfalso
    have h4 := h3 kl hk .nil
    rw [atKey_of_not_has hh] at h4
    cases hm : m kl with
    | none => exact hne hm
    | some v => rw [hm] at h4; simp [viewOf] at h4
  · rfl
/-- the step -/
theorem wp_mnext {α β : Type} (w : World) (hg : o.guard = none) (it : Operand) (hop : o.op = Op.next it false) (K : Keyed P k) (mkK : α → Value) (mkV : β → Value)
    (invK : ∀ key kl u, keyOf P k key = some kl → m kl = some u → ∃ x, key = mkK x) (invV : ∀ kl v, m kl = some v → ∃ c, v = mkV c) (hit : a.eval it = .pointer (some ⟨r, 0, none⟩)) (h : MapR w P k b r n m left cnt)
    (hDone : (∀ kl, left kl = false) → wpList P ops Q rest (a.put o.dst (.tuple #[.bool false])) w)
    (hMore : ∀ (x : α) (c : β) (kl : Lit) (w' : World) (cnt' : Nat), keyOf P k (mkK x) = some kl → left kl = true → m kl = some (mkV c) → MapR w' P k b r n m (fun z => left z && !z.sameKey kl) cnt' → cnt' < cnt →
      w.grownBy w' (some r) → w'.heap.size = w.heap.size → (Instr.entry (.pointer (some ⟨r, 0, none⟩))).run P w' = .ok (.tuple #[mkK x, mkV c]) w' → wpList P ops Q rest (a.put o.dst (.tuple #[.bool true, mkK x, mkV c])) w') :
    wpList P ops Q (o :: rest) a w := by
  obtain ⟨D, h1, h3⟩ := h
  refine wpList_plain hg fun K' hK' => ?_
  unfold Oper.wp
  rcases h1.next K o.type with ⟨h0, hl, hrun⟩ | ⟨key, v, kl, y, w', cnt', hkey, hlk, hv, hat, hrun, hrg, hlt, hgr, hsz, hen⟩
  · simp [execOp, hop, hit, hrun, Result.andThen]
    exact hK' _ _ (hDone hl)
  · have hmk : m kl = some v := by
      have h4 := h3 kl (K.key hkey)
      unfold selfElem at hv
      simp only [Option.some.injEq] at hv
      subst hv
      cases hm : m kl with
      | none =>
        have := h4 .nil
        rw [hat, hm] at this
        simp [viewOf] at this
      | some u =>
        have := h4 .nil
        rw [hat, hm] at this
        simp only [viewOf, DataW.held.injEq] at this
        rw [this]
    obtain ⟨x, rfl⟩ := invK key kl v hkey hmk
    obtain ⟨c, rfl⟩ := invV kl v hmk
    simp [execOp, hop, hit, hrun, Result.andThen]
    exact hK' _ _ (hMore x c kl w' cnt' hkey hlk hmk ⟨D, hrg, h3⟩ hlt hgr hsz hen)
end

/-! ### A map as a function of its keys' values -/
open Classical in
noncomputable def mapS (P : Program) (k : TypeId) (f : Value → Option Value) : Lit → Option Value := fun x => if h : ∃ v, keyOf P k v = some x then f h.choose else none
section
variable {P : Program} {k : TypeId}
theorem mapS_at (K : Keyed P k) (f : Value → Option Value) {v : Value} {x : Lit} (h : keyOf P k v = some x) : mapS P k f x = f v := by
  have hx : ∃ v, keyOf P k v = some x := ⟨v, h⟩
  unfold mapS
  rw [dif_pos hx, K.inj hx.choose_spec h]
theorem mapS_none : (fun _ => none : Lit → Option Value) = mapS P k (fun _ => none) := by
  funext x
  unfold mapS
  split <;> rfl
open Classical in
theorem mapS_put (K : Keyed P k) (f : Value → Option Value) {v : Value} {x : Lit} (h : keyOf P k v = some x) (u : Value) : mapPut (mapS P k f) x u = mapS P k (fun y => if y = v then some u else f y) := by
  funext z
  unfold mapPut
  by_cases e : z = x
  · subst e
    rw [if_pos rfl, mapS_at K _ h, if_pos rfl]
  · rw [if_neg e]
    by_cases hz : ∃ y, keyOf P k y = some z
    · obtain ⟨y, hy⟩ := hz
      rw [mapS_at K _ hy, mapS_at K _ hy, if_neg]
      rintro rfl
      rw [h] at hy
      cases hy
      exact e rfl
    · unfold mapS
      rw [dif_neg hz, dif_neg hz]
theorem mapS_some {f : Value → Option Value} {x : Lit} {u : Value} (h : mapS P k f x = some u) : ∃ v, keyOf P k v = some x ∧ f v = some u := by
  unfold mapS at h
  split at h
  · next hx => exact ⟨_, hx.choose_spec, h⟩
  · cases h
end
end Go.Proofs.YtlcjdlnhniemcaaDoor
