/- A map in memory, whatever its elements: as a function of its keys; looked up, stored into, deleted from. No condition. -/
import Derived.Test.YtlcjdlnhniemcaaDoorMgA
import Derived.Maps.OwnOps
import Derived.Maps.Views
namespace Go.Proofs.YtlcjdlnhniemcaaDoor
open Go.RowKit Go.Maps Go.WideShapes Go.ChangeMaps Go.MapKept

/-- an element reads as itself -/
def selfElem (v : Value) : Option (DataW Value × List MemPlace) := some (.held v, [])
def viewOf (o : Option Value) (zd : DataW Value) : DataW Value := match o with | some v => .held v | none => zd
/-- the block b is a map of at most n entries, which is m -/
def MapV (w : World) (P : Program) (k : TypeId) (b n : Nat) (m : Lit → Option Value) : Prop :=
  ∃ D : DataW Value, w.ownsMap P k selfElem b n D ∧ IsMap D ∧ ∀ kl, WideAt.IsKeyLit kl → ∀ zd, D.atKey kl zd = viewOf (m kl) zd
section
variable {P : Program} {k e t : TypeId} {w w' : World} {b n : Nat} {m : Lit → Option Value}
theorem MapV.made (w : World) (P : Program) (k : TypeId) : MapV (w.alloc (.map #[] 0)) P k w.heap.size 0 (fun _ => none) :=
  ⟨_, World.ownsMap_made w P k _, isMap_empty, fun _ _ _ => rfl⟩
theorem MapV.lt (h : MapV w P k b n m) : b < w.heap.size := by obtain ⟨D, h1, _⟩ := h; exact h1.lt
theorem MapV.mono (h : MapV w P k b n m) {n' : Nat} (hn : n ≤ n') : MapV w P k b n' m := by obtain ⟨D, h1, h2⟩ := h; exact ⟨D, h1.mono hn, h2⟩
theorem MapV.same (h : MapV w P k b n m) (hs : w'.heap[b]? = w.heap[b]?) : MapV w' P k b n m := by
  obtain ⟨D, ⟨es, clock, hb, F, hs', hD⟩, h2⟩ := h
  exact ⟨D, ⟨es, clock, hs.trans hb, F, hs', hD⟩, h2⟩
theorem MapV.next (h : MapV w P k b n m) (hb : Below w.heap.size w w') : MapV w' P k b n m := h.same (hb.block b h.lt)
theorem MapV.drewN (h : MapV w P k b n m) (j : Nat) : MapV (w.drewN j) P k b n m := h.same rfl
theorem MapV.drew (h : MapV w P k b n m) : MapV w.drew P k b n m := h.same rfl
theorem MapV.alloc (h : MapV w P k b n m) (o : Obj) : MapV (w.alloc o) P k b n m := h.same (Below.heap_alloc w o b h.lt)
theorem MapV.setCell (h : MapV w P k b n m) {p : Addr} (hp : p.block ≠ b) (v : Value) : MapV (w.setCell p v) P k b n m := h.same (Below.heap_setCell w p v b (fun e => hp e.symm))
theorem MapV.stays {No : Nat → Prop} (h : MapV w P k b n m) (hs : Stays w w' No) (hn : ¬ No b) : MapV w' P k b n m := h.same (hs.block b h.lt hn)
theorem MapV.kept {row : Option Nat} (h : MapV w P k b n m) (hg : w.grownBy w' row) (hne : row ≠ some b) : MapV w' P k b n m := h.same (hg.block b h.lt (fun e => hne e.symm))
theorem MapV.ne_cells (h : MapV w P k b n m) {F : Nat} {T : TypeId} {cs : Array Value} {u : Nat × Nat} (hF : w.heap[F]? = some (.cells cs T u)) : b ≠ F := by
  rintro rfl
  obtain ⟨D, ⟨es, clock, hb, _⟩, _⟩ := h
  rw [hb] at hF
  simp at hF
theorem MapV.apart (h : MapV w P k b n m) {base : Nat} {e : TypeId} {size n' c : Nat} {A : Option Addr} {xs : List Value} (ho : Own w base e size A n' c xs) : blkOf A ≠ some b := by
  intro he
  rcases ho.2 with ⟨h1, _⟩ | ⟨g, cap, cur, h1, _, h3, _⟩
  · simp only [Value.slice.injEq] at h1
    rw [h1.1] at he
    cases he
  · simp only [Value.slice.injEq] at h1
    rw [h1.1] at he
    have hg : g = b := by simpa [blkOf] using he
    subst hg
    exact h.ne_cells h3 rfl

theorem MapV.look (h : MapV w P k b n m) (K : Keyed P k) (ht : P.underlying t = some (.map k e)) {z : Value} (hz : (zeroValue e).run P w = .ok z w) {key : Value} {kl : Lit} (hkey : keyOf P k key = some kl) :
    (Instr.lookup t (.map (some b)) key false).run P w = .ok ((m kl).getD z) w := by
  obtain ⟨D, h1, h2, h3⟩ := h
  obtain ⟨v, ps, hr, hv⟩ := h1.lookup K ht hz (R := selfElem) rfl hkey
  rw [h3 kl (K.key hkey)] at hv
  rw [hr]
  unfold selfElem viewOf at hv
  cases hm : m kl with
  | none =>
    rw [hm] at hv
    simp only [Option.some.injEq, Prod.mk.injEq, DataW.held.injEq] at hv
    rw [hv.1]; rfl
  | some u =>
    rw [hm] at hv
    simp only [Option.some.injEq, Prod.mk.injEq, DataW.held.injEq] at hv
    rw [hv.1]; rfl
theorem MapV.look_ok (h : MapV w P k b n m) (K : Keyed P k) (ht : P.underlying t = some (.map k e)) {z : Value} (hz : (zeroValue e).run P w = .ok z w) {key : Value} {kl : Lit} (hkey : keyOf P k key = some kl) :
    (Instr.lookup t (.map (some b)) key true).run P w = .ok (.tuple #[(m kl).getD z, .bool (m kl).isSome]) w := by
  obtain ⟨D, h1, h2, h3⟩ := h
  have h1' := h1
  obtain ⟨es, clock, hb, F, _, rfl⟩ := h1
  have h4 := h3 kl (K.key hkey)
  rcases Maps.fit_look true K ht hz hb F hkey with ⟨hr, _, hat⟩ | ⟨e0, y, _, _, hr, hR, hat, _⟩
  · rw [hr]
    cases hm : m kl with
    | none => rfl
    | some u =>
      have := h4 .nil
      rw [hat, hm] at this
      simp [viewOf] at this
  · rw [hr]
    unfold selfElem at hR
    simp only [Option.some.injEq] at hR
    subst hR
    cases hm : m kl with
    | none =>
      have := h4 .nil
      rw [hat, hm] at this
      simp [viewOf] at this
    | some u =>
      have := h4 .nil
      rw [hat, hm] at this
      simp only [viewOf, DataW.held.injEq] at this
      rw [this]; rfl
open Classical in
/-- what a map is behind a store -/
noncomputable def mapPut (m : Lit → Option Value) (kl : Lit) (v : Value) : Lit → Option Value := fun x => if x = kl then some v else m x
open Classical in
noncomputable def mapDel (m : Lit → Option Value) (kl : Lit) : Lit → Option Value := fun x => if x = kl then none else m x
theorem MapV.put (h : MapV w P k b n m) (K : Keyed P k) (ht : P.underlying t = some (.map k e)) (hn : n < maxLen) {key : Value} {kl : Lit} (hkey : keyOf P k key = some kl) (v : Value) :
    ∃ w', (Instr.mapUpdate t (.map (some b)) key v).run P w = .ok () w' ∧ MapV w' P k b (n + 1) (mapPut m kl v) ∧ w.grownBy w' (some b) := by
  obtain ⟨D, h1, h2, h3⟩ := h
  obtain ⟨w', hr, h4, h5⟩ := h1.update K ht hn hkey (val := v) (d := .held v) (ps := []) rfl
  refine ⟨w', hr, ⟨_, h4, h2.put _ _, fun kl' hk zd => ?_⟩, h5⟩
  unfold mapPut
  by_cases hkk : kl' = kl
  · subst hkk
    rw [if_pos rfl, atKey_put_same h2 hk]; rfl
  · rw [if_neg hkk, atKey_put_other hkk]
    exact h3 kl' hk zd
theorem MapV.del (h : MapV w P k b n m) {ty : TypeId} (K : Keyed P k) (ht : P.underlying t = some (.map k e)) {key : Value} {kl : Lit} (hkey : keyOf P k key = some kl) :
    ∃ w', (Builtin.delete_ #[t, k] ty #[.map (some b), key]).run P w = .ok (.tuple #[]) w' ∧ MapV w' P k b n (mapDel m kl) ∧ w.grownBy w' (some b) := by
  obtain ⟨D, ⟨es, clock, hb, F, hs, rfl⟩, h2, h3⟩ := h
  obtain ⟨es', hr, F', hle, hD, _⟩ := Maps.fit_drop (ty := ty) K ht hb F hkey
  refine ⟨_, hr, ⟨_, ⟨es', clock, heap_setBlock_same hb _, F', Nat.le_trans hle hs, rfl⟩, ⟨_, rfl⟩, fun kl' hk zd => ?_⟩, ⟨rfl, rfl, rfl, by simp [setBlock], fun i _ hi => heap_setBlock_other hb _ (fun e => hi (by rw [e]))⟩⟩
  have e1 : (DataW.map ((es'.toList.map (WideElems.rg P k selfElem)).foldr DataW.insert [])) = (DataW.map ((es.toList.map (WideElems.rg P k selfElem)).foldr DataW.insert [])).del kl := by rw [hD]; rfl
  rw [e1]
  unfold mapDel
  by_cases hkk : kl' = kl
  · subst hkk
    rw [if_pos rfl, atKey_del_same]; rfl
  · rw [if_neg hkk, atKey_del_other hkk]
    exact h3 kl' hk zd

/-! ### At the operation -/
variable {ops : Array Oper} {rest : List Oper} {o : Oper} {a : Act} {Q : Exit → Act → World → Prop}
theorem wp_mlook (w : World) (hg : o.guard = none) (mm x : Operand) (t : TypeId) (hop : o.op = Op.lookup t mm x false) (K : Keyed P k) (ht : P.underlying t = some (.map k e)) {z : Value} (hz : (zeroValue e).run P w = .ok z w) (hm : a.eval mm = .map (some b)) (h : MapV w P k b n m)
    (key : Value) (hx : a.eval x = key) {kl : Lit} (hkey : keyOf P k key = some kl) (hK : wpList P ops Q rest (a.put o.dst ((m kl).getD z)) w) : wpList P ops Q (o :: rest) a w := by
  refine wpList_plain hg fun K' hK' => ?_
  have hr := h.look K ht hz hkey
  unfold Oper.wp
  simp [execOp, hop, hm, hx, hr, Result.andThen]
  exact hK' _ _ hK
theorem wp_mlook_ok (w : World) (hg : o.guard = none) (mm x : Operand) (t : TypeId) (hop : o.op = Op.lookup t mm x true) (K : Keyed P k) (ht : P.underlying t = some (.map k e)) {z : Value} (hz : (zeroValue e).run P w = .ok z w) (hm : a.eval mm = .map (some b)) (h : MapV w P k b n m)
    (key : Value) (hx : a.eval x = key) {kl : Lit} (hkey : keyOf P k key = some kl) (hK : wpList P ops Q rest (a.put o.dst (.tuple #[(m kl).getD z, .bool (m kl).isSome])) w) : wpList P ops Q (o :: rest) a w := by
  refine wpList_plain hg fun K' hK' => ?_
  have hr := h.look_ok K ht hz hkey
  unfold Oper.wp
  simp [execOp, hop, hm, hx, hr, Result.andThen]
  exact hK' _ _ hK
theorem wp_mput (w : World) (hg : o.guard = none) (mm x v : Operand) (t : TypeId) (hop : o.op = Op.mapUpdate t mm x v) (K : Keyed P k) (ht : P.underlying t = some (.map k e)) (hm : a.eval mm = .map (some b)) (h : MapV w P k b n m) (hn : n < maxLen)
    (key val : Value) (hx : a.eval x = key) (hv : a.eval v = val) {kl : Lit} (hkey : keyOf P k key = some kl) (hK : ∀ w', MapV w' P k b (n + 1) (mapPut m kl val) → w.grownBy w' (some b) → wpList P ops Q rest (a.put o.dst undef) w') : wpList P ops Q (o :: rest) a w := by
  refine wpList_plain hg fun K' hK' => ?_
  obtain ⟨w', hr, h1, h2⟩ := h.put K ht hn hkey val
  unfold Oper.wp
  simp [execOp, hop, hm, hx, hv, hr, Result.andThen]
  exact hK' _ _ (hK w' h1 h2)
theorem wp_mdel (w : World) (hg : o.guard = none) (mm x : Operand) (t : TypeId) (hop : o.op = .call { callee := .builtin .delete, args := #[mm, x], argTypes := #[t, k] }) (K : Keyed P k) (ht : P.underlying t = some (.map k e)) (hm : a.eval mm = .map (some b)) (h : MapV w P k b n m)
    (key : Value) (hx : a.eval x = key) {kl : Lit} (hkey : keyOf P k key = some kl) (hK : ∀ w', MapV w' P k b n (mapDel m kl) → w.grownBy w' (some b) → wpList P ops Q rest (a.put o.dst (.tuple #[])) w') : wpList P ops Q (o :: rest) a w := by
  refine wpList_plain hg fun K' hK' => ?_
  obtain ⟨w', hr, h1, h2⟩ := h.del (ty := o.type) K ht hkey
  unfold Oper.wp
  simp [execOp, hop, resolve, invoke, builtin, hm, hx, hr, Result.andThen]
  exact hK' _ _ (hK w' h1 h2)
end
/-- a map keyed by ints -/
def mapI (f : Int → Option Value) : Lit → Option Value := fun x => match x with | .int .i64 a => f a | _ => none
theorem mapI_at (f : Int → Option Value) (a : Int) : mapI f (.int .i64 a) = f a := rfl
theorem mapI_none : (fun _ => none : Lit → Option Value) = mapI (fun _ => none) := by
  funext x
  cases x with
  | int k a => cases k <;> rfl
  | _ => rfl
theorem mapI_put (f : Int → Option Value) (a : Int) (v : Value) : mapPut (mapI f) (.int .i64 a) v = mapI (fun i => if i = a then some v else f i) := by
  funext x
  unfold mapPut
  cases x with
  | int k c =>
    cases k <;> simp [mapI]
  | _ => simp [mapI]
theorem mapI_del (f : Int → Option Value) (a : Int) : mapDel (mapI f) (.int .i64 a) = mapI (fun i => if i = a then none else f i) := by
  funext x
  unfold mapDel
  cases x with
  | int k c =>
    cases k <;> simp [mapI]
  | _ => simp [mapI]
theorem wf_i64 {a : Int} (h : IntOk a) : (Lit.int .i64 a).wf = true := by
  unfold IntOk at h
  simp [Lit.wf, IntKind.min, IntKind.max, IntKind.signed, IntKind.bits]
  omega
end Go.Proofs.YtlcjdlnhniemcaaDoor
