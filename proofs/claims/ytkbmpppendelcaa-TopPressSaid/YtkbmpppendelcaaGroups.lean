/- Maps whose elements are rows of integers of the call's own: looked up, appended to. No condition. -/
import Derived.Test.YtkbmpppendelcaaPrB
import Derived.Maps.OwnOps
import Derived.WideKeyEntry
import Derived.Lib.Hide
namespace Go.Proofs.Ytkbmpppendelcaa
open Go.RowKit Go.MapKept
open Go.WideElems (Fit rd rg rd_key rd_val)
open Go.ChangeMaps (setBlock heap_setBlock_same heap_setBlock_other putKey notKey)
open Go.WideMaps (KeyLaw)
open Go.Maps (Keyed)

theorem own_same {w w' : World} {base : Nat} {e : TypeId} {size n c : Nat} {A : Option Addr} {xs : List Value} (h : Own w base e size A n c xs) (hk : ∀ g, blkOf A = some g → w'.heap[g]? = w.heap[g]?) : Own w' base e size A n c xs := by
  refine ⟨h.1, ?_⟩
  rcases h.2 with h2 | ⟨g, cap, cur, h1, h2, h3, h4⟩
  · exact .inl h2
  · refine .inr ⟨g, cap, cur, h1, h2, (hk g ?_).trans h3, h4⟩
    simp only [Value.slice.injEq] at h1
    rw [h1.1]
    rfl
theorem own_cells_block {w : World} {base : Nat} {e : TypeId} {size n c : Nat} {A : Option Addr} {xs : List Value} (h : Own w base e size A n c xs) {g : Nat} (hg : blkOf A = some g) : ∃ cs, w.heap[g]? = some (.cells cs e (0, 0)) := by
  rcases h.2 with ⟨h1, _⟩ | ⟨g', cap, cur, h1, h2, h3, h4⟩
  · simp only [Value.slice.injEq] at h1
    rw [h1.1] at hg
    cases hg
  · simp only [Value.slice.injEq] at h1
    rw [h1.1] at hg
    cases hg
    exact ⟨cur, h3⟩

open Classical in
/-- the rows of a map with one more -/
noncomputable def putAt (pos : Value → List Int) (key : Value) (zs : List Int) : Value → List Int := fun k' => if k' = key then zs else pos k'
theorem putAt_same (pos : Value → List Int) (key : Value) (zs : List Int) : putAt pos key zs key = zs := if_pos rfl
theorem putAt_other (pos : Value → List Int) {key k' : Value} (zs : List Int) (h : k' ≠ key) : putAt pos key zs k' = pos k' := if_neg h

/-- block b is a map of n entries at most; at each key a row of its own, in no block of which No holds; what pos says at a key that is not there is nothing -/
def Groups (P : Program) (k e : TypeId) (q : IntKind) (w : World) (base b n : Nat) (No : Nat → Prop) (pos : Value → List Int) : Prop :=
  ∃ es clock, w.heap[b]? = some (.map es clock) ∧ es.size ≤ n ∧ Stamped es clock ∧ (∀ x ∈ es.toList, ∃ l, keyOf P k x.key = some l) ∧ ¬ No b ∧
    (∀ x ∈ es.toList, ∃ A m c, x.val = .slice A m c ∧ Own w base e 1 A m c ((pos x.key).map (Value.int q)) ∧ ∀ g, blkOf A = some g → ¬ No g) ∧
    (∀ key, (∀ x ∈ es.toList, x.key ≠ key) → pos key = []) ∧
    ∀ x ∈ es.toList, ∀ y ∈ es.toList, x.key ≠ y.key → ∀ g, x.val.ownBlock = some g → y.val.ownBlock ≠ some g

section
variable {P : Program} {k e : TypeId} {q : IntKind} {w w' : World} {base b n : Nat} {No No' : Nat → Prop} {pos : Value → List Int}
theorem Groups.made (P : Program) (k e : TypeId) (q : IntKind) (w : World) (base : Nat) (No : Nat → Prop) (hno : ¬ No w.heap.size) : Groups P k e q (w.alloc (.map #[] 0)) base w.heap.size 0 No (fun _ => []) :=
  ⟨#[], 0, (MapKept.heap_alloc w _).1, Nat.le_refl _, stamped_empty 0, by simp, hno, by simp, fun _ _ => rfl, by simp⟩
theorem Groups.lt (h : Groups P k e q w base b n No pos) : b < w.heap.size := by
  obtain ⟨es, clock, hb, _⟩ := h
  exact (Array.getElem?_eq_some_iff.1 hb).1
theorem Groups.off (h : Groups P k e q w base b n No pos) : ¬ No b := by
  obtain ⟨es, clock, _, _, _, _, hb, _⟩ := h
  exact hb
theorem Groups.keep (h : Groups P k e q w base b n No pos) (hk : ∀ j, j < w.heap.size → ¬ No j → w'.heap[j]? = w.heap[j]?) (hn : ∀ j, No' j → No j ∨ w.heap.size ≤ j) : Groups P k e q w' base b n No' pos := by
  have hbl := h.lt
  obtain ⟨es, clock, hb, hs, hst, hkeys, hnb, hown, habs, hap⟩ := h
  refine ⟨es, clock, (hk b hbl hnb).trans hb, hs, hst, hkeys, fun hN => ?_, fun x hx => ?_, habs, hap⟩
  · rcases hn b hN with h1 | h1
    · exact hnb h1
    · omega
  · obtain ⟨A, m, c, e1, ho, hno⟩ := hown x hx
    refine ⟨A, m, c, e1, own_same ho fun g hg => hk g (ho.lt g hg).2 (hno g hg), fun g hg hN => ?_⟩
    rcases hn g hN with h1 | h1
    · exact hno g hg h1
    · have := (ho.lt g hg).2
      omega
theorem Groups.next (h : Groups P k e q w base b n No pos) (hb : Below w.heap.size w w') : Groups P k e q w' base b n No pos := h.keep (fun j hj _ => hb.block j hj) (fun _ h => .inl h)
theorem Groups.more (h : Groups P k e q w base b n No pos) {n' : Nat} (hn : n ≤ n') : Groups P k e q w base b n' No pos := by
  obtain ⟨es, clock, hb, hs, h⟩ := h
  exact ⟨es, clock, hb, by omega, h⟩
theorem Groups.congr (h : Groups P k e q w base b n No pos) {pos' : Value → List Int} (hp : ∀ v, (∃ l, keyOf P k v = some l) → pos' v = pos v) (h0 : ∀ v, (¬ ∃ l, keyOf P k v = some l) → pos' v = []) : Groups P k e q w base b n No pos' := by
  obtain ⟨es, clock, hb, hs, hst, hkeys, hnb, hown, habs, hap⟩ := h
  refine ⟨es, clock, hb, hs, hst, hkeys, hnb, fun x hx => ?_, fun key hne => ?_, hap⟩
  · rw [hp _ (hkeys x hx)]
    exact hown x hx
  · by_cases hk : ∃ l, keyOf P k key = some l
    · rw [hp _ hk]; exact habs key hne
    · exact h0 _ hk

theorem Groups.at (h : Groups P k e q w base b n No pos) (K : Keyed P k) {t E : TypeId} (ht : P.underlying t = some (.map k E)) (hz : (zeroValue E).run P w = .ok (.slice none 0 0) w) {key : Value} {kl : Lit} (hkey : keyOf P k key = some kl) :
    ∃ A m c, (Instr.lookup t (.map (some b)) key false).run P w = .ok (.slice A m c) w ∧ Own w base e 1 A m c ((pos key).map (Value.int q)) ∧ ∀ g, blkOf A = some g → ¬ No g := by
  obtain ⟨es, clock, hb, hs, hst, hkeys, hnb, hown, habs, hap⟩ := h
  rcases K.find w hkey es.toList hkeys with ⟨h1, h2⟩ | ⟨j, e0, h1, h2, h3⟩
  · refine ⟨none, 0, 0, ?_, ?_, fun g hg => by cases hg⟩
    · simp [Instr.lookup, run_underlying ht, MapKept.run_getObj_map hb, K.check w _ hkey, h1, hz, Result.andThen]
    · rw [habs key h2]
      exact Own.nil _ _ _ _
  · obtain ⟨A, m, c, e1, ho, hno⟩ := hown e0 (List.mem_of_getElem? h2)
    refine ⟨A, m, c, ?_, by rw [← h3]; exact ho, hno⟩
    simp [Instr.lookup, run_underlying ht, MapKept.run_getObj_map hb, K.check w _ hkey, h1, e1, Result.andThen]

/-- what a store at an entry leaves -/
def EntryBack (P : Program) (k e : TypeId) (q : IntKind) (w : World) (base b n : Nat) (No : Nat → Prop) (pos : Value → List Int) (t : TypeId) (key : Value) (st : Nat) (A : Option Addr) : Prop :=
  ∀ (w2 : World) (A' : Option Addr) (m c : Nat) (zs : List Int), w.heap.size ≤ w2.heap.size → (∀ j, j < w.heap.size → blkOf A ≠ some j → w2.heap[j]? = w.heap[j]?) → Own w2 base e 1 A' m c (zs.map (Value.int q)) →
    (blkOf A' = blkOf A ∨ ∃ g, w.heap.size ≤ g ∧ blkOf A' = some g) → (∀ g, blkOf A' = some g → ¬ No g) →
    ∃ w3, (Instr.entryStore t (.map (some b)) (goInt st) (.slice A' m c)).run P w2 = .ok () w3 ∧ Groups P k e q w3 base b (n + 1) No (putAt pos key zs) ∧ w2.grownBy w3 (some b)

theorem Groups.entry (h : Groups P k e q w base b n No pos) (K : KeyLaw P k) {t E : TypeId} (ht : P.underlying t = some (.map k E)) (hz : ∀ u : World, (zeroValue E).run P u = .ok (.slice none 0 0) u) (hn : n < maxLen) {key : Value} {kl : Lit} (hkey : keyOf P k key = some kl) :
    ∃ A m c, ∃ st : Nat, ∃ w1, (Instr.mapEntry t (.map (some b)) key).run P w = .ok (.tuple #[.slice A m c, goInt st]) w1 ∧ Own w1 base e 1 A m c ((pos key).map (Value.int q)) ∧ (∀ g, blkOf A = some g → ¬ No g ∧ g ≠ b ∧ g < w1.heap.size) ∧ w.grownBy w1 (some b) ∧ w1.heap.size = w.heap.size ∧
      EntryBack P k e q w1 base b n No pos t key st A := by
  have hbl := h.lt
  obtain ⟨es, clock, hb, hs, hst, hkeys, hnb, hown, habs, hap⟩ := h
  have KK : Keyed P k := Keyed.of_law K
  let R0 : Value → Option (DataW Unit × List MemPlace) := fun _ => some (.nil, [])
  have F0 : Fit P k R0 es clock := ⟨by omega, hst, fun x hx => by
    obtain ⟨l, hl⟩ := hkeys x hx
    exact ⟨(l, .nil), by simp [rd, hl, R0]⟩⟩
  obtain ⟨v0, st, es1, clock1, hrun, hv0, hstore⟩ := WideElems.entry_then_store K ht hz hb F0 hkey
  have hb1 := heap_setBlock_same hb (.map es1 clock1)
  have hsz1 : (setBlock w b (.map es1 clock1)).heap.size = w.heap.size := by simp [setBlock]
  have hg1 : w.grownBy (setBlock w b (.map es1 clock1)) (some b) := ⟨rfl, rfl, rfl, by simp [setBlock], fun i _ hi => heap_setBlock_other hb _ (fun e1 => hi (by rw [e1]))⟩
  have hrow : ∃ A m c, v0 = .slice A m c ∧ Own w base e 1 A m c ((pos key).map (Value.int q)) ∧ (∀ g, blkOf A = some g → ¬ No g) ∧ ∀ x ∈ es.toList, x.key ≠ key → ∀ g, x.val.ownBlock = some g → blkOf A ≠ some g := by
    rcases hv0 with ⟨e0, he0, hk0, rfl⟩ | ⟨hne, rfl⟩
    · obtain ⟨A, m, c, e1, ho, hno⟩ := hown e0 he0
      refine ⟨A, m, c, e1, by rw [← hk0]; exact ho, hno, fun x hx hxk g hg => ?_⟩
      have := hap x hx e0 he0 (by rw [hk0]; exact hxk) g hg
      rwa [e1, ownBlock_slice] at this
    · exact ⟨none, 0, 0, rfl, by rw [habs key hne]; exact Own.nil _ _ _ _, (fun g hg => by cases hg), fun x _ _ g _ => by simp [blkOf]⟩
  obtain ⟨A, m, c, rfl, ho, hno, hapA⟩ := hrow
  have cells_ne : ∀ {u : World} {A' : Option Addr} {m' c' : Nat} {ys : List Value}, (∃ e1 c1, u.heap[b]? = some (.map e1 c1)) → Own u base e 1 A' m' c' ys → ∀ g, blkOf A' = some g → g ≠ b := fun ⟨e1, c1, hm⟩ hO g hg hgb => by
    obtain ⟨cs, hcs⟩ := own_cells_block hO hg
    rw [hgb, hm] at hcs
    cases hcs
  have hneb := cells_ne ⟨_, _, hb⟩ ho
  have ho1 : Own (setBlock w b (.map es1 clock1)) base e 1 A m c ((pos key).map (Value.int q)) := own_same ho fun g hg => heap_setBlock_other hb _ (hneb g hg)
  refine ⟨A, m, c, st, _, hrun, ho1, fun g hg => ⟨hno g hg, hneb g hg, (ho1.lt g hg).2⟩, hg1, hsz1, ?_⟩
  intro w2 A' m' c' zs hsz2 hkeep hO' hloc hno'
  rw [hsz1] at hsz2 hkeep hloc
  have hb2 : w2.heap[b]? = some (.map es1 clock1) := (hkeep b hbl (fun e1 => hneb b e1 rfl)).trans hb1
  obtain ⟨es', clock', hrun2, hupd⟩ := hstore w2 (.slice A' m' c') hb2
  obtain ⟨es2, clock2, hrun3, F2, hput, _, _, hwho⟩ := Maps.fit_store (R' := R0) (val := .slice A' m' c') KK ht hb F0 (by omega) (fun _ _ _ _ h => h) hkey rfl
  have heq : es' = es2 ∧ clock' = clock2 := by
    rw [hupd] at hrun3
    have h1 := congrArg (fun r => match r with | Result.ok _ u => u.heap[b]? | _ => none) hrun3
    simp only [heap_setBlock_same hb] at h1
    simpa using h1
  obtain ⟨rfl, rfl⟩ := heq
  have hg3 : w2.grownBy (setBlock w2 b (.map es' clock')) (some b) := ⟨rfl, rfl, rfl, by simp [setBlock], fun i _ hi => heap_setBlock_other hb2 _ (fun e1 => hi (by rw [e1]))⟩
  have hneb' := cells_ne ⟨_, _, hb2⟩ hO'
  refine ⟨_, hrun2, ⟨es', clock', heap_setBlock_same hb2 _, ?_, F2.stamped, fun x hx => ?_, hnb, fun x hx => ?_, fun key' hne => ?_, fun x hx y hy hne g hg => ?_⟩, hg3⟩
  · have e1 : es'.size = ((es'.toList.map (rg P k R0)).foldr DataW.insert []).length := by rw [length_sorted]; simp
    rw [e1, hput]
    unfold putKey
    rw [length_insert]
    have e2 := List.length_filter_le (notKey kl) ((es.toList.map (rg P k R0)).foldr DataW.insert [])
    rw [length_sorted] at e2
    simp at e2
    omega
  · obtain ⟨y, hy⟩ := F2.reads x hx
    exact ⟨_, rd_key hy⟩
  · rcases hwho x hx with ⟨hx0, hxk⟩ | ⟨hxk, hxv⟩
    · obtain ⟨B, mB, cB, e1, hB, hnoB⟩ := hown x hx0
      refine ⟨B, mB, cB, e1, ?_, hnoB⟩
      rw [putAt_other _ _ hxk]
      have hnb := cells_ne ⟨_, _, hb⟩ hB
      refine own_same hB fun g hg => ?_
      rw [heap_setBlock_other hb2 _ (hnb g hg), hkeep g (hB.lt g hg).2 (hapA x hx0 hxk g (by rw [e1, ownBlock_slice]; exact hg)), heap_setBlock_other hb _ (hnb g hg)]
    · refine ⟨A', m', c', hxv, ?_, hno'⟩
      rw [hxk, putAt_same]
      exact own_same hO' fun g hg => heap_setBlock_other hb2 _ (hneb' g hg)
  · have hk' : key' ≠ key := fun e1 => by
      obtain ⟨x, hx, hxk⟩ : ∃ x ∈ es'.toList, x.key = key := by
        have hm : ∃ p ∈ putKey kl (DataW.nil : DataW Unit) ((es.toList.map (rg P k R0)).foldr DataW.insert []), p.1 = kl := ⟨(kl, .nil), by unfold putKey; exact ChangeMaps.mem_insert_iff.2 (.inl rfl), rfl⟩
        have hput' : (es'.toList.map (rg P k R0)).foldr DataW.insert [] = putKey kl DataW.nil ((es.toList.map (rg P k R0)).foldr DataW.insert []) := hput
        rw [← hput'] at hm
        obtain ⟨p, hp, hpk⟩ := hm
        obtain ⟨x, hx, rfl⟩ := List.mem_map.1 ((WideShapes.sorted_perm _).mem_iff.1 hp)
        obtain ⟨y, hy⟩ := F2.reads x hx
        rw [WideElems.rg_of hy] at hpk
        have := rd_key hy
        rw [hpk] at this
        exact ⟨x, hx, KK.inj this hkey⟩
      exact hne x hx (hxk.trans e1.symm)
    rw [putAt_other _ _ hk']
    refine habs key' fun x hx hxk => ?_
    -- an old entry at another key still stands
    have hm : rg P k R0 x ∈ putKey kl (DataW.nil : DataW Unit) ((es.toList.map (rg P k R0)).foldr DataW.insert []) := by
      unfold putKey
      refine ChangeMaps.mem_insert_iff.2 (.inr (List.mem_filter.2 ⟨(WideShapes.sorted_perm _).mem_iff.2 (List.mem_map.2 ⟨x, hx, rfl⟩), (Maps.notKey_iff (KK.key hkey)).2 fun e1 => ?_⟩))
      obtain ⟨y, hy⟩ := F0.reads x hx
      rw [WideElems.rg_of hy] at e1
      have := rd_key hy
      rw [e1] at this
      exact hk' (hxk.symm.trans (KK.inj this hkey))
    have hput' : (es'.toList.map (rg P k R0)).foldr DataW.insert [] = putKey kl DataW.nil ((es.toList.map (rg P k R0)).foldr DataW.insert []) := hput
    rw [← hput'] at hm
    obtain ⟨x', hx', heq⟩ := List.mem_map.1 ((WideShapes.sorted_perm _).mem_iff.1 hm)
    refine hne x' hx' (Eq.trans ?_ hxk)
    obtain ⟨y, hy⟩ := F0.reads x hx
    obtain ⟨y', hy'⟩ := F2.reads x' hx'
    rw [WideElems.rg_of hy, WideElems.rg_of hy'] at heq
    have h1 := rd_key hy
    have h2 := rd_key hy'
    rw [heq] at h2
    exact KK.inj h2 h1
  · have old : ∀ x ∈ es.toList, x.key ≠ key → ∀ g, x.val.ownBlock = some g → blkOf A' ≠ some g := fun x hx hxk g hg => by
      rcases hloc with h1 | ⟨g', h1, h2⟩
      · rw [h1]; exact hapA x hx hxk g hg
      · obtain ⟨B, mB, cB, e1, hB, _⟩ := hown x hx
        rw [e1, ownBlock_slice] at hg
        have := (hB.lt g hg).2
        rw [h2]
        intro e2
        cases e2
        omega
    rcases hwho x hx with ⟨hx0, hxk⟩ | ⟨hxk, hxv⟩ <;> rcases hwho y hy with ⟨hy0, hyk⟩ | ⟨hyk, hyv⟩
    · exact hap x hx0 y hy0 hne g hg
    · rw [hyv, ownBlock_slice]
      exact old x hx0 hxk g hg
    · rw [hxv, ownBlock_slice] at hg
      exact fun e1 => old y hy0 hyk g e1 hg
    · exact absurd (hxk.trans hyk.symm) hne
end

section
variable {P : Program} {k e : TypeId} {q : IntKind}
/-- 'm[k]' at the operation -/
theorem wp_lookup (w : World) {ops : Array Oper} {rest : List Oper} {o : Oper} {a : Act} {Q : Exit → Act → World → Prop} (hg : o.guard = none) (m x : Operand) (t : TypeId) (hop : o.op = Op.lookup t m x false)
    (E : TypeId) (K : Keyed P k) (ht : P.underlying t = some (.map k E)) (hz : (zeroValue E).run P w = .ok (.slice none 0 0) w) {base b n : Nat} {No : Nat → Prop} {pos : Value → List Int}
    (hm : a.eval m = .map (some b)) (h : Groups P k e q w base b n No pos) (key : Value) (kl : Lit) (hx : a.eval x = key) (hkey : keyOf P k key = some kl)
    (hK : ∀ A m c, Own w base e 1 A m c ((pos key).map (Value.int q)) → (∀ g, blkOf A = some g → ¬ No g) → wpList P ops Q rest (a.put o.dst (.slice A m c)) w) :
    wpList P ops Q (o :: rest) a w := by
  refine wpList_plain hg fun K' hK' => ?_
  obtain ⟨A, m', c, hrun, ho, hno⟩ := h.at K ht hz hkey
  unfold Oper.wp
  simp [execOp, hop, hm, hx, hrun, Result.andThen]
  exact hK' _ _ (hK A m' c ho hno)
/-- the entry of 'm[k] = append(m[k], ..)' at the operation -/
theorem wp_mapEntry (w : World) {ops : Array Oper} {rest : List Oper} {o : Oper} {a : Act} {Q : Exit → Act → World → Prop} (hg : o.guard = none) (m x : Operand) (t : TypeId) (hop : o.op = Op.mapEntry t m x)
    (E : TypeId) (K : KeyLaw P k) (ht : P.underlying t = some (.map k E)) (hz : ∀ u : World, (zeroValue E).run P u = .ok (.slice none 0 0) u) {base b n : Nat} {No : Nat → Prop} {pos : Value → List Int}
    (hm : a.eval m = .map (some b)) (h : Groups P k e q w base b n No pos) (hn : n < maxLen) (key : Value) (kl : Lit) (hx : a.eval x = key) (hkey : keyOf P k key = some kl)
    (hK : ∀ A m c (st : Nat) w1, Own w1 base e 1 A m c ((pos key).map (Value.int q)) → (∀ g, blkOf A = some g → ¬ No g ∧ g ≠ b ∧ g < w1.heap.size) → w.grownBy w1 (some b) → w1.heap.size = w.heap.size → EntryBack P k e q w1 base b n No pos t key st A →
      wpList P ops Q rest (a.put o.dst (.tuple #[.slice A m c, goInt st])) w1) :
    wpList P ops Q (o :: rest) a w := by
  refine wpList_plain hg fun K' hK' => ?_
  obtain ⟨A, m', c, st, w1, hrun, ho, hno, hgr, hsz, hback⟩ := h.entry K ht hz hn hkey
  unfold Oper.wp
  simp [execOp, hop, hm, hx, hrun, Result.andThen]
  exact hK' _ _ (hK A m' c st w1 ho hno hgr hsz hback)
/-- .. and its store -/
theorem wp_entryStore (w : World) {ops : Array Oper} {rest : List Oper} {o : Oper} {a : Act} {Q : Exit → Act → World → Prop} (hg : o.guard = none) (m s x : Operand) (t : TypeId) (hop : o.op = Op.entryStore t m s x)
    {w1 : World} {base b n : Nat} {No : Nat → Prop} {pos : Value → List Int} {key : Value} {st : Nat} {A : Option Addr} (hback : EntryBack P k e q w1 base b n No pos t key st A)
    (hm : a.eval m = .map (some b)) (hs : a.eval s = goInt st) {A' : Option Addr} {m' c : Nat} {zs : List Int} (hx : a.eval x = .slice A' m' c) (hsz : w1.heap.size ≤ w.heap.size) (hkeep : ∀ j, j < w1.heap.size → blkOf A ≠ some j → w.heap[j]? = w1.heap[j]?)
    (ho : Own w base e 1 A' m' c (zs.map (Value.int q))) (hloc : blkOf A' = blkOf A ∨ ∃ g, w1.heap.size ≤ g ∧ blkOf A' = some g) (hno : ∀ g, blkOf A' = some g → ¬ No g)
    (hK : ∀ w2, Groups P k e q w2 base b (n + 1) No (putAt pos key zs) → w.grownBy w2 (some b) → wpList P ops Q rest (a.put o.dst undef) w2) :
    wpList P ops Q (o :: rest) a w := by
  refine wpList_plain hg fun K' hK' => ?_
  obtain ⟨w3, hrun, hG, hgr⟩ := hback w A' m' c zs hsz hkeep ho hloc hno
  unfold Oper.wp
  simp [execOp, hop, hm, hx, hs, hrun, Result.andThen]
  exact hK' _ _ (hK w3 hG hgr)
end
end Go.Proofs.Ytkbmpppendelcaa
