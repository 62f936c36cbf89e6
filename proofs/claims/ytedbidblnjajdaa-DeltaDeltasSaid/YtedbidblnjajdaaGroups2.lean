/- Maps of rows: 'm[k] = append(m[k], ..)' where the program looks up and stores. No condition. -/
import Derived.Test.YtedbidblnjajdaaGroups
namespace Go.Proofs.Ytedbidblnjajdaa
open Go.RowKit Go.MapKept
open Go.WideElems (Fit rd rg rd_key rd_val)
open Go.ChangeMaps (setBlock heap_setBlock_same heap_setBlock_other putKey notKey)
open Go.Maps (Keyed)
section
variable {P : Program} {k e : TypeId} {q : IntKind} {w w' : World} {base b n : Nat} {No No' : Nat → Prop} {pos : Value → List Int}
/-- what a store leaves, where only the row at the key has been written since, and new blocks -/
def StoreBack (P : Program) (k e : TypeId) (q : IntKind) (w : World) (base b n : Nat) (No : Nat → Prop) (pos : Value → List Int) (t : TypeId) (key : Value) (A : Option Addr) : Prop :=
  ∀ (w2 : World) (A' : Option Addr) (m c : Nat) (zs : List Int), w.heap.size ≤ w2.heap.size → (∀ j, j < w.heap.size → blkOf A ≠ some j → w2.heap[j]? = w.heap[j]?) → Own w2 base e 1 A' m c (zs.map (Value.int q)) →
    (blkOf A' = blkOf A ∨ ∃ g, w.heap.size ≤ g ∧ blkOf A' = some g) → (∀ g, blkOf A' = some g → ¬ No g) →
    ∃ w3, (Instr.mapUpdate t (.map (some b)) key (.slice A' m c)).run P w2 = .ok () w3 ∧ Groups P k e q w3 base b (n + 1) No (putAt pos key zs) ∧ w2.grownBy w3 (some b)

theorem Groups.look (h : Groups P k e q w base b n No pos) (KK : Keyed P k) {t E : TypeId} (ht : P.underlying t = some (.map k E)) (hz : (zeroValue E).run P w = .ok (.slice none 0 0) w) (hn : n < maxLen) {key : Value} {kl : Lit} (hkey : keyOf P k key = some kl) :
    ∃ A m c, (Instr.lookup t (.map (some b)) key false).run P w = .ok (.slice A m c) w ∧ Own w base e 1 A m c ((pos key).map (Value.int q)) ∧ (∀ g, blkOf A = some g → ¬ No g ∧ g ≠ b ∧ g < w.heap.size) ∧ StoreBack P k e q w base b n No pos t key A := by
  have hbl := h.lt
  obtain ⟨es, clock, hb, hs, hst, hkeys, hnb, hown, habs, hap⟩ := h
  let R0 : Value → Option (DataW Unit × List MemPlace) := fun _ => some (.nil, [])
  have F0 : Fit P k R0 es clock := ⟨by omega, hst, fun x hx => by
    obtain ⟨l, hl⟩ := hkeys x hx
    exact ⟨(l, .nil), by simp [rd, hl, R0]⟩⟩
  have hrow : ∃ A m c, (Instr.lookup t (.map (some b)) key false).run P w = .ok (.slice A m c) w ∧ Own w base e 1 A m c ((pos key).map (Value.int q)) ∧ (∀ g, blkOf A = some g → ¬ No g) ∧ ∀ x ∈ es.toList, x.key ≠ key → ∀ g, x.val.ownBlock = some g → blkOf A ≠ some g := by
    rcases KK.find w hkey es.toList hkeys with ⟨h1, h2⟩ | ⟨j, e0, h1, h2, h3⟩
    · refine ⟨none, 0, 0, ?_, ?_, (fun g hg => by cases hg), fun x _ _ g _ => by simp [blkOf]⟩
      · simp [Instr.lookup, run_underlying ht, MapKept.run_getObj_map hb, KK.check w _ hkey, h1, hz, Result.andThen]
      · rw [habs key h2]
        exact Own.nil _ _ _ _
    · have he0 := List.mem_of_getElem? h2
      obtain ⟨A, m, c, e1, ho, hno⟩ := hown e0 he0
      refine ⟨A, m, c, ?_, by rw [← h3]; exact ho, hno, fun x hx hxk g hg => ?_⟩
      · simp [Instr.lookup, run_underlying ht, MapKept.run_getObj_map hb, KK.check w _ hkey, h1, e1, Result.andThen]
      · have := hap x hx e0 he0 (by rw [h3]; exact hxk) g hg
        rwa [e1, ownBlock_slice] at this
  obtain ⟨A, m, c, hrun, ho, hno, hapA⟩ := hrow
  have cells_ne : ∀ {u : World} {A' : Option Addr} {m' c' : Nat} {ys : List Value}, (∃ e1 c1, u.heap[b]? = some (.map e1 c1)) → Own u base e 1 A' m' c' ys → ∀ g, blkOf A' = some g → g ≠ b := fun ⟨e1, c1, hm⟩ hO g hg hgb => by
    obtain ⟨cs, hcs⟩ := own_cells_block hO hg
    rw [hgb, hm] at hcs
    cases hcs
  have hneb := cells_ne ⟨_, _, hb⟩ ho
  refine ⟨A, m, c, hrun, ho, fun g hg => ⟨hno g hg, hneb g hg, (ho.lt g hg).2⟩, ?_⟩
  intro w2 A' m' c' zs hsz2 hkeep hO' hloc hno'
  have hb2 : w2.heap[b]? = some (.map es clock) := (hkeep b hbl (fun e1 => hneb b e1 rfl)).trans hb
  obtain ⟨es', clock', hrun3, F2, hput, _, _, hwho⟩ := Maps.fit_store (R' := R0) (val := .slice A' m' c') KK ht hb2 F0 (by omega) (fun _ _ _ _ h => h) hkey rfl
  have hg3 : w2.grownBy (setBlock w2 b (.map es' clock')) (some b) := ⟨rfl, rfl, rfl, by simp [setBlock], fun i _ hi => heap_setBlock_other hb2 _ (fun e1 => hi (by rw [e1]))⟩
  have hneb' := cells_ne ⟨_, _, hb2⟩ hO'
  refine ⟨_, hrun3, ⟨es', clock', heap_setBlock_same hb2 _, ?_, F2.stamped, fun x hx => ?_, hnb, fun x hx => ?_, fun key' hne => ?_, fun x hx y hy hne g hg => ?_⟩, hg3⟩
  · have e1 : es'.size = ((es'.toList.map (rg P k R0)).foldr DataW.insert []).length := by rw [length_sorted]; simp
    rw [e1, hput]
    unfold putKey
    rw [length_insert]
    have e2 := List.length_filter_le (notKey kl) ((es.toList.map (rg P k R0)).foldr DataW.insert [])
    rw [length_sorted] at e2
    simp at e2
    omega
  · obtain ⟨y, hy⟩ := F2.reads x hx
    exact ⟨_, rd_key hy⟩
  · rcases hwho x hx with ⟨hx0, hxk⟩ | ⟨hxk, hxv⟩
    · obtain ⟨B, mB, cB, e1, hB, hnoB⟩ := hown x hx0
      refine ⟨B, mB, cB, e1, ?_, hnoB⟩
      rw [putAt_other _ _ hxk]
      have hnb := cells_ne ⟨_, _, hb⟩ hB
      refine own_same hB fun g hg => ?_
      rw [heap_setBlock_other hb2 _ (hnb g hg), hkeep g (hB.lt g hg).2 (hapA x hx0 hxk g (by rw [e1, ownBlock_slice]; exact hg))]
    · refine ⟨A', m', c', hxv, ?_, hno'⟩
      rw [hxk, putAt_same]
      exact own_same hO' fun g hg => heap_setBlock_other hb2 _ (hneb' g hg)
  · have hk' : key' ≠ key := fun e1 => by
      obtain ⟨x, hx, hxk⟩ : ∃ x ∈ es'.toList, x.key = key := by
        have hm : ∃ p ∈ putKey kl (DataW.nil : DataW Unit) ((es.toList.map (rg P k R0)).foldr DataW.insert []), p.1 = kl := ⟨(kl, .nil), by unfold putKey; exact ChangeMaps.mem_insert_iff.2 (.inl rfl), rfl⟩
        have hput' : (es'.toList.map (rg P k R0)).foldr DataW.insert [] = putKey kl DataW.nil ((es.toList.map (rg P k R0)).foldr DataW.insert []) := hput
        rw [← hput'] at hm
        obtain ⟨p, hp, hpk⟩ := hm
        obtain ⟨x, hx, rfl⟩ := List.mem_map.1 ((WideShapes.sorted_perm _).mem_iff.1 hp)
        obtain ⟨y, hy⟩ := F2.reads x hx
        rw [WideElems.rg_of hy] at hpk
        have := rd_key hy
        rw [hpk] at this
        exact ⟨x, hx, KK.inj this hkey⟩
      exact hne x hx (hxk.trans e1.symm)
    rw [putAt_other _ _ hk']
    refine habs key' fun x hx hxk => ?_
    -- an old entry at another key still stands
    have hm : rg P k R0 x ∈ putKey kl (DataW.nil : DataW Unit) ((es.toList.map (rg P k R0)).foldr DataW.insert []) := by
      unfold putKey
      refine ChangeMaps.mem_insert_iff.2 (.inr (List.mem_filter.2 ⟨(WideShapes.sorted_perm _).mem_iff.2 (List.mem_map.2 ⟨x, hx, rfl⟩), (Maps.notKey_iff (KK.key hkey)).2 fun e1 => ?_⟩))
      obtain ⟨y, hy⟩ := F0.reads x hx
      rw [WideElems.rg_of hy] at e1
      have := rd_key hy
      rw [e1] at this
      exact hk' (hxk.symm.trans (KK.inj this hkey))
    have hput' : (es'.toList.map (rg P k R0)).foldr DataW.insert [] = putKey kl DataW.nil ((es.toList.map (rg P k R0)).foldr DataW.insert []) := hput
    rw [← hput'] at hm
    obtain ⟨x', hx', heq⟩ := List.mem_map.1 ((WideShapes.sorted_perm _).mem_iff.1 hm)
    refine hne x' hx' (Eq.trans ?_ hxk)
    obtain ⟨y, hy⟩ := F0.reads x hx
    obtain ⟨y', hy'⟩ := F2.reads x' hx'
    rw [WideElems.rg_of hy, WideElems.rg_of hy'] at heq
    have h1 := rd_key hy
    have h2 := rd_key hy'
    rw [heq] at h2
    exact KK.inj h2 h1
  · have old : ∀ x ∈ es.toList, x.key ≠ key → ∀ g, x.val.ownBlock = some g → blkOf A' ≠ some g := fun x hx hxk g hg => by
      rcases hloc with h1 | ⟨g', h1, h2⟩
      · rw [h1]; exact hapA x hx hxk g hg
      · obtain ⟨B, mB, cB, e1, hB, _⟩ := hown x hx
        rw [e1, ownBlock_slice] at hg
        have := (hB.lt g hg).2
        rw [h2]
        intro e2
        cases e2
        omega
    rcases hwho x hx with ⟨hx0, hxk⟩ | ⟨hxk, hxv⟩ <;> rcases hwho y hy with ⟨hy0, hyk⟩ | ⟨hyk, hyv⟩
    · exact hap x hx0 y hy0 hne g hg
    · rw [hyv, ownBlock_slice]
      exact old x hx0 hxk g hg
    · rw [hxv, ownBlock_slice] at hg
      exact fun e1 => old y hy0 hyk g e1 hg
    · exact absurd (hxk.trans hyk.symm) hne

/-- 'm[k]' at the operation, with the way back -/
theorem wp_look (w : World) {ops : Array Oper} {rest : List Oper} {o : Oper} {a : Act} {Q : Exit → Act → World → Prop} (hg : o.guard = none) (m x : Operand) (t : TypeId) (hop : o.op = Op.lookup t m x false)
    (E : TypeId) (K : Keyed P k) (ht : P.underlying t = some (.map k E)) (hz : (zeroValue E).run P w = .ok (.slice none 0 0) w) {base b n : Nat} {No : Nat → Prop} {pos : Value → List Int}
    (hm : a.eval m = .map (some b)) (h : Groups P k e q w base b n No pos) (hn : n < maxLen) (key : Value) (kl : Lit) (hx : a.eval x = key) (hkey : keyOf P k key = some kl)
    (hK : ∀ A m c, Own w base e 1 A m c ((pos key).map (Value.int q)) → (∀ g, blkOf A = some g → ¬ No g ∧ g ≠ b ∧ g < w.heap.size) → StoreBack P k e q w base b n No pos t key A → wpList P ops Q rest (a.put o.dst (.slice A m c)) w) :
    wpList P ops Q (o :: rest) a w := by
  refine wpList_plain hg fun K' hK' => ?_
  obtain ⟨A, m', c, hrun, ho, hno, hback⟩ := h.look K ht hz hn hkey
  unfold Oper.wp
  simp [execOp, hop, hm, hx, hrun, Result.andThen]
  exact hK' _ _ (hK A m' c ho hno hback)
/-- .. and the store -/
theorem wp_store (w : World) {ops : Array Oper} {rest : List Oper} {o : Oper} {a : Act} {Q : Exit → Act → World → Prop} (hg : o.guard = none) (m x v : Operand) (t : TypeId) (hop : o.op = Op.mapUpdate t m x v)
    {w1 : World} {base b n : Nat} {No : Nat → Prop} {pos : Value → List Int} {key : Value} {A : Option Addr} (hback : StoreBack P k e q w1 base b n No pos t key A)
    (hm : a.eval m = .map (some b)) (hx : a.eval x = key) {A' : Option Addr} {m' c : Nat} {zs : List Int} (hv : a.eval v = .slice A' m' c) (hsz : w1.heap.size ≤ w.heap.size) (hkeep : ∀ j, j < w1.heap.size → blkOf A ≠ some j → w.heap[j]? = w1.heap[j]?)
    (ho : Own w base e 1 A' m' c (zs.map (Value.int q))) (hloc : blkOf A' = blkOf A ∨ ∃ g, w1.heap.size ≤ g ∧ blkOf A' = some g) (hno : ∀ g, blkOf A' = some g → ¬ No g)
    (hK : ∀ w2, Groups P k e q w2 base b (n + 1) No (putAt pos key zs) → w.grownBy w2 (some b) → wpList P ops Q rest (a.put o.dst undef) w2) :
    wpList P ops Q (o :: rest) a w := by
  refine wpList_plain hg fun K' hK' => ?_
  obtain ⟨w3, hrun, hG, hgr⟩ := hback w A' m' c zs hsz hkeep ho hloc hno
  unfold Oper.wp
  simp [execOp, hop, hm, hx, hv, hrun, Result.andThen]
  exact hK' _ _ (hK w3 hG hgr)
end
end Go.Proofs.Ytedbidblnjajdaa
