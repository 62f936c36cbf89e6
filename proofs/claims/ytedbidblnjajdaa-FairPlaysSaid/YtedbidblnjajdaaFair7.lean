/- Package fair: how the reference's rows lie in memory. No condition. -/
import Derived.Test.YtedbidblnjajdaaFair6
namespace Go.Proofs.Ytedbidblnjajdaa
open Go.RowKit

/-- the reference's rows in w: waits in WB, debts in DB, the ring in At; wa is where the step began, No what it leaves alone -/
structure FRef (wa w : World) (B0 base WB DB nq : Nat) (W : Nat → List Int) (d : Nat → Int) (T : List Nat) (A : Nat → Option Addr) (c : Nat → Nat) (At : Option Addr) (ct : Nat) (No : Nat → Prop) : Prop where
  bel : Below B0 wa w
  kept : ∀ g, No g → w.heap[g]? = wa.heap[g]?
  noLt : ∀ g, No g → g < wa.heap.size
  lo : B0 ≤ WB ∧ B0 ≤ DB ∧ WB ≠ DB ∧ WB < base ∧ DB < base ∧ base ≤ w.heap.size
  off : ¬ No WB ∧ ¬ No DB
  fw : ∀ o, w.frozen? ⟨WB, o, none⟩ = false
  fd : ∀ o, w.frozen? ⟨DB, o, none⟩ = false
  turn : OwnF w base 3 At T.length ct (T.map fun i : Nat => (i : Int))
  turnNo : ∀ g, blkOf At = some g → ¬ No g
  ws : ∀ j, j < nq → w.cell? ⟨WB, j, none⟩ = some (.slice (A j) (W j).length (c j))
  ds : ∀ j, j < nq → w.cell? ⟨DB, j, none⟩ = some (.int .i64 (d j))
  own : ∀ j, j < nq → OwnF w base 3 (A j) (W j).length (c j) (W j)
  ownNo : ∀ j, j < nq → ∀ g, blkOf (A j) = some g → ¬ No g
  two : ∀ i j, i < nq → j < nq → i ≠ j → Two (A i) (A j)
  twot : ∀ j, j < nq → Two At (A j)
section
variable {wa w w' : World} {B0 base WB DB nq : Nat} {W : Nat → List Int} {d : Nat → Int} {T : List Nat} {A : Nat → Option Addr} {c : Nat → Nat} {At : Option Addr} {ct : Nat} {No No' : Nat → Prop}
theorem FRef.noLt' (h : FRef wa w B0 base WB DB nq W d T A c At ct No) : ∀ g, No g → g < w.heap.size := fun g hg => Nat.lt_of_lt_of_le (h.noLt g hg) h.bel.size
theorem FRef.keep (h : FRef wa w B0 base WB DB nq W d T A c At ct No) (hk : ∀ j, j < w.heap.size → ¬ No j → w'.heap[j]? = w.heap[j]?) (hs : w.heap.size ≤ w'.heap.size) (hn : ∀ j, No' j → No j ∨ w.heap.size ≤ j) (hn2 : ∀ j, No' j → j < w'.heap.size) : FRef w' w' B0 base WB DB nq W d T A c At ct No' := by
  obtain ⟨l1, l2, l3, l4, l5, l6⟩ := h.lo
  have hR := hk WB (by omega) h.off.1
  have hG := hk DB (by omega) h.off.2
  have no : ∀ {g}, ¬ No g → g < w.heap.size → ¬ No' g := fun {g} h1 h2 h3 => (hn g h3).elim h1 (fun h4 => by omega)
  exact {
    bel := Below.refl _ _
    kept := fun _ _ => rfl
    noLt := hn2
    lo := ⟨l1, l2, l3, l4, l5, by omega⟩
    off := ⟨no h.off.1 (by omega), no h.off.2 (by omega)⟩
    fw := fun o => (World.frozen?_of_block hR).trans (h.fw o)
    fd := fun o => (World.frozen?_of_block hG).trans (h.fd o)
    turn := h.turn.same fun g hg => hk g (h.turn.lt g hg).2 (h.turnNo g hg)
    turnNo := fun g hg => no (h.turnNo g hg) (h.turn.lt g hg).2
    ws := fun j hj => (World.cell?_of_block hR).trans (h.ws j hj)
    ds := fun j hj => (World.cell?_of_block hG).trans (h.ds j hj)
    own := fun j hj => (h.own j hj).same fun g hg => hk g ((h.own j hj).lt g hg).2 (h.ownNo j hj g hg)
    ownNo := fun j hj g hg => no (h.ownNo j hj g hg) ((h.own j hj).lt g hg).2
    two := h.two
    twot := h.twot }
theorem FRef.next (h : FRef wa w B0 base WB DB nq W d T A c At ct No) (hb : Below w.heap.size w w') : FRef wa w' B0 base WB DB nq W d T A c At ct No := by
  obtain ⟨l1, l2, l3, l4, l5, l6⟩ := h.lo
  have hR := hb.block WB (by omega)
  have hG := hb.block DB (by omega)
  exact { h with
    bel := h.bel.trans (hb.mono (by omega))
    kept := fun g hg => (hb.block g (h.noLt' g hg)).trans (h.kept g hg)
    lo := ⟨l1, l2, l3, l4, l5, Nat.le_trans l6 hb.size⟩
    fw := fun o => (World.frozen?_of_block hR).trans (h.fw o)
    fd := fun o => (World.frozen?_of_block hG).trans (h.fd o)
    turn := h.turn.next hb
    ws := fun j hj => (World.cell?_of_block hR).trans (h.ws j hj)
    ds := fun j hj => (World.cell?_of_block hG).trans (h.ds j hj)
    own := fun j hj => (h.own j hj).next hb }
theorem FRef.owned (h : FRef wa w B0 base WB DB nq W d T A c At ct No) {j : Nat} (hj : j < nq) : blkOf (A j) ≠ some DB ∧ blkOf (A j) ≠ some WB := by
  obtain ⟨l1, l2, l3, l4, l5, l6⟩ := h.lo
  exact ⟨fun e => by have := ((h.own j hj).lt DB e).1; omega, fun e => by have := ((h.own j hj).lt WB e).1; omega⟩
theorem FRef.turned (h : FRef wa w B0 base WB DB nq W d T A c At ct No) : blkOf At ≠ some DB ∧ blkOf At ≠ some WB := by
  obtain ⟨l1, l2, l3, l4, l5, l6⟩ := h.lo
  exact ⟨fun e => by have := (h.turn.lt DB e).1; omega, fun e => by have := (h.turn.lt WB e).1; omega⟩
/-- the debt of a flow is turned -/
theorem FRef.debt (h : FRef wa w B0 base WB DB nq W d T A c At ct No) {i : Nat} (hi : i < nq) (v : Int) : FRef wa (w.setCell ⟨DB, i, none⟩ (.int .i64 v)) B0 base WB DB nq W (fr.upd d i v) T A c At ct No := by
  obtain ⟨l1, l2, l3, l4, l5, l6⟩ := h.lo
  have hR : ∀ o, (w.setCell ⟨DB, i, none⟩ (.int .i64 v)).cell? ⟨WB, o, none⟩ = w.cell? ⟨WB, o, none⟩ := fun o => World.cell?_setCell_far _ _ _ _ (fun e => l3 e.symm)
  have hD : ∀ {o' : Nat}, o' ≠ i → (w.setCell ⟨DB, i, none⟩ (.int .i64 v)).cell? ⟨DB, o', none⟩ = w.cell? ⟨DB, o', none⟩ := fun {o'} ho => set_other _ (fun e => ho (by simp only [Addr.mk.injEq, true_and, and_true] at e; exact e.symm))
  exact { h with
    bel := h.bel.setCell (p := ⟨DB, i, none⟩) l2 _
    kept := fun g hg => (heap_set ⟨DB, i, none⟩ (fun e => h.off.2 (by have e2 : g = DB := e; rw [← e2]; exact hg))).trans (h.kept g hg)
    lo := ⟨l1, l2, l3, l4, l5, by simpa [World.setCell] using l6⟩
    fw := fun o => by simpa using h.fw o
    fd := fun o => by simpa using h.fd o
    turn := h.turn.setCell h.turned.1 _
    ws := fun j hj => (hR j).trans (h.ws j hj)
    ds := fun j hj => by
      by_cases e : j = i
      · subst e
        rw [fr.upd_same]
        exact set_same _ (h.ds j hj)
      · rw [fr.upd_other _ _ e]
        exact (hD e).trans (h.ds j hj)
    own := fun j hj => (h.own j hj).setCell (h.owned hj).1 _ }
/-- what a flow has waiting is turned -/
theorem FRef.waits (h : FRef wa w B0 base WB DB nq W d T A c At ct No) {w2 : World} {i n' c' : Nat} {A' : Option Addr} {W' : List Int} (hi : i < nq) (hg : Grew w w2 (A i) A') (ho : OwnF w2 base 3 A' n' c' W') :
    FRef wa (w2.setCell ⟨WB, i, none⟩ (.slice A' n' c')) B0 base WB DB nq (fr.upd W i W') d T (fr.upd A i A') (fr.upd c i c') At ct No := by
  obtain ⟨l1, l2, l3, l4, l5, l6⟩ := h.lo
  have hs := hg.grown.size
  have hbG : w2.heap[DB]? = w.heap[DB]? := hg.grown.block DB (by omega) (fun e => (h.owned hi).1 e.symm)
  have hbR : w2.heap[WB]? = w.heap[WB]? := hg.grown.block WB (by omega) (fun e => (h.owned hi).2 e.symm)
  have hA' : blkOf A' ≠ some DB ∧ blkOf A' ≠ some WB := ⟨fun e => by have := (ho.lt DB e).1; omega, fun e => by have := (ho.lt WB e).1; omega⟩
  have cR' : ∀ {o' : Nat}, o' ≠ i → (w2.setCell ⟨WB, i, none⟩ (.slice A' n' c')).cell? ⟨WB, o', none⟩ = w.cell? ⟨WB, o', none⟩ := fun {o'} ho' =>
    (set_other _ (fun e => ho' (by simp only [Addr.mk.injEq, true_and, and_true] at e; exact e.symm))).trans (World.cell?_of_block hbR)
  have cG' : ∀ o, (w2.setCell ⟨WB, i, none⟩ (.slice A' n' c')).cell? ⟨DB, o, none⟩ = w.cell? ⟨DB, o, none⟩ := fun o => (World.cell?_setCell_far _ _ _ _ l3).trans (World.cell?_of_block hbG)
  have tw : ∀ j, j < nq → j ≠ i → Two A' (A j) := fun j hj hne => (h.two i j hi hj (fun e => hne e.symm)).left hg (fun k hk => ((h.own j hj).lt k hk).2)
  have tt : Two A' At := (h.twot i hi).symm.left hg (fun k hk => (h.turn.lt k hk).2)
  have hn := ho.len
  have hnoA : ∀ g, No g → blkOf (A i) ≠ some g := fun g hg' e => h.ownNo i hi g e hg'
  exact {
    bel := (h.bel.trans (hg.belowB (B0 := B0) (base := base) (fun k hk => ((h.own i hi).lt k hk).1) (by omega) (by omega))).setCell (p := ⟨WB, i, none⟩) l1 _
    kept := fun g hg' => (heap_set ⟨WB, i, none⟩ (fun e => h.off.1 (by have e2 : g = WB := e; rw [← e2]; exact hg'))).trans ((hg.grown.block g (h.noLt' g hg') (fun e => hnoA g hg' e.symm)).trans (h.kept g hg'))
    noLt := h.noLt
    lo := ⟨l1, l2, l3, l4, l5, by simpa [World.setCell] using (by omega : base ≤ w2.heap.size)⟩
    off := h.off
    fw := fun o => by rw [World.frozen?_setCell]; exact (World.frozen?_of_block hbR).trans (h.fw o)
    fd := fun o => by rw [World.frozen?_setCell]; exact (World.frozen?_of_block hbG).trans (h.fd o)
    turn := (h.turn.kept hg (fun k hk e => h.twot i hi k hk e)).setCell h.turned.2 _
    turnNo := h.turnNo
    ws := fun j hj => by
      by_cases e : j = i
      · subst e
        simp only [fr.upd_same]
        rw [← hn]
        exact set_same _ ((World.cell?_of_block hbR).trans (h.ws j hj))
      · simp only [fr.upd_other _ _ e]
        exact (cR' e).trans (h.ws j hj)
    ds := fun j hj => (cG' _).trans (h.ds j hj)
    own := fun j hj => by
      by_cases e : j = i
      · subst e
        simp only [fr.upd_same]
        rw [hn] at ho
        rw [hn]
        exact ho.setCell hA'.2 _
      · simp only [fr.upd_other _ _ e]
        exact ((h.own j hj).kept hg (fun k hk e2 => h.two i j hi hj (fun e3 => e e3.symm) k e2 hk)).setCell (h.owned hj).2 _
    ownNo := fun j hj g hgj => by
      by_cases e : j = i
      · subst e
        simp only [fr.upd_same] at hgj
        intro hNg
        rcases hg.blk with e1 | ⟨g', e1, e2⟩
        · exact h.ownNo j hj g (e1 ▸ hgj) hNg
        · rw [e2] at hgj
          cases hgj
          have := h.noLt' _ hNg
          omega
      · simp only [fr.upd_other _ _ e] at hgj
        exact h.ownNo j hj g hgj
    two := fun a b ha hb hab => by
      by_cases ea : a = i
      · subst ea
        rw [fr.upd_same, fr.upd_other _ _ (fun e => hab e.symm)]
        exact tw b hb (fun e => hab e.symm)
      · rw [fr.upd_other _ _ ea]
        by_cases eb : b = i
        · subst eb
          rw [fr.upd_same]
          exact (tw a ha hab).symm
        · rw [fr.upd_other _ _ eb]
          exact h.two a b ha hb hab
    twot := fun j hj => by
      by_cases e : j = i
      · subst e
        rw [fr.upd_same]
        exact tt.symm
      · rw [fr.upd_other _ _ e]
        exact h.twot j hj }
/-- the turn is another row: one that grew of a row X that is nobody else's -/
theorem FRef.turnTo (h : FRef wa w B0 base WB DB nq W d T A c At ct No) {w2 : World} {n' c' : Nat} {X A' : Option Addr} {T' : List Nat} (hg : Grew w w2 X A') (hX : ∀ k, blkOf X = some k → base ≤ k ∧ ¬ No k) (hXt : ∀ j, j < nq → Two X (A j)) (ho : OwnF w2 base 3 A' n' c' (T'.map fun i : Nat => (i : Int))) :
    FRef wa w2 B0 base WB DB nq W d T' A c A' c' No ∧ n' = T'.length := by
  obtain ⟨l1, l2, l3, l4, l5, l6⟩ := h.lo
  have hs := hg.grown.size
  have hXne : ∀ k, k < base → blkOf X ≠ some k := fun k hk e => by have := (hX k e).1; omega
  have hbG : w2.heap[DB]? = w.heap[DB]? := hg.grown.block DB (by omega) (fun e => hXne DB l5 e.symm)
  have hbR : w2.heap[WB]? = w.heap[WB]? := hg.grown.block WB (by omega) (fun e => hXne WB l4 e.symm)
  have hn : n' = T'.length := by have := ho.len; simpa using this
  refine ⟨{
    bel := h.bel.trans (hg.belowB (B0 := B0) (base := base) (fun k hk => (hX k hk).1) (by omega) (by omega))
    kept := fun g hg' => (hg.grown.block g (h.noLt' g hg') (fun e => (hX g e.symm).2 hg')).trans (h.kept g hg')
    noLt := h.noLt
    lo := ⟨l1, l2, l3, l4, l5, by omega⟩
    off := h.off
    fw := fun o => (World.frozen?_of_block hbR).trans (h.fw o)
    fd := fun o => (World.frozen?_of_block hbG).trans (h.fd o)
    turn := by rw [hn] at ho; exact ho
    turnNo := fun g hgj hNg => by
      rcases hg.blk with e1 | ⟨g', e1, e2⟩
      · exact (hX g (e1 ▸ hgj)).2 hNg
      · rw [e2] at hgj
        cases hgj
        have := h.noLt' _ hNg
        omega
    ws := fun j hj => (World.cell?_of_block hbR).trans (h.ws j hj)
    ds := fun j hj => (World.cell?_of_block hbG).trans (h.ds j hj)
    own := fun j hj => (h.own j hj).kept hg (fun k hk e2 => hXt j hj k e2 hk)
    ownNo := h.ownNo
    two := h.two
    twot := fun j hj => (hXt j hj).left hg (fun k hk => ((h.own j hj).lt k hk).2) }, hn⟩
/-- the row of the turn grew in place -/
theorem FRef.turnOn (h : FRef wa w B0 base WB DB nq W d T A c At ct No) {w2 : World} {n' c' : Nat} {A' : Option Addr} {T' : List Nat} (hg : Grew w w2 At A') (ho : OwnF w2 base 3 A' n' c' (T'.map fun i : Nat => (i : Int))) :
    FRef wa w2 B0 base WB DB nq W d T' A c A' c' No ∧ n' = T'.length :=
  h.turnTo hg (fun k hk => ⟨(h.turn.lt k hk).1, h.turnNo k hk⟩) h.twot ho
/-- .. or is a new one -/
theorem FRef.turnNew (h : FRef wa w B0 base WB DB nq W d T A c At ct No) {w2 : World} {n' c' : Nat} {A' : Option Addr} {T' : List Nat} (hg : Grew w w2 none A') (ho : OwnF w2 base 3 A' n' c' (T'.map fun i : Nat => (i : Int))) :
    FRef wa w2 B0 base WB DB nq W d T' A c A' c' No ∧ n' = T'.length :=
  h.turnTo hg (fun k hk => by simp [blkOf] at hk) (fun j hj k hk => by simp [blkOf] at hk) ho
theorem FRef.as {W' : Nat → List Int} {d' : Nat → Int} {T' : List Nat} (h : FRef wa w B0 base WB DB nq W d T A c At ct No) (hW : W' = W) (hd : d' = d) (hT : T' = T) : FRef wa w B0 base WB DB nq W' d' T' A c At ct No := by
  subst hW; subst hd; subst hT
  exact h
end
theorem OwnF.cells {w : World} {base : Nat} {e : TypeId} {A : Option Addr} {n c : Nat} {l : List Int} (h : OwnF w base e A n c l) : Cells w A (l.map (Value.int .i64)) := by
  cases hl : l with
  | nil => exact .inl rfl
  | cons x r =>
    rw [← hl]
    obtain ⟨g, off, hA, _, _, _⟩ := h.cell (j := 0) (by rw [hl]; simp)
    refine .inr ⟨g, off, hA, fun j u hu => ?_⟩
    have hj : j < l.length := by have := (List.getElem?_eq_some_iff.1 hu).1; simpa using this
    obtain ⟨g', off', hA', _, _, hc⟩ := h.cell hj
    rw [hA] at hA'
    cases hA'
    rw [hc, ← hu, List.getElem?_map, List.getElem?_eq_getElem hj, List.getD_eq_getElem?_getD, List.getElem?_eq_getElem hj]
    rfl
def fr.has (s : fr.St) : Int := if s.f then (s.t.headD 0 : Nat) else -1
theorem fr.has_yes {s : fr.St} {i : Nat} {tl : List Nat} (ht : s.t = i :: tl) (hf : s.f = true) : fr.has s = i := by unfold fr.has; rw [hf, ht]; rfl
theorem fr.has_no {s : fr.St} (hf : s.f = false) : fr.has s = -1 := by unfold fr.has; rw [hf]; rfl
/-- the reference, event by event -/
structure fr.RAt (w : World) (base WB DB : Nat) (qu : List Int) (l : List Feed) (wr : World) (k : Nat) (s : fr.St) (os : List Served) (Ao : Option Addr) (co : Nat) (At : Option Addr) (ct : Nat) : Prop where
  len : os.length = k
  tail : os ++ fr.plays qu.length (fr.qs qu) s (l.drop k) = fr.plays qu.length (fr.qs qu) fr.start l
  inv : fr.Inv qu.length s
  ref : ∃ A c, FRef wr wr w.heap.size base WB DB qu.length s.w s.d s.t A c At ct (fun j => blkOf Ao = some j)
  own : Own wr w.heap.size 74 3 Ao k co (os.flatMap Served.cells)
  below : Below w.heap.size w wr
theorem fr.RAt.next {w : World} {base WB DB : Nat} {qu : List Int} {l : List Feed} {wr : World} {k : Nat} {s s' : fr.St} {os : List Served} {Ao A3 : Option Addr} {co c3 : Nat} {At At' : Option Addr} {ct ct' : Nat} (h : fr.RAt w base WB DB qu l wr k s os Ao co At ct) (hq : qu.all fr.qok = true) (hk : k < l.length) {x : Feed} {y : Served} (hx : l.getD k ⟨0, 0⟩ = x) (hs : fr.step qu.length (fr.qs qu) s x = (s', y))
    {w6 w7 w8 : World} {A : Nat → Option Addr} {c : Nat → Nat} (hr6 : FRef wr w6 w.heap.size base WB DB qu.length s'.w s'.d s'.t A c At' ct' (fun j => blkOf Ao = some j)) (hb7 : Below w6.heap.size w6 w7) (hg : Grew w7 w8 Ao A3) (ho8 : Own w8 w.heap.size 74 3 A3 (k + 1) c3 (os.flatMap Served.cells ++ Served.cells y)) : fr.RAt w base WB DB qu l w8 (k + 1) s' (os ++ [y]) A3 c3 At' ct' := by
  have hws := h.below.size
  have hs6 : w.heap.size ≤ w6.heap.size := Nat.le_trans hws hr6.bel.size
  refine ⟨by rw [List.length_append, h.len]; rfl, ?_, ?_, ⟨A, c, hr6.keep (fun j hj hn => fr.grew_keep hg hb7 j hj hn) (Nat.le_trans hb7.size hg.grown.size) (fun j hj => fr.grew_new hg hb7 j hj) (fun j hj => (ho8.lt j hj).2)⟩, by rw [List.flatMap_append]; simpa using ho8, ?_⟩
  · rw [List.append_assoc, List.singleton_append, ← h.tail, fr.plays_drop _ _ _ ⟨0, 0⟩ hk, hx, hs]
  · have := fr.inv_step (fr.qs_ok hq) h.inv x
    rw [hs] at this
    exact this
  · exact ((h.below.trans hr6.bel).trans (hb7.mono hs6)).trans (hg.belowB (base := w.heap.size) (fun j hj => (h.own.lt j hj).1) (Nat.le_refl _) (Nat.le_trans hs6 hb7.size))
theorem fr.RAt.own6 {w : World} {base WB DB : Nat} {qu : List Int} {l : List Feed} {wr : World} {k : Nat} {s : fr.St} {os : List Served} {Ao : Option Addr} {co : Nat} {At : Option Addr} {ct : Nat} (h : fr.RAt w base WB DB qu l wr k s os Ao co At ct) {w6 : World} (hf : ∀ g, blkOf Ao = some g → w6.heap[g]? = wr.heap[g]?) : Own w6 w.heap.size 74 3 Ao k co (os.flatMap Served.cells) := h.own.same hf
end Go.Proofs.Ytedbidblnjajdaa
