/- Package fair: how the ring lies in memory. No condition. -/
import Derived.Test.YtedbidblnjajdaaFairP
import Derived.Test.YtedbidblnjajdaaCut
namespace Go.Proofs.Ytedbidblnjajdaa
open Go.RowKit

theorem set_same {w : World} {a : Addr} {u : Value} (v : Value) (h : w.cell? a = some u) : (w.setCell a v).cell? a = some v := World.cell?_setCell_same' w a v (by rw [h]; rfl)
theorem set_other {w : World} {a b : Addr} (v : Value) (h : a ≠ b) : (w.setCell a v).cell? b = w.cell? b := by
  first
    | exact World.cell?_setCell_other w v h
    | exact World.cell?_setCell_other w a b v h
    | exact World.cell?_setCell_other w a v h
    | exact World.cell?_setCell_other _ _ _ h
structure RingAt (w : World) (B0 base R G nq : Nat) (q : Nat → Int) (W : Nat → List Int) (d : Nat → Int) (fed : Nat → Bool) (T : List Nat) (A : Nat → Option Addr) (c : Nat → Nat) (At : Option Addr) (ct cG : Nat) (No : Nat → Prop) : Prop where
  lo : B0 ≤ R ∧ B0 ≤ G ∧ R ≠ G ∧ R < base ∧ G < base ∧ base ≤ w.heap.size
  off : ¬ No R ∧ ¬ No G
  cap : nq ≤ cG
  r0 : w.cell? ⟨R, 0, none⟩ = some (.slice (some ⟨G, 0, none⟩) nq cG)
  r1 : w.cell? ⟨R, 1, none⟩ = some (.slice At T.length ct)
  fr : ∀ o, w.frozen? ⟨R, o, none⟩ = false
  fg : ∀ o, w.frozen? ⟨G, o, none⟩ = false
  turn : OwnF w base 3 At T.length ct (T.map fun i : Nat => (i : Int))
  turnNo : ∀ g, blkOf At = some g → ¬ No g
  qs : ∀ j, j < nq → w.cell? ⟨G, j * 4, none⟩ = some (.int .i64 (q j))
  ws : ∀ j, j < nq → w.cell? ⟨G, j * 4 + 1, none⟩ = some (.slice (A j) (W j).length (c j))
  ds : ∀ j, j < nq → w.cell? ⟨G, j * 4 + 2, none⟩ = some (.int .i64 (d j))
  fs : ∀ j, j < nq → w.cell? ⟨G, j * 4 + 3, none⟩ = some (.bool (fed j))
  own : ∀ j, j < nq → OwnF w base 3 (A j) (W j).length (c j) (W j)
  ownNo : ∀ j, j < nq → ∀ g, blkOf (A j) = some g → ¬ No g
  two : ∀ i j, i < nq → j < nq → i ≠ j → Two (A i) (A j)
  twot : ∀ j, j < nq → Two At (A j)
section
variable {w w' : World} {B0 base R G nq : Nat} {q : Nat → Int} {W : Nat → List Int} {d : Nat → Int} {fed : Nat → Bool} {T : List Nat} {A : Nat → Option Addr} {c : Nat → Nat} {At : Option Addr} {ct cG : Nat} {No No' : Nat → Prop}
theorem RingAt.keep (h : RingAt w B0 base R G nq q W d fed T A c At ct cG No) (hk : ∀ j, j < w.heap.size → ¬ No j → w'.heap[j]? = w.heap[j]?) (hs : w.heap.size ≤ w'.heap.size) (hn : ∀ j, No' j → No j ∨ w.heap.size ≤ j) : RingAt w' B0 base R G nq q W d fed T A c At ct cG No' := by
  obtain ⟨l1, l2, l3, l4, l5, l6⟩ := h.lo
  have hR := hk R (by omega) h.off.1
  have hG := hk G (by omega) h.off.2
  have no : ∀ {g}, ¬ No g → g < w.heap.size → ¬ No' g := fun {g} h1 h2 h3 => (hn g h3).elim h1 (fun h4 => by omega)
  exact {
    lo := ⟨l1, l2, l3, l4, l5, by omega⟩
    off := ⟨no h.off.1 (by omega), no h.off.2 (by omega)⟩
    cap := h.cap
    r0 := (World.cell?_of_block hR).trans h.r0
    r1 := (World.cell?_of_block hR).trans h.r1
    fr := fun o => (World.frozen?_of_block hR).trans (h.fr o)
    fg := fun o => (World.frozen?_of_block hG).trans (h.fg o)
    turn := h.turn.same fun g hg => hk g (h.turn.lt g hg).2 (h.turnNo g hg)
    turnNo := fun g hg => no (h.turnNo g hg) (h.turn.lt g hg).2
    qs := fun j hj => (World.cell?_of_block hG).trans (h.qs j hj)
    ws := fun j hj => (World.cell?_of_block hG).trans (h.ws j hj)
    ds := fun j hj => (World.cell?_of_block hG).trans (h.ds j hj)
    fs := fun j hj => (World.cell?_of_block hG).trans (h.fs j hj)
    own := fun j hj => (h.own j hj).same fun g hg => hk g ((h.own j hj).lt g hg).2 (h.ownNo j hj g hg)
    ownNo := fun j hj g hg => no (h.ownNo j hj g hg) ((h.own j hj).lt g hg).2
    two := h.two
    twot := h.twot }
theorem RingAt.next (h : RingAt w B0 base R G nq q W d fed T A c At ct cG No) (hb : Below w.heap.size w w') : RingAt w' B0 base R G nq q W d fed T A c At ct cG No := h.keep (fun j hj _ => hb.block j hj) hb.size (fun _ h => .inl h)
/-- a cell of the flows' row is turned -/
theorem RingAt.cellG (h : RingAt w B0 base R G nq q W d fed T A c At ct cG No) (o : Nat) (v : Value) : ∀ {o' : Nat}, o' ≠ o → (w.setCell ⟨G, o, none⟩ v).cell? ⟨G, o', none⟩ = w.cell? ⟨G, o', none⟩ := fun {o'} ho =>
  set_other _ (fun e => ho (by simp only [Addr.mk.injEq, true_and, and_true] at e; exact e.symm))
theorem RingAt.owned (h : RingAt w B0 base R G nq q W d fed T A c At ct cG No) {j : Nat} (hj : j < nq) : blkOf (A j) ≠ some G ∧ blkOf (A j) ≠ some R := by
  obtain ⟨l1, l2, l3, l4, l5, l6⟩ := h.lo
  exact ⟨fun e => by have := ((h.own j hj).lt G e).1; omega, fun e => by have := ((h.own j hj).lt R e).1; omega⟩
theorem RingAt.turned (h : RingAt w B0 base R G nq q W d fed T A c At ct cG No) : blkOf At ≠ some G ∧ blkOf At ≠ some R := by
  obtain ⟨l1, l2, l3, l4, l5, l6⟩ := h.lo
  exact ⟨fun e => by have := (h.turn.lt G e).1; omega, fun e => by have := (h.turn.lt R e).1; omega⟩
/-- the debt of a flow is turned -/
theorem RingAt.debt (h : RingAt w B0 base R G nq q W d fed T A c At ct cG No) {i : Nat} (hi : i < nq) (v : Int) : RingAt (w.setCell ⟨G, i * 4 + 2, none⟩ (.int .i64 v)) B0 base R G nq q W (fr.upd d i v) fed T A c At ct cG No := by
  obtain ⟨l1, l2, l3, l4, l5, l6⟩ := h.lo
  have hR : ∀ o, (w.setCell ⟨G, i * 4 + 2, none⟩ (.int .i64 v)).cell? ⟨R, o, none⟩ = w.cell? ⟨R, o, none⟩ := fun o => World.cell?_setCell_far _ _ _ _ (fun e => l3 e.symm)
  exact { h with
    lo := ⟨l1, l2, l3, l4, l5, by simpa [World.setCell] using l6⟩
    r0 := (hR 0).trans h.r0
    r1 := (hR 1).trans h.r1
    fr := fun o => by simpa using h.fr o
    fg := fun o => by simpa using h.fg o
    turn := h.turn.setCell h.turned.1 _
    qs := fun j hj => (h.cellG _ _ (by omega)).trans (h.qs j hj)
    ws := fun j hj => (h.cellG _ _ (by omega)).trans (h.ws j hj)
    ds := fun j hj => by
      by_cases e : j = i
      · subst e
        rw [fr.upd_same]
        exact set_same _ (h.ds j hj)
      · rw [fr.upd_other _ _ e]
        exact (h.cellG _ _ (by omega)).trans (h.ds j hj)
    fs := fun j hj => (h.cellG _ _ (by omega)).trans (h.fs j hj)
    own := fun j hj => (h.own j hj).setCell (h.owned hj).1 _ }
/-- whether a flow is fed is turned -/
theorem RingAt.fedTo (h : RingAt w B0 base R G nq q W d fed T A c At ct cG No) {i : Nat} (hi : i < nq) (v : Bool) : RingAt (w.setCell ⟨G, i * 4 + 3, none⟩ (.bool v)) B0 base R G nq q W d (fr.upd fed i v) T A c At ct cG No := by
  obtain ⟨l1, l2, l3, l4, l5, l6⟩ := h.lo
  have hR : ∀ o, (w.setCell ⟨G, i * 4 + 3, none⟩ (.bool v)).cell? ⟨R, o, none⟩ = w.cell? ⟨R, o, none⟩ := fun o => World.cell?_setCell_far _ _ _ _ (fun e => l3 e.symm)
  exact { h with
    lo := ⟨l1, l2, l3, l4, l5, by simpa [World.setCell] using l6⟩
    r0 := (hR 0).trans h.r0
    r1 := (hR 1).trans h.r1
    fr := fun o => by simpa using h.fr o
    fg := fun o => by simpa using h.fg o
    turn := h.turn.setCell h.turned.1 _
    qs := fun j hj => (h.cellG _ _ (by omega)).trans (h.qs j hj)
    ws := fun j hj => (h.cellG _ _ (by omega)).trans (h.ws j hj)
    ds := fun j hj => (h.cellG _ _ (by omega)).trans (h.ds j hj)
    fs := fun j hj => by
      by_cases e : j = i
      · subst e
        rw [fr.upd_same]
        exact set_same _ (h.fs j hj)
      · rw [fr.upd_other _ _ e]
        exact (h.cellG _ _ (by omega)).trans (h.fs j hj)
    own := fun j hj => (h.own j hj).setCell (h.owned hj).1 _ }
/-- what a flow has waiting is turned: its row was appended to, or cut (w2 is w but for that row and new blocks) -/
theorem RingAt.waits (h : RingAt w B0 base R G nq q W d fed T A c At ct cG No) {w2 : World} {i n' c' : Nat} {A' : Option Addr} {W' : List Int} (hi : i < nq) (hg : Grew w w2 (A i) A') (ho : OwnF w2 base 3 A' n' c' W') (hnew : ∀ g, No g → g < w.heap.size) :
    RingAt (w2.setCell ⟨G, i * 4 + 1, none⟩ (.slice A' n' c')) B0 base R G nq q (fr.upd W i W') d fed T (fr.upd A i A') (fr.upd c i c') At ct cG No := by
  obtain ⟨l1, l2, l3, l4, l5, l6⟩ := h.lo
  have hs := hg.grown.size
  have hbG : w2.heap[G]? = w.heap[G]? := hg.grown.block G (by omega) (fun e => (h.owned hi).1 e.symm)
  have hbR : w2.heap[R]? = w.heap[R]? := hg.grown.block R (by omega) (fun e => (h.owned hi).2 e.symm)
  have hA' : blkOf A' ≠ some G ∧ blkOf A' ≠ some R := ⟨fun e => by have := (ho.lt G e).1; omega, fun e => by have := (ho.lt R e).1; omega⟩
  have cG' : ∀ {o' : Nat}, o' ≠ i * 4 + 1 → (w2.setCell ⟨G, i * 4 + 1, none⟩ (.slice A' n' c')).cell? ⟨G, o', none⟩ = w.cell? ⟨G, o', none⟩ := fun {o'} ho' =>
    (set_other _ (fun e => ho' (by simp only [Addr.mk.injEq, true_and, and_true] at e; exact e.symm))).trans (World.cell?_of_block hbG)
  have cR' : ∀ o, (w2.setCell ⟨G, i * 4 + 1, none⟩ (.slice A' n' c')).cell? ⟨R, o, none⟩ = w.cell? ⟨R, o, none⟩ := fun o => (World.cell?_setCell_far _ _ _ _ (fun e => l3 e.symm)).trans (World.cell?_of_block hbR)
  have tw : ∀ j, j < nq → j ≠ i → Two A' (A j) := fun j hj hne => (h.two i j hi hj (fun e => hne e.symm)).left hg (fun k hk => ((h.own j hj).lt k hk).2)
  have tt : Two A' At := (h.twot i hi).symm.left hg (fun k hk => (h.turn.lt k hk).2)
  have hn := ho.len
  exact {
    lo := ⟨l1, l2, l3, l4, l5, by simpa [World.setCell] using (by omega : base ≤ w2.heap.size)⟩
    off := h.off
    cap := h.cap
    r0 := (cR' 0).trans h.r0
    r1 := (cR' 1).trans h.r1
    fr := fun o => by rw [World.frozen?_setCell]; exact (World.frozen?_of_block hbR).trans (h.fr o)
    fg := fun o => by rw [World.frozen?_setCell]; exact (World.frozen?_of_block hbG).trans (h.fg o)
    turn := (h.turn.kept hg (fun k hk e => h.twot i hi k hk e)).setCell h.turned.1 _
    turnNo := h.turnNo
    qs := fun j hj => (cG' (by omega)).trans (h.qs j hj)
    ws := fun j hj => by
      by_cases e : j = i
      · subst e
        simp only [fr.upd_same]
        rw [← hn]
        exact set_same _ ((World.cell?_of_block hbG).trans (h.ws j hj))
      · simp only [fr.upd_other _ _ e]
        exact (cG' (by omega)).trans (h.ws j hj)
    ds := fun j hj => (cG' (by omega)).trans (h.ds j hj)
    fs := fun j hj => (cG' (by omega)).trans (h.fs j hj)
    own := fun j hj => by
      by_cases e : j = i
      · subst e
        simp only [fr.upd_same]
        rw [hn] at ho
        rw [hn]
        exact ho.setCell hA'.1 _
      · simp only [fr.upd_other _ _ e]
        exact ((h.own j hj).kept hg (fun k hk e2 => h.two i j hi hj (fun e3 => e e3.symm) k e2 hk)).setCell (h.owned hj).1 _
    ownNo := fun j hj g hgj => by
      by_cases e : j = i
      · subst e
        simp only [fr.upd_same] at hgj
        intro hNg
        rcases hg.blk with e1 | ⟨g', e1, e2⟩
        · exact h.ownNo j hj g (e1 ▸ hgj) hNg
        · rw [e2] at hgj
          cases hgj
          have := hnew _ hNg
          omega
      · simp only [fr.upd_other _ _ e] at hgj
        exact h.ownNo j hj g hgj
    two := fun a b ha hb hab => by
      by_cases ea : a = i
      · subst ea
        rw [fr.upd_same, fr.upd_other _ _ (fun e => hab e.symm)]
        exact tw b hb (fun e => hab e.symm)
      · rw [fr.upd_other _ _ ea]
        by_cases eb : b = i
        · subst eb
          rw [fr.upd_same]
          exact (tw a ha hab).symm
        · rw [fr.upd_other _ _ eb]
          exact h.two a b ha hb hab
    twot := fun j hj => by
      by_cases e : j = i
      · subst e
        rw [fr.upd_same]
        exact tt.symm
      · rw [fr.upd_other _ _ e]
        exact h.twot j hj }
/-- the turn is turned -/
theorem RingAt.turnTo (h : RingAt w B0 base R G nq q W d fed T A c At ct cG No) {w2 : World} {n' c' : Nat} {A' : Option Addr} {T' : List Nat} (hg : Grew w w2 At A') (ho : OwnF w2 base 3 A' n' c' (T'.map fun i : Nat => (i : Int))) (hnew : ∀ g, No g → g < w.heap.size) :
    RingAt (w2.setCell ⟨R, 1, none⟩ (.slice A' n' c')) B0 base R G nq q W d fed T' A c A' c' cG No := by
  obtain ⟨l1, l2, l3, l4, l5, l6⟩ := h.lo
  have hs := hg.grown.size
  have hbG : w2.heap[G]? = w.heap[G]? := hg.grown.block G (by omega) (fun e => h.turned.1 e.symm)
  have hbR : w2.heap[R]? = w.heap[R]? := hg.grown.block R (by omega) (fun e => h.turned.2 e.symm)
  have hA' : blkOf A' ≠ some G ∧ blkOf A' ≠ some R := ⟨fun e => by have := (ho.lt G e).1; omega, fun e => by have := (ho.lt R e).1; omega⟩
  have cG' : ∀ o, (w2.setCell ⟨R, 1, none⟩ (.slice A' n' c')).cell? ⟨G, o, none⟩ = w.cell? ⟨G, o, none⟩ := fun o => (World.cell?_setCell_far _ _ _ _ l3).trans (World.cell?_of_block hbG)
  have hn : n' = T'.length := by have := ho.len; simpa using this
  exact {
    lo := ⟨l1, l2, l3, l4, l5, by simpa [World.setCell] using (by omega : base ≤ w2.heap.size)⟩
    off := h.off
    cap := h.cap
    r0 := (set_other _ (by simp)).trans ((World.cell?_of_block hbR).trans h.r0)
    r1 := by rw [← hn]; exact set_same _ ((World.cell?_of_block hbR).trans h.r1)
    fr := fun o => by rw [World.frozen?_setCell]; exact (World.frozen?_of_block hbR).trans (h.fr o)
    fg := fun o => by rw [World.frozen?_setCell]; exact (World.frozen?_of_block hbG).trans (h.fg o)
    turn := by rw [hn] at ho; rw [hn]; exact ho.setCell hA'.2 _
    turnNo := fun g hgj hNg => by
      rcases hg.blk with e1 | ⟨g', e1, e2⟩
      · exact h.turnNo g (e1 ▸ hgj) hNg
      · rw [e2] at hgj
        cases hgj
        have := hnew _ hNg
        omega
    qs := fun j hj => (cG' _).trans (h.qs j hj)
    ws := fun j hj => (cG' _).trans (h.ws j hj)
    ds := fun j hj => (cG' _).trans (h.ds j hj)
    fs := fun j hj => (cG' _).trans (h.fs j hj)
    own := fun j hj => ((h.own j hj).kept hg (fun k hk e2 => h.twot j hj k e2 hk)).setCell (h.owned hj).2 _
    ownNo := h.ownNo
    two := h.two
    twot := fun j hj => (h.twot j hj).left hg (fun k hk => ((h.own j hj).lt k hk).2) }
end
end Go.Proofs.Ytedbidblnjajdaa
