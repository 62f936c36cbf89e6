/- Package fair: Play. No condition. -/
import Derived.Test.YtedbidblnjajdaaFair5
namespace Go.Proofs.Ytedbidblnjajdaa
open Go.RowKit

theorem fr.elemF : ElemT Try.prog 118 122 4 48 := ElemT.of Try.underlying118 (z := .agg #[.int .i64 0, .slice none 0 0, .int .i64 0, .bool false]) (by kernel_rfl) rfl (by decide)
theorem fr.elemS : ElemT Try.prog 70 74 3 24 := ElemT.of Try.underlying70 (z := .agg #[.int .i64 0, .int .i64 0, .int .i64 0]) (by kernel_rfl) rfl (by decide)
theorem Own.same {w w' : World} {base : Nat} {e : TypeId} {size n c : Nat} {A : Option Addr} {xs : List Value} (h : Own w base e size A n c xs) (hk : ∀ g, blkOf A = Option.some g → w'.heap[g]? = w.heap[g]?) : Own w' base e size A n c xs := by
  refine ⟨h.1, ?_⟩
  rcases h.2 with h2 | ⟨g, cap, cur, h1, h2, h3, h4⟩
  · exact .inl h2
  · simp only [Value.slice.injEq] at h1
    obtain ⟨rfl, h5, h6⟩ := h1
    exact .inr ⟨g, cap, cur, by simp [h6], h2, (hk g rfl).trans h3, h4⟩
theorem fr.grew_keep {w0 W2 w3 : World} {A A' : Option Addr} (hg : Grew W2 w3 A A') (hb : Below w0.heap.size w0 W2) : ∀ j, j < w0.heap.size → blkOf A ≠ some j → w3.heap[j]? = w0.heap[j]? := fun j hj hne =>
  (hg.grown.block j (Nat.lt_of_lt_of_le hj hb.size) (fun e => hne e.symm)).trans (hb.block j hj)
theorem fr.grew_new {w0 W2 w3 : World} {A A' : Option Addr} (hg : Grew W2 w3 A A') (hb : Below w0.heap.size w0 W2) : ∀ j, blkOf A' = some j → blkOf A = some j ∨ w0.heap.size ≤ j := fun j hj => by
  rcases hg.blk with h | ⟨g, h1, h2⟩
  · exact .inl (h ▸ hj)
  · rw [h2] at hj
    cases hj
    exact .inr (Nat.le_trans hb.size h1)
def fr.Res (o : List Served) (code : Int) (w : World) (e : Ending) (w' : World) : Prop :=
  ∃ A c, e = .returned (.tuple #[.slice A o.length c, .int .i64 code]) ∧ Own w' w.heap.size 74 3 A o.length c (o.flatMap Served.cells) ∧ Below w.heap.size w w'
def fr.cells (n : Int) : List Value := [.int .i64 n, .slice none 0 0, .int .i64 0, .bool false]
theorem fr.cells_at {qu : List Int} {i : Nat} (hi : i < qu.length) : ∀ j, j < 4 → (qu.flatMap fr.cells)[i * 4 + j]? = (fr.cells (fr.qs qu i))[j]? := fun j hj =>
  flatMap_at fr.cells 4 (fun _ => rfl) qu i _ (by unfold fr.qs; rw [List.getD_eq_getElem?_getD, List.getElem?_eq_getElem hi]; rfl) j hj
theorem Ring.begin {w : World} {B0 base0 R G cG : Nat} {qu : List Int} (ho : Own w base0 122 4 (some ⟨G, 0, none⟩) qu.length cG (qu.flatMap fr.cells)) (hB : B0 ≤ R) (hR : R < base0) (hRs : R < w.heap.size)
    (k0 : w.cell? ⟨R, 0, none⟩ = some (.slice (some ⟨G, 0, none⟩) qu.length cG)) (k1 : w.cell? ⟨R, 1, none⟩ = some (.slice none 0 0)) (kf : ∀ o, w.frozen? ⟨R, o, none⟩ = false) : Ring w B0 w.heap.size R G qu.length (fr.qs qu) fr.start (fun j => blkOf (none : Option Addr) = some j) := by
  have hG := ho.lt G rfl
  have hc : ∀ i, i < qu.length → ∀ j v, (fr.cells (fr.qs qu i))[j]? = some v → w.cell? ⟨G, i * 4 + j, none⟩ = some v := fun i hi j v hv => by
    have hj : j < 4 := by have := (List.getElem?_eq_some_iff.1 hv).1; simpa [fr.cells] using this
    have h1 := fr.cells_at hi j hj
    rw [hv] at h1
    obtain ⟨g, e1, _, _, hx⟩ := ho.cell h1
    cases e1
    exact hx
  refine ⟨fun _ => none, fun _ => 0, none, 0, cG, ⟨⟨hB, by omega, by omega, hRs, hG.2, Nat.le_refl _⟩, ⟨by simp [blkOf], by simp [blkOf]⟩, ho.cap.1, k0, k1, kf, fun o => ho.frozenAt o, OwnF.nil _ _ _, fun g hg => by simp [blkOf] at hg, fun j hj => by have := hc j hj 0 _ rfl; simpa using this, fun j hj => hc j hj 1 _ rfl, fun j hj => hc j hj 2 _ rfl, fun j hj => hc j hj 3 _ rfl, fun j hj => OwnF.nil _ _ _, fun j hj g hg => by simp [blkOf] at hg, ?_, ?_⟩⟩
  · intro i j _ _ _ k hk
    simp [blkOf] at hk
  · intro j _ k hk
    simp [blkOf] at hk
theorem Ring.app {w W2 w' : World} {B0 base R G nq : Nat} {q : Nat → Int} {s : fr.St} {A A' : Option Addr} (h : Ring w B0 base R G nq q s (fun j => blkOf A = some j)) (hb : Below w.heap.size w W2) (hg : Grew W2 w' A A') : Ring w' B0 base R G nq q s (fun j => blkOf A' = some j) :=
  h.keep (fun j hj hn => fr.grew_keep hg hb j hj hn) (Nat.le_trans hb.size hg.grown.size) (fun j hj => fr.grew_new hg hb j hj)
structure fr.At (w : World) (base R G : Nat) (qu : List Int) (l : List Feed) (wr : World) (k : Nat) (s : fr.St) (os : List Served) (A : Option Addr) (c : Nat) : Prop where
  len : os.length = k
  tail : os ++ fr.plays qu.length (fr.qs qu) s (l.drop k) = fr.plays qu.length (fr.qs qu) fr.start l
  inv : fr.Inv qu.length s
  ring : Ring wr w.heap.size base R G qu.length (fr.qs qu) s (fun j => blkOf A = some j)
  own : Own wr w.heap.size 74 3 A k c (os.flatMap Served.cells)
  below : Below w.heap.size w wr
theorem fr.At.next {w : World} {base R G : Nat} {qu : List Int} {l : List Feed} {wr : World} {k : Nat} {s s' : fr.St} {os : List Served} {A A3 : Option Addr} {c c3 : Nat} (h : fr.At w base R G qu l wr k s os A c) (hq : qu.all fr.qok = true) (hk : k < l.length) {x : Feed} {y : Served} (hx : l.getD k ⟨0, 0⟩ = x) (hs : fr.step qu.length (fr.qs qu) s x = (s', y))
    {wa w6 w7 w8 : World} (hba : Below wr.heap.size wr wa) (hr6 : Ring w6 w.heap.size base R G qu.length (fr.qs qu) s' (fun j => blkOf A = some j)) (hb6 : Below w.heap.size wa w6) (hb7 : Below w6.heap.size w6 w7) (hg : Grew w7 w8 A A3) (ho8 : Own w8 w.heap.size 74 3 A3 (k + 1) c3 (os.flatMap Served.cells ++ Served.cells y)) : fr.At w base R G qu l w8 (k + 1) s' (os ++ [y]) A3 c3 := by
  have hws := h.below.size
  have hs6 : w.heap.size ≤ w6.heap.size := Nat.le_trans (Nat.le_trans hws hba.size) hb6.size
  refine ⟨by rw [List.length_append, h.len]; rfl, ?_, ?_, hr6.app hb7 hg, by rw [List.flatMap_append]; simpa using ho8, ?_⟩
  · rw [List.append_assoc, List.singleton_append, ← h.tail, fr.plays_drop _ _ _ ⟨0, 0⟩ hk, hx, hs]
  · have := fr.inv_step (fr.qs_ok hq) h.inv x
    rw [hs] at this
    exact this
  · refine (((h.below.trans (hba.mono hws)).trans hb6).trans (hb7.mono hs6)).trans (hg.belowB (base := w.heap.size) (fun j hj => (h.own.lt j hj).1) (Nat.le_refl _) (Nat.le_trans hs6 hb7.size))
theorem fr.At.own6 {w : World} {base R G : Nat} {qu : List Int} {l : List Feed} {wr : World} {k : Nat} {s : fr.St} {os : List Served} {A : Option Addr} {c : Nat} (h : fr.At w base R G qu l wr k s os A c) {wa w6 : World} (hba : Below wr.heap.size wr wa) (hf : ∀ g, blkOf A = some g → w6.heap[g]? = wa.heap[g]?) : Own w6 w.heap.size 74 3 A k c (os.flatMap Served.cells) :=
  (h.own.next hba).same hf
theorem fr.At.ringA {w : World} {base R G : Nat} {qu : List Int} {l : List Feed} {wr : World} {k : Nat} {s : fr.St} {os : List Served} {A : Option Addr} {c : Nat} (h : fr.At w base R G qu l wr k s os A c) {wa : World} (hba : Below wr.heap.size wr wa) : Ring wa w.heap.size base R G qu.length (fr.qs qu) s (fun j => blkOf A = some j) :=
  h.ring.keep (fun j hj _ => hba.block j hj) hba.size (fun j hj => .inl hj)
theorem fr.At.lt {w : World} {base R G : Nat} {qu : List Int} {l : List Feed} {wr : World} {k : Nat} {s : fr.St} {os : List Served} {A : Option Addr} {c : Nat} (h : fr.At w base R G qu l wr k s os A c) {wa : World} (hba : Below wr.heap.size wr wa) : ∀ g, blkOf A = some g → g < wa.heap.size := fun g hg => Nat.lt_of_lt_of_le (h.own.lt g hg).2 hba.size

set_option maxRecDepth 100000 in
set_option maxHeartbeats 4000000 in
theorem fair_Play_ok (qu : List Int) (A1 : Option Addr) (c1 : Nat) (l : List Feed) (A2 : Option Addr) (c2 : Nat) (w : World) (hqr : SlRep Rep.int w (· < w.heap.size) qu A1 c1) (hlr : SlRep Feed.rep w (· < w.heap.size) l A2 c2) (h1 : 1 ≤ qu.length) (h2 : qu.length ≤ 6) (h3 : l.length ≤ 300) (hall : qu.all fr.qok = true) :
    Calls Try.prog 43 #[.slice A1 qu.length c1, .slice A2 l.length c2] w (fr.Res (fr.plays qu.length (fr.qs qu) fr.start l) 0 w) := by
  have HQ := Lib.hid hqr
  have HL := Lib.hid hlr
  have HA := Lib.hid hall
  have HC := Lib.hid (fun W (hb : Below w.heap.size w W) => fair_contains_no qu A1 c1 W (HQ.out.next hb) h2 HA.out)
  clear hqr hlr hall
  go_enter Try.func43, Try.ntmps43
  go_wp2_with fail
  refine (HC.out _ (by repeat (first | (with_reducible exact Below.refl _ _) | (with_reducible assumption) | (with_reducible refine bset ?_ ?_ _) | (with_reducible refine balloc ?_ _) | (with_reducible refine Below.drew ?_) | (with_reducible refine bdrewN ?_ _) | (with_reducible refine bnext ?_ (by with_reducible assumption)) | exact Nat.le_refl _ | (simp; done) | omega | (simp; omega)))).mono ?_
  rintro e w2 ⟨rfl, hb2⟩
  have hB2 : Below w.heap.size w w2 := (by repeat (first | (with_reducible exact Below.refl _ _) | (with_reducible assumption) | (with_reducible refine bset ?_ ?_ _) | (with_reducible refine balloc ?_ _) | (with_reducible refine Below.drew ?_) | (with_reducible refine bdrewN ?_ _) | (with_reducible refine bnext ?_ (by with_reducible assumption)) | exact Nat.le_refl _ | (simp; done) | omega | (simp; omega)))
  have hz2 := hB2.size
  clear hb2
  go_wp2
  go_loopw [31] (fun i wr => ∃ (k : Nat) (AG : Option Addr) (cG : Nat), i = .int .i64 k ∧ k ≤ qu.length ∧ wr.cell? ⟨w2.heap.size, 0, none⟩ = some (.slice AG k cG) ∧ wr.cell? ⟨w2.heap.size, 1, none⟩ = some (.slice none 0 0) ∧ (∀ o, wr.frozen? ⟨w2.heap.size, o, none⟩ = false) ∧ Hid (Own wr (w2.heap.size + 1) 122 4 AG k cG ((qu.take k).flatMap fr.cells)) ∧ w2.heap.size + 1 ≤ wr.heap.size ∧ Below w.heap.size w wr) (fun i _ => qu.length - (intOf i).toNat)
  case atStart => exact ⟨0, none, 0, rfl, by omega, by simp [go_sem], by simp [go_sem], fun o => by simp [go_sem], Lib.hid (Own.nil _ _ _ _), by simp, (by repeat (first | (with_reducible exact Below.refl _ _) | (with_reducible assumption) | (with_reducible refine bset ?_ ?_ _) | (with_reducible refine balloc ?_ _) | (with_reducible refine Below.drew ?_) | (with_reducible refine bdrewN ?_ _) | (with_reducible refine bnext ?_ (by with_reducible assumption)) | exact Nat.le_refl _ | (simp; done) | omega | (simp; omega)))⟩
  case round =>
    obtain ⟨k, AG, cG, rfl, hk, k0, k1, kf, HO, hR, hB⟩ := hrel
    rename World => wr
    by_cases hlt : k < qu.length
    · obtain ⟨b, o, rfl, hb, hc1⟩ := int_at (HQ.out.below hB) hlt
      have hbw : b < wr.heap.size := Nat.lt_of_lt_of_le hb hB.size
      have HV : Hid ((qu.take k).flatMap fr.cells ++ [.int .i64 (qu.getD k 0), .slice none 0 0, .int .i64 0, .bool false] = (qu.take (k + 1)).flatMap fr.cells) := Lib.hid (by
        rw [List.take_add_one, List.flatMap_append, List.getElem?_eq_getElem hlt, List.getD_eq_getElem?_getD, List.getElem?_eq_getElem hlt]
        rfl)
      generalize qu.getD k 0 = n at *
      go_wp2_with (first
        | (at_builtin; refine wp_app _ rfl _ _ _ rfl fr.elemF (w2.heap.size + 1) AG _ cG _ rfl (HO.out.alloc _) _ 1 1 [.int .i64 n, .slice none 0 0, .int .i64 0, .bool false] rfl rfl (Cells.newAt _ _ _ (by simp)) (by simp [Value.oneCell']) (by omega) (by unfold maxLen; omega) (by simp; omega) ?_; intro A3 c3 w3 ho3 hg3; have hz3 := (hg3.grown.block w2.heap.size (by simp; omega) (fun e => by have := (HO.out.lt _ e.symm).1; omega)).trans (Below.heap_alloc wr _ w2.heap.size (by omega)); have y0 := (World.cell?_of_block (a := ⟨w2.heap.size, 0, none⟩) hz3).trans k0; have y1 := (World.cell?_of_block (a := ⟨w2.heap.size, 1, none⟩) hz3).trans k1; have yf := fun o => (World.frozen?_of_block (a := ⟨w2.heap.size, o, none⟩) hz3).trans (kf o); have hb3 : Below w.heap.size w w3 := Grew.step (by repeat (first | (with_reducible exact Below.refl _ _) | (with_reducible assumption) | (with_reducible refine bset ?_ ?_ _) | (with_reducible refine balloc ?_ _) | (with_reducible refine Below.drew ?_) | (with_reducible refine bdrewN ?_ _) | (with_reducible refine bnext ?_ (by with_reducible assumption)) | exact Nat.le_refl _ | (simp; done) | omega | (simp; omega))) hg3 (fun q hq => by have := (HO.out.lt q hq).1; omega); have hs3 : wr.heap.size ≤ w3.heap.size := Nat.le_trans (by simp) hg3.grown.size; have HO3 := Lib.hid ho3; have HOL := Lib.hid (fun q hq => (ho3.lt q hq).1); clear ho3 hz3)
        | fail)
      rw [HV.out] at HO3
      go_roundw
      case rel => exact ⟨k + 1, A3, c3, by go_num, by omega, by simp [go_sem, y0], by simp [go_sem, y1], fun o => by simp [go_sem, yf], Lib.hid (HO3.out.setCell (fun e => by have := HOL.out _ e; simp only at this; omega) _), by simp; omega, (by repeat (first | (with_reducible exact Below.refl _ _) | (with_reducible assumption) | (with_reducible refine bset ?_ ?_ _) | (with_reducible refine balloc ?_ _) | (with_reducible refine Below.drew ?_) | (with_reducible refine bdrewN ?_ _) | (with_reducible refine bnext ?_ (by with_reducible assumption)) | exact Nat.le_refl _ | (simp; done) | omega | (simp; omega)))⟩
      case measure => simp [intOf]; omega
    · obtain rfl : k = qu.length := by omega
      rw [List.take_length] at HO
      obtain ⟨G, rfl, hG1, hG2⟩ := HO.out.some (by rw [flatMap_len fr.cells 4 (fun _ => rfl)]; omega)
      have HAT : Hid (fr.At w wr.heap.size w2.heap.size G qu l wr 0 fr.start [] none 0) := Lib.hid ⟨rfl, rfl, fr.inv_start _, Ring.begin HO.out hz2 (by omega) (by omega) k0 k1 kf, Own.nil _ _ _ _, hB⟩
      generalize hbs : wr.heap.size = base at HAT
      clear k0 k1 kf HO hbs
      go_wp2
      go_loopw [9, 49] (fun out i w5 => ∃ (k : Nat) (s : fr.St) (os : List Served) (A' : Option Addr) (c' : Nat), out = .slice A' k c' ∧ i = .int .i64 k ∧ k ≤ l.length ∧ Hid (fr.At w base w2.heap.size G qu l w5 k s os A' c')) (fun _ i _ => l.length - (intOf i).toNat)
      case atStart => exact ⟨0, _, _, _, _, rfl, rfl, by omega, HAT⟩
      case round =>
        obtain ⟨k, s, os, A', c', rfl, rfl, hk, HT⟩ := hrel
        rename World => w5
        by_cases hlt : k < l.length
        · obtain ⟨b, o, rfl, hb, hc1, hc2⟩ := Feed.cells_at ⟨0, 0⟩ (HL.out.below HT.out.below) hlt
          have hbw : b < w5.heap.size := Nat.lt_of_lt_of_le hb HT.out.below.size
          have hws : w.heap.size ≤ w5.heap.size := HT.out.below.size
          have HX : Hid (∃ x, x = l.getD k ⟨0, 0⟩) := Lib.hid ⟨_, rfl⟩
          obtain ⟨x, hx⟩ := HX.out
          rw [← hx] at hc1 hc2
          have HXX := Lib.hid hx
          clear hx HX
          obtain ⟨fl, sz⟩ := x
          dsimp only at hc1 hc2
          have HNX := Lib.hid (fun s' y A3 c3 wa w6 w7 w8 hs h1 h2 h3 h4 h5 h6 => HT.out.next (A3 := A3) (c3 := c3) (s' := s') (y := y) (wa := wa) (w6 := w6) (w7 := w7) (w8 := w8) HA.out hlt HXX.out.symm hs h1 h2 h3 h4 h5 h6)
          by_cases hz0 : 0 < sz
          · have hd1 : decide (sz > 0) = true := by simp [hz0]
            have hd1' : decide (0 < sz) = true := by simp [hz0]
            go_wp2_with fail
            generalize hwa : w5.alloc (.cells #[.int .i64 fl, .int .i64 sz] 124) = wa
            have HWA : Hid (Below w5.heap.size w5 wa) := Lib.hid (by rw [← hwa]; exact (by repeat (first | (with_reducible exact Below.refl _ _) | (with_reducible assumption) | (with_reducible refine bset ?_ ?_ _) | (with_reducible refine balloc ?_ _) | (with_reducible refine Below.drew ?_) | (with_reducible refine bdrewN ?_ _) | (with_reducible refine bnext ?_ (by with_reducible assumption)) | exact Nat.le_refl _ | (simp; done) | omega | (simp; omega))))
            clear hwa
            refine (fair_comes w.heap.size base w2.heap.size G qu.length (fr.qs qu) s (fun j => blkOf A' = some j) wa (HT.out.ringA HWA.out) HT.out.inv (HT.out.lt HWA.out) h2 fl sz hz0).mono ?_
            rintro e w6 ⟨rfl, h7, h8, h9⟩
            have hcd : ∃ cd, cd = (fr.come qu.length s fl sz).2 := ⟨_, rfl⟩
            obtain ⟨cd, hcd⟩ := hcd
            rw [← hcd]
            have HSP : Hid (fr.step qu.length (fr.qs qu) s ⟨fl, sz⟩ = ((fr.come qu.length s fl sz).1, ⟨cd, 0, 0⟩)) := Lib.hid (by rw [hcd]; exact fr.step_come (nq := qu.length) (q := fr.qs qu) (s := s) (x := ⟨fl, sz⟩) hz0)
            have HO6 := Lib.hid (HT.out.own6 HWA.out h9)
            have hs6 : w.heap.size ≤ w6.heap.size := Nat.le_trans (Nat.le_trans hws HWA.out.size) h8.size
            have HN6 := Lib.hid (And.intro h7 h8)
            clear h7 h8 h9 hc1 hc2 hcd
            go_wp2_with (first
              | (at_builtin; refine wp_app _ rfl _ _ _ rfl fr.elemS w.heap.size A' k c' _ rfl (HO6.out.alloc _) _ 1 1 [.int .i64 cd, .int .i64 0, .int .i64 0] rfl rfl (Cells.newAt _ _ _ (by simp)) (by simp [Value.oneCell']) (by omega) (by unfold maxLen; omega) (by simp; omega) ?_; intro A3 c3 w8 ho8 hg8; have HAT8 := Lib.hid (HNX.out _ _ A3 c3 wa w6 _ w8 HSP.out HWA.out HN6.out.1 HN6.out.2 ((Below.refl _ _).alloc (Nat.le_refl _) _) hg8 ho8); clear ho8 hg8)
              | fail)
            go_roundw
            case rel => exact ⟨k + 1, _, _, A3, c3, rfl, by go_num, by omega, HAT8⟩
            case measure => simp [intOf]; omega
          · have hd1 : decide (sz > 0) = false := by simp; omega
            have hd1' : decide (0 < sz) = false := by simp; omega
            by_cases hz1 : sz < 0
            · have hd2 : decide (sz < 0) = true := by simp [hz1]
              go_wp2_with fail
              generalize hwa : w5.alloc (.cells #[.int .i64 fl, .int .i64 sz] 124) = wa
              have HWA : Hid (Below w5.heap.size w5 wa) := Lib.hid (by rw [← hwa]; exact (by repeat (first | (with_reducible exact Below.refl _ _) | (with_reducible assumption) | (with_reducible refine bset ?_ ?_ _) | (with_reducible refine balloc ?_ _) | (with_reducible refine Below.drew ?_) | (with_reducible refine bdrewN ?_ _) | (with_reducible refine bnext ?_ (by with_reducible assumption)) | exact Nat.le_refl _ | (simp; done) | omega | (simp; omega))))
              clear hwa
              refine (fair_no 2 wa).mono ?_
              rintro e w6 ⟨rfl, h6⟩
              have h7 : Ring w6 w.heap.size base w2.heap.size G qu.length (fr.qs qu) s (fun j => blkOf A' = some j) := (HT.out.ringA HWA.out).keep (fun j hj _ => h6.block j hj) h6.size (fun j hj => .inl hj)
              have h8 : Below w.heap.size wa w6 := h6.mono (Nat.le_trans hws HWA.out.size)
              have h9 : ∀ g, blkOf A' = some g → w6.heap[g]? = wa.heap[g]? := fun g hg => h6.block g (HT.out.lt HWA.out g hg)
              have HSP : Hid (fr.step qu.length (fr.qs qu) s ⟨fl, sz⟩ = (s, ⟨2, 0, 0⟩)) := Lib.hid (fr.step_neg (nq := qu.length) (q := fr.qs qu) (s := s) (x := ⟨fl, sz⟩) hz1)
              have HO6 := Lib.hid (HT.out.own6 HWA.out h9)
              have hs6 : w.heap.size ≤ w6.heap.size := Nat.le_trans (Nat.le_trans hws HWA.out.size) h8.size
              have HN6 := Lib.hid (And.intro h7 h8)
              clear h7 h8 h9 hc1 hc2 h6
              go_wp2_with (first
                | (at_builtin; refine wp_app _ rfl _ _ _ rfl fr.elemS w.heap.size A' k c' _ rfl (HO6.out.alloc _) _ 1 1 [.int .i64 2, .int .i64 0, .int .i64 0] rfl rfl (Cells.newAt _ _ _ (by simp)) (by simp [Value.oneCell']) (by omega) (by unfold maxLen; omega) (by simp; omega) ?_; intro A3 c3 w8 ho8 hg8; have HAT8 := Lib.hid (HNX.out _ _ A3 c3 wa w6 _ w8 HSP.out HWA.out HN6.out.1 HN6.out.2 ((Below.refl _ _).alloc (Nat.le_refl _) _) hg8 ho8); clear ho8 hg8)
                | fail)
              go_roundw
              case rel => exact ⟨k + 1, _, _, A3, c3, rfl, by go_num, by omega, HAT8⟩
              case measure => simp [intOf]; omega
            · have hd2 : decide (sz < 0) = false := by simp; omega
              go_wp2_with fail
              by_cases ht : s.t = []
              · generalize hwa : w5.alloc (.cells #[.int .i64 fl, .int .i64 sz] 124) = wa
                have HWA : Hid (Below w5.heap.size w5 wa) := Lib.hid (by rw [← hwa]; exact (by repeat (first | (with_reducible exact Below.refl _ _) | (with_reducible assumption) | (with_reducible refine bset ?_ ?_ _) | (with_reducible refine balloc ?_ _) | (with_reducible refine Below.drew ?_) | (with_reducible refine bdrewN ?_ _) | (with_reducible refine bnext ?_ (by with_reducible assumption)) | exact Nat.le_refl _ | (simp; done) | omega | (simp; omega))))
                clear hwa
                refine (fair_sends_none w.heap.size base w2.heap.size G qu.length (fr.qs qu) s (fun j => blkOf A' = some j) wa (HT.out.ringA HWA.out) ht (HT.out.lt HWA.out)).mono ?_
                rintro e w6 ⟨rfl, h7, h8, h9⟩
                have HSP : Hid (fr.step qu.length (fr.qs qu) s ⟨fl, sz⟩ = (s, ⟨7, 0, 0⟩)) := Lib.hid (fr.step_none (nq := qu.length) (q := fr.qs qu) (s := s) (x := ⟨fl, sz⟩) (by simp only; omega) ht)
                have HO6 := Lib.hid (HT.out.own6 HWA.out h9)
                have hs6 : w.heap.size ≤ w6.heap.size := Nat.le_trans (Nat.le_trans hws HWA.out.size) h8.size
                have HN6 := Lib.hid (And.intro h7 h8)
                clear h7 h8 h9 hc1 hc2
                go_wp2_with (first
                  | (at_builtin; refine wp_app _ rfl _ _ _ rfl fr.elemS w.heap.size A' k c' _ rfl (HO6.out.alloc _) _ 1 1 [.int .i64 7, .int .i64 0, .int .i64 0] rfl rfl (Cells.newAt _ _ _ (by simp)) (by simp [Value.oneCell']) (by omega) (by unfold maxLen; omega) (by simp; omega) ?_; intro A3 c3 w8 ho8 hg8; have HAT8 := Lib.hid (HNX.out _ _ A3 c3 wa w6 _ w8 HSP.out HWA.out HN6.out.1 HN6.out.2 ((Below.refl _ _).alloc (Nat.le_refl _) _) hg8 ho8); clear ho8 hg8)
                  | fail)
                go_roundw
                case rel => exact ⟨k + 1, _, _, A3, c3, rfl, by go_num, by omega, HAT8⟩
                case measure => simp [intOf]; omega
              · generalize hwa : w5.alloc (.cells #[.int .i64 fl, .int .i64 sz] 124) = wa
                have HWA : Hid (Below w5.heap.size w5 wa) := Lib.hid (by rw [← hwa]; exact (by repeat (first | (with_reducible exact Below.refl _ _) | (with_reducible assumption) | (with_reducible refine bset ?_ ?_ _) | (with_reducible refine balloc ?_ _) | (with_reducible refine Below.drew ?_) | (with_reducible refine bdrewN ?_ _) | (with_reducible refine bnext ?_ (by with_reducible assumption)) | exact Nat.le_refl _ | (simp; done) | omega | (simp; omega))))
                clear hwa
                refine (fair_sends w.heap.size base w2.heap.size G qu.length (fr.qs qu) (fr.qs_ok HA.out) s (fun j => blkOf A' = some j) wa (HT.out.ringA HWA.out) HT.out.inv ht (fr.mu s + 1) (by omega) (HT.out.lt HWA.out) h2).mono ?_
                rintro e w6 ⟨ii, tl, hsp, rfl, h7, h8, h9⟩
                have hcd : ∃ cd, cd = fr.first (fr.spin (fr.qs qu) (fr.mu s + 1) s) ii := ⟨_, rfl⟩
                obtain ⟨cd, hcd⟩ := hcd
                rw [← hcd]
                have HSP : Hid (fr.step qu.length (fr.qs qu) s ⟨fl, sz⟩ = (fr.sent (fr.spin (fr.qs qu) (fr.mu s + 1) s) ii tl, ⟨0, (ii : Nat), cd⟩)) := Lib.hid (by rw [hcd]; exact fr.step_send (nq := qu.length) (q := fr.qs qu) (s := s) (x := ⟨fl, sz⟩) (by simp only; omega) ht hsp)
                have HO6 := Lib.hid (HT.out.own6 HWA.out h9)
                have hs6 : w.heap.size ≤ w6.heap.size := Nat.le_trans (Nat.le_trans hws HWA.out.size) h8.size
                have HN6 := Lib.hid (And.intro h7 h8)
                clear h7 h8 h9 hc1 hc2 hcd hsp
                go_wp2_with (first
                  | (at_builtin; refine wp_app _ rfl _ _ _ rfl fr.elemS w.heap.size A' k c' _ rfl (HO6.out.alloc _) _ 1 1 [.int .i64 0, .int .i64 (ii : Nat), .int .i64 cd] rfl rfl (Cells.newAt _ _ _ (by simp)) (by simp [Value.oneCell']) (by omega) (by unfold maxLen; omega) (by simp; omega) ?_; intro A3 c3 w8 ho8 hg8; have HAT8 := Lib.hid (HNX.out _ _ A3 c3 wa w6 _ w8 HSP.out HWA.out HN6.out.1 HN6.out.2 ((Below.refl _ _).alloc (Nat.le_refl _) _) hg8 ho8); clear ho8 hg8)
                  | fail)
                go_roundw
                case rel => exact ⟨k + 1, _, _, A3, c3, rfl, by go_num, by omega, HAT8⟩
                case measure => simp [intOf]; omega
        · obtain rfl : k = l.length := by omega
          go_wp2
          go_ret2
          have h0 := HT.out.tail
          rw [fr.plays_end, List.append_nil] at h0
          rw [← h0]
          exact ⟨A', c', by rw [HT.out.len]; rfl, by rw [HT.out.len]; exact HT.out.own, HT.out.below⟩

theorem fr.Res.no {w w' : World} {e : Ending} {n : Int} (h : e = .returned (.tuple #[.slice none 0 0, .int .i64 n])) (hb : Below w.heap.size w w') : fr.Res [] n w e w' := ⟨none, 0, h, Own.nil _ _ _ _, hb⟩
set_option maxHeartbeats 400000 in
theorem fair_Play_size (n m c1 c2 : Nat) (A1 A2 : Option Addr) (w : World) (h : n = 0 ∨ 6 < n ∨ 300 < m) (hn : n ≤ 140737488351232) (hm : m ≤ 140737488351232) :
    Calls Try.prog 43 #[.slice A1 n c1, .slice A2 m c2] w (fr.Res [] 1 w) := by
  by_cases h1 : n = 0
  · have e1 : decide ((n : Int) < 1) = true := by simp; omega
    clear h h1
    go_enter Try.func43, Try.ntmps43
    go_wp2
    go_ret2
    exact fr.Res.no rfl (Below.refl _ _)
  · have e1 : decide ((n : Int) < 1) = false := by simp; omega
    by_cases h2 : 6 < n
    · have e2 : decide ((n : Int) > 6) = true := by simp; omega
      have e2' : decide (6 < (n : Int)) = true := by simp; omega
      clear h h1
      go_enter Try.func43, Try.ntmps43
      go_wp2
      go_ret2
      exact fr.Res.no rfl (Below.refl _ _)
    · have e2 : decide ((n : Int) > 6) = false := by simp; omega
      have e2' : decide (6 < (n : Int)) = false := by simp; omega
      have e3 : decide ((m : Int) > 300) = true := by simp; omega
      have e3' : decide (300 < (m : Int)) = true := by simp; omega
      clear h h1
      go_enter Try.func43, Try.ntmps43
      go_wp2
      go_ret2
      exact fr.Res.no rfl (Below.refl _ _)
set_option maxHeartbeats 1000000 in
theorem fair_Play_range (qu : List Int) (A1 : Option Addr) (c1 m c2 : Nat) (A2 : Option Addr) (w : World) (hqr : SlRep Rep.int w (· < w.heap.size) qu A1 c1) (h1 : 1 ≤ qu.length) (h2 : qu.length ≤ 6) (h3 : m ≤ 300) (hall : qu.all fr.qok = false) :
    Calls Try.prog 43 #[.slice A1 qu.length c1, .slice A2 m c2] w (fr.Res [] 2 w) := by
  have HQ := Lib.hid hqr
  have HC := Lib.hid (fun W (hb : Below w.heap.size w W) => fair_contains_yes qu A1 c1 W (HQ.out.next hb) h2 hall)
  clear hqr hall
  go_enter Try.func43, Try.ntmps43
  go_wp2_with fail
  refine (HC.out _ (by repeat (first | (with_reducible exact Below.refl _ _) | (with_reducible assumption) | (with_reducible refine bset ?_ ?_ _) | (with_reducible refine balloc ?_ _) | (with_reducible refine Below.drew ?_) | (with_reducible refine bdrewN ?_ _) | (with_reducible refine bnext ?_ (by with_reducible assumption)) | exact Nat.le_refl _ | (simp; done) | omega | (simp; omega)))).mono ?_
  rintro e w2 ⟨rfl, hb2⟩
  go_wp2
  go_ret2
  exact fr.Res.no rfl (by repeat (first | (with_reducible exact Below.refl _ _) | (with_reducible assumption) | (with_reducible refine bset ?_ ?_ _) | (with_reducible refine balloc ?_ _) | (with_reducible refine Below.drew ?_) | (with_reducible refine bdrewN ?_ _) | (with_reducible refine bnext ?_ (by with_reducible assumption)) | exact Nat.le_refl _ | (simp; done) | omega | (simp; omega)))
theorem fair_Play_res (qu : List Int) (A1 : Option Addr) (c1 : Nat) (l : List Feed) (A2 : Option Addr) (c2 : Nat) (w : World) (hqr : SlRep Rep.int w (· < w.heap.size) qu A1 c1) (hlr : SlRep Feed.rep w (· < w.heap.size) l A2 c2) (hn : qu.length ≤ 140737488351232) (hm : l.length ≤ 140737488351232) :
    Calls Try.prog 43 #[.slice A1 qu.length c1, .slice A2 l.length c2] w (fr.Res (fr.out qu l) (fr.code qu l) w) := by
  unfold fr.out fr.code
  by_cases h : qu.length = 0 ∨ 6 < qu.length ∨ 300 < l.length
  · rw [if_pos h, if_pos h]
    exact fair_Play_size _ _ _ _ _ _ w h hn hm
  · rw [if_neg h, if_neg h]
    by_cases h2 : qu.all fr.qok = false
    · rw [if_pos h2, if_pos h2]
      exact fair_Play_range qu A1 c1 _ c2 A2 w hqr (by omega) (by omega) (by omega) h2
    · rw [if_neg h2, if_neg h2]
      exact fair_Play_ok qu A1 c1 l A2 c2 w hqr hlr (by omega) (by omega) (by omega) (by simpa using h2)
end Go.Proofs.Ytedbidblnjajdaa
