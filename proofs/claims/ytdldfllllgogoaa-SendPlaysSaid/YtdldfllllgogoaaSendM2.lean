/- Texts in one: Lists, Add3, Hole, AddP, Add4, Hole2. No condition. -/
import Derived.Test.YtdldfllllgogoaaSendM1
import Derived.Lib.AppendZerosOnto
namespace Go.Proofs.Ytdldfllllgogoaa
open Go.RowKit

/-- the call's own blocks other than the row A -/
def Apart (w : World) (base : Nat) (A : Option Addr) (k : Nat) : Prop := base ≤ k ∧ k < w.heap.size ∧ blkOf A ≠ some k
theorem SlRep.grew {α : Type} {R : Rep α} {w w' : World} {base : Nat} {A A' : Option Addr} {l : List α} {B : Option Addr} {c : Nat} (h : SlRep R w (Apart w base A) l B c) (hg : Grew w w' A A') : SlRep R w' (Apart w' base A') l B c :=
  h.keep fun k hk => ⟨⟨hk.1, Nat.lt_of_lt_of_le hk.2.1 hg.grown.size, fun e => by
    rcases hg.blk with e' | ⟨g, hg', e'⟩
    · exact hk.2.2 (e' ▸ e)
    · rw [e'] at e
      cases e
      exact absurd hk.2.1 (by omega)⟩, hg.grown.block k hk.2.1 (fun e => hk.2.2 e.symm)⟩
theorem SlRep.apart_next {α : Type} {R : Rep α} {w w' : World} {base : Nat} {A : Option Addr} {l : List α} {B : Option Addr} {c : Nat} (h : SlRep R w (Apart w base A) l B c) (hb : Below w.heap.size w w') : SlRep R w' (Apart w' base A) l B c :=
  h.keep fun k hk => ⟨⟨hk.1, Nat.lt_of_lt_of_le hk.2.1 hb.size, hk.2.2⟩, hb.block k hk.2.1⟩
theorem SlRep.to_apart {α : Type} {R : Rep α} {w : World} {base b0 : Nat} {A : Option Addr} {l : List α} {B : Option Addr} {c : Nat} (h : SlRep R w (fun k => b0 ≤ k ∧ k < w.heap.size) l B c) (hb : base ≤ b0) (hA : ∀ k, blkOf A = some k → k < b0) : SlRep R w (Apart w base A) l B c :=
  h.keep fun k hk => ⟨⟨by omega, hk.2, fun e => by have := hA k e; omega⟩, rfl⟩
theorem SlRep.of_apart {α : Type} {R : Rep α} {w : World} {base : Nat} {A : Option Addr} {l : List α} {B : Option Addr} {c : Nat} (h : SlRep R w (Apart w base A) l B c) : SlRep R w (fun k => base ≤ k ∧ k < w.heap.size) l B c :=
  h.keep fun k hk => ⟨⟨hk.1, hk.2.1⟩, rfl⟩

/-- cells that hold slices in blocks of S, which read as L -/
def RowsIn (w : World) (S : Nat → Prop) (L : List (List UInt8)) (xs : List Value) : Prop :=
  xs.length = L.length ∧ ∀ (i : Nat) (l : List UInt8), L[i]? = some l → ∃ Ai ci, xs[i]? = some (Value.slice Ai l.length ci) ∧ SlRep Rep.u8 w S l Ai ci
theorem RowsIn.nil (w : World) (S : Nat → Prop) : RowsIn w S [] [] := ⟨rfl, fun i l h => by simp at h⟩
theorem RowsIn.keep {w w' : World} {S S' : Nat → Prop} {L : List (List UInt8)} {xs : List Value} (h : RowsIn w S L xs) (hk : ∀ k, S k → S' k ∧ w'.heap[k]? = w.heap[k]?) : RowsIn w' S' L xs :=
  ⟨h.1, fun i l hl => let ⟨Ai, ci, h1, h2⟩ := h.2 i l hl; ⟨Ai, ci, h1, h2.keep hk⟩⟩
theorem RowsIn.snoc {w : World} {S : Nat → Prop} {L : List (List UInt8)} {xs : List Value} (h : RowsIn w S L xs) {l : List UInt8} {B : Option Addr} {n c : Nat} (hn : n = l.length) (hl : SlRep Rep.u8 w S l B c) : RowsIn w S (L ++ [l]) (xs ++ [.slice B n c]) := by
  subst hn
  refine ⟨by simp [h.1], fun i x hx => ?_⟩
  rcases Nat.lt_or_ge i L.length with hi | hi
  · rw [List.getElem?_append_left hi] at hx
    obtain ⟨Ai, ci, h1, h2⟩ := h.2 i x hx
    exact ⟨Ai, ci, by rw [List.getElem?_append_left (by rw [h.1]; exact hi)]; exact h1, h2⟩
  · have hi' : i = L.length := by
      have := (List.getElem?_eq_some_iff.1 hx).1
      simp at this
      omega
    subst hi'
    rw [List.getElem?_append_right (Nat.le_refl _)] at hx
    simp at hx
    subst hx
    exact ⟨B, c, by rw [List.getElem?_append_right (by rw [h.1]; exact Nat.le_refl _), h.1]; simp, hl⟩
theorem RowsIn.rep {w : World} {base : Nat} {S : Nat → Prop} {e : TypeId} {A : Option Addr} {n c : Nat} {L : List (List UInt8)} {xs : List Value} (h : RowsIn w S L xs) (hS : ∀ k, S k → base ≤ k ∧ k < w.heap.size) (ho : Own w base e 1 A n c xs) : n = L.length ∧ SlRep (Rep.slice Rep.u8) w (fun k => base ≤ k ∧ k < w.heap.size) L A c := by
  have hn : n = L.length := by have := ho.len; rw [h.1, Nat.mul_one] at this; exact this.symm
  refine ⟨hn, ⟨by have := ho.cap; omega, ho.cap.2, ?_⟩⟩
  cases L with
  | nil => exact .inl rfl
  | cons y r =>
    obtain ⟨A0, c0, h0, _⟩ := h.2 0 y rfl
    obtain ⟨g, rfl, h1, h2, _⟩ := ho.cell h0
    refine .inr ⟨g, 0, rfl, ⟨h1, h2⟩, fun i z hz => ?_⟩
    obtain ⟨Ai, ci, h3, h4⟩ := h.2 i z hz
    obtain ⟨g', e1, _, _, hc⟩ := ho.cell h3
    simp only [Option.some.injEq, Addr.mk.injEq, and_true] at e1
    subst e1
    refine ⟨_, rep_slice_val.2 ⟨rfl, h4.keep fun k hk => ⟨hS k hk, rfl⟩⟩, fun j u hu => ?_⟩
    have hj : j = 0 := by have := (List.getElem?_eq_some_iff.1 hu).1; simp at this; omega
    subst hj
    simp at hu
    subst hu
    simpa [Rep.slice] using hc
def RowsAt (w : World) (base : Nat) (A : Option Addr) (L : List (List UInt8)) (xs : List Value) : Prop := RowsIn w (Apart w base A) L xs
theorem RowsAt.nil (w : World) (base : Nat) (A : Option Addr) : RowsAt w base A [] [] := RowsIn.nil _ _
theorem Apart.grew {w w' : World} {base : Nat} {A A' : Option Addr} (hg : Grew w w' A A') : ∀ k, Apart w base A k → Apart w' base A' k ∧ w'.heap[k]? = w.heap[k]? := fun k hk =>
  ⟨⟨hk.1, Nat.lt_of_lt_of_le hk.2.1 hg.grown.size, fun e => by
    rcases hg.blk with e' | ⟨g, hg', e'⟩
    · exact hk.2.2 (e' ▸ e)
    · rw [e'] at e
      cases e
      exact absurd hk.2.1 (by omega)⟩, hg.grown.block k hk.2.1 (fun e => hk.2.2 e.symm)⟩
theorem Apart.next {w w' : World} {base : Nat} {A : Option Addr} (hb : Below w.heap.size w w') : ∀ k, Apart w base A k → Apart w' base A k ∧ w'.heap[k]? = w.heap[k]? := fun k hk =>
  ⟨⟨hk.1, Nat.lt_of_lt_of_le hk.2.1 hb.size, hk.2.2⟩, hb.block k hk.2.1⟩
theorem RowsAt.grew {w w' : World} {base : Nat} {A A' : Option Addr} {L : List (List UInt8)} {xs : List Value} (h : RowsAt w base A L xs) (hg : Grew w w' A A') : RowsAt w' base A' L xs := RowsIn.keep h (Apart.grew hg)
theorem RowsAt.next {w w' : World} {base : Nat} {A : Option Addr} {L : List (List UInt8)} {xs : List Value} (h : RowsAt w base A L xs) (hb : Below w.heap.size w w') : RowsAt w' base A L xs := RowsIn.keep h (Apart.next hb)
theorem RowsAt.snoc {w : World} {base : Nat} {A : Option Addr} {L : List (List UInt8)} {xs : List Value} (h : RowsAt w base A L xs) {l : List UInt8} {B : Option Addr} {n c : Nat} (hn : n = l.length) (hl : SlRep Rep.u8 w (Apart w base A) l B c) : RowsAt w base A (L ++ [l]) (xs ++ [.slice B n c]) := RowsIn.snoc h hn hl
theorem RowsAt.rep {w : World} {base : Nat} {e : TypeId} {A : Option Addr} {n c : Nat} {L : List (List UInt8)} {xs : List Value} (h : RowsAt w base A L xs) (ho : Own w base e 1 A n c xs) : n = L.length ∧ SlRep (Rep.slice Rep.u8) w (fun k => base ≤ k ∧ k < w.heap.size) L A c :=
  RowsIn.rep h (fun k hk => ⟨hk.1, hk.2.1⟩) ho

/-! Two rows that grow beside each other -/
theorem Own.kept' {w w' : World} {base : Nat} {e : TypeId} {size n c : Nat} {A B B' : Option Addr} {xs : List Value} (h : Own w base e size A n c xs) (hg : Grew w w' B B') (hne : ∀ k, blkOf A = some k → blkOf B ≠ some k) : Own w' base e size A n c xs :=
  h.kept hg.grown (by
    cases hA : blkOf A with
    | none => exact .inl rfl
    | some k => exact .inr (fun e => hne k hA e.symm))
/-- the row A lies in no block of B's -/
def Two (A B : Option Addr) : Prop := ∀ k, blkOf A = some k → blkOf B ≠ some k
theorem Two.left {w w' : World} {A A' B : Option Addr} (h : Two A B) (hg : Grew w w' A A') (hB : ∀ k, blkOf B = some k → k < w.heap.size) : Two A' B := fun k hk e => by
  rcases hg.blk with e' | ⟨g, hg', e'⟩
  · exact h k (e' ▸ hk) e
  · rw [e'] at hk
    cases hk
    have := hB _ e
    omega
theorem Two.symm {A B : Option Addr} (h : Two A B) : Two B A := fun k hk e => h k e hk
theorem Two.none_left (B : Option Addr) : Two none B := fun k hk => by cases hk
/-- the call's own blocks other than A's and B's -/
def Apart2 (w : World) (base : Nat) (A B : Option Addr) (k : Nat) : Prop := Apart w base A k ∧ blkOf B ≠ some k
theorem Apart2.second {w w' : World} {base : Nat} {A B B' : Option Addr} (hg : Grew w w' B B') : ∀ k, Apart2 w base A B k → Apart2 w' base A B' k ∧ w'.heap[k]? = w.heap[k]? := fun k hk =>
  have h := Apart.grew (base := base) hg k ⟨hk.1.1, hk.1.2.1, hk.2⟩
  ⟨⟨⟨hk.1.1, h.1.2.1, hk.1.2.2⟩, h.1.2.2⟩, h.2⟩
theorem Apart2.first {w w' : World} {base : Nat} {A A' B : Option Addr} (hg : Grew w w' A A') : ∀ k, Apart2 w base A B k → Apart2 w' base A' B k ∧ w'.heap[k]? = w.heap[k]? := fun k hk =>
  have h := Apart.grew (base := base) hg k hk.1
  ⟨⟨h.1, hk.2⟩, h.2⟩
theorem Apart2.next {w w' : World} {base : Nat} {A B : Option Addr} (hb : Below w.heap.size w w') : ∀ k, Apart2 w base A B k → Apart2 w' base A B k ∧ w'.heap[k]? = w.heap[k]? := fun k hk =>
  have h := Apart.next (base := base) hb k hk.1
  ⟨⟨h.1, hk.2⟩, h.2⟩
theorem SlRep.in_row {w : World} {S S' : Nat → Prop} {l : List UInt8} {A : Option Addr} {c : Nat} (h : SlRep Rep.u8 w S l A c) (hS : ∀ k, blkOf A = some k → S k → S' k) : SlRep Rep.u8 w S' l A c := by
  obtain ⟨h1, h2, h3⟩ := h
  refine ⟨h1, h2, h3.imp id fun ⟨b, o, e, hb, hr⟩ => ⟨b, o, e, hS b (by rw [e]; rfl) hb, fun i a hi => ?_⟩⟩
  obtain ⟨cs, hcs, hc⟩ := hr i a hi
  exact ⟨cs, hcs, hc⟩
theorem u8_cells {w : World} {S : Nat → Prop} {l : List UInt8} {A : Option Addr} {c : Nat} (h : SlRep Rep.u8 w S l A c) (hp : 0 < l.length) :
    ∃ b o, A = some ⟨b, o, none⟩ ∧ S b ∧ ∀ k, k < l.length → w.cell? ⟨b, o + k, none⟩ = some (.int .u8 ((l.getD k 0).toNat : Int)) := by
  obtain ⟨b, o, e, hb, _⟩ := u8_at (k := 0) h hp
  refine ⟨b, o, e, hb, fun k hk => ?_⟩
  obtain ⟨b', o', e', _, hc⟩ := u8_at (k := k) h hk
  rw [e] at e'
  simp only [Option.some.injEq, Addr.mk.injEq, and_true] at e'
  obtain ⟨rfl, rfl⟩ := e'
  exact hc
/-- the cell of the k-th list -/
theorem list_at {w : World} {S : Nat → Prop} {L : List (List UInt8)} {A : Option Addr} {c k : Nat} (h : SlRep (Rep.slice Rep.u8) w S L A c) (hk : k < L.length) :
    ∃ b o Ak ck, A = some ⟨b, o, none⟩ ∧ S b ∧ w.cell? ⟨b, o + k, none⟩ = some (.slice Ak (L.getD k []).length ck) ∧ SlRep Rep.u8 w S (L.getD k []) Ak ck := by
  rcases h.2.2 with rfl | ⟨b, o, rfl, hb, hr⟩
  · simp at hk
  · obtain ⟨cs, hcs, hc⟩ := hr k (L.getD k []) (by rw [List.getD_eq_getElem?_getD, List.getElem?_eq_getElem hk]; rfl)
    obtain ⟨Ak, ck, rfl, h2⟩ := rep_slice_iff.1 hcs
    have := hc 0 _ rfl
    exact ⟨b, o, Ak, ck, rfl, hb, by simpa [Rep.slice] using this, h2⟩
theorem bulk_u8 (l : List UInt8) : (Rep.slice Rep.u8).bulk l = l.length + 1 := by
  simp only [Rep.slice, Rep.u8]
  congr 1
  induction l with
  | nil => rfl
  | cons x r ih => simp [ih]; omega


end Go.Proofs.Ytdldfllllgogoaa
namespace Go.Proofs.Ytdldfllllgogoaa
open Go.RowKit

theorem clone_rng (l : List Rng) (A : Option Addr) (c : Nat) (w : World) (hl : SlRep Rng.rep w (· < w.heap.size) l A c) (hn : l.length ≤ 1048576) :
    Calls Try.prog 95 #[.slice A l.length c] w fun e w' => ∃ A' c', e = .returned (.slice A' l.length c') ∧ Own w' w.heap.size 78 2 A' l.length c' (l.flatMap Rng.cells) ∧ Below w.heap.size w w' := by
  have hc : ∀ w', Below w.heap.size w w' → Cells w' A (l.flatMap Rng.cells) := fun w' hb => (hl.next hb).cells_flat Rng.cells rfl (fun a cs h => Rng.rep_iff.1 h) (fun _ => rfl) (by decide)
  have hx : (l.flatMap Rng.cells).length = l.length * 2 := flatMap_len Rng.cells 2 (fun _ => rfl) l
  have h1 : ∀ u ∈ l.flatMap Rng.cells, u.oneCell' = true := Rng.one l
  clear hl
  generalize l.flatMap Rng.cells = xs at *
  generalize l.length = n at *
  cases A with
  | none =>
    obtain rfl := (hc w (bself w)).len_of_none
    obtain rfl : n = 0 := by simp at hx; omega
    have hq := Lib.run_eql_slice_nil (P := Try.prog) w 39 78 none 0 c 0 0 Try.underlying39
    simp only [Option.isNone] at hq
    go_enter Try.func95, Try.ntmps95
    go_wp2
    go_ret
    exact ⟨none, 0, rfl, Own.nil _ _ _ _, bself w⟩
  | some a =>
    have HC := Lib.hid hc
    have HX := Lib.hid hx
    have H1 := Lib.hid h1
    clear hc hx h1
    have hq := Lib.run_eql_slice_nil (P := Try.prog) w 39 78 (some a) n c 0 0 Try.underlying39
    simp only [Option.isNone] at hq
    go_enter Try.func95, Try.ntmps95
    go_wp2_with (at_builtin; refine wp_app _ rfl _ _ _ rfl elemRng w.heap.size _ 0 0 [] rfl (Own.lit w w.heap.size _ 2 0 [] (Nat.le_refl _) rfl (by decide)) _ n _ xs rfl HX.out (HC.out _ (balloc (bself w) _)) H1.out (by omega) (by unfold maxLen; omega) (by simp) ?_; intro A3 c3 w4 hO4 hg4; have HO4 := Lib.hid hO4; clear hO4)
    go_ret
    exact ⟨A3, c3, rfl, by simpa using HO4.out, Grew.step (balloc (bself w) _) hg4 (fun k hk => by cases hk; exact Nat.le_refl _)⟩

set_option maxRecDepth 100000 in
theorem grow_rng (n : Nat) (w : World) (hn : n ≤ 1048576) :
    Calls Try.prog 99 #[.slice none 0 0, .int .i64 n] w fun e w' => ∃ A' c', e = .returned (.slice A' 0 c') ∧ Own w' w.heap.size 78 2 A' 0 c' [] ∧ Below w.heap.size w w' := by
  by_cases h0 : n = 0
  · subst h0
    go_enter Try.func99, Try.ntmps99
    go_wp2
    go_ret
    exact ⟨none, 0, rfl, Own.nil _ _ _ _, bself w⟩
  · have hp : 0 < n := by omega
    clear h0
    obtain ⟨i0, z, hi, hz, hsize, hby, hzs⟩ := elemRng.info
    have hr := Lib.run_append_grow_zeros (P := Try.prog) w 39 3 39 78 i0 z .i64 .i64 elemRng.und Try.underlying3 hi hz none 0 0 [] (run_firstCells_none w.drew i0.size 0 0 0) n hp (by omega) (by omega) (by omega) (by rw [hby]; omega) (by rw [hby]; exact growslice_fits (by omega) (by omega))
    obtain ⟨G, hG⟩ : ∃ G, G = grownCap w (0 + n) 0 78 := ⟨_, rfl⟩
    have hG1 : 0 + n ≤ G := by rw [hG]; exact grownCap_ge w _ _ _
    have hG2 : G ≤ maxLen := by rw [hG]; exact grownCap_le_maxLen w _ _ _ (by unfold maxLen; omega)
    rw [← hG] at hr
    obtain ⟨cs, hcs0⟩ : ∃ cs, cs = (#[] ++ Builtin.zeroCells z.cells n ++ Builtin.zeroCells z.cells (G - (0 + n))) := ⟨_, rfl⟩
    have hcs : cs.size = G * 2 := by rw [hcs0]; simp [Builtin.zeroCells, hzs]; omega
    rw [show ([] : List Value).toArray = #[] from rfl, ← hcs0] at hr
    clear hcs0
    have HC := Lib.hid hcs
    have HG2 := Lib.hid hG2
    rw [Nat.zero_add] at hr hG1
    clear hcs hG hzs hi hz hsize hby
    have HR := Lib.hid hr
    clear hr
    go_enter Try.func99, Try.ntmps99
    go_wp2_with (at_builtin; refine wp_run _ rfl _ _ _ _ rfl rfl rfl HR.out ?_)
    go_ret
    refine ⟨some ⟨w.heap.size, 0, none⟩, G, by simp, ?_, (by repeat (first | (with_reducible exact Below.refl _ _) | (with_reducible assumption) | (with_reducible refine bset ?_ ?_ _) | (with_reducible refine balloc ?_ _) | (with_reducible refine Below.drew ?_) | (with_reducible refine bdrewN ?_ _) | (with_reducible refine bnext ?_ (by with_reducible assumption)) | exact Nat.le_refl _ | (simp; done) | omega | (simp; omega)))⟩
    have := Own.new w.drew w.heap.size 78 2 0 G [] cs.toList (Nat.le_refl _) rfl (by rw [Array.length_toList, HC.out]) (Nat.zero_le _) HG2.out (by simp)
    rw [Array.toArray_toList] at this
    exact this

set_option maxRecDepth 100000 in
set_option maxHeartbeats 2000000 in
theorem concat3_rng (l1 l2 l3 : List Rng) (A1 A2 A3 : Option Addr) (c1 c2 c3 B : Nat) (w : World) (hB : B < w.heap.size) (hx1 : w.cell? ⟨B, 0, none⟩ = some (.slice A1 l1.length c1)) (hx2 : w.cell? ⟨B, 1, none⟩ = some (.slice A2 l2.length c2)) (hx3 : w.cell? ⟨B, 2, none⟩ = some (.slice A3 l3.length c3))
    (h1 : SlRep Rng.rep w (· < w.heap.size) l1 A1 c1) (h2 : SlRep Rng.rep w (· < w.heap.size) l2 A2 c2) (h3 : SlRep Rng.rep w (· < w.heap.size) l3 A3 c3) (hn : l1.length + l2.length + l3.length ≤ 1048576) :
    Calls Try.prog 78 #[.slice (some ⟨B, 0, none⟩) 3 3] w fun e w' => ∃ A' c', e = .returned (.slice A' (l1 ++ l2 ++ l3).length c') ∧ Own w' w.heap.size 78 2 A' (l1 ++ l2 ++ l3).length c' ((l1 ++ l2 ++ l3).flatMap Rng.cells) ∧ Below w.heap.size w w' := by
  have H1 := Lib.hid h1
  have H2 := Lib.hid h2
  have H3 := Lib.hid h3
  have CL : Hid (∀ (l : List Rng) (A : Option Addr) (c : Nat) (W : World), SlRep Rng.rep w (· < w.heap.size) l A c → Below w.heap.size w W → Cells W A (l.flatMap Rng.cells)) := Lib.hid fun l A c W hl hW => (hl.next hW).cells_flat Rng.cells rfl (fun a cs h => Rng.rep_iff.1 h) (fun _ => rfl) (by decide)
  clear h1 h2 h3
  go_enter Try.func78, Try.ntmps78
  go_wp2
  go_loop [3, 11] (fun s i => (i = .int .i64 0 ∧ s = .int .i64 0) ∨ (i = .int .i64 1 ∧ s = .int .i64 l1.length) ∨ (i = .int .i64 2 ∧ s = .int .i64 ((l1.length : Int) + l2.length)) ∨ (i = .int .i64 3 ∧ s = .int .i64 ((l1.length : Int) + l2.length + l3.length))) (fun _ i => 3 - (intOf i).toNat)
  case atStart => exact .inl ⟨rfl, rfl⟩
  case round =>
    rcases hrel with ⟨rfl, rfl⟩ | ⟨rfl, rfl⟩ | ⟨rfl, rfl⟩ | ⟨rfl, rfl⟩
    · go_wp2
      go_round
      case rel => exact .inr (.inl ⟨rfl, rfl⟩)
      case measure => simp [intOf]
    · go_wp2
      go_round
      case rel => exact .inr (.inr (.inl ⟨rfl, rfl⟩))
      case measure => simp [intOf]
    · go_wp2
      go_round
      case rel => exact .inr (.inr (.inr ⟨rfl, rfl⟩))
      case measure => simp [intOf]
    · have HS : Hid (((l1.length : Int) + (l2.length : Int) + (l3.length : Int)) = ((l1.length + l2.length + l3.length : Nat) : Int)) := Lib.hid (by omega)
      have HG := Lib.hid (grow_rng (l1.length + l2.length + l3.length) w hn)
      go_wp2_with (go_at_call 99; go_loud (rw [HS.out]; refine HG.out.mono ?_; rintro e w1 ⟨A', c', rfl, ho, hb1⟩))
      have HO := Lib.hid ho
      clear ho HG HS
      have h1B : w1.cell? ⟨B, 0, none⟩ = some (.slice A1 l1.length c1) := (hb1.cell (p := ⟨B, 0, none⟩) hB).trans hx1
      have h2B : w1.cell? ⟨B, 1, none⟩ = some (.slice A2 l2.length c2) := (hb1.cell (p := ⟨B, 1, none⟩) hB).trans hx2
      have h3B : w1.cell? ⟨B, 2, none⟩ = some (.slice A3 l3.length c3) := (hb1.cell (p := ⟨B, 2, none⟩) hB).trans hx3
      have hsz := hb1.size
      have HX1 := Lib.hid h1B
      have HX2 := Lib.hid h2B
      have HX3 := Lib.hid h3B
      clear h1B h2B h3B hx1 hx2 hx3
      go_wp2
      go_loopw [6, 27] (fun out i wr => ∃ (k : Nat) (l : List Rng) (A' : Option Addr) (c' : Nat), k ≤ 3 ∧ i = .int .i64 k ∧ out = .slice A' l.length c' ∧ Hid (l = if k = 0 then [] else if k = 1 then l1 else if k = 2 then l1 ++ l2 else l1 ++ l2 ++ l3) ∧ Hid (Own wr w.heap.size 78 2 A' l.length c' (l.flatMap Rng.cells)) ∧ Below w.heap.size w wr ∧ Below B.succ w1 wr) (fun _ i _ => 3 - (intOf i).toNat)
      case atStart => exact ⟨0, [], A', c', by omega, rfl, rfl, Lib.hid rfl, HO, hb1, Below.refl _ _⟩
      case round =>
        obtain ⟨k, l, A2', c2', hk, rfl, rfl, HL, HO2, hB2, hB3⟩ := hrel
        rename World => wr
        have hszr := hB2.size
        have h1B : wr.cell? ⟨B, 0, none⟩ = some (.slice A1 l1.length c1) := (hB3.cell (p := ⟨B, 0, none⟩) (Nat.lt_succ_self _)).trans HX1.out
        have h2B : wr.cell? ⟨B, 1, none⟩ = some (.slice A2 l2.length c2) := (hB3.cell (p := ⟨B, 1, none⟩) (Nat.lt_succ_self _)).trans HX2.out
        have h3B : wr.cell? ⟨B, 2, none⟩ = some (.slice A3 l3.length c3) := (hB3.cell (p := ⟨B, 2, none⟩) (Nat.lt_succ_self _)).trans HX3.out
        have hBr : B < wr.heap.size := by omega
        by_cases k0 : k = 0
        · subst k0
          obtain rfl : l = [] := HL.out
          go_wp2_with (at_builtin; refine wp_app _ rfl _ _ _ rfl elemRng w.heap.size A2' _ c2' _ rfl HO2.out A1 l1.length c1 (l1.flatMap Rng.cells) rfl (flatMap_len Rng.cells 2 (fun _ => rfl) l1) (CL.out _ _ _ _ H1.out hB2) (Rng.one l1) (by simp; omega) (by unfold maxLen; simp; omega) (by omega) ?_; intro A3 c3 w3 hO3 hg3; have HO3 := Lib.hid hO3; clear hO3)
          go_roundw
          case rel => exact ⟨1, l1, A3, c3, by omega, rfl, by simp, Lib.hid rfl, Lib.hid (by simpa using HO3.out), Grew.step hB2 hg3 (fun x hx => (HO2.out.lt x hx).1), hB3.trans (hg3.below (by omega) (fun x hx => by have := (HO2.out.lt x hx).1; omega))⟩
          case measure => simp [intOf]
        · by_cases k1 : k = 1
          · subst k1
            obtain rfl : l = l1 := HL.out
            go_wp2_with (at_builtin; refine wp_app _ rfl _ _ _ rfl elemRng w.heap.size A2' _ c2' _ rfl HO2.out A2 l2.length c2 (l2.flatMap Rng.cells) rfl (flatMap_len Rng.cells 2 (fun _ => rfl) l2) (CL.out _ _ _ _ H2.out hB2) (Rng.one l2) (by omega) (by unfold maxLen; omega) (by omega) ?_; intro A3 c3 w3 hO3 hg3; have HO3 := Lib.hid hO3; clear hO3)
            go_roundw
            case rel => exact ⟨2, l ++ l2, A3, c3, by omega, rfl, by rw [List.length_append], Lib.hid rfl, Lib.hid (by rw [List.length_append, List.flatMap_append]; exact HO3.out), Grew.step hB2 hg3 (fun x hx => (HO2.out.lt x hx).1), hB3.trans (hg3.below (by omega) (fun x hx => by have := (HO2.out.lt x hx).1; omega))⟩
            case measure => simp [intOf]
          · by_cases k2 : k = 2
            · subst k2
              obtain rfl : l = l1 ++ l2 := HL.out
              have HLL : Hid ((l1 ++ l2).length = l1.length + l2.length) := Lib.hid (by simp)
              go_wp2_with (at_builtin; refine wp_app _ rfl _ _ _ rfl elemRng w.heap.size A2' (l1 ++ l2).length c2' _ rfl HO2.out A3 l3.length c3 (l3.flatMap Rng.cells) rfl (flatMap_len Rng.cells 2 (fun _ => rfl) l3) (CL.out _ _ _ _ H3.out hB2) (Rng.one l3) (by rw [HLL.out]; omega) (by rw [HLL.out]; unfold maxLen; omega) (by omega) ?_; intro A4 c4 w3 hO3 hg3; have HO3 := Lib.hid hO3; clear hO3)
              go_roundw
              case rel => exact ⟨3, l1 ++ l2 ++ l3, A4, c4, by omega, rfl, by simp [Nat.add_assoc], Lib.hid rfl, Lib.hid (by rw [show ((l1 ++ l2) ++ l3).length = (l1 ++ l2).length + l3.length from List.length_append, show ((l1 ++ l2) ++ l3).flatMap Rng.cells = (l1 ++ l2).flatMap Rng.cells ++ l3.flatMap Rng.cells from List.flatMap_append]; exact HO3.out), Grew.step hB2 hg3 (fun x hx => (HO2.out.lt x hx).1), hB3.trans (hg3.below (by omega) (fun x hx => by have := (HO2.out.lt x hx).1; omega))⟩
              case measure => simp [intOf]
            · obtain rfl : k = 3 := by omega
              obtain rfl : l = l1 ++ l2 ++ l3 := HL.out
              clear HL
              go_wp2
              go_ret
              exact ⟨A2', c2', rfl, HO2.out, hB2⟩
end Go.Proofs.Ytdldfllllgogoaa
namespace Go.Proofs.Ytdldfllllgogoaa
open Go.RowKit

/-! ### The plain law -/
/-- where the range ahead of the i-th one ends -/
def endAt (done : Int) (l : List Rng) (i : Nat) : Int := if i = 0 then done else (l.getD (i - 1) Rng.z).hi
/-- the first n ranges lie one behind the other -/
def Chain (done : Int) (l : List Rng) (n : Nat) : Prop := ∀ i, i < n → endAt done l i < (l.getD i Rng.z).lo ∧ (l.getD i Rng.z).lo < (l.getD i Rng.z).hi
def HoleMay (done : Int) (l : List Rng) : Prop := 0 ≤ done ∧ done ≤ 1048576 ∧ l.length ≤ 16 ∧ Chain done l l.length ∧ endAt done l l.length ≤ 1048576
open Classical in
noncomputable def holeMayB (done : Int) (l : List Rng) : Bool := decide (HoleMay done l)
theorem holeMayB_true {done : Int} {l : List Rng} (h : HoleMay done l) : holeMayB done l = true := by simp [holeMayB, h]
theorem holeMayB_false {done : Int} {l : List Rng} (h : ¬ HoleMay done l) : holeMayB done l = false := by simp [holeMayB, h]
theorem endAt_succ (done : Int) (l : List Rng) (i : Nat) : endAt done l (i + 1) = (l.getD i Rng.z).hi := by simp [endAt]
theorem Chain.snoc {done : Int} {l : List Rng} {n : Nat} (h : Chain done l n) (h1 : endAt done l n < (l.getD n Rng.z).lo) (h2 : (l.getD n Rng.z).lo < (l.getD n Rng.z).hi) : Chain done l (n + 1) := by
  intro i hi
  rcases Nat.lt_or_ge i n with h' | h'
  · exact h i h'
  · obtain rfl : i = n := by omega
    exact ⟨h1, h2⟩
theorem Chain.le {done : Int} {l : List Rng} {n : Nat} (h : Chain done l n) : ∀ i, i ≤ n → endAt done l i ≤ endAt done l n := by
  induction n with
  | zero => intro i hi; obtain rfl : i = 0 := by omega
            exact Int.le_refl _
  | succ n ih =>
    intro i hi
    rcases Nat.lt_or_ge i (n + 1) with h' | h'
    · have := ih (fun j hj => h j (by omega)) i (by omega)
      have := h n (by omega)
      rw [endAt_succ]
      omega
    · obtain rfl : i = n + 1 := by omega
      exact Int.le_refl _

/-! ### The walks -/
set_option maxHeartbeats 1000000 in
theorem hole_May (done : Int) (l : List Rng) (A : Option Addr) (c : Nat) (w : World) (hl : SlRep Rng.rep w (· < w.heap.size) l A c) (hn : l.length ≤ 140737488351232) :
    Calls Try.prog 73 #[.int .i64 done, .slice A l.length c] w fun e w' => e = .returned (.bool (holeMayB done l)) ∧ Below w.heap.size w w' := by
  have HL := Lib.hid hl
  clear hl
  go_enter Try.func73, Try.ntmps73
  go_wp2
  go_loopw [5, 7, 11] (fun lo _ i wr => ∃ k : Nat, k ≤ l.length ∧ i = .int .i64 k ∧ lo = .int .i64 (endAt done l k) ∧ Hid (Chain done l k) ∧ Below w.heap.size w wr) (fun _ _ i _ => l.length - (intOf i).toNat)
  case atStart => exact ⟨0, Nat.zero_le _, rfl, rfl, Lib.hid (fun i hi => absurd hi (Nat.not_lt_zero i)), Below.refl _ _⟩
  case round =>
    obtain ⟨k, hk, rfl, rfl, HC, hB⟩ := hrel
    by_cases hlt : k < l.length
    · obtain ⟨b, o, rfl, hb, hc1, hc2⟩ := Rng.cells_at Rng.z (HL.out.below hB) hlt
      rename_i wr _
      have hbw : b < wr.heap.size := Nat.lt_of_lt_of_le hb hB.size
      have HS := Lib.hid (endAt_succ done l k)
      have HN : Hid (endAt done l k < (l.getD k Rng.z).lo → (l.getD k Rng.z).lo < (l.getD k Rng.z).hi → Chain done l (k + 1)) := Lib.hid (fun h1 h2 => HC.out.snoc h1 h2)
      have HF : Hid (¬ (endAt done l k < (l.getD k Rng.z).lo ∧ (l.getD k Rng.z).lo < (l.getD k Rng.z).hi) → holeMayB done l = false) := Lib.hid (fun h => holeMayB_false (fun hm => h (hm.2.2.2.1 k hlt)))
      clear HC HL
      generalize (l.getD k Rng.z).lo = x at *
      generalize (l.getD k Rng.z).hi = y at *
      generalize endAt done l k = e at *
      by_cases c1 : e < x
      · by_cases c2 : x < y
        · go_wp2
          go_roundw
          case rel => exact ⟨k + 1, by omega, by go_num, by rw [HS.out], Lib.hid (HN.out c1 c2), (by repeat (first | (with_reducible exact Below.refl _ _) | (with_reducible assumption) | (with_reducible refine bset ?_ ?_ _) | (with_reducible refine balloc ?_ _) | (with_reducible refine Below.drew ?_) | (with_reducible refine bdrewN ?_ _) | (with_reducible refine bnext ?_ (by with_reducible assumption)) | exact Nat.le_refl _ | (simp; done) | omega | (simp; omega)))⟩
          case measure => simp [intOf]; omega
        · go_wp2
          go_ret
          exact ⟨ret_bool (HF.out (by omega)).symm, (by repeat (first | (with_reducible exact Below.refl _ _) | (with_reducible assumption) | (with_reducible refine bset ?_ ?_ _) | (with_reducible refine balloc ?_ _) | (with_reducible refine Below.drew ?_) | (with_reducible refine bdrewN ?_ _) | (with_reducible refine bnext ?_ (by with_reducible assumption)) | exact Nat.le_refl _ | (simp; done) | omega | (simp; omega)))⟩
      · go_wp2
        go_ret
        exact ⟨ret_bool (HF.out (by omega)).symm, (by repeat (first | (with_reducible exact Below.refl _ _) | (with_reducible assumption) | (with_reducible refine bset ?_ ?_ _) | (with_reducible refine balloc ?_ _) | (with_reducible refine Below.drew ?_) | (with_reducible refine bdrewN ?_ _) | (with_reducible refine bnext ?_ (by with_reducible assumption)) | exact Nat.le_refl _ | (simp; done) | omega | (simp; omega)))⟩
    · obtain rfl : k = l.length := by omega
      have HT : Hid (0 ≤ done → done ≤ 1048576 → l.length ≤ 16 → endAt done l l.length ≤ 1048576 → holeMayB done l = true) := Lib.hid (fun h1 h2 h3 h4 => holeMayB_true ⟨h1, h2, h3, HC.out, h4⟩)
      have HF : Hid (¬ (0 ≤ done ∧ done ≤ 1048576 ∧ l.length ≤ 16 ∧ endAt done l l.length ≤ 1048576) → holeMayB done l = false) := Lib.hid (fun h => holeMayB_false (fun hm => h ⟨hm.1, hm.2.1, hm.2.2.1, hm.2.2.2.2⟩))
      clear HC HL
      generalize endAt done l l.length = e at *
      by_cases c1 : 0 ≤ done
      · by_cases c2 : e ≤ 1048576
        · by_cases c3 : done ≤ 1048576
          · by_cases c4 : l.length ≤ 16
            · go_wp2
              go_ret
              exact ⟨ret_bool (by rw [HT.out c1 c3 c4 c2]; simp; omega), (by repeat (first | (with_reducible exact Below.refl _ _) | (with_reducible assumption) | (with_reducible refine bset ?_ ?_ _) | (with_reducible refine balloc ?_ _) | (with_reducible refine Below.drew ?_) | (with_reducible refine bdrewN ?_ _) | (with_reducible refine bnext ?_ (by with_reducible assumption)) | exact Nat.le_refl _ | (simp; done) | omega | (simp; omega)))⟩
            · go_wp2
              go_ret
              exact ⟨ret_bool (by rw [HF.out (by omega)]; simp; omega), (by repeat (first | (with_reducible exact Below.refl _ _) | (with_reducible assumption) | (with_reducible refine bset ?_ ?_ _) | (with_reducible refine balloc ?_ _) | (with_reducible refine Below.drew ?_) | (with_reducible refine bdrewN ?_ _) | (with_reducible refine bnext ?_ (by with_reducible assumption)) | exact Nat.le_refl _ | (simp; done) | omega | (simp; omega)))⟩
          · go_wp2
            go_ret
            exact ⟨ret_bool (by rw [HF.out (by omega)]), (by repeat (first | (with_reducible exact Below.refl _ _) | (with_reducible assumption) | (with_reducible refine bset ?_ ?_ _) | (with_reducible refine balloc ?_ _) | (with_reducible refine Below.drew ?_) | (with_reducible refine bdrewN ?_ _) | (with_reducible refine bnext ?_ (by with_reducible assumption)) | exact Nat.le_refl _ | (simp; done) | omega | (simp; omega)))⟩
        · go_wp2
          go_ret
          exact ⟨ret_bool (by rw [HF.out (by omega)]), (by repeat (first | (with_reducible exact Below.refl _ _) | (with_reducible assumption) | (with_reducible refine bset ?_ ?_ _) | (with_reducible refine balloc ?_ _) | (with_reducible refine Below.drew ?_) | (with_reducible refine bdrewN ?_ _) | (with_reducible refine bnext ?_ (by with_reducible assumption)) | exact Nat.le_refl _ | (simp; done) | omega | (simp; omega)))⟩
      · go_wp2
        go_ret
        exact ⟨ret_bool (by rw [HF.out (by omega)]), (by repeat (first | (with_reducible exact Below.refl _ _) | (with_reducible assumption) | (with_reducible refine bset ?_ ?_ _) | (with_reducible refine balloc ?_ _) | (with_reducible refine Below.drew ?_) | (with_reducible refine bdrewN ?_ _) | (with_reducible refine bnext ?_ (by with_reducible assumption)) | exact Nat.le_refl _ | (simp; done) | omega | (simp; omega)))⟩

set_option maxHeartbeats 1000000 in
theorem ref_HoleMay (done : Int) (l : List Rng) (A : Option Addr) (c : Nat) (w : World) (hl : SlRep Rng.rep w (· < w.heap.size) l A c) (hn : l.length ≤ 140737488351232) :
    Calls Try.prog 75 #[.int .i64 done, .slice A l.length c] w fun e w' => e = .returned (.bool (holeMayB done l)) ∧ Below w.heap.size w w' := by
  by_cases hpre : 0 ≤ done ∧ done ≤ 1048576 ∧ l.length ≤ 16
  · obtain ⟨d1, d2, d3⟩ := hpre
    have HL := Lib.hid hl
    clear hl
    go_enter Try.func75, Try.ntmps75
    go_wp2
    go_loopw [5, 6, 7, 21] (fun _ _ _ i wr => ∃ k : Nat, k ≤ l.length ∧ i = .int .i64 k ∧ Hid (Chain done l k ∧ ∀ i, i < k → (l.getD i Rng.z).hi ≤ 1048576) ∧ Below w.heap.size w wr) (fun _ _ _ i _ => l.length - (intOf i).toNat)
    case atStart => exact ⟨0, Nat.zero_le _, rfl, Lib.hid ⟨fun i hi => absurd hi (Nat.not_lt_zero i), fun i hi => absurd hi (Nat.not_lt_zero i)⟩, Below.refl _ _⟩
    case round =>
      obtain ⟨k, hk, rfl, HC, hB⟩ := hrel
      by_cases hlt : k < l.length
      · obtain ⟨b, o, rfl, hb, hc1, hc2⟩ := Rng.cells_at Rng.z (HL.out.below hB) hlt
        rename_i wr _
        have hbw : b < wr.heap.size := Nat.lt_of_lt_of_le hb hB.size
        have HN : Hid (endAt done l k < (l.getD k Rng.z).lo → (l.getD k Rng.z).lo < (l.getD k Rng.z).hi → (l.getD k Rng.z).hi ≤ 1048576 → Chain done l (k + 1) ∧ ∀ i, i < k + 1 → (l.getD i Rng.z).hi ≤ 1048576) := Lib.hid (fun h1 h2 h3 => ⟨HC.out.1.snoc h1 h2, fun i hi => by
          rcases Nat.lt_or_ge i k with h' | h'
          · exact HC.out.2 i h'
          · obtain rfl : i = k := by omega
            exact h3⟩)
        have HF : Hid (¬ (endAt done l k < (l.getD k Rng.z).lo ∧ (l.getD k Rng.z).lo < (l.getD k Rng.z).hi ∧ (l.getD k Rng.z).hi ≤ 1048576) → holeMayB done l = false) := Lib.hid (fun h => holeMayB_false (fun hm => h ⟨(hm.2.2.2.1 k hlt).1, (hm.2.2.2.1 k hlt).2, by
          have h1 := hm.2.2.2.1.le (k + 1) (by omega)
          rw [endAt_succ] at h1
          have := hm.2.2.2.2
          omega⟩))
        have hz : k = 0 → endAt done l k = done := fun h => by subst h; rfl
        have hcz : 0 < k → wr.cell? ⟨b, o + (k - 1) * 2 + 1, none⟩ = some (.int .i64 (endAt done l k)) := fun h0 => by
          obtain ⟨b', o', hbo, _, _, hd⟩ := Rng.cells_at Rng.z (k := k - 1) (HL.out.below hB) (by omega)
          simp only [Option.some.injEq, Addr.mk.injEq, and_true] at hbo
          obtain ⟨rfl, rfl⟩ := hbo
          rw [hd]
          unfold endAt
          rw [if_neg (by omega)]
        clear HC HL
        generalize (l.getD k Rng.z).lo = x at *
        generalize (l.getD k Rng.z).hi = y at *
        generalize endAt done l k = e at *
        by_cases c0 : k = 0
        · obtain rfl : e = done := hz c0
          subst c0
          clear hz hcz
          simp only [Nat.zero_mul, Nat.add_zero] at hc1 hc2
          go_wp2
          all_goals first
            | (go_ret; exact ⟨ret_bool (HF.out (by omega)).symm, (by repeat (first | (with_reducible exact Below.refl _ _) | (with_reducible assumption) | (with_reducible refine bset ?_ ?_ _) | (with_reducible refine balloc ?_ _) | (with_reducible refine Below.drew ?_) | (with_reducible refine bdrewN ?_ _) | (with_reducible refine bnext ?_ (by with_reducible assumption)) | exact Nat.le_refl _ | (simp; done) | omega | (simp; omega)))⟩)
            | (go_roundw
               case rel => exact ⟨0 + 1, by omega, by go_num, Lib.hid (HN.out (by omega) (by omega) (by omega)), (by repeat (first | (with_reducible exact Below.refl _ _) | (with_reducible assumption) | (with_reducible refine bset ?_ ?_ _) | (with_reducible refine balloc ?_ _) | (with_reducible refine Below.drew ?_) | (with_reducible refine bdrewN ?_ _) | (with_reducible refine bnext ?_ (by with_reducible assumption)) | exact Nat.le_refl _ | (simp; done) | omega | (simp; omega)))⟩
               case measure => simp [intOf]; omega)
        · have hcz' := hcz (by omega)
          clear hz hcz
          have c0' : 0 < k := by omega
          go_wp2
          all_goals first
            | (go_ret; exact ⟨ret_bool (HF.out (by omega)).symm, (by repeat (first | (with_reducible exact Below.refl _ _) | (with_reducible assumption) | (with_reducible refine bset ?_ ?_ _) | (with_reducible refine balloc ?_ _) | (with_reducible refine Below.drew ?_) | (with_reducible refine bdrewN ?_ _) | (with_reducible refine bnext ?_ (by with_reducible assumption)) | exact Nat.le_refl _ | (simp; done) | omega | (simp; omega)))⟩)
            | (go_roundw
               case rel => exact ⟨k + 1, by omega, by go_num, Lib.hid (HN.out (by omega) (by omega) (by omega)), (by repeat (first | (with_reducible exact Below.refl _ _) | (with_reducible assumption) | (with_reducible refine bset ?_ ?_ _) | (with_reducible refine balloc ?_ _) | (with_reducible refine Below.drew ?_) | (with_reducible refine bdrewN ?_ _) | (with_reducible refine bnext ?_ (by with_reducible assumption)) | exact Nat.le_refl _ | (simp; done) | omega | (simp; omega)))⟩
               case measure => simp [intOf]; omega)
      · obtain rfl : k = l.length := by omega
        have HT : Hid (holeMayB done l = true) := Lib.hid (holeMayB_true ⟨d1, d2, d3, HC.out.1, by
          unfold endAt
          split
          · exact d2
          · exact HC.out.2 _ (by omega)⟩)
        clear HC HL
        go_wp2
        go_ret
        exact ⟨ret_bool HT.out.symm, (by repeat (first | (with_reducible exact Below.refl _ _) | (with_reducible assumption) | (with_reducible refine bset ?_ ?_ _) | (with_reducible refine balloc ?_ _) | (with_reducible refine Below.drew ?_) | (with_reducible refine bdrewN ?_ _) | (with_reducible refine bnext ?_ (by with_reducible assumption)) | exact Nat.le_refl _ | (simp; done) | omega | (simp; omega)))⟩
  · have hf : holeMayB done l = false := holeMayB_false (fun hm => hpre ⟨hm.1, hm.2.1, hm.2.2.1⟩)
    rw [hf]
    clear hl hf
    by_cases c1 : 0 ≤ done
    · by_cases c2 : done ≤ 1048576
      · have c3 : 16 < (l.length : Int) := by omega
        go_enter Try.func75, Try.ntmps75
        go_wp2
        go_ret
        exact ⟨rfl, (by repeat (first | (with_reducible exact Below.refl _ _) | (with_reducible assumption) | (with_reducible refine bset ?_ ?_ _) | (with_reducible refine balloc ?_ _) | (with_reducible refine Below.drew ?_) | (with_reducible refine bdrewN ?_ _) | (with_reducible refine bnext ?_ (by with_reducible assumption)) | exact Nat.le_refl _ | (simp; done) | omega | (simp; omega)))⟩
      · go_enter Try.func75, Try.ntmps75
        go_wp2
        go_ret
        exact ⟨rfl, (by repeat (first | (with_reducible exact Below.refl _ _) | (with_reducible assumption) | (with_reducible refine bset ?_ ?_ _) | (with_reducible refine balloc ?_ _) | (with_reducible refine Below.drew ?_) | (with_reducible refine bdrewN ?_ _) | (with_reducible refine bnext ?_ (by with_reducible assumption)) | exact Nat.le_refl _ | (simp; done) | omega | (simp; omega)))⟩
    · go_enter Try.func75, Try.ntmps75
      go_wp2
      go_ret
      exact ⟨rfl, (by repeat (first | (with_reducible exact Below.refl _ _) | (with_reducible assumption) | (with_reducible refine bset ?_ ?_ _) | (with_reducible refine balloc ?_ _) | (with_reducible refine Below.drew ?_) | (with_reducible refine bdrewN ?_ _) | (with_reducible refine bnext ?_ (by with_reducible assumption)) | exact Nat.le_refl _ | (simp; done) | omega | (simp; omega)))⟩

end Go.Proofs.Ytdldfllllgogoaa
namespace Go.Proofs.Ytdldfllllgogoaa.had

/-- ranges behind lo, one behind the other, with gaps -/
def Canon (lo : Int) : List Rng → Prop
  | [] => True
  | r :: l => lo < r.lo ∧ r.lo < r.hi ∧ Canon r.hi l
def inR (r : Rng) (p : Int) : Prop := r.lo ≤ p ∧ p < r.hi
def cov (l : List Rng) (p : Int) : Prop := ∃ r, r ∈ l ∧ inR r p
theorem cov_nil (p : Int) : ¬ cov [] p := fun ⟨_, h, _⟩ => by cases h
theorem cov_cons {r : Rng} {l : List Rng} {p : Int} : cov (r :: l) p ↔ inR r p ∨ cov l p := by
  unfold cov
  constructor
  · rintro ⟨s, hs, h⟩
    rcases List.mem_cons.1 hs with rfl | hs
    · exact .inl h
    · exact .inr ⟨s, hs, h⟩
  · rintro (h | ⟨s, hs, h⟩)
    · exact ⟨r, by simp, h⟩
    · exact ⟨s, by simp [hs], h⟩
theorem cov_app {l m : List Rng} {p : Int} : cov (l ++ m) p ↔ cov l p ∨ cov m p := by
  induction l with
  | nil => simp [cov_nil]
  | cons r l ih => rw [List.cons_append, cov_cons, cov_cons, ih]; exact or_assoc.symm
theorem Canon.mem : ∀ {l : List Rng} {a : Int}, Canon a l → ∀ s, s ∈ l → a < s.lo ∧ s.lo < s.hi
  | [], _, _, s, hs => by cases hs
  | r :: l, a, h, s, hs => by
    rcases List.mem_cons.1 hs with rfl | hs
    · exact ⟨h.1, h.2.1⟩
    · have := Canon.mem h.2.2 s hs
      have h1 := h.1
      have h2 := h.2.1
      omega
theorem Canon.weak : ∀ {l : List Rng} {a b : Int}, Canon a l → (∀ s, s ∈ l → b < s.lo) → Canon b l
  | [], _, _, _, _ => trivial
  | r :: l, _, _, h, hb => ⟨hb r (by simp), h.2.1, h.2.2⟩
theorem Canon.snoc : ∀ {l : List Rng} {a : Int} {x : Rng}, Canon a l → a < x.lo → (∀ s, s ∈ l → s.hi < x.lo) → x.lo < x.hi → Canon a (l ++ [x])
  | [], _, _, _, h1, _, h3 => ⟨h1, h3, trivial⟩
  | r :: l, _, _, h, _, h2, h3 => ⟨h.1, h.2.1, Canon.snoc h.2.2 (h2 r (by simp)) (fun s hs => h2 s (by simp [hs])) h3⟩
theorem Canon.app : ∀ {l m : List Rng} {a b : Int}, Canon a l → a ≤ b → (∀ s, s ∈ l → s.hi ≤ b) → Canon b m → Canon a (l ++ m)
  | [], m, a, b, _, h1, _, h3 => h3.weak fun s hs => by have := (h3.mem s hs).1; omega
  | r :: l, _, _, _, h, _, h2, h3 => ⟨h.1, h.2.1, Canon.app h.2.2 (h2 r (by simp)) (fun s hs => h2 s (by simp [hs])) h3⟩
theorem ext : ∀ {l m : List Rng} {a b : Int}, Canon a l → Canon b m → (∀ p, cov l p ↔ cov m p) → l = m
  | [], [], _, _, _, _, _ => rfl
  | [], r :: m, _, _, _, h, e => absurd ((e r.lo).2 (cov_cons.2 (.inl ⟨by omega, h.2.1⟩))) (cov_nil _)
  | r :: l, [], _, _, h, _, e => absurd ((e r.lo).1 (cov_cons.2 (.inl ⟨by omega, h.2.1⟩))) (cov_nil _)
  | r :: l, s :: m, a, b, h, k, e => by
    have hr := h.2.1
    have hs := k.2.1
    have up : ∀ {x : Rng} {q : List Rng} {c : Int}, Canon c (x :: q) → ∀ p, cov (x :: q) p → x.lo ≤ p := fun {x q c} hc p hp => by
      rcases cov_cons.1 hp with hp | ⟨y, hy, hp⟩
      · exact hp.1
      · have h1 := (Canon.mem hc.2.2 y hy).1
        have h2 := hc.2.1
        have h3 := hp.1
        omega
    have over : ∀ {x : Rng} {q : List Rng} {c : Int}, Canon c (x :: q) → ¬ cov (x :: q) x.hi := fun {x q c} hc hp => by
      rcases cov_cons.1 hp with hp | ⟨y, hy, hp⟩
      · have := hp.2; omega
      · have h1 := (Canon.mem hc.2.2 y hy).1
        have h3 := hp.1
        omega
    have e1 : s.lo ≤ r.lo := up k _ ((e r.lo).1 (cov_cons.2 (.inl ⟨by omega, hr⟩)))
    have e2 : r.lo ≤ s.lo := up h _ ((e s.lo).2 (cov_cons.2 (.inl ⟨by omega, hs⟩)))
    have e3 : r.hi = s.hi := by
      rcases Int.lt_trichotomy r.hi s.hi with h1 | h1 | h1
      · exact absurd ((e r.hi).2 (cov_cons.2 (.inl ⟨by omega, h1⟩))) (over h)
      · exact h1
      · exact absurd ((e s.hi).1 (cov_cons.2 (.inl ⟨by omega, h1⟩))) (over k)
    have e4 : r = s := by
      cases r; cases s
      simp only [Rng.mk.injEq]
      exact ⟨by simp only at e1 e2; omega, e3⟩
    subst e4
    refine congrArg _ (ext h.2.2 k.2.2 fun p => ?_)
    by_cases hp : inR r p
    · constructor
      · rintro ⟨y, hy, hyp⟩
        have := (Canon.mem h.2.2 y hy).1
        have h5 := hp.2
        have h6 := hyp.1
        omega
      · rintro ⟨y, hy, hyp⟩
        have := (Canon.mem k.2.2 y hy).1
        have h5 := hp.2
        have h6 := hyp.1
        omega
    · have := e p
      rw [cov_cons, cov_cons] at this
      simpa [hp] using this
theorem canon_of : ∀ (l : List Rng) (done : Int), Chain done l l.length → Canon done l
  | [], _, _ => trivial
  | r :: l, done, h => by
    have h0 := h 0 (by simp)
    refine ⟨by simpa [endAt] using h0.1, by simpa using h0.2, canon_of l r.hi fun i hi => ?_⟩
    have h1 := h (i + 1) (by simpa using hi)
    rw [endAt_succ] at h1
    cases i with
    | zero => simpa [endAt] using h1
    | succ i => rw [endAt_succ]; simpa using h1

/-! ### What becomes one -/
structure St where
  a : List Rng
  r : Rng
  b : List Rng
def step (s : St) (x : Rng) : St :=
  if x.hi < s.r.lo then ⟨s.a ++ [x], s.r, s.b⟩
  else if s.r.hi < x.lo then ⟨s.a, s.r, s.b ++ [x]⟩
  else ⟨s.a, ⟨min s.r.lo x.lo, max s.r.hi x.hi⟩, s.b⟩
def mg (l : List Rng) (r : Rng) : St := l.foldl step ⟨[], r, []⟩
def Inv (done : Int) (s : St) (rest : List Rng) : Prop :=
  0 ≤ done ∧ 0 ≤ s.r.lo ∧ s.r.lo < s.r.hi ∧ Canon done s.a ∧ (∀ x, x ∈ s.a → x.hi < s.r.lo) ∧ Canon s.r.hi s.b ∧ (∀ x, x ∈ s.b → done < x.lo) ∧
    ∃ L, done ≤ L ∧ (∀ x, x ∈ s.a → x.hi ≤ L) ∧ (∀ x, x ∈ s.b → x.hi ≤ L) ∧ Canon L rest
def U (s : St) (rest : List Rng) (p : Int) : Prop := cov s.a p ∨ inR s.r p ∨ cov s.b p ∨ cov rest p
theorem inv_step {done : Int} {s : St} {x : Rng} {rest : List Rng} (h : Inv done s (x :: rest)) : Inv done (step s x) rest ∧ ∀ p, U (step s x) rest p ↔ U s (x :: rest) p := by
  obtain ⟨h0, h1, h2, h3, h4, h5, h6, L, h7, h8, h9, h10⟩ := h
  have hx1 := h10.1
  have hx2 := h10.2.1
  unfold step
  split
  · rename_i c1
    refine ⟨⟨h0, h1, h2, h3.snoc (by omega) (fun y hy => by have := h8 y hy; omega) hx2, fun y hy => ?_, h5, h6, x.hi, by omega, fun y hy => ?_, fun y hy => by have := h9 y hy; omega, h10.2.2⟩, fun p => ?_⟩
    · rcases List.mem_append.1 hy with hy | hy
      · exact h4 y hy
      · simp at hy; subst hy; exact c1
    · rcases List.mem_append.1 hy with hy | hy
      · have := h8 y hy; omega
      · simp at hy; subst hy; omega
    · unfold U
      simp only [cov_app, cov_cons, cov_nil, or_false]
      exact Iff.of_eq (by ac_rfl)
  · rename_i c1
    split
    · rename_i c2
      refine ⟨⟨h0, h1, h2, h3, h4, h5.snoc (by omega) (fun y hy => by have := h9 y hy; omega) hx2, fun y hy => ?_, x.hi, by omega, fun y hy => by have := h8 y hy; omega, fun y hy => ?_, h10.2.2⟩, fun p => ?_⟩
      · rcases List.mem_append.1 hy with hy | hy
        · exact h6 y hy
        · simp at hy; subst hy; omega
      · rcases List.mem_append.1 hy with hy | hy
        · have := h9 y hy; omega
        · simp at hy; subst hy; omega
      · unfold U
        simp only [cov_app, cov_cons, cov_nil, or_false, or_assoc]
    · rename_i c2
      have hb : s.b = [] := by
        cases hb : s.b with
        | nil => rfl
        | cons y q =>
          have e1 := (h5.mem y (by rw [hb]; simp))
          have e2 := h9 y (by rw [hb]; simp)
          omega
      refine ⟨⟨h0, by simp only; omega, by simp only; omega, h3, fun y hy => ?_, by simp only [hb]; trivial, by simp only [hb]; simp, x.hi, by omega, fun y hy => by have := h8 y hy; omega, by simp only [hb]; simp, h10.2.2⟩, fun p => ?_⟩
      · have e1 := h4 y hy
        have e2 := h8 y hy
        simp only
        omega
      · unfold U
        simp only [hb, cov_nil, cov_cons, false_or]
        have e : inR ⟨min s.r.lo x.lo, max s.r.hi x.hi⟩ p ↔ inR s.r p ∨ inR x p := by
          unfold inR
          simp only
          omega
        rw [e, or_assoc]
theorem inv_fold {done : Int} : ∀ {rest : List Rng} {s : St}, Inv done s rest → Inv done (rest.foldl step s) [] ∧ ∀ p, U (rest.foldl step s) [] p ↔ U s rest p
  | [], s, h => ⟨h, fun p => Iff.rfl⟩
  | x :: rest, s, h => by
    obtain ⟨h1, h2⟩ := inv_step h
    obtain ⟨h3, h4⟩ := inv_fold h1
    exact ⟨h3, fun p => (h4 p).trans (h2 p)⟩
def out (done : Int) (s : St) : Int × List Rng := if s.r.lo ≤ done then (max done s.r.hi, s.b) else (done, s.a ++ [s.r] ++ s.b)
/-- all that is covered, from nought on -/
def full (d : Int) (l : List Rng) : List Rng := if 0 < d then ⟨0, d⟩ :: l else l
theorem cov_full {d : Int} {l : List Rng} {p : Int} : cov (full d l) p ↔ (0 ≤ p ∧ p < d) ∨ cov l p := by
  unfold full
  split
  · rw [cov_cons]; rfl
  · constructor
    · exact .inr
    · rintro (h | h)
      · omega
      · exact h
theorem out_ok {done : Int} {s : St} (h : Inv done s []) : 0 ≤ (out done s).1 ∧ Canon (out done s).1 (out done s).2 ∧ ∀ p, cov (full (out done s).1 (out done s).2) p ↔ (0 ≤ p ∧ p < done) ∨ U s [] p := by
  obtain ⟨h0, h1, h2, h3, h4, h5, h6, _⟩ := h
  unfold out
  split
  · rename_i c
    have ha : s.a = [] := by
      cases ha : s.a with
      | nil => rfl
      | cons y q =>
        have e1 := h3.mem y (by rw [ha]; simp)
        have e2 := h4 y (by rw [ha]; simp)
        omega
    refine ⟨by simp only; omega, h5.weak fun y hy => ?_, fun p => ?_⟩
    · have e1 := (h5.mem y hy).1
      have e2 := h6 y hy
      simp only
      omega
    · rw [cov_full]
      unfold U
      simp only [ha, cov_nil, false_or, or_false]
      rw [← or_assoc]
      refine or_congr ?_ Iff.rfl
      unfold inR
      omega
  · rename_i c
    refine ⟨h0, ?_, fun p => ?_⟩
    · refine Canon.app (b := s.r.hi) (h3.snoc (by omega) h4 h2) (by omega) (fun y hy => ?_) h5
      rcases List.mem_append.1 hy with hy | hy
      · have := h4 y hy; omega
      · simp at hy; subst hy; omega
    · rw [cov_full]
      unfold U
      simp only [cov_app, cov_cons, cov_nil, or_false, or_assoc]
theorem add_ok {done : Int} {l : List Rng} {r : Rng} (hd : 0 ≤ done) (hl : Canon done l) (h0 : 0 ≤ r.lo) (h1 : r.lo < r.hi) :
    0 ≤ (out done (mg l r)).1 ∧ Canon (out done (mg l r)).1 (out done (mg l r)).2 ∧ ∀ p, cov (full (out done (mg l r)).1 (out done (mg l r)).2) p ↔ (0 ≤ p ∧ p < done) ∨ cov l p ∨ inR r p := by
  have hi : Inv done ⟨[], r, []⟩ l := ⟨hd, h0, h1, trivial, by simp, trivial, by simp, done, Int.le_refl _, by simp, by simp, hl⟩
  obtain ⟨h2, h3⟩ := inv_fold hi
  obtain ⟨h4, h5, h6⟩ := out_ok h2
  refine ⟨h4, h5, fun p => (h6 p).trans (or_congr Iff.rfl ((h3 p).trans ?_))⟩
  unfold U
  simp only [cov_nil, false_or]
  exact or_comm

/-! ### Place by place -/
def ins (n : Int) : List Int → List Int
  | [] => [n]
  | x :: r => if x < n then x :: ins n r else if x = n then x :: r else n :: x :: r
theorem mem_ins {n y : Int} : ∀ {l : List Int}, y ∈ ins n l ↔ y = n ∨ y ∈ l
  | [] => by simp [ins]
  | x :: r => by
    unfold ins
    split
    · rw [List.mem_cons, mem_ins, List.mem_cons]
      constructor
      · rintro (h | h | h) <;> simp [h]
      · rintro (h | h | h) <;> simp [h]
    · split
      · rename_i h
        subst h
        simp
      · simp
theorem ins_sorted {n : Int} : ∀ {l : List Int}, l.Pairwise (· < ·) → (ins n l).Pairwise (· < ·)
  | [], _ => by simp [ins]
  | x :: r, h => by
    obtain ⟨h1, h2⟩ := List.pairwise_cons.1 h
    unfold ins
    split
    · refine List.pairwise_cons.2 ⟨fun y hy => ?_, ins_sorted h2⟩
      rcases mem_ins.1 hy with rfl | hy
      · assumption
      · exact h1 y hy
    · split
      · exact h
      · refine List.pairwise_cons.2 ⟨fun y hy => ?_, h⟩
        rcases List.mem_cons.1 hy with rfl | hy
        · omega
        · have := h1 y hy
          omega
theorem ins_at {n : Int} : ∀ {l : List Int} {k : Nat}, k ≤ l.length → (∀ i, i < k → l.getD i 0 < n) → (k < l.length → n ≤ l.getD k 0) → ins n l = if k < l.length ∧ l.getD k 0 = n then l else l.take k ++ n :: l.drop k
  | [], k, hk, _, _ => by
    obtain rfl : k = 0 := by simpa using hk
    simp [ins]
  | x :: r, 0, _, _, h2 => by
    have := h2 (by simp)
    simp only [List.getD_cons_zero] at this
    unfold ins
    rw [if_neg (by omega)]
    by_cases h : x = n
    · rw [if_pos h, if_pos ⟨by simp, by simpa using h⟩]
    · rw [if_neg h, if_neg (fun e => h (by simpa using e.2))]
      rfl
  | x :: r, k + 1, hk, h1, h2 => by
    have h0 := h1 0 (by omega)
    simp only [List.getD_cons_zero] at h0
    unfold ins
    rw [if_pos h0, ins_at (l := r) (k := k) (by simpa using hk) (fun i hi => by simpa using h1 (i + 1) (by omega)) (fun hk => by simpa using h2 (by simpa using hk))]
    simp only [List.length_cons, Nat.add_lt_add_iff_right, List.getD_cons_succ, List.take_succ_cons, List.drop_succ_cons, List.cons_append]
    split <;> rfl
theorem ins_len (n : Int) : ∀ l : List Int, (ins n l).length ≤ l.length + 1
  | [] => by simp [ins]
  | x :: r => by
    have := ins_len n r
    unfold ins
    split
    · simp; omega
    · split <;> simp
/-- all places where something changes -/
def places (done : Int) (all : List Rng) : List Int := all.foldl (fun P x => ins x.hi (ins x.lo P)) (ins done (ins 0 []))
theorem fold_mem {y : Int} : ∀ {all : List Rng} {P : List Int}, y ∈ all.foldl (fun P x => ins x.hi (ins x.lo P)) P ↔ y ∈ P ∨ ∃ x, x ∈ all ∧ (y = x.lo ∨ y = x.hi)
  | [], P => by simp
  | a :: all, P => by
    rw [List.foldl_cons, fold_mem, mem_ins, mem_ins]
    constructor
    · rintro ((h | h | h) | ⟨x, hx, h⟩)
      · exact .inr ⟨a, by simp, .inr h⟩
      · exact .inr ⟨a, by simp, .inl h⟩
      · exact .inl h
      · exact .inr ⟨x, by simp [hx], h⟩
    · rintro (h | ⟨x, hx, h⟩)
      · exact .inl (.inr (.inr h))
      · rcases List.mem_cons.1 hx with rfl | hx
        · rcases h with h | h
          · exact .inl (.inr (.inl h))
          · exact .inl (.inl h)
        · exact .inr ⟨x, hx, h⟩
theorem fold_sorted : ∀ {all : List Rng} {P : List Int}, P.Pairwise (· < ·) → (all.foldl (fun P x => ins x.hi (ins x.lo P)) P).Pairwise (· < ·)
  | [], _, h => h
  | _ :: all, _, h => fold_sorted (all := all) (ins_sorted (ins_sorted h))
theorem places_sorted (done : Int) (all : List Rng) : (places done all).Pairwise (· < ·) := fold_sorted (ins_sorted (ins_sorted (by simp)))
theorem mem_places {done : Int} {all : List Rng} {y : Int} : y ∈ places done all ↔ y = done ∨ y = 0 ∨ ∃ x, x ∈ all ∧ (y = x.lo ∨ y = x.hi) := by
  unfold places
  rw [fold_mem, mem_ins, mem_ins]
  simp [or_assoc]
def came (done : Int) (all : List Rng) (n : Int) : Prop := n < done ∨ cov all n
/-- one place more -/
noncomputable def grow (done : Int) (all : List Rng) (o : List Rng) (a b : Int) : List Rng :=
  open Classical in if came done all a then (match o.getLast? with | some x => if x.hi = a then o.dropLast ++ [⟨x.lo, b⟩] else o ++ [⟨a, b⟩] | none => [⟨a, b⟩]) else o
noncomputable def sweep (done : Int) (all : List Rng) (P : List Int) : Nat → List Rng
  | 0 => []
  | i + 1 => grow done all (sweep done all P i) (P.getD i 0) (P.getD (i + 1) 0)
structure Fit (done : Int) (all : List Rng) (P : List Int) : Prop where
  rising : ∀ i j, i < j → j < P.length → P.getD i 0 < P.getD j 0
  has : ∀ y, y = done ∨ y = 0 ∨ (∃ x, x ∈ all ∧ (y = x.lo ∨ y = x.hi)) → ∃ i, i < P.length ∧ P.getD i 0 = y
  nought : ∀ i, i < P.length → 0 ≤ P.getD i 0
theorem fit_places {done : Int} {all : List Rng} (hd : 0 ≤ done) (ha : ∀ x, x ∈ all → 0 ≤ x.lo ∧ x.lo ≤ x.hi) : Fit done all (places done all) := by
  refine ⟨fun i j hij hj => ?_, fun y hy => ?_, fun i hi => ?_⟩
  · have h := places_sorted done all
    rw [List.pairwise_iff_getElem] at h
    have := h i j (by omega) hj hij
    simpa [List.getD_eq_getElem?_getD, List.getElem?_eq_getElem hj, List.getElem?_eq_getElem (show i < (places done all).length by omega)] using this
  · obtain ⟨i, hi, hv⟩ := List.mem_iff_getElem.1 (mem_places.2 hy)
    exact ⟨i, hi, by rw [List.getD_eq_getElem?_getD, List.getElem?_eq_getElem hi]; exact hv⟩
  · have hm : (places done all).getD i 0 ∈ places done all := by
      rw [List.getD_eq_getElem?_getD, List.getElem?_eq_getElem hi]
      exact List.getElem_mem hi
    rcases mem_places.1 hm with h | h | ⟨x, hx, h | h⟩
    · omega
    · omega
    · have := ha x hx; omega
    · have := ha x hx; omega
/-- no place lies between two that follow -/
theorem Fit.side {done : Int} {all : List Rng} {P : List Int} (h : Fit done all P) {i : Nat} (hi : i + 1 < P.length) {y : Int} (hy : y = done ∨ y = 0 ∨ ∃ x, x ∈ all ∧ (y = x.lo ∨ y = x.hi)) : y ≤ P.getD i 0 ∨ P.getD (i + 1) 0 ≤ y := by
  obtain ⟨j, hj, rfl⟩ := h.has y hy
  rcases Nat.lt_or_ge i j with hij | hij
  · refine .inr ?_
    by_cases e : j = i + 1
    · subst e; omega
    · have := h.rising (i + 1) j (by omega) hj; omega
  · refine .inl ?_
    by_cases e : j = i
    · subst e; omega
    · have := h.rising j i (by omega) (by omega); omega
theorem Fit.same {done : Int} {all : List Rng} {P : List Int} (h : Fit done all P) {i : Nat} (hi : i + 1 < P.length) {p : Int} (h1 : P.getD i 0 ≤ p) (h2 : p < P.getD (i + 1) 0) : came done all p ↔ came done all (P.getD i 0) := by
  unfold came cov inR
  have hd := h.side hi (.inl rfl : done = done ∨ _)
  constructor
  · rintro (h3 | ⟨x, hx, h3, h4⟩)
    · exact .inl (by omega)
    · have e1 := h.side hi (.inr (.inr ⟨x, hx, .inl rfl⟩))
      exact .inr ⟨x, hx, by omega, by omega⟩
  · rintro (h3 | ⟨x, hx, h3, h4⟩)
    · exact .inl (by omega)
    · have e1 := h.side hi (.inr (.inr ⟨x, hx, .inr rfl⟩))
      exact .inr ⟨x, hx, by omega, by omega⟩
def Sw (done : Int) (all : List Rng) (P : List Int) (i : Nat) (o : List Rng) : Prop := Canon (-1) o ∧ (∀ x, x ∈ o → x.hi ≤ P.getD i 0) ∧ ∀ p, cov o p ↔ (0 ≤ p ∧ p < P.getD i 0) ∧ came done all p
theorem Canon.stretch : ∀ {l : List Rng} {a : Int} {x : Rng} {b : Int}, Canon a (l ++ [x]) → x.hi ≤ b → Canon a (l ++ [⟨x.lo, b⟩])
  | [], _, x, b, h, hb => ⟨h.1, by have := h.2.1; simp only; omega, trivial⟩
  | r :: l, _, x, b, h, hb => ⟨h.1, h.2.1, Canon.stretch h.2.2 hb⟩
theorem Canon.left : ∀ {l m : List Rng} {a : Int}, Canon a (l ++ m) → Canon a l
  | [], _, _, _ => trivial
  | _ :: _, _, _, h => ⟨h.1, h.2.1, Canon.left h.2.2⟩
theorem Canon.lastlo : ∀ {l : List Rng} {a : Int} {x : Rng}, Canon a (l ++ [x]) → ∀ s, s ∈ l → s.hi < x.lo
  | [], _, _, _, s, hs => by cases hs
  | r :: l, _, x, h, s, hs => by
    rcases List.mem_cons.1 hs with rfl | hs
    · exact (Canon.mem h.2.2 x (by simp)).1
    · exact Canon.lastlo h.2.2 s hs
theorem Fit.first {done : Int} {all : List Rng} {P : List Int} (h : Fit done all P) : 0 < P.length ∧ P.getD 0 0 = 0 := by
  obtain ⟨j, hj, e⟩ := h.has 0 (.inr (.inl rfl))
  have h0 := h.nought 0 (by omega)
  refine ⟨by omega, ?_⟩
  by_cases e0 : j = 0
  · subst e0; exact e
  · have := h.rising 0 j (by omega) hj; omega
theorem sw_zero {done : Int} {all : List Rng} {P : List Int} (h : Fit done all P) : Sw done all P 0 [] := by
  refine ⟨trivial, by simp, fun p => ?_⟩
  rw [h.first.2]
  constructor
  · intro hc; exact absurd hc (cov_nil p)
  · rintro ⟨hc, _⟩; omega
theorem sw_step {done : Int} {all : List Rng} {P : List Int} (h : Fit done all P) {i : Nat} (hi : i + 1 < P.length) {o : List Rng} (hs : Sw done all P i o) : Sw done all P (i + 1) (grow done all o (P.getD i 0) (P.getD (i + 1) 0)) := by
  unfold Sw at hs ⊢
  obtain ⟨h1, h2, h3⟩ := hs
  have hr := h.rising i (i + 1) (by omega) hi
  have h0 := h.nought i (by omega)
  have hS := fun {p : Int} (a : P.getD i 0 ≤ p) (b : p < P.getD (i + 1) 0) => h.same hi a b
  generalize P.getD i 0 = a at *
  generalize hb : P.getD (i + 1) 0 = b at *
  unfold grow
  by_cases hc : came done all a
  · rw [if_pos hc]
    have key : ∀ {o' : List Rng}, (∀ p, cov o' p ↔ cov o p ∨ (a ≤ p ∧ p < b)) → ∀ p, cov o' p ↔ (0 ≤ p ∧ p < b) ∧ came done all p := fun {o'} ho p => by
      rw [ho, h3]
      constructor
      · rintro (⟨⟨e1, e2⟩, e3⟩ | ⟨e1, e2⟩)
        · exact ⟨⟨e1, by omega⟩, e3⟩
        · exact ⟨⟨by omega, e2⟩, (hS e1 e2).2 hc⟩
      · rintro ⟨⟨e1, e2⟩, e3⟩
        by_cases e4 : p < a
        · exact .inl ⟨⟨e1, e4⟩, e3⟩
        · exact .inr ⟨by omega, e2⟩
    rcases List.eq_nil_or_concat o with rfl | ⟨o', x, ho⟩
    · simp only [List.getLast?_nil]
      refine ⟨⟨by simp only; omega, hr, trivial⟩, fun y hy => ?_, key fun p => ?_⟩
      · simp at hy; subst hy; exact Int.le_refl _
      · rw [cov_cons]; simp only [cov_nil, or_false, false_or]; rfl
    · subst ho
      rw [List.concat_eq_append] at *
      simp only [List.getLast?_append, List.getLast?_singleton, Option.some_or]
      have hxl := h1.mem x (by simp)
      have hxa := h2 x (by simp)
      by_cases e : x.hi = a
      · rw [if_pos e, List.dropLast_concat]
        refine ⟨h1.stretch (by omega), fun y hy => ?_, key fun p => ?_⟩
        · rcases List.mem_append.1 hy with hy | hy
          · have := h2 y (by simp [hy]); omega
          · simp at hy; subst hy; exact Int.le_refl _
        · rw [cov_app, cov_app, cov_cons, cov_cons]
          simp only [cov_nil, or_false, or_assoc]
          refine or_congr Iff.rfl ?_
          unfold inR
          simp only
          omega
      · rw [if_neg e]
        refine ⟨h1.snoc (by simp only; omega) (fun y hy => ?_) hr, fun y hy => ?_, key fun p => ?_⟩
        · rcases List.mem_append.1 hy with hy' | hy'
          · have e1 := h1.lastlo y hy'
            simp only
            omega
          · simp at hy'; subst hy'; simp only; omega
        · rcases List.mem_append.1 hy with hy | hy
          · have := h2 y hy; omega
          · simp at hy; subst hy; exact Int.le_refl _
        · rw [cov_app, cov_cons]
          simp only [cov_nil, or_false]
          rfl
  · rw [if_neg hc]
    refine ⟨h1, fun y hy => by have := h2 y hy; omega, fun p => ?_⟩
    rw [h3]
    constructor
    · rintro ⟨⟨e1, e2⟩, e3⟩
      exact ⟨⟨e1, by omega⟩, e3⟩
    · rintro ⟨⟨e1, e2⟩, e3⟩
      by_cases e4 : p < a
      · exact ⟨⟨e1, e4⟩, e3⟩
      · exact absurd ((hS (by omega) e2).1 e3) hc
theorem sw_all {done : Int} {all : List Rng} {P : List Int} (h : Fit done all P) : ∀ {i : Nat}, i < P.length → Sw done all P i (sweep done all P i)
  | 0, _ => sw_zero h
  | i + 1, hi => sw_step h hi (sw_all h (by omega))
theorem sw_end {done : Int} {all : List Rng} {P : List Int} (h : Fit done all P) {i : Nat} (hi : i + 1 = P.length) : Canon (-1) (sweep done all P i) ∧ ∀ p, cov (sweep done all P i) p ↔ 0 ≤ p ∧ came done all p := by
  obtain ⟨h1, _, h3⟩ := sw_all h (show i < P.length by omega)
  refine ⟨h1, fun p => ?_⟩
  rw [h3]
  constructor
  · rintro ⟨⟨e1, _⟩, e3⟩; exact ⟨e1, e3⟩
  · rintro ⟨e1, e3⟩
    have top : ∀ y, (y = done ∨ y = 0 ∨ ∃ x, x ∈ all ∧ (y = x.lo ∨ y = x.hi)) → y ≤ P.getD i 0 := fun y hy => by
      obtain ⟨j, hj, rfl⟩ := h.has y hy
      by_cases e : j = i
      · subst e; omega
      · have := h.rising j i (by omega) (by omega); omega
    refine ⟨⟨e1, ?_⟩, e3⟩
    rcases e3 with e3 | ⟨x, hx, _, e3⟩
    · have := top done (.inl rfl); omega
    · have := top x.hi (.inr (.inr ⟨x, hx, .inr rfl⟩)); omega
theorem sweep_len (done : Int) (all : List Rng) (P : List Int) : ∀ i, (sweep done all P i).length ≤ i
  | 0 => by simp [sweep]
  | i + 1 => by
    have := sweep_len done all P i
    unfold sweep grow
    split
    · split
      · split
        · simp; omega
        · simp; omega
      · simp
    · omega
/-- what is handed back of the whole cover -/
def cut (o : List Rng) : Int × List Rng := match o with
  | [] => (0, [])
  | r :: l => if r.lo = 0 then (r.hi, l) else (0, r :: l)
theorem cut_full {d : Int} {l : List Rng} (hd : 0 ≤ d) (hl : Canon d l) : cut (full d l) = (d, l) := by
  unfold full
  by_cases h : 0 < d
  · rw [if_pos h]
    simp [cut]
  · rw [if_neg h]
    obtain rfl : d = 0 := by omega
    cases l with
    | nil => rfl
    | cons r l =>
      have := hl.1
      simp only [cut]
      rw [if_neg (by omega)]
def addTo (done : Int) (l : List Rng) (r : Rng) : Int × List Rng := if r.lo < r.hi then out done (mg l r) else (done, l)
theorem addTo_ok {done : Int} {l : List Rng} {r : Rng} (hd : 0 ≤ done) (hl : Canon done l) (h0 : 0 ≤ r.lo) (h1 : r.lo ≤ r.hi) :
    0 ≤ (addTo done l r).1 ∧ Canon (addTo done l r).1 (addTo done l r).2 ∧ ∀ p, cov (full (addTo done l r).1 (addTo done l r).2) p ↔ (0 ≤ p ∧ p < done) ∨ cov l p ∨ inR r p := by
  unfold addTo
  by_cases h : r.lo < r.hi
  · rw [if_pos h]
    exact add_ok hd hl h0 h
  · rw [if_neg h]
    refine ⟨hd, hl, fun p => ?_⟩
    rw [cov_full]
    refine or_congr Iff.rfl ?_
    have : ¬ inR r p := fun e => by have := e.1; have := e.2; omega
    simp [this]
theorem full_canon {d : Int} {l : List Rng} (hd : 0 ≤ d) (hl : Canon d l) : Canon (-1) (full d l) := by
  unfold full
  split
  · exact ⟨by simp only; omega, by simpa, hl⟩
  · exact hl.weak fun s hs => by have := (hl.mem s hs).1; omega
/-- the two ways answer alike -/
theorem both {done : Int} {l : List Rng} {r : Rng} (hd : 0 ≤ done) (hl : Canon done l) (h0 : 0 ≤ r.lo) (h1 : r.lo ≤ r.hi) {i : Nat} (hi : i + 1 = (places done (l ++ [r])).length) :
    cut (sweep done (l ++ [r]) (places done (l ++ [r])) i) = addTo done l r := by
  have hF : Fit done (l ++ [r]) (places done (l ++ [r])) := fit_places hd fun x hx => by
    rcases List.mem_append.1 hx with hx | hx
    · have := hl.mem x hx; omega
    · simp at hx; subst hx; omega
  obtain ⟨h2, h3⟩ := sw_end hF hi
  obtain ⟨h4, h5, h6⟩ := addTo_ok hd hl h0 h1
  have e : sweep done (l ++ [r]) (places done (l ++ [r])) i = full (addTo done l r).1 (addTo done l r).2 := by
    refine ext h2 (full_canon h4 h5) fun p => ?_
    rw [h3, h6]
    unfold came
    rw [cov_app, cov_cons]
    simp only [cov_nil, or_false]
    constructor
    · rintro ⟨e1, e2 | e2 | e2⟩
      · exact .inl ⟨e1, e2⟩
      · exact .inr (.inl e2)
      · exact .inr (.inr e2)
    · rintro (⟨e1, e2⟩ | e2 | e2)
      · exact ⟨e1, .inl e2⟩
      · obtain ⟨x, hx, e3, e4⟩ := e2
        have := (hl.mem x hx).1
        exact ⟨by omega, .inr (.inl ⟨x, hx, e3, e4⟩)⟩
      · have := e2.1
        exact ⟨by omega, .inr (.inr e2)⟩
  rw [e, cut_full h4 h5]
end Go.Proofs.Ytdldfllllgogoaa.had
namespace Go.Proofs.Ytdldfllllgogoaa
open Go.RowKit

theorem had.take_more {l : List Rng} {k : Nat} (h : k < l.length) : l.take (k + 1) = l.take k ++ [l.getD k Rng.z] := by
  rw [List.take_add_one, List.getD_eq_getElem?_getD, List.getElem?_eq_getElem h]
  rfl

set_option maxRecDepth 100000 in
set_option maxHeartbeats 8000000 in
theorem hole_merged (done : Int) (l : List Rng) (r : Rng) (A : Option Addr) (c : Nat) (w : World) (hl : SlRep Rng.rep w (· < w.heap.size) l A c) (hn : l.length ≤ 16) :
    Calls Try.prog 94 #[.int .i64 done, .slice A l.length c, .agg #[.int .i64 r.lo, .int .i64 r.hi]] w fun e w' => ∃ A' c', e = .returned (.tuple #[.int .i64 (had.out done (had.mg l r)).1, .slice A' (had.out done (had.mg l r)).2.length c']) ∧
      SlRep Rng.rep w' (fun k => w.heap.size ≤ k ∧ k < w'.heap.size) (had.out done (had.mg l r)).2 A' c' ∧ Below w.heap.size w w' ∧ (had.out done (had.mg l r)).2.length ≤ 40 := by
  have HL := Lib.hid hl
  obtain ⟨r0, r1⟩ := r
  dsimp only
  clear hl
  go_enter Try.func94, Try.ntmps94
  go_wp2
  go_loopw [8, 9, 14] (fun ah be iv wr => ∃ (k : Nat) (s : had.St) (A1 A2 : Option Addr) (c1 c2 : Nat), iv = .int .i64 k ∧ k ≤ l.length ∧ ah = .slice A1 s.a.length c1 ∧ be = .slice A2 s.b.length c2 ∧ s.a.length ≤ k ∧ s.b.length ≤ k ∧ Hid (s = (l.take k).foldl had.step ⟨[], ⟨r0, r1⟩, []⟩) ∧
    wr.cell? ⟨w.heap.size, 0, none⟩ = some (.int .i64 s.r.lo) ∧ wr.cell? ⟨w.heap.size, 1, none⟩ = some (.int .i64 s.r.hi) ∧ wr.frozen? ⟨w.heap.size, 0, none⟩ = false ∧ wr.frozen? ⟨w.heap.size, 1, none⟩ = false ∧ w.heap.size < wr.heap.size ∧
    Hid (Own wr (w.heap.size + 1) 78 2 A1 s.a.length c1 (s.a.flatMap Rng.cells)) ∧ Hid (Own wr (w.heap.size + 1) 78 2 A2 s.b.length c2 (s.b.flatMap Rng.cells)) ∧ Hid (Two A1 A2) ∧ Below w.heap.size w wr) (fun _ _ iv _ => l.length - (intOf iv).toNat)
  case atStart => exact ⟨0, ⟨[], ⟨r0, r1⟩, []⟩, none, none, 0, 0, rfl, by omega, rfl, rfl, by simp, by simp, Lib.hid rfl, by simp [go_sem], by simp [go_sem], by simp [go_sem], by simp [go_sem], by simp, Lib.hid (Own.nil _ _ _ _), Lib.hid (Own.nil _ _ _ _), Lib.hid (Two.none_left _), (by repeat (first | (with_reducible exact Below.refl _ _) | (with_reducible assumption) | (with_reducible refine bset ?_ ?_ _) | (with_reducible refine balloc ?_ _) | (with_reducible refine Below.drew ?_) | (with_reducible refine bdrewN ?_ _) | (with_reducible refine bnext ?_ (by with_reducible assumption)) | exact Nat.le_refl _ | (simp; done) | omega | (simp; omega)))⟩
  case round =>
    obtain ⟨k, s, A1, A2, c1, c2, rfl, hk, rfl, rfl, hka, hkb, HS, d0, d1, f0, f1, hR, HO1, HO2, HT, hB⟩ := hrel
    rename World => wr
    by_cases hlt : k < l.length
    · obtain ⟨bb, oo, rfl, hbb, hc1, hc2⟩ := Rng.cells_at Rng.z (HL.out.below hB) hlt
      have hbw : bb < wr.heap.size := Nat.lt_of_lt_of_le hbb hB.size
      have hlti : (k : Int) < (l.length : Int) := by omega
      have HSN : Hid ((l.take (k + 1)).foldl had.step ⟨[], ⟨r0, r1⟩, []⟩ = had.step s (l.getD k Rng.z)) := Lib.hid (by rw [had.take_more hlt, List.foldl_append, HS.out]; rfl)
      clear HS
      have hl1 := HO1.out.lt
      have hl2 := HO2.out.lt
      have HL1 := Lib.hid hl1
      have HL2 := Lib.hid hl2
      clear hl1 hl2
      generalize l.getD k Rng.z = x at *
      obtain ⟨x0, x1⟩ := x
      obtain ⟨sa, sr, sb⟩ := s
      obtain ⟨q0, q1⟩ := sr
      dsimp only at *
      by_cases k1 : x1 < q0
      · have HST : Hid (had.step ⟨sa, ⟨q0, q1⟩, sb⟩ ⟨x0, x1⟩ = ⟨sa ++ [⟨x0, x1⟩], ⟨q0, q1⟩, sb⟩) := Lib.hid (by unfold had.step; rw [if_pos k1])
        go_wp2_with (first
          | (at_builtin; refine wp_app _ rfl _ _ _ rfl elemRng (w.heap.size + 1) A1 _ c1 _ rfl ((HO1.out.alloc _).alloc _) _ 1 1 [.int .i64 x0, .int .i64 x1] rfl rfl (Cells.newAt _ _ _ (by first | rfl | simp)) (by simp [Value.oneCell']) (by omega) (by unfold maxLen; omega) (by simp; omega) ?_; intro A3 c3 w3 ho3 hg3; have HO3 := Lib.hid ho3; clear ho3)
          | fail)
        have hbx : Below wr.heap.size wr ((wr.alloc (.cells #[.int .i64 x0, .int .i64 x1] 78)).alloc (.cells #[.int .i64 x0, .int .i64 x1] 78)) := (by repeat (first | (with_reducible exact Below.refl _ _) | (with_reducible assumption) | (with_reducible refine bset ?_ ?_ _) | (with_reducible refine balloc ?_ _) | (with_reducible refine Below.drew ?_) | (with_reducible refine bdrewN ?_ _) | (with_reducible refine bnext ?_ (by with_reducible assumption)) | exact Nat.le_refl _ | (simp; done) | omega | (simp; omega)))
        have hnA : ∀ q, blkOf A1 = some q → q ≠ w.heap.size := fun q hq e => by have := (HL1.out q hq).1; omega
        have e0 := (hg3.cell (b := w.heap.size) 0 (by simp; omega) hnA).trans ((hbx.cell (p := ⟨w.heap.size, 0, none⟩) hR).trans d0)
        have e1 := (hg3.cell (b := w.heap.size) 1 (by simp; omega) hnA).trans ((hbx.cell (p := ⟨w.heap.size, 1, none⟩) hR).trans d1)
        have e2 := (hg3.frozen (b := w.heap.size) 0 (by simp; omega) hnA).trans ((hbx.frozen (p := ⟨w.heap.size, 0, none⟩) hR).trans f0)
        have e3 := (hg3.frozen (b := w.heap.size) 1 (by simp; omega) hnA).trans ((hbx.frozen (p := ⟨w.heap.size, 1, none⟩) hR).trans f1)
        have e4 := hg3.grown.size
        simp only [World.size_alloc] at e4
        have e5 : Below w.heap.size w w3 := Grew.step (bnext hB hbx) hg3 (fun q hq => Nat.le_of_succ_le (HL1.out q hq).1)
        have e6 : Hid (Own w3 (w.heap.size + 1) 78 2 A2 sb.length _ (sb.flatMap Rng.cells)) := Lib.hid ((HO2.out.next hbx).kept' hg3 (fun q hq => HT.out.symm q hq))
        have e7 : Hid (Two A3 A2) := Lib.hid (HT.out.left (((Grew.refl wr A1).alloc _ |>.alloc _).trans hg3) (fun q hq => (HL2.out q hq).2))
        clear HL1 HL2 HO1 HO2 HT hg3
        go_roundw
        case rel => exact ⟨k + 1, ⟨sa ++ [⟨x0, x1⟩], ⟨q0, q1⟩, sb⟩, A3, A2, c3, c2, by go_num, by omega, by simp, rfl, by simp; omega, by simp only; omega, Lib.hid (by rw [HSN.out]; exact HST.out.symm), e0, e1, e2, e3, by omega, Lib.hid (by simpa [Rng.cells] using HO3.out), e6, e7, e5⟩
        case measure => simp [intOf]; omega
      · by_cases k2 : q1 < x0
        · have HST : Hid (had.step ⟨sa, ⟨q0, q1⟩, sb⟩ ⟨x0, x1⟩ = ⟨sa, ⟨q0, q1⟩, sb ++ [⟨x0, x1⟩]⟩) := Lib.hid (by unfold had.step; rw [if_neg k1, if_pos k2])
          go_wp2_with (first
            | (at_builtin; refine wp_app _ rfl _ _ _ rfl elemRng (w.heap.size + 1) A2 _ c2 _ rfl ((HO2.out.alloc _).alloc _) _ 1 1 [.int .i64 x0, .int .i64 x1] rfl rfl (Cells.newAt _ _ _ (by first | rfl | simp)) (by simp [Value.oneCell']) (by omega) (by unfold maxLen; omega) (by simp; omega) ?_; intro A3 c3 w3 ho3 hg3; have HO3 := Lib.hid ho3; clear ho3)
            | fail)
          have hbx : Below wr.heap.size wr ((wr.alloc (.cells #[.int .i64 x0, .int .i64 x1] 78)).alloc (.cells #[.int .i64 x0, .int .i64 x1] 78)) := (by repeat (first | (with_reducible exact Below.refl _ _) | (with_reducible assumption) | (with_reducible refine bset ?_ ?_ _) | (with_reducible refine balloc ?_ _) | (with_reducible refine Below.drew ?_) | (with_reducible refine bdrewN ?_ _) | (with_reducible refine bnext ?_ (by with_reducible assumption)) | exact Nat.le_refl _ | (simp; done) | omega | (simp; omega)))
          have hnA : ∀ q, blkOf A2 = some q → q ≠ w.heap.size := fun q hq e => by have := (HL2.out q hq).1; omega
          have e0 := (hg3.cell (b := w.heap.size) 0 (by simp; omega) hnA).trans ((hbx.cell (p := ⟨w.heap.size, 0, none⟩) hR).trans d0)
          have e1 := (hg3.cell (b := w.heap.size) 1 (by simp; omega) hnA).trans ((hbx.cell (p := ⟨w.heap.size, 1, none⟩) hR).trans d1)
          have e2 := (hg3.frozen (b := w.heap.size) 0 (by simp; omega) hnA).trans ((hbx.frozen (p := ⟨w.heap.size, 0, none⟩) hR).trans f0)
          have e3 := (hg3.frozen (b := w.heap.size) 1 (by simp; omega) hnA).trans ((hbx.frozen (p := ⟨w.heap.size, 1, none⟩) hR).trans f1)
          have e4 := hg3.grown.size
          simp only [World.size_alloc] at e4
          have e5 : Below w.heap.size w w3 := Grew.step (bnext hB hbx) hg3 (fun q hq => Nat.le_of_succ_le (HL2.out q hq).1)
          have e6 : Hid (Own w3 (w.heap.size + 1) 78 2 A1 sa.length _ (sa.flatMap Rng.cells)) := Lib.hid ((HO1.out.next hbx).kept' hg3 (fun q hq => HT.out q hq))
          have e7 : Hid (Two A1 A3) := Lib.hid ((HT.out.symm.left (((Grew.refl wr A2).alloc _ |>.alloc _).trans hg3) (fun q hq => (HL1.out q hq).2)).symm)
          clear HL1 HL2 HO1 HO2 HT hg3
          go_roundw
          case rel => exact ⟨k + 1, ⟨sa, ⟨q0, q1⟩, sb ++ [⟨x0, x1⟩]⟩, A1, A3, c1, c3, by go_num, by omega, rfl, by simp, by simp only; omega, by simp; omega, Lib.hid (by rw [HSN.out]; exact HST.out.symm), e0, e1, e2, e3, by omega, e6, Lib.hid (by simpa [Rng.cells] using HO3.out), e7, e5⟩
          case measure => simp [intOf]; omega
        · have HST0 : Hid (had.step ⟨sa, ⟨q0, q1⟩, sb⟩ ⟨x0, x1⟩ = ⟨sa, ⟨min q0 x0, max q1 x1⟩, sb⟩) := Lib.hid (by unfold had.step; rw [if_neg k1, if_neg k2])
          by_cases k3 : x0 < q0
          · have hmn : min q0 x0 = x0 := by omega
            by_cases k4 : q1 < x1
            · have hmx : max q1 x1 = x1 := by omega
              have HST : Hid (had.step ⟨sa, ⟨q0, q1⟩, sb⟩ ⟨x0, x1⟩ = ⟨sa, ⟨x0, x1⟩, sb⟩) := Lib.hid (by rw [HST0.out, hmn, hmx])
              clear hmn hmx HST0
              go_wp2_with fail
              have e5 : Below w.heap.size w (((wr.setCell ⟨w.heap.size, 0, none⟩ (.int .i64 x0)).setCell ⟨w.heap.size, 1, none⟩ (.int .i64 x1)).alloc (.cells #[.int .i64 x0, .int .i64 x1] 78)) := (by repeat (first | (with_reducible exact Below.refl _ _) | (with_reducible assumption) | (with_reducible refine bset ?_ ?_ _) | (with_reducible refine balloc ?_ _) | (with_reducible refine Below.drew ?_) | (with_reducible refine bdrewN ?_ _) | (with_reducible refine bnext ?_ (by with_reducible assumption)) | exact Nat.le_refl _ | (simp; done) | omega | (simp; omega)))
              have e6 : Hid (Own (((wr.setCell ⟨w.heap.size, 0, none⟩ (.int .i64 x0)).setCell ⟨w.heap.size, 1, none⟩ (.int .i64 x1)).alloc (.cells #[.int .i64 x0, .int .i64 x1] 78)) (w.heap.size + 1) 78 2 A1 sa.length c1 (sa.flatMap Rng.cells)) := Lib.hid (((HO1.out.setCell (p := ⟨w.heap.size, 0, none⟩) (fun e => by have := (HL1.out w.heap.size e).1; omega) _).setCell (p := ⟨w.heap.size, 1, none⟩) (fun e => by have := (HL1.out w.heap.size e).1; omega) _).alloc _)
              have e7 : Hid (Own (((wr.setCell ⟨w.heap.size, 0, none⟩ (.int .i64 x0)).setCell ⟨w.heap.size, 1, none⟩ (.int .i64 x1)).alloc (.cells #[.int .i64 x0, .int .i64 x1] 78)) (w.heap.size + 1) 78 2 A2 sb.length c2 (sb.flatMap Rng.cells)) := Lib.hid (((HO2.out.setCell (p := ⟨w.heap.size, 0, none⟩) (fun e => by have := (HL2.out w.heap.size e).1; omega) _).setCell (p := ⟨w.heap.size, 1, none⟩) (fun e => by have := (HL2.out w.heap.size e).1; omega) _).alloc _)
              clear HL1 HL2 HO1 HO2
              go_roundw
              case rel => exact ⟨k + 1, ⟨sa, ⟨x0, x1⟩, sb⟩, A1, A2, c1, c2, by go_num, by omega, rfl, rfl, by simp only; omega, by simp only; omega, Lib.hid (by rw [HSN.out]; exact HST.out.symm), by simp [go_sem, *], by simp [go_sem, *], by simp [go_sem, *], by simp [go_sem, *], by simp; omega, e6, e7, HT, e5⟩
              case measure => simp [intOf]; omega
            · have hmx : max q1 x1 = q1 := by omega
              have HST : Hid (had.step ⟨sa, ⟨q0, q1⟩, sb⟩ ⟨x0, x1⟩ = ⟨sa, ⟨x0, q1⟩, sb⟩) := Lib.hid (by rw [HST0.out, hmn, hmx])
              clear hmn hmx HST0
              go_wp2_with fail
              have e5 : Below w.heap.size w (((wr.setCell ⟨w.heap.size, 0, none⟩ (.int .i64 x0)).setCell ⟨w.heap.size, 1, none⟩ (.int .i64 q1)).alloc (.cells #[.int .i64 x0, .int .i64 x1] 78)) := (by repeat (first | (with_reducible exact Below.refl _ _) | (with_reducible assumption) | (with_reducible refine bset ?_ ?_ _) | (with_reducible refine balloc ?_ _) | (with_reducible refine Below.drew ?_) | (with_reducible refine bdrewN ?_ _) | (with_reducible refine bnext ?_ (by with_reducible assumption)) | exact Nat.le_refl _ | (simp; done) | omega | (simp; omega)))
              have e6 : Hid (Own (((wr.setCell ⟨w.heap.size, 0, none⟩ (.int .i64 x0)).setCell ⟨w.heap.size, 1, none⟩ (.int .i64 q1)).alloc (.cells #[.int .i64 x0, .int .i64 x1] 78)) (w.heap.size + 1) 78 2 A1 sa.length c1 (sa.flatMap Rng.cells)) := Lib.hid (((HO1.out.setCell (p := ⟨w.heap.size, 0, none⟩) (fun e => by have := (HL1.out w.heap.size e).1; omega) _).setCell (p := ⟨w.heap.size, 1, none⟩) (fun e => by have := (HL1.out w.heap.size e).1; omega) _).alloc _)
              have e7 : Hid (Own (((wr.setCell ⟨w.heap.size, 0, none⟩ (.int .i64 x0)).setCell ⟨w.heap.size, 1, none⟩ (.int .i64 q1)).alloc (.cells #[.int .i64 x0, .int .i64 x1] 78)) (w.heap.size + 1) 78 2 A2 sb.length c2 (sb.flatMap Rng.cells)) := Lib.hid (((HO2.out.setCell (p := ⟨w.heap.size, 0, none⟩) (fun e => by have := (HL2.out w.heap.size e).1; omega) _).setCell (p := ⟨w.heap.size, 1, none⟩) (fun e => by have := (HL2.out w.heap.size e).1; omega) _).alloc _)
              clear HL1 HL2 HO1 HO2
              go_roundw
              case rel => exact ⟨k + 1, ⟨sa, ⟨x0, q1⟩, sb⟩, A1, A2, c1, c2, by go_num, by omega, rfl, rfl, by simp only; omega, by simp only; omega, Lib.hid (by rw [HSN.out]; exact HST.out.symm), by simp [go_sem, *], by simp [go_sem, *], by simp [go_sem, *], by simp [go_sem, *], by simp; omega, e6, e7, HT, e5⟩
              case measure => simp [intOf]; omega
          · have hmn : min q0 x0 = q0 := by omega
            by_cases k4 : q1 < x1
            · have hmx : max q1 x1 = x1 := by omega
              have HST : Hid (had.step ⟨sa, ⟨q0, q1⟩, sb⟩ ⟨x0, x1⟩ = ⟨sa, ⟨q0, x1⟩, sb⟩) := Lib.hid (by rw [HST0.out, hmn, hmx])
              clear hmn hmx HST0
              go_wp2_with fail
              have e5 : Below w.heap.size w (((wr.setCell ⟨w.heap.size, 0, none⟩ (.int .i64 q0)).setCell ⟨w.heap.size, 1, none⟩ (.int .i64 x1)).alloc (.cells #[.int .i64 x0, .int .i64 x1] 78)) := (by repeat (first | (with_reducible exact Below.refl _ _) | (with_reducible assumption) | (with_reducible refine bset ?_ ?_ _) | (with_reducible refine balloc ?_ _) | (with_reducible refine Below.drew ?_) | (with_reducible refine bdrewN ?_ _) | (with_reducible refine bnext ?_ (by with_reducible assumption)) | exact Nat.le_refl _ | (simp; done) | omega | (simp; omega)))
              have e6 : Hid (Own (((wr.setCell ⟨w.heap.size, 0, none⟩ (.int .i64 q0)).setCell ⟨w.heap.size, 1, none⟩ (.int .i64 x1)).alloc (.cells #[.int .i64 x0, .int .i64 x1] 78)) (w.heap.size + 1) 78 2 A1 sa.length c1 (sa.flatMap Rng.cells)) := Lib.hid (((HO1.out.setCell (p := ⟨w.heap.size, 0, none⟩) (fun e => by have := (HL1.out w.heap.size e).1; omega) _).setCell (p := ⟨w.heap.size, 1, none⟩) (fun e => by have := (HL1.out w.heap.size e).1; omega) _).alloc _)
              have e7 : Hid (Own (((wr.setCell ⟨w.heap.size, 0, none⟩ (.int .i64 q0)).setCell ⟨w.heap.size, 1, none⟩ (.int .i64 x1)).alloc (.cells #[.int .i64 x0, .int .i64 x1] 78)) (w.heap.size + 1) 78 2 A2 sb.length c2 (sb.flatMap Rng.cells)) := Lib.hid (((HO2.out.setCell (p := ⟨w.heap.size, 0, none⟩) (fun e => by have := (HL2.out w.heap.size e).1; omega) _).setCell (p := ⟨w.heap.size, 1, none⟩) (fun e => by have := (HL2.out w.heap.size e).1; omega) _).alloc _)
              clear HL1 HL2 HO1 HO2
              go_roundw
              case rel => exact ⟨k + 1, ⟨sa, ⟨q0, x1⟩, sb⟩, A1, A2, c1, c2, by go_num, by omega, rfl, rfl, by simp only; omega, by simp only; omega, Lib.hid (by rw [HSN.out]; exact HST.out.symm), by simp [go_sem, *], by simp [go_sem, *], by simp [go_sem, *], by simp [go_sem, *], by simp; omega, e6, e7, HT, e5⟩
              case measure => simp [intOf]; omega
            · have hmx : max q1 x1 = q1 := by omega
              have HST : Hid (had.step ⟨sa, ⟨q0, q1⟩, sb⟩ ⟨x0, x1⟩ = ⟨sa, ⟨q0, q1⟩, sb⟩) := Lib.hid (by rw [HST0.out, hmn, hmx])
              clear hmn hmx HST0
              go_wp2_with fail
              have e5 : Below w.heap.size w (((wr.setCell ⟨w.heap.size, 0, none⟩ (.int .i64 q0)).setCell ⟨w.heap.size, 1, none⟩ (.int .i64 q1)).alloc (.cells #[.int .i64 x0, .int .i64 x1] 78)) := (by repeat (first | (with_reducible exact Below.refl _ _) | (with_reducible assumption) | (with_reducible refine bset ?_ ?_ _) | (with_reducible refine balloc ?_ _) | (with_reducible refine Below.drew ?_) | (with_reducible refine bdrewN ?_ _) | (with_reducible refine bnext ?_ (by with_reducible assumption)) | exact Nat.le_refl _ | (simp; done) | omega | (simp; omega)))
              have e6 : Hid (Own (((wr.setCell ⟨w.heap.size, 0, none⟩ (.int .i64 q0)).setCell ⟨w.heap.size, 1, none⟩ (.int .i64 q1)).alloc (.cells #[.int .i64 x0, .int .i64 x1] 78)) (w.heap.size + 1) 78 2 A1 sa.length c1 (sa.flatMap Rng.cells)) := Lib.hid (((HO1.out.setCell (p := ⟨w.heap.size, 0, none⟩) (fun e => by have := (HL1.out w.heap.size e).1; omega) _).setCell (p := ⟨w.heap.size, 1, none⟩) (fun e => by have := (HL1.out w.heap.size e).1; omega) _).alloc _)
              have e7 : Hid (Own (((wr.setCell ⟨w.heap.size, 0, none⟩ (.int .i64 q0)).setCell ⟨w.heap.size, 1, none⟩ (.int .i64 q1)).alloc (.cells #[.int .i64 x0, .int .i64 x1] 78)) (w.heap.size + 1) 78 2 A2 sb.length c2 (sb.flatMap Rng.cells)) := Lib.hid (((HO2.out.setCell (p := ⟨w.heap.size, 0, none⟩) (fun e => by have := (HL2.out w.heap.size e).1; omega) _).setCell (p := ⟨w.heap.size, 1, none⟩) (fun e => by have := (HL2.out w.heap.size e).1; omega) _).alloc _)
              clear HL1 HL2 HO1 HO2
              go_roundw
              case rel => exact ⟨k + 1, ⟨sa, ⟨q0, q1⟩, sb⟩, A1, A2, c1, c2, by go_num, by omega, rfl, rfl, by simp only; omega, by simp only; omega, Lib.hid (by rw [HSN.out]; exact HST.out.symm), by simp [go_sem, *], by simp [go_sem, *], by simp [go_sem, *], by simp [go_sem, *], by simp; omega, e6, e7, HT, e5⟩
              case measure => simp [intOf]; omega
    · obtain rfl : k = l.length := by omega
      have HSM : Hid (had.mg l ⟨r0, r1⟩ = s) := Lib.hid (by rw [HS.out, List.take_length]; rfl)
      clear HS
      obtain ⟨sa, sr, sb⟩ := s
      obtain ⟨q0, q1⟩ := sr
      dsimp only at *
      by_cases k1 : q0 ≤ done
      · have HOU0 : Hid (had.out done (had.mg l ⟨r0, r1⟩) = (max done q1, sb)) := Lib.hid (by rw [HSM.out]; unfold had.out; rw [if_pos k1])
        have HRB : Hid (SlRep Rng.rep wr (fun q => w.heap.size ≤ q ∧ q < wr.heap.size) sb A2 c2) := Lib.hid (HO2.out.rng.2.keep fun q hq => ⟨⟨by omega, hq.2⟩, rfl⟩)
        by_cases k2 : done < q1
        · have HOU : Hid (had.out done (had.mg l ⟨r0, r1⟩) = (q1, sb)) := Lib.hid (by rw [HOU0.out, show max done q1 = q1 by omega])
          go_wp2
          go_ret2
          exact ⟨A2, c2, by rw [HOU.out]; rfl, by rw [HOU.out]; exact HRB.out, hB, by rw [HOU.out]; simp only; omega⟩
        · have HOU : Hid (had.out done (had.mg l ⟨r0, r1⟩) = (done, sb)) := Lib.hid (by rw [HOU0.out, show max done q1 = done by omega])
          go_wp2
          go_ret2
          exact ⟨A2, c2, by rw [HOU.out]; rfl, by rw [HOU.out]; exact HRB.out, hB, by rw [HOU.out]; simp only; omega⟩
      · have HOU : Hid (had.out done (had.mg l ⟨r0, r1⟩) = (done, sa ++ [⟨q0, q1⟩] ++ sb)) := Lib.hid (by rw [HSM.out]; unfold had.out; rw [if_neg k1])
        have HCC := Lib.hid (concat3_rng sa [⟨q0, q1⟩] sb A1 (some ⟨wr.heap.size, 0, none⟩) A2 c1 1 c2 (wr.heap.size + 1) ((wr.alloc (.cells #[.int .i64 q0, .int .i64 q1] 78)).alloc (.cells #[.slice A1 sa.length c1, .slice (some ⟨wr.heap.size, 0, none⟩) 1 1, .slice A2 sb.length c2] 39)) (by simp) (by simp [go_sem]) (by simp [go_sem]) (by simp [go_sem])
          (((HO1.out.rng.2).keep (S' := (· < wr.heap.size)) fun q hq => ⟨hq.2, rfl⟩).next (by repeat (first | (with_reducible exact Below.refl _ _) | (with_reducible assumption) | (with_reducible refine bset ?_ ?_ _) | (with_reducible refine balloc ?_ _) | (with_reducible refine Below.drew ?_) | (with_reducible refine bdrewN ?_ _) | (with_reducible refine bnext ?_ (by with_reducible assumption)) | exact Nat.le_refl _ | (simp; done) | omega | (simp; omega))))
          ((Own.rng (l := [⟨q0, q1⟩]) (Own.lit wr wr.heap.size 78 2 1 [.int .i64 q0, .int .i64 q1] (Nat.le_refl _) rfl (by decide))).2.keep fun q hq => ⟨by have := hq.2; simp at this ⊢; omega, by rw [Below.heap_alloc _ _ q hq.2]⟩)
          (((HO2.out.rng.2).keep (S' := (· < wr.heap.size)) fun q hq => ⟨hq.2, rfl⟩).next (by repeat (first | (with_reducible exact Below.refl _ _) | (with_reducible assumption) | (with_reducible refine bset ?_ ?_ _) | (with_reducible refine balloc ?_ _) | (with_reducible refine Below.drew ?_) | (with_reducible refine bdrewN ?_ _) | (with_reducible refine bnext ?_ (by with_reducible assumption)) | exact Nat.le_refl _ | (simp; done) | omega | (simp; omega)))) (by simp; omega))
        have HLE : Hid ((sa ++ [(⟨q0, q1⟩ : Rng)] ++ sb).length ≤ 40) := Lib.hid (by simp; omega)
        go_wp2_with (first
          | (go_at_call 78; refine HCC.out.mono ?_; rintro e w3 ⟨A3, c3, rfl, ho3, hb3⟩)
          | fail)
        go_ret2
        exact ⟨A3, c3, by rw [HOU.out]; show Ending.returned (.tuple #[.int .i64 done, .slice A3 (sa.length + (sb.length + 1)) c3]) = _; simp, by rw [HOU.out]; exact ho3.rng.2.keep fun q hq => ⟨⟨by have := hq.1; simp at this; omega, hq.2⟩, rfl⟩, (by repeat (first | (with_reducible exact Below.refl _ _) | (with_reducible assumption) | (with_reducible refine bset ?_ ?_ _) | (with_reducible refine balloc ?_ _) | (with_reducible refine Below.drew ?_) | (with_reducible refine bdrewN ?_ _) | (with_reducible refine bnext ?_ (by with_reducible assumption)) | exact Nat.le_refl _ | (simp; done) | omega | (simp; omega))), by rw [HOU.out]; exact HLE.out⟩
end Go.Proofs.Ytdldfllllgogoaa
namespace Go.Proofs.Ytdldfllllgogoaa
open Go.RowKit

/-- the gaps ahead of the first k ranges -/
def gapsTo (done : Int) (l : List Rng) : Nat → List Rng
  | 0 => []
  | k + 1 => gapsTo done l k ++ [⟨endAt done l k, (l.getD k Rng.z).lo⟩]
theorem gapsTo_length (done : Int) (l : List Rng) (k : Nat) : (gapsTo done l k).length = k := by
  induction k with
  | zero => rfl
  | succ k ih => simp [gapsTo, ih]

theorem hole_May_yes (done : Int) (l : List Rng) (A : Option Addr) (c : Nat) (w : World) (hl : SlRep Rng.rep w (· < w.heap.size) l A c) (hn : l.length ≤ 140737488351232) (h : holeMayB done l = true) :
    Calls Try.prog 73 #[.int .i64 done, .slice A l.length c] w fun e w' => e = .returned (.bool true) ∧ Below w.heap.size w w' := by rw [← h]; exact hole_May done l A c w hl hn
theorem hole_May_no (done : Int) (l : List Rng) (A : Option Addr) (c : Nat) (w : World) (hl : SlRep Rng.rep w (· < w.heap.size) l A c) (hn : l.length ≤ 140737488351232) (h : holeMayB done l = false) :
    Calls Try.prog 73 #[.int .i64 done, .slice A l.length c] w fun e w' => e = .returned (.bool false) ∧ Below w.heap.size w w' := by rw [← h]; exact hole_May done l A c w hl hn
theorem ref_HoleMay_yes (done : Int) (l : List Rng) (A : Option Addr) (c : Nat) (w : World) (hl : SlRep Rng.rep w (· < w.heap.size) l A c) (hn : l.length ≤ 140737488351232) (h : holeMayB done l = true) :
    Calls Try.prog 75 #[.int .i64 done, .slice A l.length c] w fun e w' => e = .returned (.bool true) ∧ Below w.heap.size w w' := by rw [← h]; exact ref_HoleMay done l A c w hl hn
theorem ref_HoleMay_no (done : Int) (l : List Rng) (A : Option Addr) (c : Nat) (w : World) (hl : SlRep Rng.rep w (· < w.heap.size) l A c) (hn : l.length ≤ 140737488351232) (h : holeMayB done l = false) :
    Calls Try.prog 75 #[.int .i64 done, .slice A l.length c] w fun e w' => e = .returned (.bool false) ∧ Below w.heap.size w w' := by rw [← h]; exact ref_HoleMay done l A c w hl hn

end Go.Proofs.Ytdldfllllgogoaa
