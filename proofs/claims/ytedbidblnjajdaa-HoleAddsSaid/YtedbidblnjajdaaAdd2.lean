/- Package hole: the reference of Add. No condition. -/
import Derived.Test.YtedbidblnjajdaaAdd
import Derived.Test.YtedbidblnjajdaaHole2
import Derived.Deep.DeepCutAuto
import Derived.IntWalk
namespace Go.Proofs.Ytedbidblnjajdaa
open Go.RowKit

theorem blk_keep {w w' : World} {A : Option Addr} {xs : List Value} (h : Cells w A xs) (hk : ∀ g, blkOf A = some g → w'.heap[g]? = w.heap[g]?) : Cells w' A xs := by
  rcases h with h | ⟨b, o, rfl, hc⟩
  · exact .inl h
  · exact .inr ⟨b, o, rfl, fun j u hu => (World.cell?_of_block (hk b rfl)).trans (hc j u hu)⟩
theorem grew_keep2 {w0 W2 w3 : World} {A A' : Option Addr} (hg : Grew W2 w3 A A') (hb : Below w0.heap.size w0 W2) : ∀ j, j < w0.heap.size → ¬ blkOf A = some j → w3.heap[j]? = w0.heap[j]? := fun j hj hne =>
  (hg.grown.block j (Nat.lt_of_lt_of_le hj hb.size) (fun e => hne e.symm)).trans (hb.block j hj)
theorem grew_new2 {w0 W2 w3 : World} {A A' : Option Addr} (hg : Grew W2 w3 A A') (hb : Below w0.heap.size w0 W2) : ∀ j, blkOf A' = some j → blkOf A = some j ∨ w0.heap.size ≤ j := fun j hj => by
  rcases hg.blk with h | ⟨g, h1, h2⟩
  · exact .inl (h ▸ hj)
  · rw [h2] at hj
    cases hj
    exact .inr (Nat.le_trans hb.size h1)
namespace had
def insR (P : List Int) (x : Rng) : List Int := ins x.hi (ins x.lo P)
theorem places_fold (done : Int) (all : List Rng) : places done all = all.foldl insR (ins done (ins 0 [])) := rfl
theorem insR_len (P : List Int) (x : Rng) : (insR P x).length ≤ P.length + 2 := by
  have h1 := ins_len x.hi (ins x.lo P)
  have h2 := ins_len x.lo P
  unfold insR
  omega
theorem fold_len : ∀ (all : List Rng) (P : List Int), (all.foldl insR P).length ≤ P.length + 2 * all.length
  | [], P => by simp
  | x :: all, P => by
    have h1 := fold_len all (insR P x)
    have h2 := insR_len P x
    rw [List.foldl_cons, List.length_cons]
    omega
theorem start_len (done : Int) : (ins done (ins 0 [])).length ≤ 2 := by
  have h1 := ins_len done (ins 0 [])
  have h2 := ins_len 0 []
  simp at h2
  omega
/-- what Add answers -/
noncomputable def ans (done : Int) (l : List Rng) (r : Rng) : Int × List Rng × Int :=
  if holeMayB done l = false then (0, [], 4) else if r.lo < 0 ∨ r.hi < r.lo ∨ 1048576 < r.hi then (0, [], 2) else if 16 < (addTo done l r).2.length then (0, [], 9) else ((addTo done l r).1, (addTo done l r).2, 0)
def AddRes (a : Int × List Rng × Int) (w : World) (e : Ending) (w' : World) : Prop :=
  ∃ A c, e = .returned (.tuple #[.int .i64 a.1, .slice A a.2.1.length c, .int .i64 a.2.2]) ∧ SlRep Rng.rep w' (fun k => w.heap.size ≤ k ∧ k < w'.heap.size) a.2.1 A c ∧ Below w.heap.size w w'
theorem AddRes.no {a : Int × List Rng × Int} {c : Int} (h : a = (0, [], c)) {w w' : World} (hb : Below w.heap.size w w') : AddRes a w (.returned (.tuple #[.int .i64 0, .slice none 0 0, .int .i64 c])) w' := by
  subst h
  exact ⟨none, 0, rfl, sl_nil _ _ _, hb⟩
theorem AddRes.yes {a : Int × List Rng × Int} {d : Int} {l : List Rng} (h : a = (d, l, 0)) {w w' : World} {A : Option Addr} {n c : Nat} (hn : n = l.length) (hl : SlRep Rng.rep w' (fun k => w.heap.size ≤ k ∧ k < w'.heap.size) l A c) (hb : Below w.heap.size w w') : AddRes a w (.returned (.tuple #[.int .i64 d, .slice A n c, .int .i64 0])) w' := by
  subst h; subst hn
  exact ⟨A, c, rfl, hl, hb⟩
theorem grow_no {done : Int} {all o : List Rng} {a b : Int} (h : ¬ came done all a) : grow done all o a b = o := by unfold grow; rw [if_neg h]
theorem grow_first {done : Int} {all : List Rng} {a b : Int} (h : came done all a) : grow done all [] a b = [⟨a, b⟩] := by unfold grow; rw [if_pos h]; rfl
theorem grow_on {done : Int} {all o : List Rng} {x : Rng} {a b : Int} (h : came done all a) (e : x.hi = a) : grow done all (o ++ [x]) a b = o ++ [⟨x.lo, b⟩] := by
  unfold grow; rw [if_pos h]
  simp [e]
theorem grow_new {done : Int} {all o : List Rng} {x : Rng} {a b : Int} (h : came done all a) (e : x.hi ≠ a) : grow done all (o ++ [x]) a b = (o ++ [x]) ++ [⟨a, b⟩] := by
  unfold grow; rw [if_pos h]
  simp [e]
end had

set_option maxHeartbeats 1000000 in
theorem ref_HoleAdd_no (done : Int) (l : List Rng) (r : Rng) (A : Option Addr) (c : Nat) (w : World) (hl : SlRep Rng.rep w (· < w.heap.size) l A c) (hn : l.length ≤ 140737488351232) (h : holeMayB done l = false) :
    Calls Try.prog 42 #[.int .i64 done, .slice A l.length c, .agg #[.int .i64 r.lo, .int .i64 r.hi]] w (had.AddRes (had.ans done l r) w) := by
  have HC := Lib.hid (ref_HoleMay_no done l A c (w.alloc (.cells #[.int .i64 r.lo, .int .i64 r.hi] 64)) (hl.next (by repeat (first | (with_reducible exact Below.refl _ _) | (with_reducible assumption) | (with_reducible refine bset ?_ ?_ _) | (with_reducible refine balloc ?_ _) | (with_reducible refine Below.drew ?_) | (with_reducible refine bdrewN ?_ _) | (with_reducible refine bnext ?_ (by with_reducible assumption)) | exact Nat.le_refl _ | (simp; done) | omega | (simp; omega)))) hn h)
  have HA : Hid (had.ans done l r = (0, [], 4)) := Lib.hid (if_pos h)
  clear hl h
  go_enter Try.func42, Try.ntmps42
  go_wp2_with (first
    | (go_at_call 50; refine HC.out.mono ?_; rintro e w1 ⟨rfl, hb1⟩)
    | fail)
  go_ret3
  exact had.AddRes.no HA.out (by repeat (first | (with_reducible exact Below.refl _ _) | (with_reducible assumption) | (with_reducible refine bset ?_ ?_ _) | (with_reducible refine balloc ?_ _) | (with_reducible refine Below.drew ?_) | (with_reducible refine bdrewN ?_ _) | (with_reducible refine bnext ?_ (by with_reducible assumption)) | exact Nat.le_refl _ | (simp; done) | omega | (simp; omega)))

set_option maxHeartbeats 1000000 in
theorem ref_HoleAdd_bad (done : Int) (l : List Rng) (r : Rng) (A : Option Addr) (c : Nat) (w : World) (hl : SlRep Rng.rep w (· < w.heap.size) l A c) (hn : l.length ≤ 140737488351232) (h : holeMayB done l = true) (hr : r.lo < 0 ∨ r.hi < r.lo ∨ 1048576 < r.hi) :
    Calls Try.prog 42 #[.int .i64 done, .slice A l.length c, .agg #[.int .i64 r.lo, .int .i64 r.hi]] w (had.AddRes (had.ans done l r) w) := by
  have HC := Lib.hid (ref_HoleMay_yes done l A c (w.alloc (.cells #[.int .i64 r.lo, .int .i64 r.hi] 64)) (hl.next (by repeat (first | (with_reducible exact Below.refl _ _) | (with_reducible assumption) | (with_reducible refine bset ?_ ?_ _) | (with_reducible refine balloc ?_ _) | (with_reducible refine Below.drew ?_) | (with_reducible refine bdrewN ?_ _) | (with_reducible refine bnext ?_ (by with_reducible assumption)) | exact Nat.le_refl _ | (simp; done) | omega | (simp; omega)))) hn h)
  have HA : Hid (had.ans done l r = (0, [], 2)) := Lib.hid (by unfold had.ans; rw [if_neg (by rw [h]; decide), if_pos hr])
  clear hl h
  obtain ⟨r0, r1⟩ := r
  dsimp only at *
  go_enter Try.func42, Try.ntmps42
  by_cases h1 : r0 < 0
  · go_wp2_with (first
      | (go_at_call 50; refine HC.out.mono ?_; rintro e w1 ⟨rfl, hb1⟩; have B1 : Below w.heap.size w w1 := (by repeat (first | (with_reducible exact Below.refl _ _) | (with_reducible assumption) | (with_reducible refine bset ?_ ?_ _) | (with_reducible refine balloc ?_ _) | (with_reducible refine Below.drew ?_) | (with_reducible refine bdrewN ?_ _) | (with_reducible refine bnext ?_ (by with_reducible assumption)) | exact Nat.le_refl _ | (simp; done) | omega | (simp; omega))); have ha1 : ∀ b o, b < w.heap.size → w1.cell? ⟨b, o, none⟩ = w.cell? ⟨b, o, none⟩ := fun b o h => B1.cell (p := ⟨b, o, none⟩) h; have hk1 : ∀ k, k < w.heap.size → k < w1.heap.size := fun _ h => Nat.lt_of_lt_of_le h B1.size; have hz1 := hb1.size; (try simp at hz1); have hl1_w0 : w.heap.size < w1.heap.size := Nat.lt_of_lt_of_le (by first | (simp; done) | (simp; omega) | omega) hb1.size; have hc1_w0 := fun o => hb1.cell (p := ⟨w.heap.size, o, none⟩) (by first | (simp; done) | (simp; omega) | omega); have hf1_w0 := fun o => hb1.frozen (p := ⟨w.heap.size, o, none⟩) (by first | (simp; done) | (simp; omega) | omega); (try simp [go_sem, *] at hc1_w0); (try simp [go_sem, *] at hf1_w0); clear hb1)
      | fail)
    go_ret3
    exact had.AddRes.no HA.out B1
  · by_cases h2 : r1 < r0
    · go_wp2_with (first
        | (go_at_call 50; refine HC.out.mono ?_; rintro e w1 ⟨rfl, hb1⟩; have B1 : Below w.heap.size w w1 := (by repeat (first | (with_reducible exact Below.refl _ _) | (with_reducible assumption) | (with_reducible refine bset ?_ ?_ _) | (with_reducible refine balloc ?_ _) | (with_reducible refine Below.drew ?_) | (with_reducible refine bdrewN ?_ _) | (with_reducible refine bnext ?_ (by with_reducible assumption)) | exact Nat.le_refl _ | (simp; done) | omega | (simp; omega))); have ha1 : ∀ b o, b < w.heap.size → w1.cell? ⟨b, o, none⟩ = w.cell? ⟨b, o, none⟩ := fun b o h => B1.cell (p := ⟨b, o, none⟩) h; have hk1 : ∀ k, k < w.heap.size → k < w1.heap.size := fun _ h => Nat.lt_of_lt_of_le h B1.size; have hz1 := hb1.size; (try simp at hz1); have hl1_w0 : w.heap.size < w1.heap.size := Nat.lt_of_lt_of_le (by first | (simp; done) | (simp; omega) | omega) hb1.size; have hc1_w0 := fun o => hb1.cell (p := ⟨w.heap.size, o, none⟩) (by first | (simp; done) | (simp; omega) | omega); have hf1_w0 := fun o => hb1.frozen (p := ⟨w.heap.size, o, none⟩) (by first | (simp; done) | (simp; omega) | omega); (try simp [go_sem, *] at hc1_w0); (try simp [go_sem, *] at hf1_w0); clear hb1)
        | fail)
      go_ret3
      exact had.AddRes.no HA.out B1
    · have h3 : 1048576 < r1 := by omega
      go_wp2_with (first
        | (go_at_call 50; refine HC.out.mono ?_; rintro e w1 ⟨rfl, hb1⟩; have B1 : Below w.heap.size w w1 := (by repeat (first | (with_reducible exact Below.refl _ _) | (with_reducible assumption) | (with_reducible refine bset ?_ ?_ _) | (with_reducible refine balloc ?_ _) | (with_reducible refine Below.drew ?_) | (with_reducible refine bdrewN ?_ _) | (with_reducible refine bnext ?_ (by with_reducible assumption)) | exact Nat.le_refl _ | (simp; done) | omega | (simp; omega))); have ha1 : ∀ b o, b < w.heap.size → w1.cell? ⟨b, o, none⟩ = w.cell? ⟨b, o, none⟩ := fun b o h => B1.cell (p := ⟨b, o, none⟩) h; have hk1 : ∀ k, k < w.heap.size → k < w1.heap.size := fun _ h => Nat.lt_of_lt_of_le h B1.size; have hz1 := hb1.size; (try simp at hz1); have hl1_w0 : w.heap.size < w1.heap.size := Nat.lt_of_lt_of_le (by first | (simp; done) | (simp; omega) | omega) hb1.size; have hc1_w0 := fun o => hb1.cell (p := ⟨w.heap.size, o, none⟩) (by first | (simp; done) | (simp; omega) | omega); have hf1_w0 := fun o => hb1.frozen (p := ⟨w.heap.size, o, none⟩) (by first | (simp; done) | (simp; omega) | omega); (try simp [go_sem, *] at hc1_w0); (try simp [go_sem, *] at hf1_w0); clear hb1)
        | fail)
      go_ret3
      exact had.AddRes.no HA.out B1

set_option maxRecDepth 100000 in
set_option maxHeartbeats 8000000 in
theorem ref_HoleAdd_ok (done : Int) (l : List Rng) (r : Rng) (A : Option Addr) (c : Nat) (w : World) (hl : SlRep Rng.rep w (· < w.heap.size) l A c) (hm : HoleMay done l) (h0 : 0 ≤ r.lo) (h1 : r.lo ≤ r.hi) (h2 : r.hi ≤ 1048576) :
    Calls Try.prog 42 #[.int .i64 done, .slice A l.length c, .agg #[.int .i64 r.lo, .int .i64 r.hi]] w (had.AddRes (had.ans done l r) w) := by
  have HC := Lib.hid (ref_HoleMay_yes done l A c (w.alloc (.cells #[.int .i64 r.lo, .int .i64 r.hi] 64)) (hl.next (by repeat (first | (with_reducible exact Below.refl _ _) | (with_reducible assumption) | (with_reducible refine bset ?_ ?_ _) | (with_reducible refine balloc ?_ _) | (with_reducible refine Below.drew ?_) | (with_reducible refine bdrewN ?_ _) | (with_reducible refine bnext ?_ (by with_reducible assumption)) | exact Nat.le_refl _ | (simp; done) | omega | (simp; omega)))) (by have := hm.2.2.1; omega) (holeMayB_true hm))
  have hl16 : l.length ≤ 16 := hm.2.2.1
  have HL := Lib.hid hl
  have HM := Lib.hid hm
  obtain ⟨r0, r1⟩ := r
  dsimp only at *
  clear hl hm
  go_enter Try.func42, Try.ntmps42
  go_wp2_with (first
    | (go_at_call 50; refine HC.out.mono ?_; rintro e w1 ⟨rfl, hb1⟩; have hb1' := hb1; have B1 : Below w.heap.size w w1 := (by repeat (first | (with_reducible exact Below.refl _ _) | (with_reducible assumption) | (with_reducible refine bset ?_ ?_ _) | (with_reducible refine balloc ?_ _) | (with_reducible refine Below.drew ?_) | (with_reducible refine bdrewN ?_ _) | (with_reducible refine bnext ?_ (by with_reducible assumption)) | exact Nat.le_refl _ | (simp; done) | omega | (simp; omega))); have ha1 : ∀ b o, b < w.heap.size → w1.cell? ⟨b, o, none⟩ = w.cell? ⟨b, o, none⟩ := fun b o h => B1.cell (p := ⟨b, o, none⟩) h; have hk1 : ∀ k, k < w.heap.size → k < w1.heap.size := fun _ h => Nat.lt_of_lt_of_le h B1.size; have hz1 := hb1.size; (try simp at hz1); have hl1_w0 : w.heap.size < w1.heap.size := Nat.lt_of_lt_of_le (by first | (simp; done) | (simp; omega) | omega) hb1.size; have hc1_w0 := fun o => hb1.cell (p := ⟨w.heap.size, o, none⟩) (by first | (simp; done) | (simp; omega) | omega); have hf1_w0 := fun o => hb1.frozen (p := ⟨w.heap.size, o, none⟩) (by first | (simp; done) | (simp; omega) | omega); (try simp [go_sem, *] at hc1_w0); (try simp [go_sem, *] at hf1_w0); clear hb1)
    | fail)
  clear HC
  have hz1 := B1.size
  have hw1 : w.heap.size < w1.heap.size := by have := hb1'.size; simp at this; omega
  have e0 : w1.cell? ⟨w.heap.size, 0, none⟩ = some (.int .i64 r0) := (hb1'.cell (p := ⟨w.heap.size, 0, none⟩) (by simp)).trans (by simp [go_sem])
  have e1 : w1.cell? ⟨w.heap.size, 1, none⟩ = some (.int .i64 r1) := (hb1'.cell (p := ⟨w.heap.size, 1, none⟩) (by simp)).trans (by simp [go_sem])
  have HAL : Hid ((l ++ [(⟨r0, r1⟩ : Rng)]).length = l.length + 1) := Lib.hid (by simp)
  have HFM : Hid ((l ++ [(⟨r0, r1⟩ : Rng)]).flatMap Rng.cells = l.flatMap Rng.cells ++ [.int .i64 r0, .int .i64 r1]) := Lib.hid (by rw [List.flatMap_append]; rfl)
  have HCL : Hid (∀ W, Below w.heap.size w W → Cells W A (l.flatMap Rng.cells)) := Lib.hid fun W hW => (HL.out.next hW).cells_flat Rng.cells rfl (fun a cs h => Rng.rep_iff.1 h) (fun _ => rfl) (by decide)
  have HLN : Hid ((l.flatMap Rng.cells).length = l.length * 2) := Lib.hid (flatMap_len Rng.cells 2 (fun _ => rfl) l)
  have HON : Hid (∀ u ∈ l.flatMap Rng.cells, u.oneCell' = true) := Lib.hid (Rng.one l)
  go_cut [9] (fun s9 wx => ∃ A1 c1, s9 = .slice A1 (l.length + 1) c1 ∧ Hid (Own wx w.heap.size 64 2 A1 (l.length + 1) c1 ((l ++ [(⟨r0, r1⟩ : Rng)]).flatMap Rng.cells)) ∧ Below w.heap.size w wx)
  case first =>
    have HBX : Hid (∀ m, Cells ((w1.drewN m).alloc (.cells #[.int .i64 r0, .int .i64 r1] 64)) (some ⟨w1.heap.size, 0, none⟩) [.int .i64 r0, .int .i64 r1]) := Lib.hid fun m => Cells.newAt (w1.drewN m) 64 [.int .i64 r0, .int .i64 r1] rfl
    have HNG : Hid (∀ q, blkOf (none : Option Addr) ≠ some q) := Lib.hid fun q => by simp [blkOf]
    have HS1 : Hid (∀ m o, w1.heap.size < ((w1.drewN m).alloc o).heap.size) := Lib.hid fun m o => by simp
    go_region_law
      (first
        | ((refine step_app _ (by rfl) _ _ _ (by rfl) elemRng w.heap.size none 0 0 [] (by rfl) (Own.nil _ _ _ _) A l.length c (l.flatMap Rng.cells) (by rfl) HLN.out (HCL.out _ (by repeat (first | (with_reducible exact Below.refl _ _) | (with_reducible assumption) | (with_reducible refine bset ?_ ?_ _) | (with_reducible refine balloc ?_ _) | (with_reducible refine Below.drew ?_) | (with_reducible refine bdrewN ?_ _) | (with_reducible refine bnext ?_ (by with_reducible assumption)) | exact Nat.le_refl _ | (simp; done) | omega | (simp; omega)))) HON.out (by omega) (by unfold maxLen; omega) (Below.size (by exact (by repeat (first | (with_reducible exact Below.refl _ _) | (with_reducible assumption) | (with_reducible refine bset ?_ ?_ _) | (with_reducible refine balloc ?_ _) | (with_reducible refine Below.drew ?_) | (with_reducible refine bdrewN ?_ _) | (with_reducible refine bnext ?_ (by with_reducible assumption)) | exact Nat.le_refl _ | (simp; done) | omega | (simp; omega))) : Below w.heap.size w _)) ?_; intro A2 c2 w2 hO2 hg2; rw [Nat.zero_add, List.nil_append] at hO2; have hbW : Below w.heap.size w w2 := Grew.step (by exact (by repeat (first | (with_reducible exact Below.refl _ _) | (with_reducible assumption) | (with_reducible refine bset ?_ ?_ _) | (with_reducible refine balloc ?_ _) | (with_reducible refine Below.drew ?_) | (with_reducible refine bdrewN ?_ _) | (with_reducible refine bnext ?_ (by with_reducible assumption)) | exact Nat.le_refl _ | (simp; done) | omega | (simp; omega)))) hg2 (fun q hq => absurd hq (HNG.out q)); have x0 := (hg2.cell (b := w.heap.size) 0 (by first | exact hw1 | (simp; omega)) (fun q hq => absurd hq (HNG.out q))); have x1 := (hg2.cell (b := w.heap.size) 1 (by first | exact hw1 | (simp; omega)) (fun q hq => absurd hq (HNG.out q))); simp [go_sem, e0] at x0; simp [go_sem, e1] at x1))
        | ((refine step_app _ (by rfl) _ _ _ (by rfl) elemRng w.heap.size A2 l.length c2 (l.flatMap Rng.cells) (by rfl) (hO2.alloc _) (some ⟨w2.heap.size, 0, none⟩) 1 1 [.int .i64 r0, .int .i64 r1] (by rfl) (by rfl) (Cells.newAt _ _ _ (by rfl)) (by simp [Value.oneCell']) (by omega) (by unfold maxLen; omega) (by have := hbW.size; simp; omega) ?_; intro A3 c3 w3 hO3 hg3; have hb3 : Below w.heap.size w w3 := Grew.step (balloc hbW _) hg3 (fun q hq => (hO2.lt q hq).1)))
        | ((refine step_app _ (by rfl) _ _ _ (by rfl) elemRng w.heap.size A2 l.length c2 (l.flatMap Rng.cells) (by rfl) hO2 (some ⟨w1.heap.size, 0, none⟩) 1 1 [.int .i64 r0, .int .i64 r1] (by rfl) (by rfl) (blk_keep (HBX.out _) (fun q hq => hg2.grown.block q (by cases hq; exact HS1.out _ _) (fun e => HNG.out q e.symm))) (by simp [Value.oneCell']) (by omega) (by unfold maxLen; omega) hbW.size ?_; intro A3 c3 w3 hO3 hg3; have hb3 : Below w.heap.size w w3 := Grew.step hbW hg3 (fun q hq => (hO2.lt q hq).1)))
        | fail)
    all_goals
      have HO3 := Lib.hid hO3
      rw [← HFM.out] at HO3
      (try go_wp2_with fail)
      go_meet
      exact ⟨A3, c3, rfl, HO3, hb3⟩
  case rest =>
    obtain ⟨A1, c1, rfl, HO1, hB1⟩ := hcut
    rename World => W0
    clear e0 e1 HL HCL HLN HON hb1' hz1 hw1
    have hsW := hB1.size
    have HF := Lib.hid (had.fit_places (done := done) (all := l ++ [(⟨r0, r1⟩ : Rng)]) HM.out.1 (fun x hx => by
      rcases List.mem_append.1 hx with hx | hx
      · have h3 := (had.canon_of l done HM.out.2.2.2.1).mem x hx
        have := HM.out.1
        omega
      · simp at hx; subst hx; exact ⟨h0, h1⟩))
    have HB := Lib.hid (fun i => had.both (done := done) (l := l) (r := ⟨r0, r1⟩) (i := i) HM.out.1 (had.canon_of l done HM.out.2.2.2.1) h0 h1)
    have HPF := Lib.hid (had.places_fold done (l ++ [(⟨r0, r1⟩ : Rng)]))
    have HPL : Hid ((had.places done (l ++ [(⟨r0, r1⟩ : Rng)])).length ≤ 40) := Lib.hid (by
      have h3 := had.fold_len (l ++ [(⟨r0, r1⟩ : Rng)]) (had.ins done (had.ins 0 []))
      have h4 := had.start_len done
      rw [HPF.out]
      rw [HAL.out] at h3
      omega)
    have HAN : Hid (had.ans done l ⟨r0, r1⟩ = if 16 < (had.addTo done l ⟨r0, r1⟩).2.length then (0, [], 9) else ((had.addTo done l ⟨r0, r1⟩).1, (had.addTo done l ⟨r0, r1⟩).2, 0)) := Lib.hid (by
      unfold had.ans
      rw [if_neg (by rw [holeMayB_true HM.out]; decide), if_neg (by simp only; omega)])
    have HAR : Hid (SlRep Rng.rep W0 (fun q => w.heap.size ≤ q ∧ q < W0.heap.size) (l ++ [(⟨r0, r1⟩ : Rng)]) A1 c1) := Lib.hid HO1.out.rng.2
    have hall : (l ++ [(⟨r0, r1⟩ : Rng)]).length ≤ 17 := by rw [HAL.out]; omega
    rw [← HAL.out]
    clear HM HFM HO1 HAL
    generalize l ++ [(⟨r0, r1⟩ : Rng)] = al at *
    have hI0 : IBox (W0.alloc (.cells #[.slice none 0 0] 68)) W0.heap.size (fun _ => False) [] := ⟨none, 0, by simp [go_sem], by simp [go_sem], Own.nil _ _ _ _, by simp, fun h => h, fun g hg => by cases hg⟩
    have HI0 := Lib.hid hI0
    clear hI0
    have HU1 := Lib.hid (ref_insert 0 W0.heap.size (fun _ => False) [] _ HI0.out (fun _ h => h.elim) (by simp))
    go_wp2_with (first
      | (go_at_call 71; (with_reducible refine HU1.out.mono ?_); rintro e w2 ⟨rfl, hi2, hb2, _⟩; have HI2 := Lib.hid hi2; clear hi2; have HU2 := Lib.hid (ref_insert done W0.heap.size (fun _ => False) _ _ HI2.out (fun _ h => h.elim) (by have := had.ins_len 0 []; simp at this; omega)))
      | (go_at_call 71; (with_reducible refine HU2.out.mono ?_); rintro e w3 ⟨rfl, hi3, hb3, _⟩; have HI3 := Lib.hid hi3; clear hi3)
      | fail)
    clear HU1 HU2 HI0 HI2
    have hB3 : Below W0.heap.size W0 w3 := (((Below.refl W0.heap.size W0).alloc (Nat.le_refl _) _).trans hb2).trans hb3
    clear hb2 hb3
    have HP0 := Lib.hid (had.start_len done)
    generalize had.ins done (had.ins 0 []) = P0 at *
    go_loopw [50] (fun i wr => ∃ k : Nat, i = .int .i64 k ∧ k ≤ al.length ∧ Hid (IBox wr W0.heap.size (fun _ => False) ((al.take k).foldl had.insR P0)) ∧ Below W0.heap.size W0 wr) (fun i _ => al.length - (intOf i).toNat)
    case atStart => exact ⟨0, rfl, by omega, HI3, hB3⟩
    case round =>
      obtain ⟨k, rfl, hk, HI, hB⟩ := hrel
      rename World => wr
      have hbx := HI.out
      have hzB : W0.heap.size < wr.heap.size := by obtain ⟨_, _, _, _, _, h, _⟩ := hbx; exact h
      clear hbx
      by_cases hlt : k < al.length
      · obtain ⟨bb, oo, rfl, hbb, hc1, hc2⟩ := Rng.cells_at Rng.z (HAR.out.keep (w' := wr) (S' := (· < W0.heap.size)) fun q hq => ⟨hq.2, hB.block q hq.2⟩) hlt
        have hlti : (k : Int) < (al.length : Int) := by omega
        have hbw : bb < wr.heap.size := Nat.lt_trans hbb hzB
        have HS := Lib.hid (had.take_succ hlt)
        have HLE : Hid (((al.take k).foldl had.insR P0).length ≤ 40) := Lib.hid (by
          have h3 := had.fold_len (al.take k) P0
          have h4 := HP0.out
          rw [List.length_take] at h3
          omega)
        have HFS : Hid ((al.take (k + 1)).foldl had.insR P0 = had.ins (al.getD k Rng.z).hi (had.ins (al.getD k Rng.z).lo ((al.take k).foldl had.insR P0))) := Lib.hid (by rw [HS.out, List.foldl_append]; rfl)
        clear HS
        generalize al.getD k Rng.z = x at *
        obtain ⟨x0, x1⟩ := x
        dsimp only at hc1 hc2 HFS
        generalize (al.take k).foldl had.insR P0 = Pk at *
        have HU3 := Lib.hid (ref_insert x0 W0.heap.size (fun j => j = wr.heap.size) Pk (wr.alloc (.cells #[.int .i64 x0, .int .i64 x1] 64)) (HI.out.keep (fun j hj _ => Below.heap_alloc _ _ j hj) (by simp) (fun j hj => .inr (Nat.le_of_eq hj.symm))) (fun j hj => by simp [hj]) (by have := HLE.out; omega))
        clear HI
        go_wp2_with (first
          | (go_at_call 71; ((with_reducible refine HU3.out.mono ?_); rintro e w4 ⟨rfl, hi4, hb4, hk4⟩; have HI4 := Lib.hid hi4; clear hi4; have hx4 := World.cell?_of_block (a := ⟨wr.heap.size, 1, none⟩) (hk4 wr.heap.size rfl); rw [World.cell?_alloc_new] at hx4; have hs4 := hb4.size; simp only [World.size_alloc] at hs4; have hy4 : w4.cell? ⟨wr.heap.size, 1, none⟩ = some (.int .i64 x1) := (by rw [hx4]; rfl); have hl4 : wr.heap.size < w4.heap.size := (by omega); have HU4 := Lib.hid (ref_insert x1 W0.heap.size (fun j => j = wr.heap.size) _ w4 HI4.out (fun j hj => by rw [hj]; exact hl4) (by have h3 := HLE.out; have h4 := had.ins_len x0 Pk; omega))))
          | (go_at_call 71; ((with_reducible refine HU4.out.mono ?_); rintro e w5 ⟨rfl, hi5, hb5, hk5⟩; have HI5 := Lib.hid hi5; clear hi5))
          | fail)
        go_roundw
        case rel => exact ⟨k + 1, by go_num, by omega, Lib.hid (by rw [HFS.out]; exact HI5.out.keep (fun _ _ _ => rfl) (Nat.le_refl _) (fun _ h => h.elim)), ((hB.trans ((Below.refl W0.heap.size wr).alloc (Nat.le_of_lt hzB) _)).trans hb4).trans hb5⟩
        case measure => simp [intOf]; omega
      · obtain rfl : k = al.length := by omega
        have hPP : (al.take al.length).foldl had.insR P0 = had.places done al := by rw [List.take_length]; exact HPF.out.symm
        rw [hPP] at HI
        clear HPF HP0 hPP HI3
        generalize had.places done al = P at *
        have hP0 := HF.out.first.1
        go_wp2
        go_loopw [14, 15] (fun ou iv wr => ∃ (i : Nat) (Ao : Option Addr) (co : Nat), iv = .int .i64 i ∧ i + 1 ≤ P.length ∧ ou = .slice Ao (had.sweep done al P i).length co ∧ Hid (IBox wr W0.heap.size (fun j => blkOf Ao = some j) P) ∧ Hid (Own wr (W0.heap.size + 1) 64 2 Ao (had.sweep done al P i).length co ((had.sweep done al P i).flatMap Rng.cells)) ∧ Below W0.heap.size W0 wr) (fun _ iv _ => P.length - (intOf iv).toNat)
        case atStart => exact ⟨0, none, 0, rfl, by omega, rfl, Lib.hid (HI.out.keep (fun _ _ _ => rfl) (Nat.le_refl _) (fun j h => by simp [blkOf] at h)), Lib.hid (Own.nil _ _ _ _), hB⟩
        case round =>
          clear HI hB
          obtain ⟨i, Ao, co, rfl, hi, rfl, HI, HO, hB⟩ := hrel
          rename_i wr' _ _
          rename World => wq
          obtain ⟨Ap, cp, p1, p2, p3, p4, p5, p6⟩ := HI.out
          have HSL := Lib.hid (had.sweep_len done al P i)
          have hPL := HPL.out
          by_cases hlt2 : i + 1 < P.length
          · have hlt2i : (i : Int) + 1 < (P.length : Int) := by omega
            have hlt1i : (i : Int) < (P.length : Int) := by omega
            obtain ⟨g, rfl, hg1, hg2, q1⟩ := int_cells p3 (j := i) (by omega)
            obtain ⟨g', eg, _, _, q2⟩ := int_cells p3 (j := i + 1) hlt2
            cases eg
            have HGR : Hid (had.sweep done al P (i + 1) = had.grow done al (had.sweep done al P i) (P.getD i 0) (P.getD (i + 1) 0)) := Lib.hid rfl
            have HCM := Lib.hid (ref_came done (P.getD i 0) al A1 c1 wq (HAR.out.keep fun q hq => ⟨Nat.lt_trans hq.2 p4, hB.block q hq.2⟩) (by omega))
            have HRD : Hid (∀ W, Below wq.heap.size wq W → W.cell? ⟨W0.heap.size, 0, none⟩ = some (.slice (some ⟨g, 0, none⟩) P.length cp) ∧ W.cell? ⟨g, i, none⟩ = some (.int .i64 (P.getD i 0)) ∧ W.cell? ⟨g, i + 1, none⟩ = some (.int .i64 (P.getD (i + 1) 0))) := Lib.hid fun W hW => ⟨(hW.cell (p := ⟨W0.heap.size, 0, none⟩) p4).trans p1, (hW.cell (p := ⟨g, i, none⟩) hg2).trans q1, (hW.cell (p := ⟨g, i + 1, none⟩) hg2).trans q2⟩
            have HBI : Hid (had.camB done al (P.getD i 0) = true ↔ had.came done al (P.getD i 0)) := Lib.hid had.camB_iff
            clear p2 p3 p5 p6 HF HB
            generalize P.getD i 0 = a at *
            generalize P.getD (i + 1) 0 = b at *
            generalize had.camB done al a = cb at *
            generalize had.sweep done al P i = o at *
            cases cb with
            | false =>
              have HGR2 : Hid (had.sweep done al P (i + 1) = o) := Lib.hid (by rw [HGR.out, had.grow_no (fun h => by have := HBI.out.2 h; cases this)])
              go_wp2_with (first
                | (go_at_call 72; refine HCM.out.mono ?_; rintro e w6 ⟨rfl, hb6⟩; have HI6 := Lib.hid (HI.out.keep (w' := w6) (fun j hj _ => hb6.block j hj) hb6.size (fun _ h => .inl h)); have HO6 := Lib.hid (HO.out.next hb6); have hB6 := hB.trans (hb6.mono (Nat.le_of_lt p4)))
                | fail)
              go_roundw
              case rel => exact ⟨i + 1, Ao, co, by go_num, by omega, by rw [HGR2.out], HI6, by rw [HGR2.out]; exact HO6, hB6⟩
              case measure => simp [intOf]; omega
            | true =>
              have hcame := HBI.out.1 rfl
              rcases List.eq_nil_or_concat o with rfl | ⟨o', x, ho⟩
              · have HGR2 : Hid (had.sweep done al P (i + 1) = [⟨a, b⟩]) := Lib.hid (by rw [HGR.out, had.grow_first hcame])
                clear HGR
                go_wp2_with (first
                  | (go_at_call 72; refine HCM.out.mono ?_; rintro e w6 ⟨rfl, hb6⟩; have HI6 := Lib.hid (HI.out.keep (w' := w6) (fun j hj _ => hb6.block j hj) hb6.size (fun _ h => .inl h)); have HO6 := Lib.hid (HO.out.next hb6); have hB6 := hB.trans (hb6.mono (Nat.le_of_lt p4)); obtain ⟨r1', r2', r3'⟩ := HRD.out w6 hb6; have hz6 : W0.heap.size < w6.heap.size := Nat.lt_of_lt_of_le p4 hb6.size)
                  | fail)
                go_quiet (fail)
                go_wp2_with fail
                have hwi : IntKind.i64.wrap ((i : Int) + 1) = (i : Int) + 1 := IntWalk.i64_in _ (by omega)
                have hwj : (0 : Int) ≤ (i : Int) + 1 := by omega
                have HOX : Hid (∀ m ob, Own ((w6.drewN m).alloc ob) (W0.heap.size + 1) 64 2 Ao 0 co (([] : List Rng).flatMap Rng.cells)) := Lib.hid fun m ob => HO6.out.next (balloc (bdrewN (bself _) _) _)
                have HSX : Hid (∀ m ob, W0.heap.size + 1 ≤ ((w6.drewN m).alloc ob).heap.size) := Lib.hid fun m ob => by simp; omega
                have HBW : Hid (∀ m ob, Below w6.heap.size w6 ((w6.drewN m).alloc ob)) := Lib.hid fun m ob => balloc (bdrewN (bself _) _) _
                go_region_law
                  (first
                    | (refine step_app _ (by rfl) _ _ _ (by rfl) elemRng (W0.heap.size + 1) Ao 0 co _ (by rfl) (HOX.out _ _) (some ⟨w6.heap.size, 0, none⟩) 1 1 [.int .i64 a, .int .i64 b] (by rfl) (by rfl) (Cells.newAt _ _ _ (by rfl)) (by simp [Value.oneCell']) (by first | omega | (simp; done) | (simp; omega)) (by unfold maxLen; first | omega | (simp; done) | (simp; omega)) (HSX.out _ _) ?_; intro A7 c7 w7 hO7 hg7)
                    | fail)
                all_goals
                  have HO7 := Lib.hid hO7
                  have HB7 : Below W0.heap.size W0 w7 := Grew.step (hB6.trans ((HBW.out _ _).mono (by omega))) hg7 (fun q hq => Nat.le_of_succ_le (HO6.out.lt q hq).1)
                  have HI7 : Hid (IBox w7 W0.heap.size (fun j => blkOf A7 = some j) P) := Lib.hid (HI6.out.keep (grew_keep2 hg7 (HBW.out _ _)) (Nat.le_trans (HBW.out _ _).size hg7.grown.size) (grew_new2 hg7 (HBW.out _ _)))
                  go_wp2
                  go_roundw
                  case rel => exact ⟨i + 1, A7, c7, by go_num, by omega, by rw [HGR2.out]; simp, HI7, Lib.hid (by rw [HGR2.out]; simpa [Rng.cells] using HO7.out), HB7⟩
                  case measure => simp [intOf]; omega
              · rw [List.concat_eq_append] at ho
                subst ho
                have HFX : Hid ((o' ++ [x]).flatMap Rng.cells = o'.flatMap Rng.cells ++ [.int .i64 x.lo, .int .i64 x.hi]) := Lib.hid (by rw [List.flatMap_append]; rfl)
                have HLN : Hid ((o'.flatMap Rng.cells).length = o'.length * 2) := Lib.hid (flatMap_len Rng.cells 2 (fun _ => rfl) o')
                have hso := HSL.out
                rw [List.length_append, List.length_singleton] at hso
                obtain ⟨G, rfl, hG1, hG2, hGx⟩ := HO.out.cell (j := o'.length * 2 + 1) (u := .int .i64 x.hi) (by
                  have := HLN.out
                  rw [HFX.out, List.getElem?_append_right (by omega), show o'.length * 2 + 1 - (o'.flatMap Rng.cells).length = 1 by omega]; rfl)
                have hpos : (0 : Int) < (o'.length : Int) + 1 := by omega
                have hix : (o'.length : Int) < (o'.length : Int) + 1 := by omega
                by_cases hxa : x.hi = a
                · have HGR2 : Hid (had.sweep done al P (i + 1) = o' ++ [⟨x.lo, b⟩]) := Lib.hid (by rw [HGR.out, had.grow_on hcame hxa])
                  have HST : Hid ((o'.flatMap Rng.cells ++ [Value.int .i64 x.lo, .int .i64 x.hi]).set (o'.length * 2 + 1) (.int .i64 b) = (o' ++ [(⟨x.lo, b⟩ : Rng)]).flatMap Rng.cells) := Lib.hid (by
                    have := HLN.out
                    rw [List.set_append_right _ _ (by omega), show o'.length * 2 + 1 - (o'.flatMap Rng.cells).length = 1 by omega, List.flatMap_append]
                    rfl)
                  have HXA := Lib.hid hxa
                  clear HGR
                  rw [hxa] at hGx
                  go_wp2_with (first
                    | (go_at_call 72; refine HCM.out.mono ?_; rintro e w6 ⟨rfl, hb6⟩; have HI6 := Lib.hid (HI.out.keep (w' := w6) (fun j hj _ => hb6.block j hj) hb6.size (fun _ h => .inl h)); have HO6 := Lib.hid (HO.out.next hb6); have hB6 := hB.trans (hb6.mono (Nat.le_of_lt p4)); obtain ⟨r1', r2', r3'⟩ := HRD.out w6 hb6; have hz6 : W0.heap.size < w6.heap.size := Nat.lt_of_lt_of_le p4 hb6.size; have hGx6 := (hb6.cell (p := ⟨G, o'.length * 2 + 1, none⟩) hG2).trans hGx; have hGf6 := HO6.out.frozenAt (o'.length * 2 + 1))
                    | fail)
                  go_quiet (fail)
                  go_wp2_with fail
                  go_roundw
                  case rel => exact ⟨i + 1, some ⟨G, 0, none⟩, co, by go_num, by omega, by rw [HGR2.out]; simp, Lib.hid ((HI6.out.keep (w' := w6.drewN _) (No' := fun j => blkOf (some (⟨G, 0, none⟩ : Addr)) = some j) (fun _ _ _ => rfl) (Nat.le_refl _) (fun _ h => .inl h)).keep (fun j _ hn => Below.heap_setCell _ _ _ j (fun e => hn (by rw [e]; rfl))) (by simp [World.setCell]) (fun _ h => .inl h)), Lib.hid (by
                    have h7 := (HO6.out.drewN nq).setAt (j := o'.length * 2 + 1) (.int .i64 b)
                    rw [HFX.out, HST.out] at h7
                    rw [HGR2.out]
                    simpa using h7), (bdrewN hB6 nq).setCell (p := ⟨G, _, none⟩) (Nat.le_of_succ_le hG1) _⟩
                  case measure => simp [intOf]; omega
                · have HGR2 : Hid (had.sweep done al P (i + 1) = (o' ++ [x]) ++ [⟨a, b⟩]) := Lib.hid (by rw [HGR.out, had.grow_new hcame hxa])
                  have hxq : (x.hi == a) = false := by rw [beq_eq_false_iff_ne]; exact hxa
                  clear HGR hxa
                  generalize hxv : x.hi = xv at hGx hxq
                  clear hxv
                  go_wp2_with (first
                    | (go_at_call 72; refine HCM.out.mono ?_; rintro e w6 ⟨rfl, hb6⟩; have HI6 := Lib.hid (HI.out.keep (w' := w6) (fun j hj _ => hb6.block j hj) hb6.size (fun _ h => .inl h)); have HO6 := Lib.hid (HO.out.next hb6); have hB6 := hB.trans (hb6.mono (Nat.le_of_lt p4)); obtain ⟨r1', r2', r3'⟩ := HRD.out w6 hb6; have hz6 : W0.heap.size < w6.heap.size := Nat.lt_of_lt_of_le p4 hb6.size; have hGx6 := (hb6.cell (p := ⟨G, o'.length * 2 + 1, none⟩) hG2).trans hGx)
                    | fail)
                  go_quiet (fail)
                  go_wp2_with fail
                  have HNL : Hid ((o' ++ [x]).length = o'.length + 1) := Lib.hid (by simp)
                  rw [HNL.out] at HO6
                  have hwi : IntKind.i64.wrap ((i : Int) + 1) = (i : Int) + 1 := IntWalk.i64_in _ (by omega)
                  have hwj : (0 : Int) ≤ (i : Int) + 1 := by omega
                  have HOX : Hid (∀ m ob, Own ((w6.drewN m).alloc ob) (W0.heap.size + 1) 64 2 (some ⟨G, 0, none⟩) (o'.length + 1) co ((o' ++ [x]).flatMap Rng.cells)) := Lib.hid fun m ob => HO6.out.next (balloc (bdrewN (bself _) _) _)
                  have HSX : Hid (∀ m ob, W0.heap.size + 1 ≤ ((w6.drewN m).alloc ob).heap.size) := Lib.hid fun m ob => by simp; omega
                  have HBW : Hid (∀ m ob, Below w6.heap.size w6 ((w6.drewN m).alloc ob)) := Lib.hid fun m ob => balloc (bdrewN (bself _) _) _
                  go_region_law
                    (first
                      | (refine step_app _ (by rfl) _ _ _ (by rfl) elemRng (W0.heap.size + 1) (some ⟨G, 0, none⟩) (o'.length + 1) co _ (by rfl) (HOX.out _ _) (some ⟨w6.heap.size, 0, none⟩) 1 1 [.int .i64 a, .int .i64 b] (by rfl) (by rfl) (Cells.newAt _ _ _ (by rfl)) (by simp [Value.oneCell']) (by first | omega | (simp; done) | (simp; omega)) (by unfold maxLen; first | omega | (simp; done) | (simp; omega)) (HSX.out _ _) ?_; intro A7 c7 w7 hO7 hg7)
                      | fail)
                  all_goals
                    have HO7 := Lib.hid hO7
                    have HB7 : Below W0.heap.size W0 w7 := Grew.step (hB6.trans ((HBW.out _ _).mono (by omega))) hg7 (fun q hq => Nat.le_of_succ_le (HO6.out.lt q hq).1)
                    have HI7 : Hid (IBox w7 W0.heap.size (fun j => blkOf A7 = some j) P) := Lib.hid (HI6.out.keep (grew_keep2 hg7 (HBW.out _ _)) (Nat.le_trans (HBW.out _ _).size hg7.grown.size) (grew_new2 hg7 (HBW.out _ _)))
                    go_wp2
                    go_roundw
                    case rel => exact ⟨i + 1, A7, c7, by go_num, by omega, by rw [HGR2.out]; simp, HI7, Lib.hid (by rw [HGR2.out]; simpa [Rng.cells] using HO7.out), HB7⟩
                    case measure => simp [intOf]; omega
          · have hix : i + 1 = P.length := by omega
            have HCT := Lib.hid (HB.out i hix)
            have hlt2i : ¬ (i : Int) + 1 < (P.length : Int) := by omega
            have hBw : Below w.heap.size w wq := hB1.trans (hB.mono hsW)
            clear HB HF
            generalize had.sweep done al P i = o at *
            generalize had.addTo done l ⟨r0, r1⟩ = ad at *
            cases o with
            | nil =>
              have HAA : Hid (had.ans done l ⟨r0, r1⟩ = (0, [], 0)) := Lib.hid (by rw [HAN.out, ← HCT.out]; rfl)
              go_wp2
              go_ret3
              exact had.AddRes.yes HAA.out rfl ((HO.out.rng.2).keep fun q hq => ⟨⟨by omega, hq.2⟩, rfl⟩) hBw
            | cons y o2 =>
              obtain ⟨y0, y1⟩ := y
              have hso := HSL.out
              rw [List.length_cons] at hso
              obtain ⟨G, rfl, hG1, hG2, hG0⟩ := HO.out.cell (j := 0) (u := .int .i64 y0) rfl
              obtain ⟨G', eG, _, _, hG3⟩ := HO.out.cell (j := 1) (u := .int .i64 y1) rfl
              cases eG
              have hpos : (0 : Int) < (o2.length : Int) + 1 := by omega
              have HR := Lib.hid HO.out.rng.2
              by_cases hy : y0 = 0
              · subst hy
                have HC2 : Hid (ad = (y1, o2)) := Lib.hid (by rw [← HCT.out]; simp [had.cut])
                have hcu := fun W => run_cut_l (P := Try.prog) elemRng (some ⟨G, 0, none⟩) (o2.length + 1) co 1 (by omega) 1 rfl W
                have HD : Hid (SlRep Rng.rep wq (fun q => W0.heap.size + 1 ≤ q ∧ q < wq.heap.size) o2 (cutA (some ⟨G, 0, none⟩) co 1 2) (co - 1)) := Lib.hid (HR.out.drop (f := 1) (by simp))
                by_cases h16 : 16 < o2.length
                · have HAA : Hid (had.ans done l ⟨r0, r1⟩ = (0, [], 9)) := Lib.hid (by rw [HAN.out, HC2.out, if_pos h16])
                  have h16i : (16 : Int) < (o2.length : Int) := by omega
                  go_wp2
                  go_ret3
                  exact had.AddRes.no HAA.out hBw
                · have HAA : Hid (had.ans done l ⟨r0, r1⟩ = (y1, o2, 0)) := Lib.hid (by rw [HAN.out, HC2.out, if_neg h16])
                  have h16i : ¬ (16 : Int) < (o2.length : Int) := by omega
                  go_wp2
                  go_ret3
                  exact had.AddRes.yes HAA.out (by simp) (HD.out.keep fun q hq => ⟨⟨by omega, hq.2⟩, rfl⟩) hBw
              · have hyq : (y0 == 0) = false := by rw [beq_eq_false_iff_ne]; exact hy
                have HC2 : Hid (ad = (0, ⟨y0, y1⟩ :: o2)) := Lib.hid (by rw [← HCT.out]; simp [had.cut, hy])
                by_cases h16 : 16 < o2.length + 1
                · have HAA : Hid (had.ans done l ⟨r0, r1⟩ = (0, [], 9)) := Lib.hid (by rw [HAN.out, HC2.out, if_pos (by simpa using h16)])
                  have h16i : (16 : Int) < (o2.length : Int) + 1 := by omega
                  clear hy
                  go_wp2
                  go_ret3
                  exact had.AddRes.no HAA.out hBw
                · have HAA : Hid (had.ans done l ⟨r0, r1⟩ = (0, ⟨y0, y1⟩ :: o2, 0)) := Lib.hid (by rw [HAN.out, HC2.out, if_neg (by simpa using h16)])
                  have h16i : ¬ (16 : Int) < (o2.length : Int) + 1 := by omega
                  clear hy
                  go_wp2
                  go_ret3
                  exact had.AddRes.yes HAA.out (by simp) (HR.out.keep fun q hq => ⟨⟨by omega, hq.2⟩, rfl⟩) hBw
end Go.Proofs.Ytedbidblnjajdaa
