/- Texts in one: AddH, Sacks, Back, SacksI, Sacks2, Sacks3, RecvP. No condition. -/
import Derived.Test.YtdldfllllgogoaaSendM2
import Derived.Deep.DeepCutAuto
import Derived.IntWalk
import Derived.Test.YtdldfllllgogoaaSendM1
import Derived.RangeFuncNested
import Derived.RangeFuncBound
import Derived.RangeFuncCalls
import Derived.RangeFuncLeaves
import Derived.RangeFuncBox
import Derived.Shelf.Abstract
import Derived.OwnWalkIn
import Derived.TacticsInMore
import Derived.LoopNIn
import Derived.LoopIn
namespace Go.Proofs.Ytdldfllllgogoaa
open Go.RowKit
set_option linter.unusedSimpArgs false
namespace had
/-- what Add answers -/
noncomputable def ans (done : Int) (l : List Rng) (r : Rng) : Int × List Rng × Int :=
  if holeMayB done l = false then (0, [], 4) else if r.lo < 0 ∨ r.hi < r.lo ∨ 1048576 < r.hi then (0, [], 2) else if 16 < (addTo done l r).2.length then (0, [], 9) else ((addTo done l r).1, (addTo done l r).2, 0)
def AddRes (a : Int × List Rng × Int) (w : World) (e : Ending) (w' : World) : Prop :=
  ∃ A c, e = .returned (.tuple #[.int .i64 a.1, .slice A a.2.1.length c, .int .i64 a.2.2]) ∧ SlRep Rng.rep w' (fun k => w.heap.size ≤ k ∧ k < w'.heap.size) a.2.1 A c ∧ Below w.heap.size w w'
theorem AddRes.no {a : Int × List Rng × Int} {c : Int} (h : a = (0, [], c)) {w w' : World} (hb : Below w.heap.size w w') : AddRes a w (.returned (.tuple #[.int .i64 0, .slice none 0 0, .int .i64 c])) w' := by
  subst h
  exact ⟨none, 0, rfl, sl_nil _ _ _, hb⟩
theorem AddRes.yes {a : Int × List Rng × Int} {d : Int} {l : List Rng} (h : a = (d, l, 0)) {w w' : World} {A : Option Addr} {n c : Nat} (hn : n = l.length) (hl : SlRep Rng.rep w' (fun k => w.heap.size ≤ k ∧ k < w'.heap.size) l A c) (hb : Below w.heap.size w w') : AddRes a w (.returned (.tuple #[.int .i64 d, .slice A n c, .int .i64 0])) w' := by
  subst h; subst hn
  exact ⟨A, c, rfl, hl, hb⟩
end had
set_option maxHeartbeats 1000000 in
theorem hole_Add_no (done : Int) (l : List Rng) (r : Rng) (A : Option Addr) (c : Nat) (w : World) (hl : SlRep Rng.rep w (· < w.heap.size) l A c) (hn : l.length ≤ 140737488351232) (h : holeMayB done l = false) :
    Calls Try.prog 71 #[.int .i64 done, .slice A l.length c, .agg #[.int .i64 r.lo, .int .i64 r.hi]] w (had.AddRes (had.ans done l r) w) := by
  have HC := Lib.hid (hole_May_no done l A c (w.alloc (.cells #[.int .i64 r.lo, .int .i64 r.hi] 78)) (hl.next (by repeat (first | (with_reducible exact Below.refl _ _) | (with_reducible assumption) | (with_reducible refine bset ?_ ?_ _) | (with_reducible refine balloc ?_ _) | (with_reducible refine Below.drew ?_) | (with_reducible refine bdrewN ?_ _) | (with_reducible refine bnext ?_ (by with_reducible assumption)) | exact Nat.le_refl _ | (simp; done) | omega | (simp; omega)))) hn h)
  have HA : Hid (had.ans done l r = (0, [], 4)) := Lib.hid (if_pos h)
  clear hl h
  go_enter Try.func71, Try.ntmps71
  go_wp2_with (first
    | (go_at_call 73; refine HC.out.mono ?_; rintro e w1 ⟨rfl, hb1⟩)
    | fail)
  go_ret3
  exact had.AddRes.no HA.out (by repeat (first | (with_reducible exact Below.refl _ _) | (with_reducible assumption) | (with_reducible refine bset ?_ ?_ _) | (with_reducible refine balloc ?_ _) | (with_reducible refine Below.drew ?_) | (with_reducible refine bdrewN ?_ _) | (with_reducible refine bnext ?_ (by with_reducible assumption)) | exact Nat.le_refl _ | (simp; done) | omega | (simp; omega)))

set_option maxHeartbeats 1000000 in
theorem hole_Add_bad (done : Int) (l : List Rng) (r : Rng) (A : Option Addr) (c : Nat) (w : World) (hl : SlRep Rng.rep w (· < w.heap.size) l A c) (hn : l.length ≤ 140737488351232) (h : holeMayB done l = true) (hr : r.lo < 0 ∨ r.hi < r.lo ∨ 1048576 < r.hi) :
    Calls Try.prog 71 #[.int .i64 done, .slice A l.length c, .agg #[.int .i64 r.lo, .int .i64 r.hi]] w (had.AddRes (had.ans done l r) w) := by
  have HC := Lib.hid (hole_May_yes done l A c (w.alloc (.cells #[.int .i64 r.lo, .int .i64 r.hi] 78)) (hl.next (by repeat (first | (with_reducible exact Below.refl _ _) | (with_reducible assumption) | (with_reducible refine bset ?_ ?_ _) | (with_reducible refine balloc ?_ _) | (with_reducible refine Below.drew ?_) | (with_reducible refine bdrewN ?_ _) | (with_reducible refine bnext ?_ (by with_reducible assumption)) | exact Nat.le_refl _ | (simp; done) | omega | (simp; omega)))) hn h)
  have HA : Hid (had.ans done l r = (0, [], 2)) := Lib.hid (by unfold had.ans; rw [if_neg (by rw [h]; decide), if_pos hr])
  clear hl h
  obtain ⟨r0, r1⟩ := r
  dsimp only at *
  go_enter Try.func71, Try.ntmps71
  by_cases h1 : r0 < 0
  · go_wp2_with (first
      | (go_at_call 73; refine HC.out.mono ?_; rintro e w1 ⟨rfl, hb1⟩; have B1 : Below w.heap.size w w1 := (by repeat (first | (with_reducible exact Below.refl _ _) | (with_reducible assumption) | (with_reducible refine bset ?_ ?_ _) | (with_reducible refine balloc ?_ _) | (with_reducible refine Below.drew ?_) | (with_reducible refine bdrewN ?_ _) | (with_reducible refine bnext ?_ (by with_reducible assumption)) | exact Nat.le_refl _ | (simp; done) | omega | (simp; omega))); have ha1 : ∀ b o, b < w.heap.size → w1.cell? ⟨b, o, none⟩ = w.cell? ⟨b, o, none⟩ := fun b o h => B1.cell (p := ⟨b, o, none⟩) h; have hk1 : ∀ k, k < w.heap.size → k < w1.heap.size := fun _ h => Nat.lt_of_lt_of_le h B1.size; have hz1 := hb1.size; (try simp at hz1); have hl1_w0 : w.heap.size < w1.heap.size := Nat.lt_of_lt_of_le (by first | (simp; done) | (simp; omega) | omega) hb1.size; have hc1_w0 := fun o => hb1.cell (p := ⟨w.heap.size, o, none⟩) (by first | (simp; done) | (simp; omega) | omega); have hf1_w0 := fun o => hb1.frozen (p := ⟨w.heap.size, o, none⟩) (by first | (simp; done) | (simp; omega) | omega); (try simp [go_sem, *] at hc1_w0); (try simp [go_sem, *] at hf1_w0); clear hb1)
      | fail)
    go_ret3
    exact had.AddRes.no HA.out B1
  · by_cases h2 : r1 < r0
    · go_wp2_with (first
        | (go_at_call 73; refine HC.out.mono ?_; rintro e w1 ⟨rfl, hb1⟩; have B1 : Below w.heap.size w w1 := (by repeat (first | (with_reducible exact Below.refl _ _) | (with_reducible assumption) | (with_reducible refine bset ?_ ?_ _) | (with_reducible refine balloc ?_ _) | (with_reducible refine Below.drew ?_) | (with_reducible refine bdrewN ?_ _) | (with_reducible refine bnext ?_ (by with_reducible assumption)) | exact Nat.le_refl _ | (simp; done) | omega | (simp; omega))); have ha1 : ∀ b o, b < w.heap.size → w1.cell? ⟨b, o, none⟩ = w.cell? ⟨b, o, none⟩ := fun b o h => B1.cell (p := ⟨b, o, none⟩) h; have hk1 : ∀ k, k < w.heap.size → k < w1.heap.size := fun _ h => Nat.lt_of_lt_of_le h B1.size; have hz1 := hb1.size; (try simp at hz1); have hl1_w0 : w.heap.size < w1.heap.size := Nat.lt_of_lt_of_le (by first | (simp; done) | (simp; omega) | omega) hb1.size; have hc1_w0 := fun o => hb1.cell (p := ⟨w.heap.size, o, none⟩) (by first | (simp; done) | (simp; omega) | omega); have hf1_w0 := fun o => hb1.frozen (p := ⟨w.heap.size, o, none⟩) (by first | (simp; done) | (simp; omega) | omega); (try simp [go_sem, *] at hc1_w0); (try simp [go_sem, *] at hf1_w0); clear hb1)
        | fail)
      go_ret3
      exact had.AddRes.no HA.out B1
    · have h3 : 1048576 < r1 := by omega
      go_wp2_with (first
        | (go_at_call 73; refine HC.out.mono ?_; rintro e w1 ⟨rfl, hb1⟩; have B1 : Below w.heap.size w w1 := (by repeat (first | (with_reducible exact Below.refl _ _) | (with_reducible assumption) | (with_reducible refine bset ?_ ?_ _) | (with_reducible refine balloc ?_ _) | (with_reducible refine Below.drew ?_) | (with_reducible refine bdrewN ?_ _) | (with_reducible refine bnext ?_ (by with_reducible assumption)) | exact Nat.le_refl _ | (simp; done) | omega | (simp; omega))); have ha1 : ∀ b o, b < w.heap.size → w1.cell? ⟨b, o, none⟩ = w.cell? ⟨b, o, none⟩ := fun b o h => B1.cell (p := ⟨b, o, none⟩) h; have hk1 : ∀ k, k < w.heap.size → k < w1.heap.size := fun _ h => Nat.lt_of_lt_of_le h B1.size; have hz1 := hb1.size; (try simp at hz1); have hl1_w0 : w.heap.size < w1.heap.size := Nat.lt_of_lt_of_le (by first | (simp; done) | (simp; omega) | omega) hb1.size; have hc1_w0 := fun o => hb1.cell (p := ⟨w.heap.size, o, none⟩) (by first | (simp; done) | (simp; omega) | omega); have hf1_w0 := fun o => hb1.frozen (p := ⟨w.heap.size, o, none⟩) (by first | (simp; done) | (simp; omega) | omega); (try simp [go_sem, *] at hc1_w0); (try simp [go_sem, *] at hf1_w0); clear hb1)
        | fail)
      go_ret3
      exact had.AddRes.no HA.out B1

set_option maxRecDepth 100000 in
set_option maxHeartbeats 4000000 in
theorem hole_Add_ok (done : Int) (l : List Rng) (r : Rng) (A : Option Addr) (c : Nat) (w : World) (hl : SlRep Rng.rep w (· < w.heap.size) l A c) (hm : HoleMay done l) (h0 : 0 ≤ r.lo) (h1 : r.lo ≤ r.hi) (h2 : r.hi ≤ 1048576) :
    Calls Try.prog 71 #[.int .i64 done, .slice A l.length c, .agg #[.int .i64 r.lo, .int .i64 r.hi]] w (had.AddRes (had.ans done l r) w) := by
  have HC := Lib.hid (hole_May_yes done l A c (w.alloc (.cells #[.int .i64 r.lo, .int .i64 r.hi] 78)) (hl.next (by repeat (first | (with_reducible exact Below.refl _ _) | (with_reducible assumption) | (with_reducible refine bset ?_ ?_ _) | (with_reducible refine balloc ?_ _) | (with_reducible refine Below.drew ?_) | (with_reducible refine bdrewN ?_ _) | (with_reducible refine bnext ?_ (by with_reducible assumption)) | exact Nat.le_refl _ | (simp; done) | omega | (simp; omega)))) (by have := hm.2.2.1; omega) (holeMayB_true hm))
  have HAN : Hid (had.ans done l r = if 16 < (had.addTo done l r).2.length then (0, [], 9) else ((had.addTo done l r).1, (had.addTo done l r).2, 0)) := Lib.hid (by
    unfold had.ans
    rw [if_neg (by rw [holeMayB_true hm]; decide), if_neg (by omega)])
  have hl16 : l.length ≤ 16 := hm.2.2.1
  have HL := Lib.hid hl
  obtain ⟨r0, r1⟩ := r
  dsimp only at *
  clear hl hm
  go_enter Try.func71, Try.ntmps71
  by_cases h3 : r0 < r1
  · have HAD : Hid (had.addTo done l ⟨r0, r1⟩ = had.out done (had.mg l ⟨r0, r1⟩)) := Lib.hid (if_pos h3)
    have HMG := Lib.hid (fun W hW => hole_merged done l ⟨r0, r1⟩ A c W (HL.out.next hW) hl16)
    dsimp only at HMG
    rw [← HAD.out] at HMG
    clear HAD
    generalize had.addTo done l ⟨r0, r1⟩ = ad at *
    obtain ⟨d1, d2⟩ := ad
    dsimp only at HMG HAN
    by_cases h16 : 16 < d2.length
    · have h16i : (16 : Int) < (d2.length : Int) := by omega
      have HAA : Hid (had.ans done l ⟨r0, r1⟩ = (0, [], 9)) := Lib.hid (by rw [HAN.out, if_pos h16])
      go_wp2_with (first
        | (go_at_call 73; refine HC.out.mono ?_; rintro e w1 ⟨rfl, hb1⟩; have hb1' : Below w.heap.size w w1 := (by repeat (first | (with_reducible exact Below.refl _ _) | (with_reducible assumption) | (with_reducible refine bset ?_ ?_ _) | (with_reducible refine balloc ?_ _) | (with_reducible refine Below.drew ?_) | (with_reducible refine bdrewN ?_ _) | (with_reducible refine bnext ?_ (by with_reducible assumption)) | exact Nat.le_refl _ | (simp; done) | omega | (simp; omega))); have B1 : Below w.heap.size w w1 := (by repeat (first | (with_reducible exact Below.refl _ _) | (with_reducible assumption) | (with_reducible refine bset ?_ ?_ _) | (with_reducible refine balloc ?_ _) | (with_reducible refine Below.drew ?_) | (with_reducible refine bdrewN ?_ _) | (with_reducible refine bnext ?_ (by with_reducible assumption)) | exact Nat.le_refl _ | (simp; done) | omega | (simp; omega))); have ha1 : ∀ b o, b < w.heap.size → w1.cell? ⟨b, o, none⟩ = w.cell? ⟨b, o, none⟩ := fun b o h => B1.cell (p := ⟨b, o, none⟩) h; have hk1 : ∀ k, k < w.heap.size → k < w1.heap.size := fun _ h => Nat.lt_of_lt_of_le h B1.size; have hz1 := hb1.size; (try simp at hz1); have hl1_w0 : w.heap.size < w1.heap.size := Nat.lt_of_lt_of_le (by first | (simp; done) | (simp; omega) | omega) hb1.size; have hc1_w0 := fun o => hb1.cell (p := ⟨w.heap.size, o, none⟩) (by first | (simp; done) | (simp; omega) | omega); have hf1_w0 := fun o => hb1.frozen (p := ⟨w.heap.size, o, none⟩) (by first | (simp; done) | (simp; omega) | omega); (try simp [go_sem, *] at hc1_w0); (try simp [go_sem, *] at hf1_w0); clear hb1)
        | (go_at_call 94; refine (HMG.out _ hb1').mono ?_; rintro e w2 ⟨A2, c2, rfl, hr2, hb2, hl2⟩; have HR2 := Lib.hid hr2; clear hr2; have hB2 : Below w.heap.size w w2 := bnext hb1' hb2)
        | (go_at_call 95; refine (clone_rng d2 A2 c2 w2 (HR2.out.keep fun q hq => ⟨hq.2, rfl⟩) (by omega)).mono ?_; rintro e w3 ⟨A3, c3, rfl, ho3, hb3⟩; have HO3 := Lib.hid ho3; clear ho3)
        | fail)
      go_ret3
      exact had.AddRes.no HAA.out hB2
    · have h16i : (d2.length : Int) ≤ 16 := by omega
      have HAA : Hid (had.ans done l ⟨r0, r1⟩ = (d1, d2, 0)) := Lib.hid (by rw [HAN.out, if_neg h16])
      go_wp2_with (first
        | (go_at_call 73; refine HC.out.mono ?_; rintro e w1 ⟨rfl, hb1⟩; have hb1' : Below w.heap.size w w1 := (by repeat (first | (with_reducible exact Below.refl _ _) | (with_reducible assumption) | (with_reducible refine bset ?_ ?_ _) | (with_reducible refine balloc ?_ _) | (with_reducible refine Below.drew ?_) | (with_reducible refine bdrewN ?_ _) | (with_reducible refine bnext ?_ (by with_reducible assumption)) | exact Nat.le_refl _ | (simp; done) | omega | (simp; omega))); have B1 : Below w.heap.size w w1 := (by repeat (first | (with_reducible exact Below.refl _ _) | (with_reducible assumption) | (with_reducible refine bset ?_ ?_ _) | (with_reducible refine balloc ?_ _) | (with_reducible refine Below.drew ?_) | (with_reducible refine bdrewN ?_ _) | (with_reducible refine bnext ?_ (by with_reducible assumption)) | exact Nat.le_refl _ | (simp; done) | omega | (simp; omega))); have ha1 : ∀ b o, b < w.heap.size → w1.cell? ⟨b, o, none⟩ = w.cell? ⟨b, o, none⟩ := fun b o h => B1.cell (p := ⟨b, o, none⟩) h; have hk1 : ∀ k, k < w.heap.size → k < w1.heap.size := fun _ h => Nat.lt_of_lt_of_le h B1.size; have hz1 := hb1.size; (try simp at hz1); have hl1_w0 : w.heap.size < w1.heap.size := Nat.lt_of_lt_of_le (by first | (simp; done) | (simp; omega) | omega) hb1.size; have hc1_w0 := fun o => hb1.cell (p := ⟨w.heap.size, o, none⟩) (by first | (simp; done) | (simp; omega) | omega); have hf1_w0 := fun o => hb1.frozen (p := ⟨w.heap.size, o, none⟩) (by first | (simp; done) | (simp; omega) | omega); (try simp [go_sem, *] at hc1_w0); (try simp [go_sem, *] at hf1_w0); clear hb1)
        | (go_at_call 94; refine (HMG.out _ hb1').mono ?_; rintro e w2 ⟨A2, c2, rfl, hr2, hb2, hl2⟩; have HR2 := Lib.hid hr2; clear hr2; have hB2 : Below w.heap.size w w2 := bnext hb1' hb2)
        | (go_at_call 95; refine (clone_rng d2 A2 c2 w2 (HR2.out.keep fun q hq => ⟨hq.2, rfl⟩) (by omega)).mono ?_; rintro e w3 ⟨A3, c3, rfl, ho3, hb3⟩; have HO3 := Lib.hid ho3; clear ho3)
        | fail)
      go_ret3
      exact had.AddRes.yes HAA.out rfl (HO3.out.rng.2.keep fun q hq => ⟨⟨Nat.le_trans hB2.size hq.1, hq.2⟩, rfl⟩) (bnext hB2 hb3)
  · have HAD : Hid (had.addTo done l ⟨r0, r1⟩ = (done, l)) := Lib.hid (if_neg h3)
    have HAA : Hid (had.ans done l ⟨r0, r1⟩ = (done, l, 0)) := Lib.hid (by rw [HAN.out, HAD.out, if_neg (by simp only; omega)])
    have HCL := Lib.hid (fun W hW => clone_rng l A c W (HL.out.next hW) (by omega))
    go_wp2_with (first
      | (go_at_call 73; refine HC.out.mono ?_; rintro e w1 ⟨rfl, hb1⟩; have hb1' : Below w.heap.size w w1 := (by repeat (first | (with_reducible exact Below.refl _ _) | (with_reducible assumption) | (with_reducible refine bset ?_ ?_ _) | (with_reducible refine balloc ?_ _) | (with_reducible refine Below.drew ?_) | (with_reducible refine bdrewN ?_ _) | (with_reducible refine bnext ?_ (by with_reducible assumption)) | exact Nat.le_refl _ | (simp; done) | omega | (simp; omega))); have B1 : Below w.heap.size w w1 := (by repeat (first | (with_reducible exact Below.refl _ _) | (with_reducible assumption) | (with_reducible refine bset ?_ ?_ _) | (with_reducible refine balloc ?_ _) | (with_reducible refine Below.drew ?_) | (with_reducible refine bdrewN ?_ _) | (with_reducible refine bnext ?_ (by with_reducible assumption)) | exact Nat.le_refl _ | (simp; done) | omega | (simp; omega))); have ha1 : ∀ b o, b < w.heap.size → w1.cell? ⟨b, o, none⟩ = w.cell? ⟨b, o, none⟩ := fun b o h => B1.cell (p := ⟨b, o, none⟩) h; have hk1 : ∀ k, k < w.heap.size → k < w1.heap.size := fun _ h => Nat.lt_of_lt_of_le h B1.size; have hz1 := hb1.size; (try simp at hz1); have hl1_w0 : w.heap.size < w1.heap.size := Nat.lt_of_lt_of_le (by first | (simp; done) | (simp; omega) | omega) hb1.size; have hc1_w0 := fun o => hb1.cell (p := ⟨w.heap.size, o, none⟩) (by first | (simp; done) | (simp; omega) | omega); have hf1_w0 := fun o => hb1.frozen (p := ⟨w.heap.size, o, none⟩) (by first | (simp; done) | (simp; omega) | omega); (try simp [go_sem, *] at hc1_w0); (try simp [go_sem, *] at hf1_w0); clear hb1)
      | (go_at_call 95; refine (HCL.out _ hb1').mono ?_; rintro e w2 ⟨A2, c2, rfl, ho2, hb2⟩; have HO2 := Lib.hid ho2; clear ho2)
      | fail)
    go_ret3
    exact had.AddRes.yes HAA.out rfl (HO2.out.rng.2.keep fun q hq => ⟨⟨Nat.le_trans hb1'.size hq.1, hq.2⟩, rfl⟩) (bnext hb1' hb2)

theorem hole_Add_res (done : Int) (l : List Rng) (r : Rng) (A : Option Addr) (c : Nat) (w : World) (hl : SlRep Rng.rep w (· < w.heap.size) l A c) (hn : l.length ≤ 140737488351232) :
    Calls Try.prog 71 #[.int .i64 done, .slice A l.length c, .agg #[.int .i64 r.lo, .int .i64 r.hi]] w (had.AddRes (had.ans done l r) w) := by
  by_cases hm : HoleMay done l
  · by_cases hr : r.lo < 0 ∨ r.hi < r.lo ∨ 1048576 < r.hi
    · exact hole_Add_bad done l r A c w hl hn (holeMayB_true hm) hr
    · exact hole_Add_ok done l r A c w hl hm (by omega) (by omega) (by omega)
  · exact hole_Add_no done l r A c w hl hn (holeMayB_false hm)
end Go.Proofs.Ytdldfllllgogoaa
namespace Go.Proofs.Ytdldfllllgogoaa
open Go.RowKit

/-! ### The plain law -/
def hitB (last : Int) (r : Rng) : Bool := decide (r.lo ≤ last ∧ last < r.hi)
/-- what holds the place first; the others, the last ones first -/
def sackAll (last : Int) (l : List Rng) : List Rng := l.filter (hitB last) ++ l.reverse.filter (fun r => ! hitB last r)
def sacks (last n : Int) (l : List Rng) : List Rng := (sackAll last l).take n.toNat
theorem one_hit {done last : Int} {l : List Rng} (h : HoleMay done l) {i j : Nat} (hi : i < l.length) (hj : j < l.length) (h1 : hitB last (l.getD i Rng.z) = true) (h2 : hitB last (l.getD j Rng.z) = true) : i = j := by
  have hc := h.2.2.2.1
  have key : ∀ a b : Nat, a < b → b < l.length → (l.getD a Rng.z).hi ≤ (l.getD b Rng.z).lo := fun a b hab hb => by
    have h3 := Chain.le (n := b) (fun k hk => hc k (by omega)) (a + 1) (by omega)
    rw [endAt_succ] at h3
    have := (hc b hb).1
    omega
  simp only [hitB, decide_eq_true_eq] at h1 h2
  rcases Nat.lt_trichotomy i j with h3 | h3 | h3
  · have := key i j h3 hj; omega
  · exact h3
  · have := key j i h3 hi; omega
theorem mem_at {l : List Rng} {x : Rng} (h : x ∈ l) : ∃ i, i < l.length ∧ l.getD i Rng.z = x := by
  obtain ⟨i, hi, e⟩ := List.getElem_of_mem h
  exact ⟨i, hi, by rw [List.getD_eq_getElem?_getD, List.getElem?_eq_getElem hi]; exact e⟩
/-- whoever holds the place is the first one -/
theorem hit_head {done last : Int} {l : List Rng} (h : HoleMay done l) {i : Nat} (hi : i < l.length) (h1 : hitB last (l.getD i Rng.z) = true) : ∃ r, l.filter (hitB last) = l.getD i Rng.z :: r := by
  have hm : l.getD i Rng.z ∈ l.filter (hitB last) := List.mem_filter.2 ⟨by rw [List.getD_eq_getElem?_getD, List.getElem?_eq_getElem hi]; exact List.getElem_mem hi, h1⟩
  cases hf : l.filter (hitB last) with
  | nil => rw [hf] at hm; cases hm
  | cons x r =>
    have hx : x ∈ l.filter (hitB last) := by rw [hf]; exact List.mem_cons_self
    obtain ⟨hx1, hx2⟩ := List.mem_filter.1 hx
    obtain ⟨j, hj, rfl⟩ := mem_at hx1
    obtain rfl := one_hit h hi hj h1 hx2
    exact ⟨r, rfl⟩
/-- the reference's second way: j of the last ones have been gone through -/
def refTo (last : Int) (l : List Rng) (j : Nat) : List Rng := l.filter (hitB last) ++ (l.reverse.take j).filter (fun r => ! hitB last r)
theorem refTo_all (last : Int) (l : List Rng) : refTo last l l.length = sackAll last l := by
  unfold refTo sackAll
  rw [List.take_of_length_le (by simp)]
theorem refTo_zero (last : Int) (l : List Rng) : refTo last l 0 = l.filter (hitB last) := by simp [refTo]
theorem rev_take_succ (l : List Rng) (m j : Nat) (h : m + 1 + j = l.length) : l.reverse.take (j + 1) = l.reverse.take j ++ [l.getD m Rng.z] := by
  rw [List.take_add_one, List.getElem?_reverse (by omega), show l.length - 1 - j = m by omega, List.getD_eq_getElem?_getD, List.getElem?_eq_getElem (by omega)]
  rfl
theorem refTo_yes {last : Int} {l : List Rng} {m j : Nat} (h : m + 1 + j = l.length) (hh : hitB last (l.getD m Rng.z) = true) : refTo last l (j + 1) = refTo last l j := by
  unfold refTo
  rw [rev_take_succ l m j h, List.filter_append]
  generalize l.getD m Rng.z = r at *
  simp [hh]
theorem refTo_no {last : Int} {l : List Rng} {m j : Nat} (h : m + 1 + j = l.length) (hh : hitB last (l.getD m Rng.z) = false) : refTo last l (j + 1) = refTo last l j ++ [l.getD m Rng.z] := by
  unfold refTo
  rw [rev_take_succ l m j h, List.filter_append]
  generalize l.getD m Rng.z = r at *
  simp [hh]
theorem sackAll_length (last : Int) (l : List Rng) : (sackAll last l).length = l.length := by
  unfold sackAll
  rw [List.length_append]
  have : (l.reverse.filter (fun r => ! hitB last r)).length = (l.filter (fun r => ! hitB last r)).length := by rw [List.filter_reverse, List.length_reverse]
  rw [this]
  induction l with
  | nil => rfl
  | cons x r ih => cases h : hitB last x <;> simp_all <;> omega
theorem refTo_le (last : Int) (l : List Rng) (j : Nat) : (refTo last l j).length ≤ l.length := by
  rw [← sackAll_length last l]
  unfold refTo sackAll
  rw [List.length_append, List.length_append]
  have := ((List.take_sublist j l.reverse).filter (fun r => ! hitB last r)).length_le
  omega
theorem filt_succ (last : Int) (l : List Rng) (k : Nat) (h : k < l.length) : (l.take (k + 1)).filter (hitB last) = (l.take k).filter (hitB last) ++ (if hitB last (l.getD k Rng.z) = true then [l.getD k Rng.z] else []) := by
  rw [List.take_add_one, List.getElem?_eq_getElem h, List.filter_append, List.getD_eq_getElem?_getD, List.getElem?_eq_getElem h]
  cases hh : hitB last l[k] <;> simp [hh]
theorem filt_le (last : Int) (l : List Rng) (k : Nat) : ((l.take k).filter (hitB last)).length ≤ k := Nat.le_trans (List.length_filter_le _ _) (by rw [List.length_take]; omega)

def RngsRes (r : Except Int (List Rng)) (w : World) (e : Ending) (w' : World) : Prop :=
  ∃ A c, e = .returned (.tuple #[.slice A (exL r).length c, .int .i64 (exC r)]) ∧ SlRep Rng.rep w' (fun k => w.heap.size ≤ k ∧ k < w'.heap.size) (exL r) A c ∧ Below w.heap.size w w'

set_option maxRecDepth 100000 in
set_option maxHeartbeats 4000000 in
theorem ref_Sacks_ok (done : Int) (l : List Rng) (last n : Int) (A : Option Addr) (c : Nat) (w : World) (hl : SlRep Rng.rep w (· < w.heap.size) l A c) (h : holeMayB done l = true) (hn : 0 ≤ n ∧ n ≤ 16) :
    Calls Try.prog 44 #[.int .i64 done, .slice A l.length c, .int .i64 last, .int .i64 n] w (RngsRes (.ok (sacks last n l)) w) := by
  have hm : HoleMay done l := by simpa [holeMayB] using h
  have hn16 := hm.2.2.1
  have HMAY := Lib.hid hm
  have HL := Lib.hid hl
  clear hl hm
  go_enter Try.func44, Try.ntmps44
  go_wp2_with (go_at_call 75; refine (ref_HoleMay_yes done l A c _ HL.out (by omega) h).mono ?_; rintro e w1 ⟨rfl, hb1⟩)
  go_loopw [10, 26] (fun out i wr => ∃ (k : Nat) (A' : Option Addr) (c' : Nat), k ≤ l.length ∧ i = .int .i64 k ∧ out = .slice A' ((l.take k).filter (hitB last)).length c' ∧ Hid (Own wr w.heap.size 78 2 A' ((l.take k).filter (hitB last)).length c' (((l.take k).filter (hitB last)).flatMap Rng.cells)) ∧ Below w.heap.size w wr) (fun _ i _ => l.length - (intOf i).toNat)
  case atStart => exact ⟨0, none, 0, Nat.zero_le _, rfl, rfl, Lib.hid (Own.nil _ _ _ _), hb1⟩
  case round =>
    obtain ⟨k, A', c', hk, rfl, rfl, HO, hB⟩ := hrel
    rename World => wr
    by_cases hlt : k < l.length
    · obtain ⟨b, o, rfl, hb, hc1, hc2⟩ := Rng.cells_at Rng.z (HL.out.below hB) hlt
      have hbw : b < wr.heap.size := Nat.lt_of_lt_of_le hb hB.size
      have hsz := hB.size
      have HS := Lib.hid (filt_succ last l k hlt)
      have hle := filt_le last l k
      clear HL hb1
      by_cases hh : hitB last (l.getD k Rng.z) = true
      · have HG : Hid ((l.take (k + 1)).filter (hitB last) = (l.take k).filter (hitB last) ++ [l.getD k Rng.z]) := Lib.hid (by rw [HS.out, if_pos hh])
        have hh2 : (l.getD k Rng.z).lo ≤ last ∧ last < (l.getD k Rng.z).hi := by simpa [hitB] using hh
        have hn1 : ((l.take (k + 1)).filter (hitB last)).length = ((l.take k).filter (hitB last)).length + 1 := by rw [HG.out]; simp
        have HN1 := Lib.hid hn1
        obtain ⟨h1, h2⟩ := hh2
        have h1' : last ≥ (l.getD k Rng.z).lo := h1
        have HF : Hid (((l.take (k + 1)).filter (hitB last)).flatMap Rng.cells = ((l.take k).filter (hitB last)).flatMap Rng.cells ++ [.int .i64 (l.getD k Rng.z).lo, .int .i64 (l.getD k Rng.z).hi]) := Lib.hid (by rw [HG.out]; simp [Rng.cells])
        clear hh HS hn1 HG
        generalize (l.getD k Rng.z).lo = x at *
        generalize (l.getD k Rng.z).hi = y at *
        generalize hm : ((l.take k).filter (hitB last)).length = m at *
        clear hm
        go_wp2_with (at_builtin; refine wp_app _ rfl _ _ _ rfl elemRng w.heap.size A' m c' _ rfl ((HO.out.alloc _).alloc _) _ 1 1 [.int .i64 x, .int .i64 y] rfl rfl (Cells.newAt _ _ _ (by simp)) (by simp [Value.oneCell']) (by omega) (by unfold maxLen; omega) (by simp; omega) ?_; intro A2 c2 w2 hO2 hg2; have HO3 := Lib.hid hO2; clear hO2)
        go_roundw
        case rel => exact ⟨k + 1, A2, c2, by omega, by go_num, by rw [HN1.out], Lib.hid (by rw [HF.out, HN1.out]; exact HO3.out), Grew.step (balloc (balloc hB _) _) hg2 (fun g hg => (HO.out.lt g hg).1)⟩
        case measure => simp [intOf]; omega
      · have HG : Hid ((l.take (k + 1)).filter (hitB last) = (l.take k).filter (hitB last)) := Lib.hid (by rw [HS.out, if_neg hh, List.append_nil])
        have hh2 : ¬ ((l.getD k Rng.z).lo ≤ last ∧ last < (l.getD k Rng.z).hi) := by simpa [hitB] using hh
        clear hh HS
        generalize (l.getD k Rng.z).lo = x at *
        generalize (l.getD k Rng.z).hi = y at *
        by_cases h1 : x ≤ last
        · have h2 : ¬ last < y := fun e => hh2 ⟨h1, e⟩
          have h1' : last ≥ x := h1
          clear hh2
          go_wp2_with fail
          go_roundw
          case rel => exact ⟨k + 1, A', c', by omega, by go_num, by rw [HG.out], Lib.hid (by rw [HG.out]; exact HO.out.alloc _), balloc hB _⟩
          case measure => simp [intOf]; omega
        · have h1' : ¬ last ≥ x := h1
          clear hh2
          go_wp2_with fail
          go_roundw
          case rel => exact ⟨k + 1, A', c', by omega, by go_num, by rw [HG.out], Lib.hid (by rw [HG.out]; exact HO.out.alloc _), balloc hB _⟩
          case measure => simp [intOf]; omega
    · obtain rfl : k = l.length := by omega
      have HO' : Hid (Own wr w.heap.size 78 2 A' (refTo last l 0).length c' ((refTo last l 0).flatMap Rng.cells)) := Lib.hid (by rw [refTo_zero]; rw [List.take_of_length_le (Nat.le_refl _)] at HO; exact HO.out)
      have hl0 : ((l.take l.length).filter (hitB last)).length = (refTo last l 0).length := by rw [refTo_zero, List.take_of_length_le (Nat.le_refl _)]
      rw [hl0]
      clear HO hl0
      go_wp2_with fail
      go_loopw [10, 13] (fun out i wq => ∃ (m j : Nat) (A' : Option Addr) (c' : Nat), m + j = l.length ∧ i = .int .i64 ((m : Int) - 1) ∧ out = .slice A' (refTo last l j).length c' ∧ Hid (Own wq w.heap.size 78 2 A' (refTo last l j).length c' ((refTo last l j).flatMap Rng.cells)) ∧ Below w.heap.size w wq) (fun _ i _ => ((intOf i) + 1).toNat)
      case atStart => exact ⟨l.length, 0, A', c', by omega, rfl, rfl, HO', hB⟩
      case round =>
        obtain ⟨m, j, A5, c5, hmj, rfl, rfl, HQ, hBq⟩ := hrel
        rename World => wq
        clear HO' hB
        cases m with
        | zero =>
          obtain rfl : j = l.length := by omega
          have hlen : (refTo last l l.length).length = l.length := by rw [refTo_all, sackAll_length]
          have HR : Hid (SlRep Rng.rep wq (fun k => w.heap.size ≤ k ∧ k < wq.heap.size) (sackAll last l) A5 c5) := Lib.hid (by rw [← refTo_all]; exact HQ.out.rng.2)
          have hcap := HQ.out.cap
          rw [hlen] at hcap ⊢
          have HT : Hid ((sacks last n l).length = min n.toNat l.length) := Lib.hid (by unfold sacks; rw [List.length_take, sackAll_length])
          clear HQ hlen HL HMAY
          have hz : (((0 : Nat) : Int) - 1) = -1 := by omega
          rw [hz]
          by_cases hgt : (l.length : Int) > n
          · have hcut := run_cut_h (P := Try.prog) elemRng A5 l.length c5 n.toNat (by omega) n (by omega)
            go_wp2_with fail
            go_ret2
            refine ⟨A5, c5, ?_, HR.out.take _, hBq⟩
            show _ = Ending.returned (.tuple #[.slice A5 (sacks last n l).length c5, .int .i64 0])
            rw [HT.out, Nat.min_eq_left (by omega)]
            rfl
          · go_wp2_with fail
            go_ret2
            refine ⟨A5, c5, ?_, HR.out.take _, hBq⟩
            show _ = Ending.returned (.tuple #[.slice A5 (sacks last n l).length c5, .int .i64 0])
            rw [HT.out, Nat.min_eq_right (by omega)]
            rfl
        | succ m =>
          have hi : (((m + 1 : Nat) : Int) - 1) = (m : Int) := by omega
          rw [hi]
          have hlm : m < l.length := by omega
          have hlm' : (m : Int) < (l.length : Int) := by omega
          obtain ⟨b, o, rfl, hb, hc1, hc2⟩ := Rng.cells_at Rng.z (HL.out.below hBq) hlm
          have hbw : b < wq.heap.size := Nat.lt_of_lt_of_le hb hBq.size
          have hsz := hBq.size
          have hle := refTo_le last l j
          by_cases hh : hitB last (l.getD m Rng.z) = true
          · obtain ⟨rr, hr⟩ := hit_head HMAY.out hlm hh
            have hrt : refTo last l j = l.getD m Rng.z :: (rr ++ (l.reverse.take j).filter (fun r => ! hitB last r)) := by unfold refTo; rw [hr]; rfl
            have HN := Lib.hid (refTo_yes hmj hh)
            obtain ⟨g, rfl, hg1, hg2, hg3⟩ := HQ.out.cell (j := 0) (u := .int .i64 (l.getD m Rng.z).lo) (by rw [hrt]; rfl)
            obtain ⟨g', hg', _, _, hg4⟩ := HQ.out.cell (j := 1) (u := .int .i64 (l.getD m Rng.z).hi) (by rw [hrt]; rfl)
            simp only [Option.some.injEq, Addr.mk.injEq, and_true] at hg'
            subst hg'
            have hpos : 0 < (refTo last l j).length := by rw [hrt]; simp
            obtain ⟨h1, h2⟩ : (l.getD m Rng.z).lo ≤ last ∧ last < (l.getD m Rng.z).hi := by simpa [hitB] using hh
            clear hh hr hrt
            generalize (l.getD m Rng.z).lo = x at *
            generalize (l.getD m Rng.z).hi = y at *
            generalize hq : (refTo last l j).length = q at *
            have HQL := Lib.hid hq
            clear hq
            obtain ⟨q, rfl⟩ : ∃ p, q = p + 1 := ⟨q - 1, by omega⟩
            have h1' : last ≥ x := h1
            go_wp2_with fail
            go_quiet (fail)
            go_wp2
            go_roundw
            case rel => exact ⟨m, j + 1, some ⟨g, 0, none⟩, c5, by omega, by go_num, by rw [HN.out, HQL.out], Lib.hid (by rw [HN.out, HQL.out]; exact HQ.out.drewN _), bdrewN hBq _⟩
            case measure => first | (simp [intOf]; done) | (simp [intOf]; omega)
          · have hN := refTo_no hmj (by simpa using hh)
            have hh2 : ¬ ((l.getD m Rng.z).lo ≤ last ∧ last < (l.getD m Rng.z).hi) := by simpa [hitB] using hh
            have HF : Hid ((refTo last l (j + 1)).flatMap Rng.cells = (refTo last l j).flatMap Rng.cells ++ [.int .i64 (l.getD m Rng.z).lo, .int .i64 (l.getD m Rng.z).hi]) := Lib.hid (by rw [hN]; simp [Rng.cells])
            have HN1 : Hid ((refTo last l (j + 1)).length = (refTo last l j).length + 1) := Lib.hid (by rw [hN]; simp)
            clear hN hh
            cases hc : refTo last l j with
            | nil =>
              have hq0 : (refTo last l j).length = 0 := by rw [hc]; rfl
              have HOW : Hid (∀ k o, Own ((wq.drewN k).alloc o) w.heap.size 78 2 A5 0 c5 ((refTo last l j).flatMap Rng.cells)) := Lib.hid (fun k o => by rw [← hq0]; exact (HQ.out.drewN k).alloc o)
              rw [hq0] at HN1
              simp only [List.length_nil]
              clear hc hq0 hh2
              generalize (l.getD m Rng.z).lo = x at *
              generalize (l.getD m Rng.z).hi = y at *
              go_wp2_with fail
              go_quiet (fail)
              go_wp2_with (at_builtin; refine wp_app _ rfl _ _ _ rfl elemRng w.heap.size A5 0 c5 _ rfl (HOW.out _ _) _ 1 1 [.int .i64 x, .int .i64 y] rfl rfl (Cells.newAt _ _ _ rfl) (by simp [Value.oneCell']) (by omega) (by unfold maxLen; omega) (by simp; omega) ?_; intro A7 c7 w7 hO7 hg7; have HO7 := Lib.hid hO7; clear hO7)
              go_roundw
              case rel => exact ⟨m, j + 1, A7, c7, by omega, by go_num, by rw [HN1.out], Lib.hid (by rw [HF.out, HN1.out]; exact HO7.out), Grew.step (balloc (bdrewN hBq _) _) hg7 (fun g hg => (HQ.out.lt g hg).1)⟩
              case measure => first | (simp [intOf]; done) | (simp [intOf]; omega)
            | cons z zs =>
              obtain ⟨g, rfl, hg1, hg2, hg3⟩ := HQ.out.cell (j := 0) (u := .int .i64 z.lo) (by rw [hc]; rfl)
              obtain ⟨g', hg', _, _, hg4⟩ := HQ.out.cell (j := 1) (u := .int .i64 z.hi) (by rw [hc]; rfl)
              simp only [Option.some.injEq, Addr.mk.injEq, and_true] at hg'
              subst hg'
              rw [← hc]
              have hpos : 0 < (refTo last l j).length := by rw [hc]; simp
              clear hc
              generalize (l.getD m Rng.z).lo = x at *
              generalize (l.getD m Rng.z).hi = y at *
              obtain ⟨x0, y0⟩ := z
              dsimp only at hg3 hg4
              have HOW : Hid (∀ k o, Own ((wq.drewN k).alloc o) w.heap.size 78 2 (some ⟨g, 0, none⟩) (refTo last l j).length c5 ((refTo last l j).flatMap Rng.cells)) := Lib.hid (fun k o => (HQ.out.drewN k).alloc o)
              generalize hq : (refTo last l j).length = q at *
              have HQL := Lib.hid hq
              clear hq
              obtain ⟨q, rfl⟩ : ∃ p, q = p + 1 := ⟨q - 1, by omega⟩
              have hqz : ((q : Int) + 1 == 0) = false := by rw [beq_eq_false_iff_ne]; omega
              by_cases hxy : x0 = x ∧ y0 = y
              · obtain ⟨rfl, rfl⟩ := hxy
                by_cases h1 : x0 ≤ last
                · have h2 : ¬ last < y0 := fun e => hh2 ⟨h1, e⟩
                  have h1' : last ≥ x0 := h1
                  have h1d : decide (x0 ≤ last) = true := decide_eq_true h1
                  have h2d : decide (last < y0) = false := decide_eq_false h2
                  clear hh2
                  go_wp2_with fail
                  go_big_quiet (fail)
                  go_wp2_with (at_builtin; refine wp_app _ rfl _ _ _ rfl elemRng w.heap.size (some ⟨g, 0, none⟩) (q + 1) c5 _ rfl (HOW.out _ _) _ 1 1 [.int .i64 x0, .int .i64 y0] rfl rfl (Cells.newAt _ _ _ rfl) (by simp [Value.oneCell']) (by omega) (by unfold maxLen; omega) (by simp; omega) ?_; intro A7 c7 w7 hO7 hg7; have HO7 := Lib.hid hO7; clear hO7)
                  go_roundw
                  case rel => exact ⟨m, j + 1, A7, c7, by omega, by go_num, by rw [HN1.out], Lib.hid (by rw [HF.out, HN1.out]; exact HO7.out), Grew.step (balloc (bdrewN hBq _) _) hg7 (fun g hg => (HQ.out.lt g hg).1)⟩
                  case measure => first | (simp [intOf]; done) | (simp [intOf]; omega)
                · have h1' : ¬ last ≥ x0 := h1
                  have h1d : decide (x0 ≤ last) = false := decide_eq_false h1
                  have h1e : decide (last ≥ x0) = false := decide_eq_false h1
                  clear hh2
                  go_wp2_with fail
                  go_big_quiet (fail)
                  go_wp2_with (at_builtin; refine wp_app _ rfl _ _ _ rfl elemRng w.heap.size (some ⟨g, 0, none⟩) (q + 1) c5 _ rfl (HOW.out _ _) _ 1 1 [.int .i64 x0, .int .i64 y0] rfl rfl (Cells.newAt _ _ _ rfl) (by simp [Value.oneCell']) (by omega) (by unfold maxLen; omega) (by simp; omega) ?_; intro A7 c7 w7 hO7 hg7; have HO7 := Lib.hid hO7; clear hO7)
                  go_roundw
                  case rel => exact ⟨m, j + 1, A7, c7, by omega, by go_num, by rw [HN1.out], Lib.hid (by rw [HF.out, HN1.out]; exact HO7.out), Grew.step (balloc (bdrewN hBq _) _) hg7 (fun g hg => (HQ.out.lt g hg).1)⟩
                  case measure => first | (simp [intOf]; done) | (simp [intOf]; omega)
              · by_cases hx0 : x0 = x
                · subst hx0
                  have hy0 : ¬ y0 = y := fun e => hxy ⟨rfl, e⟩
                  have hy1 : (y == y0) = false := by rw [beq_eq_false_iff_ne]; exact fun e => hy0 e.symm
                  have hy2 : (y0 == y) = false := by rw [beq_eq_false_iff_ne]; exact hy0
                  have hy3 : ¬ y = y0 := fun e => hy0 e.symm
                  clear hxy hh2
                  go_wp2_with fail
                  go_big_quiet (fail)
                  go_wp2_with (at_builtin; refine wp_app _ rfl _ _ _ rfl elemRng w.heap.size (some ⟨g, 0, none⟩) (q + 1) c5 _ rfl (HOW.out _ _) _ 1 1 [.int .i64 x0, .int .i64 y] rfl rfl (Cells.newAt _ _ _ rfl) (by simp [Value.oneCell']) (by omega) (by unfold maxLen; omega) (by simp; omega) ?_; intro A7 c7 w7 hO7 hg7; have HO7 := Lib.hid hO7; clear hO7)
                  go_roundw
                  case rel => exact ⟨m, j + 1, A7, c7, by omega, by go_num, by rw [HN1.out], Lib.hid (by rw [HF.out, HN1.out]; exact HO7.out), Grew.step (balloc (bdrewN hBq _) _) hg7 (fun g hg => (HQ.out.lt g hg).1)⟩
                  case measure => first | (simp [intOf]; done) | (simp [intOf]; omega)
                · have hx1 : (x == x0) = false := by rw [beq_eq_false_iff_ne]; exact fun e => hx0 e.symm
                  have hx2 : (x0 == x) = false := by rw [beq_eq_false_iff_ne]; exact hx0
                  have hx3 : ¬ x = x0 := fun e => hx0 e.symm
                  clear hxy hh2
                  go_wp2_with fail
                  go_big_quiet (fail)
                  go_wp2_with (at_builtin; refine wp_app _ rfl _ _ _ rfl elemRng w.heap.size (some ⟨g, 0, none⟩) (q + 1) c5 _ rfl (HOW.out _ _) _ 1 1 [.int .i64 x, .int .i64 y] rfl rfl (Cells.newAt _ _ _ rfl) (by simp [Value.oneCell']) (by omega) (by unfold maxLen; omega) (by simp; omega) ?_; intro A7 c7 w7 hO7 hg7; have HO7 := Lib.hid hO7; clear hO7)
                  go_roundw
                  case rel => exact ⟨m, j + 1, A7, c7, by omega, by go_num, by rw [HN1.out], Lib.hid (by rw [HF.out, HN1.out]; exact HO7.out), Grew.step (balloc (bdrewN hBq _) _) hg7 (fun g hg => (HQ.out.lt g hg).1)⟩
                  case measure => first | (simp [intOf]; done) | (simp [intOf]; omega)
end Go.Proofs.Ytdldfllllgogoaa
namespace Go.Proofs.Ytdldfllllgogoaa
open Go.RowKit Go.Shelf
attribute [local go_sem] Oper.semAt_some

/-- what has come when k rounds are over: the last ones first, each with its index -/
def backTo (l : List Rng) : Nat → List (Int × Rng)
  | 0 => []
  | k + 1 => backTo l k ++ [(((l.length - 1 - k : Nat) : Int), l.getD (l.length - 1 - k) Rng.z)]
theorem backTo_length (l : List Rng) (k : Nat) : (backTo l k).length = k := by
  induction k with
  | zero => rfl
  | succ k ih => simp [backTo, ih]
/-- what a round keeps: whatever lay below n₀, and the box of the slice -/
def BackKp (n₀ Bs : Nat) (W W' : World) : Prop := Below n₀ W W' ∧ ∀ v, W.cell? ⟨Bs, 0, none⟩ = some v → W'.cell? ⟨Bs, 0, none⟩ = some v
theorem BackKp.trans {n₀ Bs : Nat} {A B C : World} (h : BackKp n₀ Bs A B) (k : BackKp n₀ Bs B C) : BackKp n₀ Bs A C := ⟨h.1.trans k.1, fun v hv => k.2 v (h.2 v hv)⟩
theorem BackKp.refl (n₀ Bs : Nat) (W : World) : BackKp n₀ Bs W W := ⟨Below.refl _ _, fun _ h => h⟩

set_option maxRecDepth 100000 in
set_option maxHeartbeats 4000000 in
theorem back1_in (F : Fence) (n : Nat) (hf : F.fn 97) (hro : F.round = none) (hn : 1 ≤ n) (lp Bs n₀ : Nat) (l : List Rng) (A : Option Addr) (c : Nat) (hreach : l.length ≤ 140737488351232) (J Jx : List (Int × Rng) → World → Prop)
    (hY : ∀ pre (x : Int × Rng) W, J pre W → pre.length < l.length → YieldAt F (n - 1) Try.prog lp #[.int .i64 x.1, .agg #[.int .i64 x.2.lo, .int .i64 x.2.hi]] W fun e W' =>
      (e = .returned (.bool true) ∧ J (pre ++ [x]) W' ∧ BackKp n₀ Bs W W') ∨ (e = .returned (.bool false) ∧ Jx (pre ++ [x]) W'))
    (W : World) (hBs : W.cell? ⟨Bs, 0, none⟩ = some (.slice A l.length c)) (hl : SlRep Rng.rep W (· < n₀) l A c) (h0 : J [] W) :
    CallsIn F n Try.prog 97 #[.func (.yield lp) #[] #[], .pointer (some ⟨Bs, 0, none⟩)] W fun e W' => (∃ v, e = .returned v) ∧
      ((∃ ys, ys = backTo l l.length ∧ J ys W') ∨ (∃ pre, (∃ k, k ≤ l.length ∧ pre = backTo l k) ∧ Jx pre W')) := by
  refine callsIn_of_wp Try.func97 rfl hf ?_ hro
  simp only [Try.ntmps97, List.size_toArray, List.length_cons, List.length_nil, Nat.reduceAdd, Nat.reduceSub, Array.replicate_succ, Array.replicate_zero, List.push_toArray, List.append_toArray, List.nil_append, List.cons_append]
  gi_wp2
  gi_loopw [3] (fun i wr => ∃ m k : Nat, m + k = l.length ∧ i = .int .i64 ((m : Int) - 1) ∧ J (backTo l k) wr ∧ BackKp n₀ Bs W wr) (fun i _ => (intOf i + 1).toNat)
  case atStart => exact ⟨l.length, 0, by omega, rfl, h0, BackKp.refl _ _ _⟩
  case round =>
    obtain ⟨m, k, hmk, rfl, hJs, hK⟩ := hrel
    have hb := hK.2 _ hBs
    cases m with
    | zero =>
      obtain rfl : k = l.length := by omega
      have hz : (((0 : Nat) : Int) - 1) = -1 := by omega
      rw [hz]
      gi_wp2
      go_end0
      exact ⟨⟨_, rfl⟩, .inl ⟨_, rfl, hJs⟩⟩
    | succ m =>
      have hi : (((m + 1 : Nat) : Int) - 1) = (m : Int) := by omega
      rw [hi]
      have hlm : m < l.length := by omega
      have hlm' : (m : Int) < (l.length : Int) := by omega
      obtain ⟨bb, oo, rfl, _, hc1, hc2⟩ := Rng.cells_at Rng.z (hl.keep (w' := wr) (S' := (· < n₀)) fun j hj => ⟨hj, hK.1.block j hj⟩) hlm
      obtain ⟨fn, tmps, assign, body, hy, hR⟩ := hY _ ((m : Int), l.getD m Rng.z) wr hJs (by rw [backTo_length]; omega)
      have hnx : backTo l k ++ [((m : Int), l.getD m Rng.z)] = backTo l (k + 1) := by
        rw [backTo, show l.length - 1 - k = m by omega]
      rw [hnx] at hR
      dsimp only at hy hR
      generalize (l.getD m Rng.z).lo = x at *
      generalize (l.getD m Rng.z).hi = y at *
      gi_wp2
      refine hR.mono ?_
      rintro e W3 (⟨rfl, hJ3, hk3⟩ | ⟨rfl, hJx3⟩)
      · gi_wp2
        go_roundw
        case rel => exact ⟨m, k + 1, by omega, by go_num, hJ3, hK.trans hk3⟩
        case measure => simp [intOf]
      · gi_wp2
        refine bodyPost_ret (results_none rfl _ _ _) rfl ?_
        exact ⟨⟨_, rfl⟩, .inr ⟨_, ⟨k + 1, by omega, rfl⟩, hJx3⟩⟩
theorem back_in (F : Fence) (n : Nat) (hf : F.fn 74) (hro : F.round = none) (A : Option Addr) (m c : Nat) (w : World) :
    CallsIn F n Try.prog 74 #[.slice A m c] w fun e w' => e = .returned (.func (.func 97) #[] #[.pointer (some ⟨w.heap.size, 0, none⟩)]) ∧ w' = w.alloc (.cells #[.slice A m c] 39) := by
  refine callsIn_of_wp Try.func74 rfl hf ?_ hro
  simp only [Try.ntmps74, List.size_toArray, List.length_cons, List.length_nil, Nat.reduceAdd, Nat.reduceSub, Array.replicate_succ, Array.replicate_zero, List.push_toArray, List.append_toArray, List.nil_append, List.cons_append]
  gi_wp2
  go_ret
  exact ⟨rfl, rfl⟩
theorem back_stops (F : Fence) (n : Nat) (hf : F.fn 97) (hro : F.round = none) (hn : 1 ≤ n) (Bs n₀ : Nat) (l : List Rng) (A : Option Addr) (c : Nat) (hreach : l.length ≤ 140737488351232) (w : World) (hBs : Bs < w.heap.size) (hn₀ : n₀ ≤ w.heap.size)
    (hc : w.cell? ⟨Bs, 0, none⟩ = some (.slice A l.length c)) (hl : SlRep Rng.rep w (· < n₀) l A c) :
    SeqStopsK F n Try.prog 97 #[.pointer (some ⟨Bs, 0, none⟩)] (fun x : Int × Rng => #[Value.int .i64 x.1, .agg #[.int .i64 x.2.lo, .int .i64 x.2.hi]]) (BackKp n₀ Bs) (fun ys => ys = backTo l l.length)
      (fun pre => ∃ k, k ≤ l.length ∧ pre = backTo l k) l.length w := fun lp J Jx W hW _ _ hY h0 =>
  back1_in F n hf hro hn lp Bs n₀ l A c hreach J Jx hY W ((hW.cell (p := ⟨Bs, 0, none⟩) hBs).trans hc) (hl.keep fun j hj => ⟨hj, hW.block j (Nat.lt_of_lt_of_le hj hn₀)⟩) h0
theorem back_keeps {n₀ Bs : Nat} {w : World} (hn₀ : n₀ ≤ w.heap.size) (W : World) (lp : Nat) (o o' : Obj) (hb : w.heap.size ≤ lp) (ho : W.heap[lp]? = some o) (hc : o.isCells = false) (hw : o.isWalk = false) : BackKp n₀ Bs W (W.putObj lp o') :=
  ⟨belowK_b hn₀ W lp o o' hb ho hc hw, fun v hv => by
    have := cell_kept (W := W) (W' := W.putObj lp o') (row := some lp) hv (grownBy_putObj' W lp o') (fun r e => by cases e; exact ⟨o, ho, hc⟩)
    exact this⟩
end Go.Proofs.Ytdldfllllgogoaa
namespace Go.Proofs.Ytdldfllllgogoaa
open Go.RowKit Go.Shelf

def RBox (W : World) (B : Nat) (v : Value) : Prop := Boxed W B 39 v
/-- the boxes Ba, Bb hold two rows (in blocks from n₀ on) that read as l1, l2; the box Bs the slice gone through; the box Bl the number -/
structure SackC (w : World) (n₀ Ba Bb Bs Bl : Nat) (last : Int) (A : Option Addr) (m c : Nat) (l1 l2 : List Rng) (A1 : Option Addr) (c1 : Nat) (A2 : Option Addr) (c2 : Nat) (W : World) : Prop where
  ba : RBox W Ba (.slice A1 l1.length c1)
  bb : RBox W Bb (.slice A2 l2.length c2)
  bs : RBox W Bs (.slice A m c)
  bl : Boxed W Bl 3 (.int .i64 last)
  o1 : Own W n₀ 78 2 A1 l1.length c1 (l1.flatMap Rng.cells)
  o2 : Own W n₀ 78 2 A2 l2.length c2 (l2.flatMap Rng.cells)
  two : Two A1 A2
  low : Below w.heap.size w W
  h0 : w.heap.size ≤ n₀ ∧ n₀ ≤ W.heap.size
  ha : w.heap.size ≤ Ba ∧ Ba < n₀
  hb : w.heap.size ≤ Bb ∧ Bb < n₀
  hs : Bs < n₀
  hl : Bl < n₀
  hab : Ba ≠ Bb
  has : Ba ≠ Bs
  hbs : Bb ≠ Bs
  hal : Ba ≠ Bl
  hbl : Bb ≠ Bl

section
variable {w : World} {n₀ Ba Bb Bs Bl : Nat} {last : Int} {A : Option Addr} {m c : Nat} {l1 l2 : List Rng} {A1 : Option Addr} {c1 : Nat} {A2 : Option Addr} {c2 : Nat} {W : World}
theorem SackC.swap (h : SackC w n₀ Ba Bb Bs Bl last A m c l1 l2 A1 c1 A2 c2 W) : SackC w n₀ Bb Ba Bs Bl last A m c l2 l1 A2 c2 A1 c1 W :=
  ⟨h.bb, h.ba, h.bs, h.bl, h.o2, h.o1, h.two.symm, h.low, h.h0, h.hb, h.ha, h.hs, h.hl, h.hab.symm, h.hbs, h.has, h.hbl, h.hal⟩
theorem box_ne {B : Nat} {t : TypeId} {v : Value} (h : Boxed W B t v) {row : Option Nat} (hr : ∀ r, row = some r → ∃ o : Obj, W.heap[r]? = some o ∧ o.isCells = false) : some B ≠ row := by
  intro e
  obtain ⟨o, ho, hc⟩ := hr B e.symm
  rw [show W.heap[B]? = _ from h] at ho
  cases ho
  cases hc
theorem row_ne {base : Nat} {e : TypeId} {size n d : Nat} {X : Option Addr} {xs : List Value} (h : Own W base e size X n d xs) {row : Option Nat} (hr : ∀ r, row = some r → ∃ o : Obj, W.heap[r]? = some o ∧ o.isCells = false) : blkOf X = none ∨ blkOf X ≠ row := by
  rcases h.2 with ⟨h1, _⟩ | ⟨g, cap, cur, h1, _, h3, _⟩
  · left
    simp only [Value.slice.injEq] at h1
    rw [h1.1]
    rfl
  · right
    simp only [Value.slice.injEq] at h1
    rw [h1.1]
    intro e
    obtain ⟨o, ho, hc⟩ := hr g e.symm
    rw [h3] at ho
    cases ho
    cases hc
/-- whatever turns no cells leaves it -/
theorem SackC.kept (h : SackC w n₀ Ba Bb Bs Bl last A m c l1 l2 A1 c1 A2 c2 W) {W' : World} {row : Option Nat} (hg : W.grownBy W' row) (hr : ∀ r, row = some r → w.heap.size ≤ r ∧ ∃ o : Obj, W.heap[r]? = some o ∧ o.isCells = false) : SackC w n₀ Ba Bb Bs Bl last A m c l1 l2 A1 c1 A2 c2 W' :=
  have hr' := fun r e => (hr r e).2
  ⟨h.ba.kept hg (box_ne h.ba hr'), h.bb.kept hg (box_ne h.bb hr'), h.bs.kept hg (box_ne h.bs hr'), h.bl.kept hg (box_ne h.bl hr'), h.o1.kept hg (row_ne h.o1 hr'), h.o2.kept hg (row_ne h.o2 hr'), h.two,
    h.low.grown hg h.low.size (fun k e => (hr k e).1), ⟨h.h0.1, Nat.le_trans h.h0.2 hg.size⟩, h.ha, h.hb, h.hs, h.hl, h.hab, h.has, h.hbs, h.hal, h.hbl⟩
theorem SackC.alloc (h : SackC w n₀ Ba Bb Bs Bl last A m c l1 l2 A1 c1 A2 c2 W) (o : Obj) : SackC w n₀ Ba Bb Bs Bl last A m c l1 l2 A1 c1 A2 c2 (W.alloc o) :=
  h.kept (World.grownBy_alloc W o none) (fun r e => by cases e)
theorem box_row {B : Nat} {v : Value} (h : RBox W B v) {base : Nat} {n d : Nat} {X : Option Addr} {xs : List Value} (ho : Own W base 78 2 X n d xs) : some B ≠ blkOf X := by
  have := h.not_row (by decide) ho
  rwa [ownBlock_slice] at this
/-- the first row is appended to and its box is set -/
theorem SackC.step (h : SackC w n₀ Ba Bb Bs Bl last A m c l1 l2 A1 c1 A2 c2 W) {tmp : Obj} {w1 : World} {A1' : Option Addr} {c1' : Nat} {x : Rng} (hg : Grew (W.alloc tmp) w1 A1 A1') (ho : Own w1 n₀ 78 2 A1' (l1.length + 1) c1' (l1.flatMap Rng.cells ++ Rng.cells x)) :
    SackC w n₀ Ba Bb Bs Bl last A m c (l1 ++ [x]) l2 A1' c1' A2 c2 (w1.setCell ⟨Ba, 0, none⟩ (.slice A1' (l1.length + 1) c1')) ∧ (∀ K, KeepsFrom K W (w1.setCell ⟨Ba, 0, none⟩ (.slice A1' (l1.length + 1) c1'))) ∧
      (∀ k, k ≤ Ba → Below k W (w1.setCell ⟨Ba, 0, none⟩ (.slice A1' (l1.length + 1) c1'))) ∧ RBox w1 Ba (.slice A1 l1.length c1) := by
  have ha := h.alloc tmp
  have hge : ∀ k, blkOf A1 = some k → n₀ ≤ k := fun k e => (h.o1.lt k e).1
  have b1 : RBox w1 Ba (.slice A1 l1.length c1) := ha.ba.kept hg.grown (box_row ha.ba ha.o1)
  have b2 : RBox w1 Bb (.slice A2 l2.length c2) := ha.bb.kept hg.grown (box_row ha.bb ha.o1)
  have b3 : RBox w1 Bs (.slice A m c) := ha.bs.kept hg.grown (box_row ha.bs ha.o1)
  have b4 : Boxed w1 Bl 3 (.int .i64 last) := ha.bl.kept hg.grown (by
    have := ha.bl.not_row (by decide) ha.o1
    rwa [ownBlock_slice] at this)
  have r2 : Own w1 n₀ 78 2 A2 l2.length c2 (l2.flatMap Rng.cells) := ha.o2.kept' hg (fun k e => h.two.symm k e)
  have hl : (l1 ++ [x]).length = l1.length + 1 := by simp
  have hlow : ∀ k, k ≤ Ba → Below k W (w1.setCell ⟨Ba, 0, none⟩ (.slice A1' (l1.length + 1) c1')) := fun k hk =>
    (((Below.refl k W).alloc (by have := h.ha.2; have := h.h0.2; omega) tmp).trans (hg.below (by have := h.ha.2; have := h.h0.2; simp; omega) (fun j e => by have := hge j e; have := h.ha.2; omega))).setCell (p := ⟨Ba, 0, none⟩) hk _
  have oa : Own (w1.setCell ⟨Ba, 0, none⟩ (.slice A1' (l1.length + 1) c1')) n₀ 78 2 A1' (l1.length + 1) c1' (l1.flatMap Rng.cells ++ Rng.cells x) := ho.setCell (fun e => by have h1 : n₀ ≤ Ba := (ho.lt _ e).1; have := h.ha.2; omega) _
  have ob : Own (w1.setCell ⟨Ba, 0, none⟩ (.slice A1' (l1.length + 1) c1')) n₀ 78 2 A2 l2.length c2 (l2.flatMap Rng.cells) := r2.setCell (fun e => by have h1 : n₀ ≤ Ba := (r2.lt _ e).1; have := h.ha.2; omega) _
  refine ⟨⟨?_, b2.other h.hab.symm _, b3.other h.has.symm _, b4.other h.hal.symm _, ?_, ob, h.two.left hg (fun k e => (ha.o2.lt k e).2), h.low.trans ((hlow Ba (Nat.le_refl _)).mono h.ha.1), ⟨h.h0.1, ?_⟩, h.ha, h.hb, h.hs, h.hl, h.hab, h.has, h.hbs, h.hal, h.hbl⟩, ?_, hlow, b1⟩
  · rw [hl]; exact b1.set _
  · rw [hl, List.flatMap_append]; simpa using oa
  · exact Nat.le_trans h.h0.2 (hlow Ba (Nat.le_refl _)).size
  · intro K
    refine (((KeepsOthers.alloc W tmp).trans (KeepsOthers.of_grownBy hg.grown fun j o ej hj => ?_)).trans (KeepsOthers.setCell _ _ _)).from K
    rcases ha.o1.2 with ⟨h1, _⟩ | ⟨g, cap, cur, h1, _, h3, _⟩
    · simp only [Value.slice.injEq] at h1
      rw [h1.1] at ej
      cases ej
    · simp only [Value.slice.injEq] at h1
      rw [h1.1] at ej
      cases ej
      rw [h3] at hj
      cases hj
      rfl
end

theorem wpIn_app {F : Fence} {n : Nat} {P : Program} (w : World) {ops : Array Oper} {rest : List Oper} {o : Oper} {a : Act} {Q : Exit → Act → World → Prop}
    (hgd : o.guard = none) (s x : Operand) (t : TypeId) (ho : o.op = .call { callee := .builtin .append, args := #[s, x], argTypes := #[t, t] }) {e : TypeId} {size bytes : Nat} (hT : ElemT P t e size bytes) (base : Nat) (A : Option Addr) (k c : Nat) (xs : List Value) (hs : a.eval s = .slice A k c) (hown : Own w base e size A k c xs)
    (B : Option Addr) (m d : Nat) (news : List Value) (hx : a.eval x = .slice B m d) (hl : news.length = m * size) (hnews : Cells w B news) (h1 : ∀ u ∈ news, u.oneCell' = true) (hroom : (k + m) * bytes ≤ 140737488355328) (h63 : k + m ≤ maxLen) (hbase : base ≤ w.heap.size)
    (hK : ∀ A' c' w', Own w' base e size A' (k + m) c' (xs ++ news) → Grew w w' A A' → wpListIn F n P ops Q rest (a.put o.dst (.slice A' (k + m) c')) w') : wpListIn F n P ops Q (o :: rest) a w := by
  refine wpListIn_plain hgd fun K hK' => ?_
  obtain ⟨A', c', w', hrun, r1, r2⟩ := run_app (P := P) (ty := o.type) w hT base A k c xs hown B m d news hl hnews h1 hroom h63 hbase
  unfold Oper.wpIn
  refine ⟨?_, ?_⟩
  · simp [Oper.about, ho, resolve, Target.leads, Sem.run_pure]
  · rw [Oper.semAt_plain F _ _ (by rw [ho]; intro c hc'; cases hc')]
    simp [execOp, ho, resolve, invoke, builtin, hs, hx, hrun, Result.andThen]
    exact hK' _ _ (hK A' c' w' r1 r2)
end Go.Proofs.Ytdldfllllgogoaa
namespace Go.Proofs.Ytdldfllllgogoaa
open Go.RowKit Go.Shelf
attribute [local go_sem] Oper.semAt_some

theorem info_rng : (Try.prog.info? 78).map (fun i => (i.zero, i.size, i.bytes)) = some (some (.agg #[.int .i64 0, .int .i64 0]), 2, 16) := by kernel_rfl

def hits (last : Int) (pre : List (Int × Rng)) : List Rng := (pre.map Prod.snd).filter (hitB last)
def miss (last : Int) (pre : List (Int × Rng)) : List Rng := (pre.map Prod.snd).filter (fun r => ! hitB last r)
theorem hits_yes {last : Int} {pre : List (Int × Rng)} {x : Int × Rng} (h : hitB last x.2 = true) : hits last (pre ++ [x]) = hits last pre ++ [x.2] ∧ miss last (pre ++ [x]) = miss last pre := by
  constructor <;> simp [hits, miss, h]
theorem hits_no {last : Int} {pre : List (Int × Rng)} {x : Int × Rng} (h : hitB last x.2 = false) : hits last (pre ++ [x]) = hits last pre ∧ miss last (pre ++ [x]) = miss last pre ++ [x.2] := by
  constructor <;> simp [hits, miss, h]
theorem hits_le (last : Int) (pre : List (Int × Rng)) : (hits last pre).length ≤ pre.length ∧ (miss last pre).length ≤ pre.length := by
  constructor <;> exact Nat.le_trans (List.length_filter_le _ _) (by simp)
theorem back_snd (l : List Rng) : ∀ k, k ≤ l.length → (backTo l k).map Prod.snd = l.reverse.take k := by
  intro k
  induction k with
  | zero => intro _; rfl
  | succ k ih =>
    intro hk
    rw [backTo, List.map_append, ih (by omega), rev_take_succ l (l.length - 1 - k) k (by omega)]
    rfl
theorem filter_once (last : Int) : ∀ l : List Rng, (∀ i j, i < l.length → j < l.length → hitB last (l.getD i Rng.z) = true → hitB last (l.getD j Rng.z) = true → i = j) → (l.filter (hitB last)).length ≤ 1
  | [], _ => by simp
  | a :: t, h => by
    cases ha : hitB last a with
    | false =>
      rw [List.filter_cons_of_neg (by simp [ha])]
      exact filter_once last t fun i j hi hj h1 h2 => by
        have := h (i + 1) (j + 1) (by simpa using hi) (by simpa using hj) (by simpa using h1) (by simpa using h2)
        omega
    | true =>
      rw [List.filter_cons_of_pos ha]
      have : t.filter (hitB last) = [] := by
        rw [List.filter_eq_nil_iff]
        intro b hb hh
        obtain ⟨k, hk, rfl⟩ := mem_at hb
        have := h 0 (k + 1) (by simp) (by simpa using hk) (by simpa using ha) (by simpa using hh)
        omega
      rw [this]
      simp
theorem hit_once {done last : Int} {l : List Rng} (h : HoleMay done l) : l.reverse.filter (hitB last) = l.filter (hitB last) := by
  have h1 := filter_once last l fun i j hi hj => one_hit h hi hj
  rw [List.filter_reverse]
  cases hf : l.filter (hitB last) with
  | nil => rfl
  | cons x r =>
    rw [hf] at h1
    cases r with
    | nil => rfl
    | cons y r => simp at h1

set_option maxRecDepth 100000 in
set_option maxHeartbeats 4000000 in
theorem hole_Sacks_in (done : Int) (l : List Rng) (last n : Int) (A : Option Addr) (c : Nat) (w : World) (hl : SlRep Rng.rep w (· < w.heap.size) l A c) (h : holeMayB done l = true) (hn : 0 ≤ n ∧ n ≤ 16) :
    CallsIn Fence.wide 9 Try.prog 41 #[.int .i64 done, .slice A l.length c, .int .i64 last, .int .i64 n] w (RngsRes (.ok (sacks last n l)) w) := by
  have hm : HoleMay done l := by simpa [holeMayB] using h
  have hn16 := hm.2.2.1
  have HMAY := Lib.hid hm
  have HL := Lib.hid hl
  clear hl hm
  obtain ⟨i0, hi, hz0, hz1, hz2⟩ := info_parts info_rng
  refine callsIn_of_wp_marks Try.func41 rfl trivial ?_ rfl
  simp only [Try.ntmps41, List.size_toArray, List.length_cons, List.length_nil, Nat.reduceAdd, Nat.reduceSub, Array.replicate_succ, Array.replicate_zero, List.push_toArray, List.append_toArray, List.nil_append, List.cons_append]
  gi_wp2_with (first
    | (refine ⟨trivial, ?_⟩; gi_at_call 73; refine (callsIn_wide.2 (hole_May_yes done l A c _ (HL.out.next (balloc (bself w) _)) (by omega) h)).mono ?_; rintro e w1 ⟨rfl, hb1⟩; have hL1 : Boxed w1 w.heap.size 3 (.int .i64 last) := (hb1.block w.heap.size (by simp)).trans (Boxed.new w 3 (.int .i64 last)); have B1 : Below w.heap.size w w1 := (by repeat (first | (with_reducible exact Below.refl _ _) | (with_reducible assumption) | (with_reducible refine bset ?_ ?_ _) | (with_reducible refine balloc ?_ _) | (with_reducible refine Below.drew ?_) | (with_reducible refine bdrewN ?_ _) | (with_reducible refine bnext ?_ (by with_reducible assumption)) | exact Nat.le_refl _ | (simp; done) | omega | (simp; omega))); have ha1 : ∀ b o, b < w.heap.size → w1.cell? ⟨b, o, none⟩ = w.cell? ⟨b, o, none⟩ := fun b o h => B1.cell (p := ⟨b, o, none⟩) h; have hk1 : ∀ k, k < w.heap.size → k < w1.heap.size := fun _ h => Nat.lt_of_lt_of_le h B1.size; have hz1 := hb1.size; (try simp at hz1); have hl1_w0 : w.heap.size < w1.heap.size := Nat.lt_of_lt_of_le (by first | (simp; done) | (simp; omega) | omega) hb1.size; have hc1_w0 := fun o => hb1.cell (p := ⟨w.heap.size, o, none⟩) (by first | (simp; done) | (simp; omega) | omega); have hf1_w0 := fun o => hb1.frozen (p := ⟨w.heap.size, o, none⟩) (by first | (simp; done) | (simp; omega) | omega); (try simp [go_sem, *] at hc1_w0); (try simp [go_sem, *] at hf1_w0); clear hb1)
    | (refine ⟨trivial, ?_⟩; gi_at_call 74; refine (back_in Fence.wide _ trivial rfl _ _ _ _).mono ?_; rintro e w' ⟨rfl, rfl⟩)
    | fail)
  have hw1 : w.heap.size < w1.heap.size := hl1_w0
  obtain ⟨B, hB⟩ : ∃ B, B = w1.heap.size := ⟨_, rfl⟩
  have bA := ((Boxed.new w1 39 (.slice none 0 0)).alloc (.cells #[.slice none 0 0] 39)).alloc (.cells #[.slice A l.length c] 39)
  have bR := (Boxed.new (w1.alloc (.cells #[.slice none 0 0] 39)) 39 (.slice none 0 0)).alloc (.cells #[.slice A l.length c] 39)
  have bS := Boxed.new ((w1.alloc (.cells #[.slice none 0 0] 39)).alloc (.cells #[.slice none 0 0] 39)) 39 (.slice A l.length c)
  have bL := ((hL1.alloc (.cells #[.slice none 0 0] 39)).alloc (.cells #[.slice none 0 0] 39)).alloc (.cells #[.slice A l.length c] 39)
  simp only [World.size_alloc] at bA bR bS bL
  have hBW : Below w.heap.size w (((w1.alloc (.cells #[.slice none 0 0] 39)).alloc (.cells #[.slice none 0 0] 39)).alloc (.cells #[.slice A l.length c] 39)) := balloc (balloc (balloc B1 _) _) _
  have hsz : (((w1.alloc (.cells #[.slice none 0 0] 39)).alloc (.cells #[.slice none 0 0] 39)).alloc (.cells #[.slice A l.length c] 39)).heap.size = B + 3 := by rw [hB]; simp
  obtain ⟨W0, hW0⟩ : ∃ W0, ((w1.alloc (.cells #[.slice none 0 0] 39)).alloc (.cells #[.slice none 0 0] 39)).alloc (.cells #[.slice A l.length c] 39) = W0 := ⟨_, rfl⟩
  rw [hW0] at bA bR bS bL hBW hsz ⊢
  clear hW0 hL1
  rw [← hB] at bA bR bS ⊢
  have hwB : w.heap.size < B := by omega
  clear ha1 hk1 hz1 hl1_w0 hc1_w0 hf1_w0 hB
  refine wpIn_rangeFunc_ownH rfl (by omega) (gf := 97) (lb := #[.pointer (some ⟨B + 1 + 1, 0, none⟩)]) rfl trivial (enters_of Try.func97 (by kernel_rfl) rfl)
    (back_stops Fence.wide _ trivial rfl (by omega) (B + 1 + 1) w.heap.size l A c (by omega) W0 (by omega) (by omega) bS.cell (HL.out.below hBW)) BackKp.trans (fun W lp o o' => back_keeps (by omega) W lp o o') (Below.refl _ _) (fun _ => rfl)
    (fun pre W => ∃ A1 c1 A2 c2, SackC w (B + 3) B (B + 1) (B + 1 + 1) w.heap.size last A l.length c (hits last pre) (miss last pre) A1 c1 A2 c2 W)
    (fun _ _ _ => False)
    (fun pre W W' row hs hg hr => by obtain ⟨A1, c1, A2, c2, hS⟩ := hs; exact ⟨A1, c1, A2, c2, hS.kept hg (fun r e => ⟨by have := (hr r e).1; omega, (hr r e).2⟩)⟩)
    (fun _ _ _ _ _ hs _ _ => hs)
    ⟨none, 0, none, 0, bA, bR, bS, bL, Own.nil _ _ _ _, Own.nil _ _ _ _, Two.none_left _, hBW, ⟨by omega, by omega⟩, ⟨by omega, by omega⟩, ⟨by omega, by omega⟩, by omega, by omega, by omega, by omega, by omega, by omega, by omega⟩
    (fun x a' W => ∃ Bx, B + 3 ≤ Bx ∧ W.heap[Bx]? = some (.cells #[.int .i64 x.2.lo, .int .i64 x.2.hi] 78) ∧ a' = { tmps := #[.int .i64 done, .slice A l.length c, .int .i64 last, .int .i64 n, undef, undef, .pointer (some ⟨w.heap.size, 0, none⟩), undef, .slice none 0 0, .int .i64 0, .pointer (some ⟨B, 0, none⟩), .pointer (some ⟨B + 1, 0, none⟩), undef, .pointer (some ⟨Bx, 0, none⟩), .int .i64 done, .slice A l.length c, .bool true, .bool false, .int .i64 n, .bool (decide (n < 0)), .bool (decide (n < 0)), .int .i64 n, .bool (decide (16 < n)), .bool (decide (n < 0) || decide (16 < n)), .slice A l.length c, .func (.func 97) #[] #[.pointer (some ⟨B + 1 + 1, 0, none⟩)], .int .i64 x.1, .agg #[.int .i64 x.2.lo, .int .i64 x.2.hi], undef, undef, undef, undef, undef, undef, undef, undef, undef, undef, undef, undef, undef, undef, undef, undef, undef, undef, undef, undef, undef, undef, undef, undef, undef, undef, undef], defers := [] })
    (fun x a' _ X Y row hs hg hr => by
      obtain ⟨Bx, h1, h2, h3⟩ := hs
      refine ⟨Bx, h1, (hg.block Bx (Array.getElem?_eq_some_iff.1 h2).1 (fun e => ?_)).trans h2, h3⟩
      obtain ⟨_, o, ho, hc⟩ := hr Bx e.symm
      rw [h2] at ho
      cases ho
      cases hc)
    ?assign ?body ?done ?stop
  case assign =>
    rintro lp pre x W K ⟨A1, c1, A2, c2, hS⟩ hK
    gi_wp2
    exact hK _ _ ((KeepsOthers.alloc _ _).from _) ⟨(Below.refl _ W).alloc hS.low.size _, fun v hv => ((balloc (bself W) _).cell (p := ⟨B + 1 + 1, 0, none⟩) hS.bs.lt).trans hv⟩ ⟨A1, c1, A2, c2, hS.alloc _⟩ ⟨W.heap.size, hS.h0.2, World.alloc_heap_new _ _, rfl⟩
  case body =>
    rintro lp pre ⟨xi, ⟨x, y⟩⟩ a' W _ ⟨r, hr⟩ ⟨A1, c1, A2, c2, hS⟩ ⟨Bx, hBx, hX, rfl⟩ hlt
    dsimp only at hX ⊢
    have x0 : W.cell? ⟨Bx, 0, none⟩ = some (.int .i64 x) := by simp [World.cell?, hX]
    have x1 : W.cell? ⟨Bx, 1, none⟩ = some (.int .i64 y) := by simp [World.cell?, hX]
    have y0 := hS.bl.cell
    have y1 : W.cell? ⟨B, 0, none⟩ = some (.slice A1 (hits last pre).length c1) := hS.ba.cell
    have y2 : W.cell? ⟨B + 1, 0, none⟩ = some (.slice A2 (miss last pre).length c2) := hS.bb.cell
    have z1 : W.frozen? ⟨B, 0, none⟩ = false := hS.ba.frozen
    have z2 : W.frozen? ⟨B + 1, 0, none⟩ = false := hS.bb.frozen
    have hlh := hits_le last pre
    have HS := Lib.hid hS
    have hsW := hS.h0.2
    clear hS hX
    by_cases h1 : x ≤ last
    · by_cases h2 : last < y
      · have hh : hitB last ⟨x, y⟩ = true := by simp [hitB, h1, h2]
        gi_wp2_with (gi_at_builtin; refine wpIn_app _ rfl _ _ _ rfl elemRng (B + 3) A1 _ c1 _ rfl (HS.out.alloc _).o1 (some ⟨W.heap.size, 0, none⟩) 1 1 [.int .i64 x, .int .i64 y] rfl rfl (Cells.newAt _ _ _ rfl) (by simp [Value.oneCell']) (by omega) (by unfold maxLen; omega) (by simp; omega) ?_; intro A3 c3 w3 hO hg; obtain ⟨hS2, hKF, hLow, hb3⟩ := HS.out.step (x := ⟨x, y⟩) hg hO; have hc3 := hb3.cell; have hf3 := hb3.frozen)
        exact ⟨hKF _, ⟨hLow _ (by omega), fun v hv => by rw [HS.out.bs.cell] at hv; cases hv; exact hS2.bs.cell⟩, ⟨A3, c3, A2, c2, by rw [(hits_yes (x := (xi, ⟨x, y⟩)) hh).1, (hits_yes (x := (xi, ⟨x, y⟩)) hh).2]; exact hS2⟩⟩
      · have hh : hitB last ⟨x, y⟩ = false := by simp [hitB, h2]
        gi_wp2_with (gi_at_builtin; refine wpIn_app _ rfl _ _ _ rfl elemRng (B + 3) A2 _ c2 _ rfl (HS.out.alloc _).o2 (some ⟨W.heap.size, 0, none⟩) 1 1 [.int .i64 x, .int .i64 y] rfl rfl (Cells.newAt _ _ _ rfl) (by simp [Value.oneCell']) (by omega) (by unfold maxLen; omega) (by simp; omega) ?_; intro A3 c3 w3 hO hg; obtain ⟨hS2, hKF, hLow, hb3⟩ := HS.out.swap.step (x := ⟨x, y⟩) hg hO; have hc3 := hb3.cell; have hf3 := hb3.frozen)
        exact ⟨hKF _, ⟨hLow _ (by omega), fun v hv => by rw [HS.out.bs.cell] at hv; cases hv; exact hS2.bs.cell⟩, ⟨A1, c1, A3, c3, by rw [(hits_no (x := (xi, ⟨x, y⟩)) hh).1, (hits_no (x := (xi, ⟨x, y⟩)) hh).2]; exact hS2.swap⟩⟩
    · have hh : hitB last ⟨x, y⟩ = false := by simp [hitB, h1]
      gi_wp2_with (gi_at_builtin; refine wpIn_app _ rfl _ _ _ rfl elemRng (B + 3) A2 _ c2 _ rfl (HS.out.alloc _).o2 (some ⟨W.heap.size, 0, none⟩) 1 1 [.int .i64 x, .int .i64 y] rfl rfl (Cells.newAt _ _ _ rfl) (by simp [Value.oneCell']) (by omega) (by unfold maxLen; omega) (by simp; omega) ?_; intro A3 c3 w3 hO hg; obtain ⟨hS2, hKF, hLow, hb3⟩ := HS.out.swap.step (x := ⟨x, y⟩) hg hO; have hc3 := hb3.cell; have hf3 := hb3.frozen)
      exact ⟨hKF _, ⟨hLow _ (by omega), fun v hv => by rw [HS.out.bs.cell] at hv; cases hv; exact hS2.bs.cell⟩, ⟨A1, c1, A3, c3, by rw [(hits_no (x := (xi, ⟨x, y⟩)) hh).1, (hits_no (x := (xi, ⟨x, y⟩)) hh).2]; exact hS2.swap⟩⟩
  case done =>
    rintro D ys W hD rfl ⟨A1, c1, A2, c2, hS⟩ hK
    have e1 : hits last (backTo l l.length) = l.filter (hitB last) := by
      unfold hits
      rw [back_snd l _ (Nat.le_refl _), List.take_of_length_le (by simp), hit_once HMAY.out]
    have e2 : miss last (backTo l l.length) = l.reverse.filter (fun r => ! hitB last r) := by
      unfold miss
      rw [back_snd l _ (Nat.le_refl _), List.take_of_length_le (by simp)]
    have hlh := hits_le last (backTo l l.length)
    rw [backTo_length] at hlh
    have HALL : Hid (hits last (backTo l l.length) ++ miss last (backTo l l.length) = sackAll last l) := Lib.hid (by rw [e1, e2]; rfl)
    have HLEN := Lib.hid (sackAll_length last l)
    clear e1 e2
    generalize hits last (backTo l l.length) = l1 at *
    generalize miss last (backTo l l.length) = l2 at *
    have y1 : W.cell? ⟨B, 0, none⟩ = some (.slice A1 l1.length c1) := hS.ba.cell
    have y2 : W.cell? ⟨B + 1, 0, none⟩ = some (.slice A2 l2.length c2) := hS.bb.cell
    have z1 : W.frozen? ⟨B, 0, none⟩ = false := hS.ba.frozen
    have hsum : l1.length + l2.length = l.length := by rw [← List.length_append, HALL.out, HLEN.out]
    have HS := Lib.hid hS
    have hsW := hS.h0.2
    clear hS
    have HT : Hid ((sacks last n l).length = min n.toNat l.length) := Lib.hid (by unfold sacks; rw [List.length_take, HLEN.out])
    by_cases hgt : (l.length : Int) < n
    · have HCG := Lib.hid (fun (A3 : Option Addr) (c3 : Nat) (hc : l.length ≤ c3) => run_cut_h (P := Try.prog) elemRng A3 l.length c3 l.length hc (l.length : Int) rfl)
      gi_wp2_with (gi_at_builtin; refine wpIn_app _ rfl _ _ _ rfl elemRng (B + 3) A1 _ c1 _ rfl HS.out.o1 A2 l2.length c2 (l2.flatMap Rng.cells) rfl (by rw [flatMap_len Rng.cells 2 (fun _ => rfl)]) HS.out.o2.cells (Rng.one l2) (by omega) (by unfold maxLen; omega) (by omega) ?_; intro A3 c3 w3 hO hg; have hba := HS.out.ba.kept hg.grown (box_row HS.out.ba HS.out.o1); have hc3 := hba.cell; have hf3 := hba.frozen; have HO := Lib.hid hO; have hcut := HCG.out A3 c3 (Nat.le_trans (Nat.le_of_eq hsum.symm) hO.cap.1); clear hO)
      have hD3 : w3.heap[D]? = some (.deferred (some [])) := (hg.grown.block D (Array.getElem?_eq_some_iff.1 hK).1 (fun e => by
        rcases row_ne HS.out.o1 (row := some D) (fun r e' => by cases e'; exact ⟨_, hK, rfl⟩) with h1 | h1
        · rw [h1] at e; cases e
        · exact h1 e.symm)).trans hK
      have hK3 := fun v => (Below.heap_setCell w3 ⟨B, 0, none⟩ v D (by show D ≠ B; omega)).trans hD3
      refine ⟨by simp, .inl ⟨_, _, rfl, run_takeDeferred (hK3 _), ?_⟩⟩
      refine ⟨_, results_tmp2 rfl _ _ _, A3, c3, ?_, ?_, ?_⟩
      · show _ = Ending.returned (.tuple #[.slice A3 (sacks last n l).length c3, .int .i64 0])
        rw [HT.out, Nat.min_eq_right (by omega)]
        try rfl
      · have o1 := HO.out.setCell (p := ⟨B, 0, none⟩) (fun e => by have h1 : B + 3 ≤ B := (HO.out.lt _ e).1; omega) (.slice A3 (l1.length + l2.length) c3)
        have o2 : Own _ (B + 3) 78 2 A3 (l1.length + l2.length) c3 (l1.flatMap Rng.cells ++ l2.flatMap Rng.cells) := ownsRow_putObj o1 (.deferred none) (hK3 _) rfl
        rw [← List.flatMap_append, HALL.out] at o2
        have o3 := (o2.rng.2.take n.toNat).keep (S' := fun k => w.heap.size ≤ k ∧ k < ((w3.setCell ⟨B, 0, none⟩ (.slice A3 (l1.length + l2.length) c3)).putObj D (.deferred none)).heap.size) (w' := (w3.setCell ⟨B, 0, none⟩ (.slice A3 (l1.length + l2.length) c3)).putObj D (.deferred none)) (fun k hk => ⟨⟨by omega, hk.2⟩, rfl⟩)
        rw [hsum] at o3
        exact o3
      · have k1 : Below w.heap.size w (w3.setCell ⟨B, 0, none⟩ (.slice A3 l.length c3)) := (HS.out.low.trans (hg.below HS.out.low.size (fun k e => by have := (HS.out.o1.lt k e).1; omega))).setCell (p := ⟨B, 0, none⟩) (by show w.heap.size ≤ B; omega) _
        exact k1.trans (belowK_b (w := w) (Nat.le_refl _) _ D _ _ (by omega) (hK3 _) rfl rfl)
    · have HCG := Lib.hid (fun (A3 : Option Addr) (c3 : Nat) (hc : l.length ≤ c3) => run_cut_h (P := Try.prog) elemRng A3 l.length c3 n.toNat (by omega) n (by omega))
      gi_wp2_with (gi_at_builtin; refine wpIn_app _ rfl _ _ _ rfl elemRng (B + 3) A1 _ c1 _ rfl HS.out.o1 A2 l2.length c2 (l2.flatMap Rng.cells) rfl (by rw [flatMap_len Rng.cells 2 (fun _ => rfl)]) HS.out.o2.cells (Rng.one l2) (by omega) (by unfold maxLen; omega) (by omega) ?_; intro A3 c3 w3 hO hg; have hba := HS.out.ba.kept hg.grown (box_row HS.out.ba HS.out.o1); have hc3 := hba.cell; have hf3 := hba.frozen; have HO := Lib.hid hO; have hcut := HCG.out A3 c3 (Nat.le_trans (Nat.le_of_eq hsum.symm) hO.cap.1); clear hO)
      have hD3 : w3.heap[D]? = some (.deferred (some [])) := (hg.grown.block D (Array.getElem?_eq_some_iff.1 hK).1 (fun e => by
        rcases row_ne HS.out.o1 (row := some D) (fun r e' => by cases e'; exact ⟨_, hK, rfl⟩) with h1 | h1
        · rw [h1] at e; cases e
        · exact h1 e.symm)).trans hK
      have hK3 := fun v => (Below.heap_setCell w3 ⟨B, 0, none⟩ v D (by show D ≠ B; omega)).trans hD3
      refine ⟨by simp, .inl ⟨_, _, rfl, run_takeDeferred (hK3 _), ?_⟩⟩
      refine ⟨_, results_tmp2 rfl _ _ _, A3, c3, ?_, ?_, ?_⟩
      · show _ = Ending.returned (.tuple #[.slice A3 (sacks last n l).length c3, .int .i64 0])
        rw [HT.out, Nat.min_eq_left (by omega)]
        try rfl
      · have o1 := HO.out.setCell (p := ⟨B, 0, none⟩) (fun e => by have h1 : B + 3 ≤ B := (HO.out.lt _ e).1; omega) (.slice A3 (l1.length + l2.length) c3)
        have o2 : Own _ (B + 3) 78 2 A3 (l1.length + l2.length) c3 (l1.flatMap Rng.cells ++ l2.flatMap Rng.cells) := ownsRow_putObj o1 (.deferred none) (hK3 _) rfl
        rw [← List.flatMap_append, HALL.out] at o2
        have o3 := (o2.rng.2.take n.toNat).keep (S' := fun k => w.heap.size ≤ k ∧ k < ((w3.setCell ⟨B, 0, none⟩ (.slice A3 (l1.length + l2.length) c3)).putObj D (.deferred none)).heap.size) (w' := (w3.setCell ⟨B, 0, none⟩ (.slice A3 (l1.length + l2.length) c3)).putObj D (.deferred none)) (fun k hk => ⟨⟨by omega, hk.2⟩, rfl⟩)
        rw [hsum] at o3
        exact o3
      · have k1 : Below w.heap.size w (w3.setCell ⟨B, 0, none⟩ (.slice A3 l.length c3)) := (HS.out.low.trans (hg.below HS.out.low.size (fun k e => by have := (HS.out.o1.lt k e).1; omega))).setCell (p := ⟨B, 0, none⟩) (by show w.heap.size ≤ B; omega) _
        exact k1.trans (belowK_b (w := w) (Nat.le_refl _) _ D _ _ (by omega) (hK3 _) rfl rfl)
  case stop =>
    rintro D c pre W _ _ h _
    exact h.elim
end Go.Proofs.Ytdldfllllgogoaa
namespace Go.Proofs.Ytdldfllllgogoaa
open Go.RowKit Go.Shelf

section
attribute [local go_sem] Oper.semAt_some
set_option maxRecDepth 100000 in
set_option maxHeartbeats 2000000 in
theorem hole_Sacks_form (done : Int) (l : List Rng) (last n : Int) (A : Option Addr) (c : Nat) (w : World) (hl : SlRep Rng.rep w (· < w.heap.size) l A c) (hn : l.length ≤ 140737488351232) (h : holeMayB done l = false) :
    CallsIn Fence.wide 9 Try.prog 41 #[.int .i64 done, .slice A l.length c, .int .i64 last, .int .i64 n] w (RngsRes (.error 4) w) := by
  have HL := Lib.hid hl
  clear hl
  refine callsIn_of_wp_marks Try.func41 rfl trivial ?_ rfl
  simp only [Try.ntmps41, List.size_toArray, List.length_cons, List.length_nil, Nat.reduceAdd, Nat.reduceSub, Array.replicate_succ, Array.replicate_zero, List.push_toArray, List.append_toArray, List.nil_append, List.cons_append]
  gi_wp2_with (first
    | (refine ⟨trivial, ?_⟩; gi_at_call 73; refine (callsIn_wide.2 (hole_May_no done l A c _ (HL.out.next (balloc (bself w) _)) hn h)).mono ?_; rintro e w1 ⟨rfl, hb1⟩)
    | fail)
  exact ⟨_, results_tmp2 rfl _ _ _, none, 0, rfl, sl_nil _ _ _, (by repeat (first | (with_reducible exact Below.refl _ _) | (with_reducible assumption) | (with_reducible refine bset ?_ ?_ _) | (with_reducible refine balloc ?_ _) | (with_reducible refine Below.drew ?_) | (with_reducible refine bdrewN ?_ _) | (with_reducible refine bnext ?_ (by with_reducible assumption)) | exact Nat.le_refl _ | (simp; done) | omega | (simp; omega)))⟩
set_option maxRecDepth 100000 in
set_option maxHeartbeats 2000000 in
theorem hole_Sacks_range (done : Int) (l : List Rng) (last n : Int) (A : Option Addr) (c : Nat) (w : World) (hl : SlRep Rng.rep w (· < w.heap.size) l A c) (hn : l.length ≤ 140737488351232) (h : holeMayB done l = true) (hr : n < 0 ∨ 16 < n) :
    CallsIn Fence.wide 9 Try.prog 41 #[.int .i64 done, .slice A l.length c, .int .i64 last, .int .i64 n] w (RngsRes (.error 2) w) := by
  have HL := Lib.hid hl
  clear hl
  refine callsIn_of_wp_marks Try.func41 rfl trivial ?_ rfl
  simp only [Try.ntmps41, List.size_toArray, List.length_cons, List.length_nil, Nat.reduceAdd, Nat.reduceSub, Array.replicate_succ, Array.replicate_zero, List.push_toArray, List.append_toArray, List.nil_append, List.cons_append]
  gi_wp2_with (first
    | (refine ⟨trivial, ?_⟩; gi_at_call 73; refine (callsIn_wide.2 (hole_May_yes done l A c _ (HL.out.next (balloc (bself w) _)) hn h)).mono ?_; rintro e w1 ⟨rfl, hb1⟩)
    | fail)
  all_goals first
    | exact ⟨_, results_tmp2 rfl _ _ _, none, 0, rfl, sl_nil _ _ _, (by repeat (first | (with_reducible exact Below.refl _ _) | (with_reducible assumption) | (with_reducible refine bset ?_ ?_ _) | (with_reducible refine balloc ?_ _) | (with_reducible refine Below.drew ?_) | (with_reducible refine bdrewN ?_ _) | (with_reducible refine bnext ?_ (by with_reducible assumption)) | exact Nat.le_refl _ | (simp; done) | omega | (simp; omega)))⟩
    | omega
end

set_option maxHeartbeats 1000000 in
theorem ref_Sacks_form (done : Int) (l : List Rng) (last n : Int) (A : Option Addr) (c : Nat) (w : World) (hl : SlRep Rng.rep w (· < w.heap.size) l A c) (hn : l.length ≤ 140737488351232) (h : holeMayB done l = false) :
    Calls Try.prog 44 #[.int .i64 done, .slice A l.length c, .int .i64 last, .int .i64 n] w (RngsRes (.error 4) w) := by
  have HL := Lib.hid hl
  clear hl
  go_enter Try.func44, Try.ntmps44
  go_wp2_with (go_at_call 75; refine (ref_HoleMay_no done l A c _ HL.out hn h).mono ?_; rintro e w1 ⟨rfl, hb1⟩)
  go_ret2
  exact ⟨none, 0, rfl, sl_nil _ _ _, hb1⟩
set_option maxHeartbeats 1000000 in
theorem ref_Sacks_range (done : Int) (l : List Rng) (last n : Int) (A : Option Addr) (c : Nat) (w : World) (hl : SlRep Rng.rep w (· < w.heap.size) l A c) (hn : l.length ≤ 140737488351232) (h : holeMayB done l = true) (hr : n < 0 ∨ 16 < n) :
    Calls Try.prog 44 #[.int .i64 done, .slice A l.length c, .int .i64 last, .int .i64 n] w (RngsRes (.error 2) w) := by
  have HL := Lib.hid hl
  clear hl
  by_cases h0 : n < 0
  · go_enter Try.func44, Try.ntmps44
    go_wp2_with (go_at_call 75; refine (ref_HoleMay_yes done l A c _ HL.out hn h).mono ?_; rintro e w1 ⟨rfl, hb1⟩)
    go_ret2
    exact ⟨none, 0, rfl, sl_nil _ _ _, hb1⟩
  · have h1 : 16 < n := by omega
    clear hr
    go_enter Try.func44, Try.ntmps44
    go_wp2_with (go_at_call 75; refine (ref_HoleMay_yes done l A c _ HL.out hn h).mono ?_; rintro e w1 ⟨rfl, hb1⟩)
    go_ret2
    exact ⟨none, 0, rfl, sl_nil _ _ _, hb1⟩

/-- what both answer -/
noncomputable def sackRes (done : Int) (l : List Rng) (last n : Int) : Except Int (List Rng) :=
  if holeMayB done l = false then .error 4 else if n < 0 ∨ 16 < n then .error 2 else .ok (sacks last n l)
theorem may_len {done : Int} {l : List Rng} (h : holeMayB done l = true) : l.length ≤ 16 := by
  have hm : HoleMay done l := by simpa [holeMayB] using h
  exact hm.2.2.1
theorem hole_Sacks_res (done : Int) (l : List Rng) (last n : Int) (A : Option Addr) (c : Nat) (w : World) (hl : SlRep Rng.rep w (· < w.heap.size) l A c) (hn : l.length ≤ 140737488351232) :
    Calls Try.prog 41 #[.int .i64 done, .slice A l.length c, .int .i64 last, .int .i64 n] w (RngsRes (sackRes done l last n) w) := by
  cases h : holeMayB done l with
  | false => rw [show sackRes done l last n = .error 4 from if_pos h]; exact callsIn_wide.1 (hole_Sacks_form done l last n A c w hl hn h)
  | true =>
    by_cases hr : n < 0 ∨ 16 < n
    · rw [show sackRes done l last n = .error 2 by unfold sackRes; rw [if_neg (by simp [h]), if_pos hr]]; exact callsIn_wide.1 (hole_Sacks_range done l last n A c w hl hn h hr)
    · rw [show sackRes done l last n = .ok (sacks last n l) by unfold sackRes; rw [if_neg (by simp [h]), if_neg hr]]; exact callsIn_wide.1 (hole_Sacks_in done l last n A c w hl h (by omega))
theorem ref_Sacks_res (done : Int) (l : List Rng) (last n : Int) (A : Option Addr) (c : Nat) (w : World) (hl : SlRep Rng.rep w (· < w.heap.size) l A c) (hn : l.length ≤ 140737488351232) :
    Calls Try.prog 44 #[.int .i64 done, .slice A l.length c, .int .i64 last, .int .i64 n] w (RngsRes (sackRes done l last n) w) := by
  cases h : holeMayB done l with
  | false => rw [show sackRes done l last n = .error 4 from if_pos h]; exact ref_Sacks_form done l last n A c w hl hn h
  | true =>
    by_cases hr : n < 0 ∨ 16 < n
    · rw [show sackRes done l last n = .error 2 by unfold sackRes; rw [if_neg (by simp [h]), if_pos hr]]; exact ref_Sacks_range done l last n A c w hl hn h hr
    · rw [show sackRes done l last n = .ok (sacks last n l) by unfold sackRes; rw [if_neg (by simp [h]), if_neg hr]]; exact ref_Sacks_ok done l last n A c w hl h (by omega)

end Go.Proofs.Ytdldfllllgogoaa
namespace Go.Proofs.Ytdldfllllgogoaa.rv
open had

/-- the ranges of places from lo on, k of them looked at -/
def runs (P : Int → Bool) (lo : Int) : Nat → List Rng
  | 0 => []
  | k + 1 => if P (lo + k) = true then (match (runs P lo k).getLast? with
      | some x => if x.hi = lo + k then (runs P lo k).dropLast ++ [⟨x.lo, lo + k + 1⟩] else runs P lo k ++ [⟨lo + k, lo + k + 1⟩]
      | none => [⟨lo + k, lo + k + 1⟩]) else runs P lo k
theorem runs_ok (P : Int → Bool) (lo : Int) : ∀ k : Nat, Canon (lo - 1) (runs P lo k) ∧ (∀ x, x ∈ runs P lo k → x.hi ≤ lo + k) ∧ ∀ p, cov (runs P lo k) p ↔ (lo ≤ p ∧ p < lo + k) ∧ P p = true
  | 0 => ⟨trivial, fun x hx => (by cases hx), fun p => ⟨fun h => absurd h (cov_nil p), fun h => (by omega)⟩⟩
  | k + 1 => by
    obtain ⟨h1, h2, h3⟩ := runs_ok P lo k
    have hk : ((k + 1 : Nat) : Int) = (k : Int) + 1 := by omega
    rw [runs, hk]
    generalize runs P lo k = o at *
    generalize ha : lo + (k : Int) = a at *
    have hla : lo ≤ a := by omega
    have e1 : lo + ((k : Int) + 1) = a + 1 := by omega
    rw [e1]
    by_cases hc : P a = true
    · rw [if_pos hc]
      have key : ∀ {o' : List Rng}, (∀ p, cov o' p ↔ cov o p ∨ (a ≤ p ∧ p < a + 1)) → ∀ p, cov o' p ↔ (lo ≤ p ∧ p < a + 1) ∧ P p = true := fun {o'} ho p => by
        rw [ho, h3]
        constructor
        · rintro (⟨⟨e1, e2⟩, e3⟩ | ⟨e1, e2⟩)
          · exact ⟨⟨e1, by omega⟩, e3⟩
          · obtain rfl : p = a := by omega
            exact ⟨⟨by omega, e2⟩, hc⟩
        · rintro ⟨⟨e1, e2⟩, e3⟩
          by_cases e4 : p < a
          · exact .inl ⟨⟨e1, e4⟩, e3⟩
          · exact .inr ⟨by omega, e2⟩
      rcases List.eq_nil_or_concat o with rfl | ⟨o', x, ho⟩
      · simp only [List.getLast?_nil]
        refine ⟨⟨by simp only; omega, by simp only; omega, trivial⟩, fun y hy => ?_, key fun p => ?_⟩
        · simp at hy; subst hy; exact Int.le_refl _
        · rw [cov_cons]; simp only [cov_nil, or_false, false_or]; rfl
      · subst ho
        rw [List.concat_eq_append] at *
        simp only [List.getLast?_append, List.getLast?_singleton, Option.some_or]
        have hxl := h1.mem x (by simp)
        have hxa := h2 x (by simp)
        by_cases e : x.hi = a
        · rw [if_pos e, List.dropLast_concat]
          refine ⟨h1.stretch (by omega), fun y hy => ?_, key fun p => ?_⟩
          · rcases List.mem_append.1 hy with hy | hy
            · have := h2 y (by simp [hy]); omega
            · simp at hy; subst hy; exact Int.le_refl _
          · rw [cov_app, cov_app, cov_cons, cov_cons]
            simp only [cov_nil, or_false, or_assoc]
            refine or_congr Iff.rfl ?_
            unfold inR
            simp only
            omega
        · rw [if_neg e]
          refine ⟨h1.snoc (by simp only; omega) (fun y hy => ?_) (by simp only; omega), fun y hy => ?_, key fun p => ?_⟩
          · rcases List.mem_append.1 hy with hy' | hy'
            · have e1 := h1.lastlo y hy'
              simp only
              omega
            · simp at hy'; subst hy'; simp only; omega
          · rcases List.mem_append.1 hy with hy | hy
            · have := h2 y hy; omega
            · simp at hy; subst hy; exact Int.le_refl _
          · rw [cov_app, cov_cons]
            simp only [cov_nil, or_false]
            rfl
    · rw [if_neg hc]
      refine ⟨h1, fun y hy => by have := h2 y hy; omega, fun p => ?_⟩
      rw [h3]
      constructor
      · rintro ⟨⟨e1, e2⟩, e3⟩
        exact ⟨⟨e1, by omega⟩, e3⟩
      · rintro ⟨⟨e1, e2⟩, e3⟩
        by_cases e4 : p < a
        · exact ⟨⟨e1, e4⟩, e3⟩
        · obtain rfl : p = a := by omega
          exact absurd e3 hc

/-- who hears -/
structure St where
  done : Int
  more : List Rng
  taken : Int
  end_ : Int
  data : List UInt8
def start : St := ⟨0, [], 0, -1, []⟩
def came (s : St) (n : Int) : Prop := (0 ≤ n ∧ n < s.done) ∨ cov s.more n
theorem chain_of : ∀ (l : List Rng) (done : Int), Canon done l → Chain done l l.length
  | [], _, _ => fun i hi => by simp at hi
  | r :: l, done, h => by
    intro i hi
    cases i with
    | zero => exact ⟨by simpa [endAt] using h.1, by simpa using h.2.1⟩
    | succ i =>
      have h1 := chain_of l r.hi h.2.2 i (by simpa using hi)
      rw [endAt_succ]
      cases i with
      | zero => simpa [endAt] using h1
      | succ i => rw [endAt_succ] at h1; simpa using h1
theorem may_of {done : Int} {l : List Rng} (hc : Canon done l) (h0 : 0 ≤ done) (h1 : done ≤ 1048576) (hl : l.length ≤ 16) (hh : ∀ r, r ∈ l → r.hi ≤ 1048576) : HoleMay done l := by
  refine ⟨h0, h1, hl, chain_of l done hc, ?_⟩
  unfold endAt
  split
  · exact h1
  · next hne =>
    have hi : l.length - 1 < l.length := by omega
    rw [List.getD_eq_getElem?_getD, List.getElem?_eq_getElem hi]
    exact hh _ (List.getElem_mem hi)
/-- what holds of it -/
structure Inv (room : Int) (s : St) : Prop where
  lo : 0 ≤ s.taken ∧ s.taken ≤ s.done ∧ s.done ≤ s.taken + room
  canon : Canon s.done s.more
  few : s.more.length ≤ 16
  top : s.done ≤ 1048575
  hi : ∀ r, r ∈ s.more → r.hi ≤ s.taken + room ∧ r.hi ≤ 1048575
  fin : s.end_ = -1 ∨ 0 ≤ s.end_ ∧ s.end_ < 1048576
  len : s.done ≤ s.data.length ∧ ∀ r, r ∈ s.more → r.hi ≤ s.data.length
theorem Inv.may {room : Int} {s : St} (h : Inv room s) : HoleMay s.done s.more := may_of h.canon (by have := h.lo; omega) (by have := h.top; omega) h.few fun r hr => by have := (h.hi r hr).2; omega
open Classical in
/-- the places' bytes -/
noncomputable def bytesOf (s : St) (n : Int) : Option UInt8 := if came s n then some (s.data.getD n.toNat 0) else none
theorem bytesOf_some {s : St} {n : Int} : bytesOf s n ≠ none ↔ came s n := by
  unfold bytesOf
  by_cases h : came s n
  · simp [h]
  · simp [h]
/-- the ranges that a map of places tells are those held -/
theorem runs_more {room : Int} {s : St} (h : Inv room s) {P : Int → Bool} (hP : ∀ n, P n = true ↔ came s n) {k : Nat} (hk : s.taken + room + 1 ≤ s.done + k) : runs P s.done k = s.more := by
  obtain ⟨h1, h2, h3⟩ := runs_ok P s.done k
  refine ext h1 h.canon fun p => ?_
  rw [h3, hP]
  unfold came
  constructor
  · rintro ⟨⟨e1, e2⟩, e3 | e3⟩
    · omega
    · exact e3
  · intro hc
    obtain ⟨r, hr, hp⟩ := hc
    have a1 := h.canon.mem r hr
    have a2 := (h.hi r hr).1
    have a3 := hp.1
    have a4 := hp.2
    exact ⟨⟨by omega, by omega⟩, .inr ⟨r, hr, hp⟩⟩
/-- the first place that did not come -/
theorem low_not {room : Int} {s : St} (h : Inv room s) : ¬ came s s.done := by
  rintro (e | ⟨r, hr, hp⟩)
  · omega
  · have := (h.canon.mem r hr).1
    have := hp.1
    omega
theorem Inv.start {room : Int} (h : 1 ≤ room) : Inv room start := ⟨by show (0 : Int) ≤ 0 ∧ (0 : Int) ≤ 0 ∧ (0 : Int) ≤ 0 + room; omega, trivial, by decide, by decide, fun r hr => (by cases hr), .inl rfl, by decide, fun r hr => (by cases hr)⟩

/-! ### What an arrival does -/
def to_ (a : Arrival) : Int := a.from_ + a.data.length
def beyond (s : St) : Int := match s.more.getLast? with
  | some r => r.hi
  | none => s.done
/-- bytes laid where none came -/
noncomputable def putAll (more : List Rng) (fr : Nat) (b : List UInt8) : Nat → List UInt8 → List UInt8
  | 0, d => d
  | k + 1, d => open Classical in if cov more (fr + k : Nat) then putAll more fr b k d else (putAll more fr b k d).set (fr + k) (b.getD k 0)
noncomputable def kept (more : List Rng) (d : List UInt8) (fr : Nat) (b : List UInt8) : List UInt8 := putAll more fr b b.length (d ++ List.replicate (fr + b.length - d.length) 0)
def frOf (s : St) (a : Arrival) : Int := max a.from_ s.done
def upOf (room : Int) (s : St) (a : Arrival) : Int := min (to_ a) (s.taken + room)
def part (room : Int) (s : St) (a : Arrival) : List UInt8 := (a.data.drop (frOf s a - a.from_).toNat).take (upOf room s a - frOf s a).toNat
noncomputable def arrive (room : Int) (s : St) (a : Arrival) : Int × St :=
  if a.from_ < 0 ∨ 1048576 ≤ a.from_ ∨ 1048576 ≤ to_ a then (2, s)
  else if 64 < a.data.length then (1, s)
  else if (0 ≤ s.end_ ∧ (s.end_ < to_ a ∨ a.fin = true ∧ to_ a ≠ s.end_)) ∨ a.fin = true ∧ to_ a < beyond s then (10, s)
  else if frOf s a < upOf room s a then
    (if 16 < (addTo s.done s.more ⟨frOf s a, upOf room s a⟩).2.length then (9, s)
     else (0, { s with done := (addTo s.done s.more ⟨frOf s a, upOf room s a⟩).1, more := (addTo s.done s.more ⟨frOf s a, upOf room s a⟩).2, data := kept s.more s.data (frOf s a).toNat (part room s a), end_ := if a.fin = true then to_ a else s.end_ }))
  else (0, { s with end_ := if a.fin = true then to_ a else s.end_ })
def takeOf (s : St) (count : Int) : Nat := (min count (s.done - s.taken)).toNat
/-- one arrival: code, data, whether the end was taken, and who hears behind it; what was last -/
noncomputable def step (room : Int) (s : St) (a : Arrival) : Told × St :=
  if a.kind = 1 then (⟨(arrive room s a).1, 0, 0, [], [], false⟩, (arrive room s a).2)
  else if a.kind = 2 then
    (if a.count < 0 ∨ 4096 < a.count then (⟨2, 0, 0, [], [], false⟩, s)
     else (⟨0, 0, 0, [], (s.data.drop s.taken.toNat).take (takeOf s a.count), decide (s.taken + takeOf s a.count = s.end_)⟩, { s with taken := s.taken + takeOf s a.count }))
  else (⟨3, 0, 0, [], [], false⟩, s)
def lastOf (a : Arrival) : Int := if a.kind = 1 then a.from_ else -1
noncomputable def doIt (room : Int) (s : St) (a : Arrival) : Told × St :=
  let r := step room s a
  (⟨r.1.code, if r.2.done = r.2.end_ then r.2.done + 1 else r.2.done, r.2.taken + room - r.2.done, sacks (lastOf a) 3 r.2.more, r.1.data, r.1.end_⟩, r.2)
/-- so many arrivals heard -/
noncomputable def after (room : Int) (l : List Arrival) : Nat → List Told × St
  | 0 => ([], start)
  | k + 1 => match l[k]? with
    | some a => ((after room l k).1 ++ [(doIt room (after room l k).2 a).1], (doIt room (after room l k).2 a).2)
    | none => after room l k
theorem cov_bound {d : Int} {l : List Rng} (hd : 0 ≤ d) (hl : Canon d l) {B : Int} : (∀ p, cov (full d l) p → p < B) → 0 ≤ B → d ≤ B ∧ ∀ r, r ∈ l → r.hi ≤ B := by
  intro h hB
  constructor
  · by_cases e : d = 0
    · omega
    · have := h (d - 1) (cov_full.2 (.inl ⟨by omega, by omega⟩)); omega
  · intro r hr
    have h1 := hl.mem r hr
    have := h (r.hi - 1) (cov_full.2 (.inr ⟨r, hr, by omega, by omega⟩))
    omega
/-- what holds goes on to hold: bytes came -/
theorem Inv.add {room : Int} {s : St} (h : Inv room s) {fr up e : Int} {d : List UInt8} (h0 : 0 ≤ fr) (h1 : fr < up) (h2 : up ≤ s.taken + room) (h3 : up ≤ 1048575) (hl : (addTo s.done s.more ⟨fr, up⟩).2.length ≤ 16) (he : e = -1 ∨ 0 ≤ e ∧ e < 1048576) (hdl : s.data.length ≤ d.length ∧ up ≤ d.length) :
    Inv room { s with done := (addTo s.done s.more ⟨fr, up⟩).1, more := (addTo s.done s.more ⟨fr, up⟩).2, data := d, end_ := e } := by
  obtain ⟨a1, a2, a3⟩ := addTo_ok (r := ⟨fr, up⟩) (by have := h.lo; omega) h.canon h0 (by simp only; omega)
  have hlo := h.lo
  have b1 := cov_bound a1 a2 (B := s.taken + room) (fun p hp => by
    rcases (a3 p).1 hp with e | ⟨r, hr, e⟩ | e
    · omega
    · have := (h.hi r hr).1; have := e.2; omega
    · have := e.2; simp only at this; omega) (by omega)
  have b2 := cov_bound a1 a2 (B := 1048575) (fun p hp => by
    rcases (a3 p).1 hp with e | ⟨r, hr, e⟩ | e
    · have := h.top; omega
    · have := (h.hi r hr).2; have := e.2; omega
    · have := e.2; simp only at this; omega) (by omega)
  have b3 := cov_bound a1 a2 (B := d.length) (fun p hp => by
    rcases (a3 p).1 hp with e | ⟨r, hr, e⟩ | e
    · have := h.len.1; omega
    · have := h.len.2 r hr; have := e.2; omega
    · have := e.2; simp only at this; omega) (by omega)
  have c1 : s.done ≤ (addTo s.done s.more ⟨fr, up⟩).1 := by
    by_cases hx : (addTo s.done s.more ⟨fr, up⟩).1 < s.done
    · exfalso
      have := (a3 (addTo s.done s.more ⟨fr, up⟩).1).2 (.inl ⟨a1, hx⟩)
      rcases cov_full.1 this with e | ⟨r, hr, e⟩
      · omega
      · have := (a2.mem r hr).1; have := e.1; omega
    · omega
  exact ⟨⟨by simp only; omega, by simp only; omega, by simp only; omega⟩, a2, hl, b2.1, fun r hr => ⟨b1.2 r hr, b2.2 r hr⟩, he, b3⟩
theorem putAll_len (more : List Rng) (fr : Nat) (b : List UInt8) (d : List UInt8) : ∀ k, (putAll more fr b k d).length = d.length
  | 0 => rfl
  | k + 1 => by
    rw [putAll]
    split
    · exact putAll_len more fr b d k
    · rw [List.length_set]; exact putAll_len more fr b d k
theorem kept_len (more : List Rng) (d : List UInt8) (fr : Nat) (b : List UInt8) : (kept more d fr b).length = max d.length (fr + b.length) := by
  unfold kept
  rw [putAll_len, List.length_append, List.length_replicate]
  omega
open Classical in
theorem putAll_at (more : List Rng) (fr : Nat) (b : List UInt8) (d : List UInt8) (n : Nat) : ∀ k, fr + k ≤ d.length → (putAll more fr b k d).getD n 0 = if (fr ≤ n ∧ n < fr + k) ∧ ¬ cov more (n : Int) then b.getD (n - fr) 0 else d.getD n 0
  | 0, _ => by rw [putAll, if_neg (by omega)]
  | k + 1, hk => by
    have ih := putAll_at more fr b d n k (by omega)
    have hl := putAll_len more fr b d k
    rw [putAll]
    by_cases hc : cov more ((fr + k : Nat) : Int)
    · rw [if_pos hc, ih]
      by_cases e : n = fr + k
      · subst e
        rw [if_neg (fun x => x.2 hc), if_neg (fun x => x.2 hc)]
      · have : ((fr ≤ n ∧ n < fr + k) ∧ ¬ cov more (n : Int)) ↔ ((fr ≤ n ∧ n < fr + (k + 1)) ∧ ¬ cov more (n : Int)) := by
          constructor
          · rintro ⟨x, y⟩; exact ⟨by omega, y⟩
          · rintro ⟨x, y⟩; exact ⟨by omega, y⟩
        simp only [this]
    · rw [if_neg hc]
      by_cases e : n = fr + k
      · subst e
        rw [if_pos ⟨by omega, hc⟩, List.getD_eq_getElem?_getD, List.getElem?_set_self (by omega), show fr + k - fr = k by omega]
        rfl
      · rw [List.getD_eq_getElem?_getD, List.getElem?_set_ne (by omega), ← List.getD_eq_getElem?_getD, ih]
        have : ((fr ≤ n ∧ n < fr + k) ∧ ¬ cov more (n : Int)) ↔ ((fr ≤ n ∧ n < fr + (k + 1)) ∧ ¬ cov more (n : Int)) := by
          constructor
          · rintro ⟨x, y⟩; exact ⟨by omega, y⟩
          · rintro ⟨x, y⟩; exact ⟨by omega, y⟩
        simp only [this]
open Classical in
theorem kept_at (more : List Rng) (d : List UInt8) (fr : Nat) (b : List UInt8) (n : Nat) : (kept more d fr b).getD n 0 = if (fr ≤ n ∧ n < fr + b.length) ∧ ¬ cov more (n : Int) then b.getD (n - fr) 0 else d.getD n 0 := by
  unfold kept
  rw [putAll_at more fr b _ n b.length (by rw [List.length_append, List.length_replicate]; omega)]
  congr 1
  rw [List.getD_eq_getElem?_getD, List.getD_eq_getElem?_getD]
  by_cases h : n < d.length
  · rw [List.getElem?_append_left h]
  · rw [List.getElem?_append_right (by omega), List.getElem?_eq_none (by omega : d.length ≤ n), List.getElem?_replicate]
    split <;> rfl
open Classical in
/-- the places' bytes when bytes came -/
theorem bytes_add {room : Int} {s : St} (h : Inv room s) {fr up e : Int} {b : List UInt8} (h0 : s.done ≤ fr) (h1 : fr < up) (hb : (b.length : Int) = up - fr) (n : Int) :
    bytesOf { s with done := (addTo s.done s.more ⟨fr, up⟩).1, more := (addTo s.done s.more ⟨fr, up⟩).2, data := kept s.more s.data fr.toNat b, end_ := e } n = if came s n then bytesOf s n else if fr ≤ n ∧ n < up then some (b.getD (n - fr).toNat 0) else none := by
  obtain ⟨a1, a2, a3⟩ := addTo_ok (r := ⟨fr, up⟩) (by have := h.lo; omega) h.canon (by have := h.lo; simp only; omega) (by simp only; omega)
  have hlo := h.lo
  have hcame : came { s with done := (addTo s.done s.more ⟨fr, up⟩).1, more := (addTo s.done s.more ⟨fr, up⟩).2, data := kept s.more s.data fr.toNat b, end_ := e } n ↔ came s n ∨ (fr ≤ n ∧ n < up) := by
    have h3 := a3 n
    rw [cov_full] at h3
    unfold came
    simp only
    rw [h3, or_assoc]
    rfl
  unfold bytesOf
  by_cases hc : came s n
  · rw [if_pos (hcame.2 (.inl hc)), if_pos hc, if_pos hc]
    simp only
    congr 1
    rw [kept_at, if_neg]
    rintro ⟨⟨e1, e2⟩, e3⟩
    rcases hc with ⟨e4, e5⟩ | e4
    · omega
    · have hn : ((n.toNat : Nat) : Int) = n := by
        obtain ⟨r, hr, hp⟩ := e4
        have := (h.canon.mem r hr).1
        have := hp.1
        omega
      rw [hn] at e3
      exact e3 e4
  · rw [if_neg hc]
    by_cases hf : fr ≤ n ∧ n < up
    · have hn : ((n.toNat : Nat) : Int) = n := by omega
      rw [if_pos (hcame.2 (.inr hf)), if_pos hf]
      simp only
      rw [kept_at, if_pos ⟨⟨by omega, by omega⟩, by rw [hn]; exact fun x => hc (.inr x)⟩, show n.toNat - fr.toNat = (n - fr).toNat by omega]
    · rw [if_neg (fun x => (hcame.1 x).elim hc hf), if_neg hf]
end Go.Proofs.Ytdldfllllgogoaa.rv
