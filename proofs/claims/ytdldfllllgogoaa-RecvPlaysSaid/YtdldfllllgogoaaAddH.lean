/- hole.Add, where its reference is not reached. No condition. -/
import Derived.Test.YtdldfllllgogoaaAdd4
import Derived.Test.YtdldfllllgogoaaHole2
import Derived.Deep.DeepCutAuto
import Derived.IntWalk
namespace Go.Proofs.Ytdldfllllgogoaa
open Go.RowKit
set_option linter.unusedSimpArgs false
namespace had
/-- what Add answers -/
noncomputable def ans (done : Int) (l : List Rng) (r : Rng) : Int × List Rng × Int :=
  if holeMayB done l = false then (0, [], 4) else if r.lo < 0 ∨ r.hi < r.lo ∨ 1048576 < r.hi then (0, [], 2) else if 16 < (addTo done l r).2.length then (0, [], 9) else ((addTo done l r).1, (addTo done l r).2, 0)
def AddRes (a : Int × List Rng × Int) (w : World) (e : Ending) (w' : World) : Prop :=
  ∃ A c, e = .returned (.tuple #[.int .i64 a.1, .slice A a.2.1.length c, .int .i64 a.2.2]) ∧ SlRep Rng.rep w' (fun k => w.heap.size ≤ k ∧ k < w'.heap.size) a.2.1 A c ∧ Below w.heap.size w w'
theorem AddRes.no {a : Int × List Rng × Int} {c : Int} (h : a = (0, [], c)) {w w' : World} (hb : Below w.heap.size w w') : AddRes a w (.returned (.tuple #[.int .i64 0, .slice none 0 0, .int .i64 c])) w' := by
  subst h
  exact ⟨none, 0, rfl, sl_nil _ _ _, hb⟩
theorem AddRes.yes {a : Int × List Rng × Int} {d : Int} {l : List Rng} (h : a = (d, l, 0)) {w w' : World} {A : Option Addr} {n c : Nat} (hn : n = l.length) (hl : SlRep Rng.rep w' (fun k => w.heap.size ≤ k ∧ k < w'.heap.size) l A c) (hb : Below w.heap.size w w') : AddRes a w (.returned (.tuple #[.int .i64 d, .slice A n c, .int .i64 0])) w' := by
  subst h; subst hn
  exact ⟨A, c, rfl, hl, hb⟩
end had
set_option maxHeartbeats 1000000 in
theorem hole_Add_no (done : Int) (l : List Rng) (r : Rng) (A : Option Addr) (c : Nat) (w : World) (hl : SlRep Rng.rep w (· < w.heap.size) l A c) (hn : l.length ≤ 140737488351232) (h : holeMayB done l = false) :
    Calls Try.prog 71 #[.int .i64 done, .slice A l.length c, .agg #[.int .i64 r.lo, .int .i64 r.hi]] w (had.AddRes (had.ans done l r) w) := by
  have HC := Lib.hid (hole_May_no done l A c (w.alloc (.cells #[.int .i64 r.lo, .int .i64 r.hi] 78)) (hl.next (by repeat (first | (with_reducible exact Below.refl _ _) | (with_reducible assumption) | (with_reducible refine bset ?_ ?_ _) | (with_reducible refine balloc ?_ _) | (with_reducible refine Below.drew ?_) | (with_reducible refine bdrewN ?_ _) | (with_reducible refine bnext ?_ (by with_reducible assumption)) | exact Nat.le_refl _ | (simp; done) | omega | (simp; omega)))) hn h)
  have HA : Hid (had.ans done l r = (0, [], 4)) := Lib.hid (if_pos h)
  clear hl h
  go_enter Try.func71, Try.ntmps71
  go_wp2_with (first
    | (go_at_call 73; refine HC.out.mono ?_; rintro e w1 ⟨rfl, hb1⟩)
    | fail)
  go_ret3
  exact had.AddRes.no HA.out (by repeat (first | (with_reducible exact Below.refl _ _) | (with_reducible assumption) | (with_reducible refine bset ?_ ?_ _) | (with_reducible refine balloc ?_ _) | (with_reducible refine Below.drew ?_) | (with_reducible refine bdrewN ?_ _) | (with_reducible refine bnext ?_ (by with_reducible assumption)) | exact Nat.le_refl _ | (simp; done) | omega | (simp; omega)))

set_option maxHeartbeats 1000000 in
theorem hole_Add_bad (done : Int) (l : List Rng) (r : Rng) (A : Option Addr) (c : Nat) (w : World) (hl : SlRep Rng.rep w (· < w.heap.size) l A c) (hn : l.length ≤ 140737488351232) (h : holeMayB done l = true) (hr : r.lo < 0 ∨ r.hi < r.lo ∨ 1048576 < r.hi) :
    Calls Try.prog 71 #[.int .i64 done, .slice A l.length c, .agg #[.int .i64 r.lo, .int .i64 r.hi]] w (had.AddRes (had.ans done l r) w) := by
  have HC := Lib.hid (hole_May_yes done l A c (w.alloc (.cells #[.int .i64 r.lo, .int .i64 r.hi] 78)) (hl.next (by repeat (first | (with_reducible exact Below.refl _ _) | (with_reducible assumption) | (with_reducible refine bset ?_ ?_ _) | (with_reducible refine balloc ?_ _) | (with_reducible refine Below.drew ?_) | (with_reducible refine bdrewN ?_ _) | (with_reducible refine bnext ?_ (by with_reducible assumption)) | exact Nat.le_refl _ | (simp; done) | omega | (simp; omega)))) hn h)
  have HA : Hid (had.ans done l r = (0, [], 2)) := Lib.hid (by unfold had.ans; rw [if_neg (by rw [h]; decide), if_pos hr])
  clear hl h
  obtain ⟨r0, r1⟩ := r
  dsimp only at *
  go_enter Try.func71, Try.ntmps71
  by_cases h1 : r0 < 0
  · go_wp2_with (first
      | (go_at_call 73; refine HC.out.mono ?_; rintro e w1 ⟨rfl, hb1⟩; have B1 : Below w.heap.size w w1 := (by repeat (first | (with_reducible exact Below.refl _ _) | (with_reducible assumption) | (with_reducible refine bset ?_ ?_ _) | (with_reducible refine balloc ?_ _) | (with_reducible refine Below.drew ?_) | (with_reducible refine bdrewN ?_ _) | (with_reducible refine bnext ?_ (by with_reducible assumption)) | exact Nat.le_refl _ | (simp; done) | omega | (simp; omega))); have ha1 : ∀ b o, b < w.heap.size → w1.cell? ⟨b, o, none⟩ = w.cell? ⟨b, o, none⟩ := fun b o h => B1.cell (p := ⟨b, o, none⟩) h; have hk1 : ∀ k, k < w.heap.size → k < w1.heap.size := fun _ h => Nat.lt_of_lt_of_le h B1.size; have hz1 := hb1.size; (try simp at hz1); have hl1_w0 : w.heap.size < w1.heap.size := Nat.lt_of_lt_of_le (by first | (simp; done) | (simp; omega) | omega) hb1.size; have hc1_w0 := fun o => hb1.cell (p := ⟨w.heap.size, o, none⟩) (by first | (simp; done) | (simp; omega) | omega); have hf1_w0 := fun o => hb1.frozen (p := ⟨w.heap.size, o, none⟩) (by first | (simp; done) | (simp; omega) | omega); (try simp [go_sem, *] at hc1_w0); (try simp [go_sem, *] at hf1_w0); clear hb1)
      | fail)
    go_ret3
    exact had.AddRes.no HA.out B1
  · by_cases h2 : r1 < r0
    · go_wp2_with (first
        | (go_at_call 73; refine HC.out.mono ?_; rintro e w1 ⟨rfl, hb1⟩; have B1 : Below w.heap.size w w1 := (by repeat (first | (with_reducible exact Below.refl _ _) | (with_reducible assumption) | (with_reducible refine bset ?_ ?_ _) | (with_reducible refine balloc ?_ _) | (with_reducible refine Below.drew ?_) | (with_reducible refine bdrewN ?_ _) | (with_reducible refine bnext ?_ (by with_reducible assumption)) | exact Nat.le_refl _ | (simp; done) | omega | (simp; omega))); have ha1 : ∀ b o, b < w.heap.size → w1.cell? ⟨b, o, none⟩ = w.cell? ⟨b, o, none⟩ := fun b o h => B1.cell (p := ⟨b, o, none⟩) h; have hk1 : ∀ k, k < w.heap.size → k < w1.heap.size := fun _ h => Nat.lt_of_lt_of_le h B1.size; have hz1 := hb1.size; (try simp at hz1); have hl1_w0 : w.heap.size < w1.heap.size := Nat.lt_of_lt_of_le (by first | (simp; done) | (simp; omega) | omega) hb1.size; have hc1_w0 := fun o => hb1.cell (p := ⟨w.heap.size, o, none⟩) (by first | (simp; done) | (simp; omega) | omega); have hf1_w0 := fun o => hb1.frozen (p := ⟨w.heap.size, o, none⟩) (by first | (simp; done) | (simp; omega) | omega); (try simp [go_sem, *] at hc1_w0); (try simp [go_sem, *] at hf1_w0); clear hb1)
        | fail)
      go_ret3
      exact had.AddRes.no HA.out B1
    · have h3 : 1048576 < r1 := by omega
      go_wp2_with (first
        | (go_at_call 73; refine HC.out.mono ?_; rintro e w1 ⟨rfl, hb1⟩; have B1 : Below w.heap.size w w1 := (by repeat (first | (with_reducible exact Below.refl _ _) | (with_reducible assumption) | (with_reducible refine bset ?_ ?_ _) | (with_reducible refine balloc ?_ _) | (with_reducible refine Below.drew ?_) | (with_reducible refine bdrewN ?_ _) | (with_reducible refine bnext ?_ (by with_reducible assumption)) | exact Nat.le_refl _ | (simp; done) | omega | (simp; omega))); have ha1 : ∀ b o, b < w.heap.size → w1.cell? ⟨b, o, none⟩ = w.cell? ⟨b, o, none⟩ := fun b o h => B1.cell (p := ⟨b, o, none⟩) h; have hk1 : ∀ k, k < w.heap.size → k < w1.heap.size := fun _ h => Nat.lt_of_lt_of_le h B1.size; have hz1 := hb1.size; (try simp at hz1); have hl1_w0 : w.heap.size < w1.heap.size := Nat.lt_of_lt_of_le (by first | (simp; done) | (simp; omega) | omega) hb1.size; have hc1_w0 := fun o => hb1.cell (p := ⟨w.heap.size, o, none⟩) (by first | (simp; done) | (simp; omega) | omega); have hf1_w0 := fun o => hb1.frozen (p := ⟨w.heap.size, o, none⟩) (by first | (simp; done) | (simp; omega) | omega); (try simp [go_sem, *] at hc1_w0); (try simp [go_sem, *] at hf1_w0); clear hb1)
        | fail)
      go_ret3
      exact had.AddRes.no HA.out B1

set_option maxRecDepth 100000 in
set_option maxHeartbeats 4000000 in
theorem hole_Add_ok (done : Int) (l : List Rng) (r : Rng) (A : Option Addr) (c : Nat) (w : World) (hl : SlRep Rng.rep w (· < w.heap.size) l A c) (hm : HoleMay done l) (h0 : 0 ≤ r.lo) (h1 : r.lo ≤ r.hi) (h2 : r.hi ≤ 1048576) :
    Calls Try.prog 71 #[.int .i64 done, .slice A l.length c, .agg #[.int .i64 r.lo, .int .i64 r.hi]] w (had.AddRes (had.ans done l r) w) := by
  have HC := Lib.hid (hole_May_yes done l A c (w.alloc (.cells #[.int .i64 r.lo, .int .i64 r.hi] 78)) (hl.next (by repeat (first | (with_reducible exact Below.refl _ _) | (with_reducible assumption) | (with_reducible refine bset ?_ ?_ _) | (with_reducible refine balloc ?_ _) | (with_reducible refine Below.drew ?_) | (with_reducible refine bdrewN ?_ _) | (with_reducible refine bnext ?_ (by with_reducible assumption)) | exact Nat.le_refl _ | (simp; done) | omega | (simp; omega)))) (by have := hm.2.2.1; omega) (holeMayB_true hm))
  have HAN : Hid (had.ans done l r = if 16 < (had.addTo done l r).2.length then (0, [], 9) else ((had.addTo done l r).1, (had.addTo done l r).2, 0)) := Lib.hid (by
    unfold had.ans
    rw [if_neg (by rw [holeMayB_true hm]; decide), if_neg (by omega)])
  have hl16 : l.length ≤ 16 := hm.2.2.1
  have HL := Lib.hid hl
  obtain ⟨r0, r1⟩ := r
  dsimp only at *
  clear hl hm
  go_enter Try.func71, Try.ntmps71
  by_cases h3 : r0 < r1
  · have HAD : Hid (had.addTo done l ⟨r0, r1⟩ = had.out done (had.mg l ⟨r0, r1⟩)) := Lib.hid (if_pos h3)
    have HMG := Lib.hid (fun W hW => hole_merged done l ⟨r0, r1⟩ A c W (HL.out.next hW) hl16)
    dsimp only at HMG
    rw [← HAD.out] at HMG
    clear HAD
    generalize had.addTo done l ⟨r0, r1⟩ = ad at *
    obtain ⟨d1, d2⟩ := ad
    dsimp only at HMG HAN
    by_cases h16 : 16 < d2.length
    · have h16i : (16 : Int) < (d2.length : Int) := by omega
      have HAA : Hid (had.ans done l ⟨r0, r1⟩ = (0, [], 9)) := Lib.hid (by rw [HAN.out, if_pos h16])
      go_wp2_with (first
        | (go_at_call 73; refine HC.out.mono ?_; rintro e w1 ⟨rfl, hb1⟩; have hb1' : Below w.heap.size w w1 := (by repeat (first | (with_reducible exact Below.refl _ _) | (with_reducible assumption) | (with_reducible refine bset ?_ ?_ _) | (with_reducible refine balloc ?_ _) | (with_reducible refine Below.drew ?_) | (with_reducible refine bdrewN ?_ _) | (with_reducible refine bnext ?_ (by with_reducible assumption)) | exact Nat.le_refl _ | (simp; done) | omega | (simp; omega))); have B1 : Below w.heap.size w w1 := (by repeat (first | (with_reducible exact Below.refl _ _) | (with_reducible assumption) | (with_reducible refine bset ?_ ?_ _) | (with_reducible refine balloc ?_ _) | (with_reducible refine Below.drew ?_) | (with_reducible refine bdrewN ?_ _) | (with_reducible refine bnext ?_ (by with_reducible assumption)) | exact Nat.le_refl _ | (simp; done) | omega | (simp; omega))); have ha1 : ∀ b o, b < w.heap.size → w1.cell? ⟨b, o, none⟩ = w.cell? ⟨b, o, none⟩ := fun b o h => B1.cell (p := ⟨b, o, none⟩) h; have hk1 : ∀ k, k < w.heap.size → k < w1.heap.size := fun _ h => Nat.lt_of_lt_of_le h B1.size; have hz1 := hb1.size; (try simp at hz1); have hl1_w0 : w.heap.size < w1.heap.size := Nat.lt_of_lt_of_le (by first | (simp; done) | (simp; omega) | omega) hb1.size; have hc1_w0 := fun o => hb1.cell (p := ⟨w.heap.size, o, none⟩) (by first | (simp; done) | (simp; omega) | omega); have hf1_w0 := fun o => hb1.frozen (p := ⟨w.heap.size, o, none⟩) (by first | (simp; done) | (simp; omega) | omega); (try simp [go_sem, *] at hc1_w0); (try simp [go_sem, *] at hf1_w0); clear hb1)
        | (go_at_call 94; refine (HMG.out _ hb1').mono ?_; rintro e w2 ⟨A2, c2, rfl, hr2, hb2, hl2⟩; have HR2 := Lib.hid hr2; clear hr2; have hB2 : Below w.heap.size w w2 := bnext hb1' hb2)
        | (go_at_call 95; refine (clone_rng d2 A2 c2 w2 (HR2.out.keep fun q hq => ⟨hq.2, rfl⟩) (by omega)).mono ?_; rintro e w3 ⟨A3, c3, rfl, ho3, hb3⟩; have HO3 := Lib.hid ho3; clear ho3)
        | fail)
      go_ret3
      exact had.AddRes.no HAA.out hB2
    · have h16i : (d2.length : Int) ≤ 16 := by omega
      have HAA : Hid (had.ans done l ⟨r0, r1⟩ = (d1, d2, 0)) := Lib.hid (by rw [HAN.out, if_neg h16])
      go_wp2_with (first
        | (go_at_call 73; refine HC.out.mono ?_; rintro e w1 ⟨rfl, hb1⟩; have hb1' : Below w.heap.size w w1 := (by repeat (first | (with_reducible exact Below.refl _ _) | (with_reducible assumption) | (with_reducible refine bset ?_ ?_ _) | (with_reducible refine balloc ?_ _) | (with_reducible refine Below.drew ?_) | (with_reducible refine bdrewN ?_ _) | (with_reducible refine bnext ?_ (by with_reducible assumption)) | exact Nat.le_refl _ | (simp; done) | omega | (simp; omega))); have B1 : Below w.heap.size w w1 := (by repeat (first | (with_reducible exact Below.refl _ _) | (with_reducible assumption) | (with_reducible refine bset ?_ ?_ _) | (with_reducible refine balloc ?_ _) | (with_reducible refine Below.drew ?_) | (with_reducible refine bdrewN ?_ _) | (with_reducible refine bnext ?_ (by with_reducible assumption)) | exact Nat.le_refl _ | (simp; done) | omega | (simp; omega))); have ha1 : ∀ b o, b < w.heap.size → w1.cell? ⟨b, o, none⟩ = w.cell? ⟨b, o, none⟩ := fun b o h => B1.cell (p := ⟨b, o, none⟩) h; have hk1 : ∀ k, k < w.heap.size → k < w1.heap.size := fun _ h => Nat.lt_of_lt_of_le h B1.size; have hz1 := hb1.size; (try simp at hz1); have hl1_w0 : w.heap.size < w1.heap.size := Nat.lt_of_lt_of_le (by first | (simp; done) | (simp; omega) | omega) hb1.size; have hc1_w0 := fun o => hb1.cell (p := ⟨w.heap.size, o, none⟩) (by first | (simp; done) | (simp; omega) | omega); have hf1_w0 := fun o => hb1.frozen (p := ⟨w.heap.size, o, none⟩) (by first | (simp; done) | (simp; omega) | omega); (try simp [go_sem, *] at hc1_w0); (try simp [go_sem, *] at hf1_w0); clear hb1)
        | (go_at_call 94; refine (HMG.out _ hb1').mono ?_; rintro e w2 ⟨A2, c2, rfl, hr2, hb2, hl2⟩; have HR2 := Lib.hid hr2; clear hr2; have hB2 : Below w.heap.size w w2 := bnext hb1' hb2)
        | (go_at_call 95; refine (clone_rng d2 A2 c2 w2 (HR2.out.keep fun q hq => ⟨hq.2, rfl⟩) (by omega)).mono ?_; rintro e w3 ⟨A3, c3, rfl, ho3, hb3⟩; have HO3 := Lib.hid ho3; clear ho3)
        | fail)
      go_ret3
      exact had.AddRes.yes HAA.out rfl (HO3.out.rng.2.keep fun q hq => ⟨⟨Nat.le_trans hB2.size hq.1, hq.2⟩, rfl⟩) (bnext hB2 hb3)
  · have HAD : Hid (had.addTo done l ⟨r0, r1⟩ = (done, l)) := Lib.hid (if_neg h3)
    have HAA : Hid (had.ans done l ⟨r0, r1⟩ = (done, l, 0)) := Lib.hid (by rw [HAN.out, HAD.out, if_neg (by simp only; omega)])
    have HCL := Lib.hid (fun W hW => clone_rng l A c W (HL.out.next hW) (by omega))
    go_wp2_with (first
      | (go_at_call 73; refine HC.out.mono ?_; rintro e w1 ⟨rfl, hb1⟩; have hb1' : Below w.heap.size w w1 := (by repeat (first | (with_reducible exact Below.refl _ _) | (with_reducible assumption) | (with_reducible refine bset ?_ ?_ _) | (with_reducible refine balloc ?_ _) | (with_reducible refine Below.drew ?_) | (with_reducible refine bdrewN ?_ _) | (with_reducible refine bnext ?_ (by with_reducible assumption)) | exact Nat.le_refl _ | (simp; done) | omega | (simp; omega))); have B1 : Below w.heap.size w w1 := (by repeat (first | (with_reducible exact Below.refl _ _) | (with_reducible assumption) | (with_reducible refine bset ?_ ?_ _) | (with_reducible refine balloc ?_ _) | (with_reducible refine Below.drew ?_) | (with_reducible refine bdrewN ?_ _) | (with_reducible refine bnext ?_ (by with_reducible assumption)) | exact Nat.le_refl _ | (simp; done) | omega | (simp; omega))); have ha1 : ∀ b o, b < w.heap.size → w1.cell? ⟨b, o, none⟩ = w.cell? ⟨b, o, none⟩ := fun b o h => B1.cell (p := ⟨b, o, none⟩) h; have hk1 : ∀ k, k < w.heap.size → k < w1.heap.size := fun _ h => Nat.lt_of_lt_of_le h B1.size; have hz1 := hb1.size; (try simp at hz1); have hl1_w0 : w.heap.size < w1.heap.size := Nat.lt_of_lt_of_le (by first | (simp; done) | (simp; omega) | omega) hb1.size; have hc1_w0 := fun o => hb1.cell (p := ⟨w.heap.size, o, none⟩) (by first | (simp; done) | (simp; omega) | omega); have hf1_w0 := fun o => hb1.frozen (p := ⟨w.heap.size, o, none⟩) (by first | (simp; done) | (simp; omega) | omega); (try simp [go_sem, *] at hc1_w0); (try simp [go_sem, *] at hf1_w0); clear hb1)
      | (go_at_call 95; refine (HCL.out _ hb1').mono ?_; rintro e w2 ⟨A2, c2, rfl, ho2, hb2⟩; have HO2 := Lib.hid ho2; clear ho2)
      | fail)
    go_ret3
    exact had.AddRes.yes HAA.out rfl (HO2.out.rng.2.keep fun q hq => ⟨⟨Nat.le_trans hb1'.size hq.1, hq.2⟩, rfl⟩) (bnext hb1' hb2)

theorem hole_Add_res (done : Int) (l : List Rng) (r : Rng) (A : Option Addr) (c : Nat) (w : World) (hl : SlRep Rng.rep w (· < w.heap.size) l A c) (hn : l.length ≤ 140737488351232) :
    Calls Try.prog 71 #[.int .i64 done, .slice A l.length c, .agg #[.int .i64 r.lo, .int .i64 r.hi]] w (had.AddRes (had.ans done l r) w) := by
  by_cases hm : HoleMay done l
  · by_cases hr : r.lo < 0 ∨ r.hi < r.lo ∨ 1048576 < r.hi
    · exact hole_Add_bad done l r A c w hl hn (holeMayB_true hm) hr
    · exact hole_Add_ok done l r A c w hl hm (by omega) (by omega) (by omega)
  · exact hole_Add_no done l r A c w hl hn (holeMayB_false hm)
end Go.Proofs.Ytdldfllllgogoaa
