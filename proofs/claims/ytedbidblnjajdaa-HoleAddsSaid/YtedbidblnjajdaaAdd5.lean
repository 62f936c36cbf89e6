/- Package hole: Add; the walk of the law HoleAdds. No condition. -/
import Derived.Test.YtedbidblnjajdaaAdd2
import Derived.Test.YtedbidblnjajdaaAdd4
namespace Go.Proofs.Ytedbidblnjajdaa
open Go.RowKit

set_option maxHeartbeats 1000000 in
theorem hole_Add_no (done : Int) (l : List Rng) (r : Rng) (A : Option Addr) (c : Nat) (w : World) (hl : SlRep Rng.rep w (· < w.heap.size) l A c) (hn : l.length ≤ 140737488351232) (h : holeMayB done l = false) :
    Calls Try.prog 41 #[.int .i64 done, .slice A l.length c, .agg #[.int .i64 r.lo, .int .i64 r.hi]] w (had.AddRes (had.ans done l r) w) := by
  have HC := Lib.hid (hole_May_no done l A c (w.alloc (.cells #[.int .i64 r.lo, .int .i64 r.hi] 64)) (hl.next (by repeat (first | (with_reducible exact Below.refl _ _) | (with_reducible assumption) | (with_reducible refine bset ?_ ?_ _) | (with_reducible refine balloc ?_ _) | (with_reducible refine Below.drew ?_) | (with_reducible refine bdrewN ?_ _) | (with_reducible refine bnext ?_ (by with_reducible assumption)) | exact Nat.le_refl _ | (simp; done) | omega | (simp; omega)))) hn h)
  have HA : Hid (had.ans done l r = (0, [], 4)) := Lib.hid (if_pos h)
  clear hl h
  go_enter Try.func41, Try.ntmps41
  go_wp2_with (first
    | (go_at_call 48; refine HC.out.mono ?_; rintro e w1 ⟨rfl, hb1⟩)
    | fail)
  go_ret3
  exact had.AddRes.no HA.out (by repeat (first | (with_reducible exact Below.refl _ _) | (with_reducible assumption) | (with_reducible refine bset ?_ ?_ _) | (with_reducible refine balloc ?_ _) | (with_reducible refine Below.drew ?_) | (with_reducible refine bdrewN ?_ _) | (with_reducible refine bnext ?_ (by with_reducible assumption)) | exact Nat.le_refl _ | (simp; done) | omega | (simp; omega)))

set_option maxHeartbeats 1000000 in
theorem hole_Add_bad (done : Int) (l : List Rng) (r : Rng) (A : Option Addr) (c : Nat) (w : World) (hl : SlRep Rng.rep w (· < w.heap.size) l A c) (hn : l.length ≤ 140737488351232) (h : holeMayB done l = true) (hr : r.lo < 0 ∨ r.hi < r.lo ∨ 1048576 < r.hi) :
    Calls Try.prog 41 #[.int .i64 done, .slice A l.length c, .agg #[.int .i64 r.lo, .int .i64 r.hi]] w (had.AddRes (had.ans done l r) w) := by
  have HC := Lib.hid (hole_May_yes done l A c (w.alloc (.cells #[.int .i64 r.lo, .int .i64 r.hi] 64)) (hl.next (by repeat (first | (with_reducible exact Below.refl _ _) | (with_reducible assumption) | (with_reducible refine bset ?_ ?_ _) | (with_reducible refine balloc ?_ _) | (with_reducible refine Below.drew ?_) | (with_reducible refine bdrewN ?_ _) | (with_reducible refine bnext ?_ (by with_reducible assumption)) | exact Nat.le_refl _ | (simp; done) | omega | (simp; omega)))) hn h)
  have HA : Hid (had.ans done l r = (0, [], 2)) := Lib.hid (by unfold had.ans; rw [if_neg (by rw [h]; decide), if_pos hr])
  clear hl h
  obtain ⟨r0, r1⟩ := r
  dsimp only at *
  go_enter Try.func41, Try.ntmps41
  by_cases h1 : r0 < 0
  · go_wp2_with (first
      | (go_at_call 48; refine HC.out.mono ?_; rintro e w1 ⟨rfl, hb1⟩; have B1 : Below w.heap.size w w1 := (by repeat (first | (with_reducible exact Below.refl _ _) | (with_reducible assumption) | (with_reducible refine bset ?_ ?_ _) | (with_reducible refine balloc ?_ _) | (with_reducible refine Below.drew ?_) | (with_reducible refine bdrewN ?_ _) | (with_reducible refine bnext ?_ (by with_reducible assumption)) | exact Nat.le_refl _ | (simp; done) | omega | (simp; omega))); have ha1 : ∀ b o, b < w.heap.size → w1.cell? ⟨b, o, none⟩ = w.cell? ⟨b, o, none⟩ := fun b o h => B1.cell (p := ⟨b, o, none⟩) h; have hk1 : ∀ k, k < w.heap.size → k < w1.heap.size := fun _ h => Nat.lt_of_lt_of_le h B1.size; have hz1 := hb1.size; (try simp at hz1); have hl1_w0 : w.heap.size < w1.heap.size := Nat.lt_of_lt_of_le (by first | (simp; done) | (simp; omega) | omega) hb1.size; have hc1_w0 := fun o => hb1.cell (p := ⟨w.heap.size, o, none⟩) (by first | (simp; done) | (simp; omega) | omega); have hf1_w0 := fun o => hb1.frozen (p := ⟨w.heap.size, o, none⟩) (by first | (simp; done) | (simp; omega) | omega); (try simp [go_sem, *] at hc1_w0); (try simp [go_sem, *] at hf1_w0); clear hb1)
      | fail)
    go_ret3
    exact had.AddRes.no HA.out B1
  · by_cases h2 : r1 < r0
    · go_wp2_with (first
        | (go_at_call 48; refine HC.out.mono ?_; rintro e w1 ⟨rfl, hb1⟩; have B1 : Below w.heap.size w w1 := (by repeat (first | (with_reducible exact Below.refl _ _) | (with_reducible assumption) | (with_reducible refine bset ?_ ?_ _) | (with_reducible refine balloc ?_ _) | (with_reducible refine Below.drew ?_) | (with_reducible refine bdrewN ?_ _) | (with_reducible refine bnext ?_ (by with_reducible assumption)) | exact Nat.le_refl _ | (simp; done) | omega | (simp; omega))); have ha1 : ∀ b o, b < w.heap.size → w1.cell? ⟨b, o, none⟩ = w.cell? ⟨b, o, none⟩ := fun b o h => B1.cell (p := ⟨b, o, none⟩) h; have hk1 : ∀ k, k < w.heap.size → k < w1.heap.size := fun _ h => Nat.lt_of_lt_of_le h B1.size; have hz1 := hb1.size; (try simp at hz1); have hl1_w0 : w.heap.size < w1.heap.size := Nat.lt_of_lt_of_le (by first | (simp; done) | (simp; omega) | omega) hb1.size; have hc1_w0 := fun o => hb1.cell (p := ⟨w.heap.size, o, none⟩) (by first | (simp; done) | (simp; omega) | omega); have hf1_w0 := fun o => hb1.frozen (p := ⟨w.heap.size, o, none⟩) (by first | (simp; done) | (simp; omega) | omega); (try simp [go_sem, *] at hc1_w0); (try simp [go_sem, *] at hf1_w0); clear hb1)
        | fail)
      go_ret3
      exact had.AddRes.no HA.out B1
    · have h3 : 1048576 < r1 := by omega
      go_wp2_with (first
        | (go_at_call 48; refine HC.out.mono ?_; rintro e w1 ⟨rfl, hb1⟩; have B1 : Below w.heap.size w w1 := (by repeat (first | (with_reducible exact Below.refl _ _) | (with_reducible assumption) | (with_reducible refine bset ?_ ?_ _) | (with_reducible refine balloc ?_ _) | (with_reducible refine Below.drew ?_) | (with_reducible refine bdrewN ?_ _) | (with_reducible refine bnext ?_ (by with_reducible assumption)) | exact Nat.le_refl _ | (simp; done) | omega | (simp; omega))); have ha1 : ∀ b o, b < w.heap.size → w1.cell? ⟨b, o, none⟩ = w.cell? ⟨b, o, none⟩ := fun b o h => B1.cell (p := ⟨b, o, none⟩) h; have hk1 : ∀ k, k < w.heap.size → k < w1.heap.size := fun _ h => Nat.lt_of_lt_of_le h B1.size; have hz1 := hb1.size; (try simp at hz1); have hl1_w0 : w.heap.size < w1.heap.size := Nat.lt_of_lt_of_le (by first | (simp; done) | (simp; omega) | omega) hb1.size; have hc1_w0 := fun o => hb1.cell (p := ⟨w.heap.size, o, none⟩) (by first | (simp; done) | (simp; omega) | omega); have hf1_w0 := fun o => hb1.frozen (p := ⟨w.heap.size, o, none⟩) (by first | (simp; done) | (simp; omega) | omega); (try simp [go_sem, *] at hc1_w0); (try simp [go_sem, *] at hf1_w0); clear hb1)
        | fail)
      go_ret3
      exact had.AddRes.no HA.out B1

set_option maxRecDepth 100000 in
set_option maxHeartbeats 4000000 in
theorem hole_Add_ok (done : Int) (l : List Rng) (r : Rng) (A : Option Addr) (c : Nat) (w : World) (hl : SlRep Rng.rep w (· < w.heap.size) l A c) (hm : HoleMay done l) (h0 : 0 ≤ r.lo) (h1 : r.lo ≤ r.hi) (h2 : r.hi ≤ 1048576) :
    Calls Try.prog 41 #[.int .i64 done, .slice A l.length c, .agg #[.int .i64 r.lo, .int .i64 r.hi]] w (had.AddRes (had.ans done l r) w) := by
  have HC := Lib.hid (hole_May_yes done l A c (w.alloc (.cells #[.int .i64 r.lo, .int .i64 r.hi] 64)) (hl.next (by repeat (first | (with_reducible exact Below.refl _ _) | (with_reducible assumption) | (with_reducible refine bset ?_ ?_ _) | (with_reducible refine balloc ?_ _) | (with_reducible refine Below.drew ?_) | (with_reducible refine bdrewN ?_ _) | (with_reducible refine bnext ?_ (by with_reducible assumption)) | exact Nat.le_refl _ | (simp; done) | omega | (simp; omega)))) (by have := hm.2.2.1; omega) (holeMayB_true hm))
  have HAN : Hid (had.ans done l r = if 16 < (had.addTo done l r).2.length then (0, [], 9) else ((had.addTo done l r).1, (had.addTo done l r).2, 0)) := Lib.hid (by
    unfold had.ans
    rw [if_neg (by rw [holeMayB_true hm]; decide), if_neg (by omega)])
  have hl16 : l.length ≤ 16 := hm.2.2.1
  have HL := Lib.hid hl
  obtain ⟨r0, r1⟩ := r
  dsimp only at *
  clear hl hm
  go_enter Try.func41, Try.ntmps41
  by_cases h3 : r0 < r1
  · have HAD : Hid (had.addTo done l ⟨r0, r1⟩ = had.out done (had.mg l ⟨r0, r1⟩)) := Lib.hid (if_pos h3)
    have HMG := Lib.hid (fun W hW => hole_merged done l ⟨r0, r1⟩ A c W (HL.out.next hW) hl16)
    dsimp only at HMG
    rw [← HAD.out] at HMG
    clear HAD
    generalize had.addTo done l ⟨r0, r1⟩ = ad at *
    obtain ⟨d1, d2⟩ := ad
    dsimp only at HMG HAN
    by_cases h16 : 16 < d2.length
    · have h16i : (16 : Int) < (d2.length : Int) := by omega
      have HAA : Hid (had.ans done l ⟨r0, r1⟩ = (0, [], 9)) := Lib.hid (by rw [HAN.out, if_pos h16])
      go_wp2_with (first
        | (go_at_call 48; refine HC.out.mono ?_; rintro e w1 ⟨rfl, hb1⟩; have hb1' : Below w.heap.size w w1 := (by repeat (first | (with_reducible exact Below.refl _ _) | (with_reducible assumption) | (with_reducible refine bset ?_ ?_ _) | (with_reducible refine balloc ?_ _) | (with_reducible refine Below.drew ?_) | (with_reducible refine bdrewN ?_ _) | (with_reducible refine bnext ?_ (by with_reducible assumption)) | exact Nat.le_refl _ | (simp; done) | omega | (simp; omega))); have B1 : Below w.heap.size w w1 := (by repeat (first | (with_reducible exact Below.refl _ _) | (with_reducible assumption) | (with_reducible refine bset ?_ ?_ _) | (with_reducible refine balloc ?_ _) | (with_reducible refine Below.drew ?_) | (with_reducible refine bdrewN ?_ _) | (with_reducible refine bnext ?_ (by with_reducible assumption)) | exact Nat.le_refl _ | (simp; done) | omega | (simp; omega))); have ha1 : ∀ b o, b < w.heap.size → w1.cell? ⟨b, o, none⟩ = w.cell? ⟨b, o, none⟩ := fun b o h => B1.cell (p := ⟨b, o, none⟩) h; have hk1 : ∀ k, k < w.heap.size → k < w1.heap.size := fun _ h => Nat.lt_of_lt_of_le h B1.size; have hz1 := hb1.size; (try simp at hz1); have hl1_w0 : w.heap.size < w1.heap.size := Nat.lt_of_lt_of_le (by first | (simp; done) | (simp; omega) | omega) hb1.size; have hc1_w0 := fun o => hb1.cell (p := ⟨w.heap.size, o, none⟩) (by first | (simp; done) | (simp; omega) | omega); have hf1_w0 := fun o => hb1.frozen (p := ⟨w.heap.size, o, none⟩) (by first | (simp; done) | (simp; omega) | omega); (try simp [go_sem, *] at hc1_w0); (try simp [go_sem, *] at hf1_w0); clear hb1)
        | (go_at_call 69; refine (HMG.out _ hb1').mono ?_; rintro e w2 ⟨A2, c2, rfl, hr2, hb2, hl2⟩; have HR2 := Lib.hid hr2; clear hr2; have hB2 : Below w.heap.size w w2 := bnext hb1' hb2)
        | (go_at_call 70; refine (clone_rng d2 A2 c2 w2 (HR2.out.keep fun q hq => ⟨hq.2, rfl⟩) (by omega)).mono ?_; rintro e w3 ⟨A3, c3, rfl, ho3, hb3⟩; have HO3 := Lib.hid ho3; clear ho3)
        | fail)
      go_ret3
      exact had.AddRes.no HAA.out hB2
    · have h16i : (d2.length : Int) ≤ 16 := by omega
      have HAA : Hid (had.ans done l ⟨r0, r1⟩ = (d1, d2, 0)) := Lib.hid (by rw [HAN.out, if_neg h16])
      go_wp2_with (first
        | (go_at_call 48; refine HC.out.mono ?_; rintro e w1 ⟨rfl, hb1⟩; have hb1' : Below w.heap.size w w1 := (by repeat (first | (with_reducible exact Below.refl _ _) | (with_reducible assumption) | (with_reducible refine bset ?_ ?_ _) | (with_reducible refine balloc ?_ _) | (with_reducible refine Below.drew ?_) | (with_reducible refine bdrewN ?_ _) | (with_reducible refine bnext ?_ (by with_reducible assumption)) | exact Nat.le_refl _ | (simp; done) | omega | (simp; omega))); have B1 : Below w.heap.size w w1 := (by repeat (first | (with_reducible exact Below.refl _ _) | (with_reducible assumption) | (with_reducible refine bset ?_ ?_ _) | (with_reducible refine balloc ?_ _) | (with_reducible refine Below.drew ?_) | (with_reducible refine bdrewN ?_ _) | (with_reducible refine bnext ?_ (by with_reducible assumption)) | exact Nat.le_refl _ | (simp; done) | omega | (simp; omega))); have ha1 : ∀ b o, b < w.heap.size → w1.cell? ⟨b, o, none⟩ = w.cell? ⟨b, o, none⟩ := fun b o h => B1.cell (p := ⟨b, o, none⟩) h; have hk1 : ∀ k, k < w.heap.size → k < w1.heap.size := fun _ h => Nat.lt_of_lt_of_le h B1.size; have hz1 := hb1.size; (try simp at hz1); have hl1_w0 : w.heap.size < w1.heap.size := Nat.lt_of_lt_of_le (by first | (simp; done) | (simp; omega) | omega) hb1.size; have hc1_w0 := fun o => hb1.cell (p := ⟨w.heap.size, o, none⟩) (by first | (simp; done) | (simp; omega) | omega); have hf1_w0 := fun o => hb1.frozen (p := ⟨w.heap.size, o, none⟩) (by first | (simp; done) | (simp; omega) | omega); (try simp [go_sem, *] at hc1_w0); (try simp [go_sem, *] at hf1_w0); clear hb1)
        | (go_at_call 69; refine (HMG.out _ hb1').mono ?_; rintro e w2 ⟨A2, c2, rfl, hr2, hb2, hl2⟩; have HR2 := Lib.hid hr2; clear hr2; have hB2 : Below w.heap.size w w2 := bnext hb1' hb2)
        | (go_at_call 70; refine (clone_rng d2 A2 c2 w2 (HR2.out.keep fun q hq => ⟨hq.2, rfl⟩) (by omega)).mono ?_; rintro e w3 ⟨A3, c3, rfl, ho3, hb3⟩; have HO3 := Lib.hid ho3; clear ho3)
        | fail)
      go_ret3
      exact had.AddRes.yes HAA.out rfl (HO3.out.rng.2.keep fun q hq => ⟨⟨Nat.le_trans hB2.size hq.1, hq.2⟩, rfl⟩) (bnext hB2 hb3)
  · have HAD : Hid (had.addTo done l ⟨r0, r1⟩ = (done, l)) := Lib.hid (if_neg h3)
    have HAA : Hid (had.ans done l ⟨r0, r1⟩ = (done, l, 0)) := Lib.hid (by rw [HAN.out, HAD.out, if_neg (by simp only; omega)])
    have HCL := Lib.hid (fun W hW => clone_rng l A c W (HL.out.next hW) (by omega))
    go_wp2_with (first
      | (go_at_call 48; refine HC.out.mono ?_; rintro e w1 ⟨rfl, hb1⟩; have hb1' : Below w.heap.size w w1 := (by repeat (first | (with_reducible exact Below.refl _ _) | (with_reducible assumption) | (with_reducible refine bset ?_ ?_ _) | (with_reducible refine balloc ?_ _) | (with_reducible refine Below.drew ?_) | (with_reducible refine bdrewN ?_ _) | (with_reducible refine bnext ?_ (by with_reducible assumption)) | exact Nat.le_refl _ | (simp; done) | omega | (simp; omega))); have B1 : Below w.heap.size w w1 := (by repeat (first | (with_reducible exact Below.refl _ _) | (with_reducible assumption) | (with_reducible refine bset ?_ ?_ _) | (with_reducible refine balloc ?_ _) | (with_reducible refine Below.drew ?_) | (with_reducible refine bdrewN ?_ _) | (with_reducible refine bnext ?_ (by with_reducible assumption)) | exact Nat.le_refl _ | (simp; done) | omega | (simp; omega))); have ha1 : ∀ b o, b < w.heap.size → w1.cell? ⟨b, o, none⟩ = w.cell? ⟨b, o, none⟩ := fun b o h => B1.cell (p := ⟨b, o, none⟩) h; have hk1 : ∀ k, k < w.heap.size → k < w1.heap.size := fun _ h => Nat.lt_of_lt_of_le h B1.size; have hz1 := hb1.size; (try simp at hz1); have hl1_w0 : w.heap.size < w1.heap.size := Nat.lt_of_lt_of_le (by first | (simp; done) | (simp; omega) | omega) hb1.size; have hc1_w0 := fun o => hb1.cell (p := ⟨w.heap.size, o, none⟩) (by first | (simp; done) | (simp; omega) | omega); have hf1_w0 := fun o => hb1.frozen (p := ⟨w.heap.size, o, none⟩) (by first | (simp; done) | (simp; omega) | omega); (try simp [go_sem, *] at hc1_w0); (try simp [go_sem, *] at hf1_w0); clear hb1)
      | (go_at_call 70; refine (HCL.out _ hb1').mono ?_; rintro e w2 ⟨A2, c2, rfl, ho2, hb2⟩; have HO2 := Lib.hid ho2; clear ho2)
      | fail)
    go_ret3
    exact had.AddRes.yes HAA.out rfl (HO2.out.rng.2.keep fun q hq => ⟨⟨Nat.le_trans hb1'.size hq.1, hq.2⟩, rfl⟩) (bnext hb1' hb2)

theorem hole_Add_res (done : Int) (l : List Rng) (r : Rng) (A : Option Addr) (c : Nat) (w : World) (hl : SlRep Rng.rep w (· < w.heap.size) l A c) (hn : l.length ≤ 140737488351232) :
    Calls Try.prog 41 #[.int .i64 done, .slice A l.length c, .agg #[.int .i64 r.lo, .int .i64 r.hi]] w (had.AddRes (had.ans done l r) w) := by
  by_cases hm : HoleMay done l
  · by_cases hr : r.lo < 0 ∨ r.hi < r.lo ∨ 1048576 < r.hi
    · exact hole_Add_bad done l r A c w hl hn (holeMayB_true hm) hr
    · exact hole_Add_ok done l r A c w hl hm (by omega) (by omega) (by omega)
  · exact hole_Add_no done l r A c w hl hn (holeMayB_false hm)
theorem ref_HoleAdd_res (done : Int) (l : List Rng) (r : Rng) (A : Option Addr) (c : Nat) (w : World) (hl : SlRep Rng.rep w (· < w.heap.size) l A c) (hn : l.length ≤ 140737488351232) :
    Calls Try.prog 42 #[.int .i64 done, .slice A l.length c, .agg #[.int .i64 r.lo, .int .i64 r.hi]] w (had.AddRes (had.ans done l r) w) := by
  by_cases hm : HoleMay done l
  · by_cases hr : r.lo < 0 ∨ r.hi < r.lo ∨ 1048576 < r.hi
    · exact ref_HoleAdd_bad done l r A c w hl hn (holeMayB_true hm) hr
    · exact ref_HoleAdd_ok done l r A c w hl hm (by omega) (by omega) (by omega)
  · exact ref_HoleAdd_no done l r A c w hl hn (holeMayB_false hm)

set_option maxHeartbeats 1000000 in
theorem lawHoleAdds_walk {w : World} (done : Int) (_ : IntOk done) (l : List Rng) (A : Option Addr) (c : Nat) (hl : SlRep Rng.rep w (· < w.heap.size) l A c) (hok : AllOk 16 Rng.ok l) (r : Rng) (_ : Rng.ok r) :
    Calls Try.prog 12 #[.int .i64 done, .slice A l.length c, .agg #[.int .i64 r.lo, .int .i64 r.hi]] w fun e w' => e = .returned (.bool true) ∧ Below w.heap.size w w' := by
  have hn : l.length ≤ 140737488351232 := by have := hok.2; omega
  clear hok
  have HL := Lib.hid hl
  have H1 := Lib.hid (fun W hW => hole_Add_res done l r A c W (HL.out.next hW) hn)
  have H2 := Lib.hid (fun W hW => ref_HoleAdd_res done l r A c W (HL.out.next hW) hn)
  clear hl
  obtain ⟨r0, r1⟩ := r
  dsimp only at *
  generalize had.ans done l ⟨r0, r1⟩ = an at *
  obtain ⟨d1, d2, d3⟩ := an
  go_enter Try.func12, Try.ntmps12
  go_wp2_with (first
    | (go_at_call 41; refine (H1.out _ (by repeat (first | (with_reducible exact Below.refl _ _) | (with_reducible assumption) | (with_reducible refine bset ?_ ?_ _) | (with_reducible refine balloc ?_ _) | (with_reducible refine Below.drew ?_) | (with_reducible refine bdrewN ?_ _) | (with_reducible refine bnext ?_ (by with_reducible assumption)) | exact Nat.le_refl _ | (simp; done) | omega | (simp; omega)))).mono ?_; rintro e w1 ⟨A1, c1, rfl, hr1, hb1⟩; have HR1 := Lib.hid hr1; clear hr1; have hB1 : Below w.heap.size w w1 := (by repeat (first | (with_reducible exact Below.refl _ _) | (with_reducible assumption) | (with_reducible refine bset ?_ ?_ _) | (with_reducible refine balloc ?_ _) | (with_reducible refine Below.drew ?_) | (with_reducible refine bdrewN ?_ _) | (with_reducible refine bnext ?_ (by with_reducible assumption)) | exact Nat.le_refl _ | (simp; done) | omega | (simp; omega))); have B1 : Below w.heap.size w w1 := (by repeat (first | (with_reducible exact Below.refl _ _) | (with_reducible assumption) | (with_reducible refine bset ?_ ?_ _) | (with_reducible refine balloc ?_ _) | (with_reducible refine Below.drew ?_) | (with_reducible refine bdrewN ?_ _) | (with_reducible refine bnext ?_ (by with_reducible assumption)) | exact Nat.le_refl _ | (simp; done) | omega | (simp; omega))); have ha1 : ∀ b o, b < w.heap.size → w1.cell? ⟨b, o, none⟩ = w.cell? ⟨b, o, none⟩ := fun b o h => B1.cell (p := ⟨b, o, none⟩) h; have hk1 : ∀ k, k < w.heap.size → k < w1.heap.size := fun _ h => Nat.lt_of_lt_of_le h B1.size; have hz1 := hb1.size; (try simp at hz1); have hl1_w0 : w.heap.size < w1.heap.size := Nat.lt_of_lt_of_le (by first | (simp; done) | (simp; omega) | omega) hb1.size; have hc1_w0 := fun o => hb1.cell (p := ⟨w.heap.size, o, none⟩) (by first | (simp; done) | (simp; omega) | omega); have hf1_w0 := fun o => hb1.frozen (p := ⟨w.heap.size, o, none⟩) (by first | (simp; done) | (simp; omega) | omega); (try simp [go_sem, *] at hc1_w0); (try simp [go_sem, *] at hf1_w0); clear hb1)
    | (go_at_call 42; refine (H2.out _ hB1).mono ?_; rintro e w2 ⟨A2, c2, rfl, hr2, hb2⟩; have HR2 := Lib.hid hr2; clear hr2; have hB2 : Below w.heap.size w w2 := bnext hB1 hb2; have HR1' := Lib.hid (HR1.out.keep (w' := w2) (S' := (· < w2.heap.size)) fun q hq => ⟨Nat.lt_of_lt_of_le hq.2 hb2.size, hb2.block q hq.2⟩); have hm : d2.length ≤ 9223372036854775807 := (by have := HR1.out.1; have := HR1.out.2.1; unfold maxLen at this; omega))
    | (go_at_call 22; refine (law_sameRanges d2 _ _ _ _ _ _ _ HR1'.out HR2.out hm).mono ?_; rintro e w3 ⟨rfl, hb3⟩)
    | fail)
  go_ret
  exact ⟨rfl, (by repeat (first | (with_reducible exact Below.refl _ _) | (with_reducible assumption) | (with_reducible refine bset ?_ ?_ _) | (with_reducible refine balloc ?_ _) | (with_reducible refine Below.drew ?_) | (with_reducible refine bdrewN ?_ _) | (with_reducible refine bnext ?_ (by with_reducible assumption)) | exact Nat.le_refl _ | (simp; done) | omega | (simp; omega)))⟩
end Go.Proofs.Ytedbidblnjajdaa
