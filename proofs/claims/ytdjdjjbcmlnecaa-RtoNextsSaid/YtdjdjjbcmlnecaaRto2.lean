/- Package rto: First, Next, Back and their references; the walks of their laws. No condition. -/
import Derived.Test.YtdjdjjbcmlnecaaRto
namespace Go.Proofs.Ytdjdjjbcmlnecaa
open Go.RowKit

set_option maxHeartbeats 400000 in
theorem rto_First_no (s : Int) (h : s < 0 ∨ 1048576 < s) (w : World) :
    Calls Try.prog 21 #[.int .i64 s] w fun e w' => e = .returned (.tuple #[.agg #[.int .i64 0, .int .i64 0, .int .i64 0, .int .i64 0], .int .i64 2]) ∧ Below w.heap.size w w' := by
  go_enter Try.func21, Try.ntmps21
  go_wp2_with (go_at_call 39; refine (rto_in_no _ _ _ h _).mono ?_; rintro e w' ⟨rfl, rfl⟩)
  exact bodyPost_ret (v := .tuple #[.agg #[.int .i64 0, .int .i64 0, .int .i64 0, .int .i64 0], .int .i64 2]) (by simp [results, Try.results21, go_sem]) rfl ⟨rfl, balloc (bself _) _⟩

set_option maxHeartbeats 400000 in
theorem ref_RtoFirst_no (s : Int) (h : s < 0 ∨ 1048576 < s) (w : World) :
    Calls Try.prog 22 #[.int .i64 s] w fun e w' => e = .returned (.tuple #[.agg #[.int .i64 0, .int .i64 0, .int .i64 0, .int .i64 0], .int .i64 2]) ∧ Below w.heap.size w w' := by
  rcases h with h | h
  · go_enter Try.func22, Try.ntmps22
    go_wp2
    exact bodyPost_ret (v := .tuple #[.agg #[.int .i64 0, .int .i64 0, .int .i64 0, .int .i64 0], .int .i64 2]) (by simp [results, Try.results22, go_sem]) rfl ⟨rfl, balloc (bself _) _⟩
  · go_enter Try.func22, Try.ntmps22
    go_wp2
    exact bodyPost_ret (v := .tuple #[.agg #[.int .i64 0, .int .i64 0, .int .i64 0, .int .i64 0], .int .i64 2]) (by simp [results, Try.results22, go_sem]) rfl ⟨rfl, balloc (bself _) _⟩

set_option maxHeartbeats 400000 in
theorem rto_First_yes (s : Int) (h1 : 0 ≤ s) (h2 : s ≤ 1048576) (w : World) :
    Calls Try.prog 21 #[.int .i64 s] w fun e w' => e = .returned (.tuple #[.agg #[.int .i64 (8 * s), .int .i64 (2 * s), .int .i64 (min (max (s + 2 * s) 200) 60000), .int .i64 0], .int .i64 0]) ∧ Below w.heap.size w w' := by
  go_enter Try.func21, Try.ntmps21
  go_wp2_with (first
    | (go_at_call 39; refine (rto_in_yes _ _ _ h1 h2 _).mono ?_; rintro e w' ⟨rfl, rfl⟩)
    | (go_at_call 42; refine (rto_set _ _ _ _ (by omega) (by omega) (by omega) (by omega) _).mono ?_; rintro e w1 ⟨rfl, hb1⟩; obtain ⟨hc1, hf1, hk1, hz1⟩ := bcell hb1; try simp at hz1))
  exact bodyPost_ret (v := .tuple #[.agg #[.int .i64 (8 * s), .int .i64 (2 * s), .int .i64 (min (max (s + 2 * s) 200) 60000), .int .i64 0], .int .i64 0]) (by first | (simp [results, Try.results21, go_sem]; done) | (simp [results, Try.results21, go_sem, *]; done)) rfl ⟨rfl, (by repeat (first | (with_reducible exact Below.refl _ _) | (with_reducible assumption) | (with_reducible refine bset ?_ ?_ _) | (with_reducible refine balloc ?_ _) | (with_reducible refine Below.drew ?_) | (with_reducible refine bdrewN ?_ _) | (with_reducible refine bnext ?_ (by with_reducible assumption)) | exact Nat.le_refl _ | (simp; done) | omega | (simp; omega)))⟩

set_option maxHeartbeats 400000 in
theorem ref_RtoFirst_yes (s : Int) (h1 : 0 ≤ s) (h2 : s ≤ 1048576) (w : World) :
    Calls Try.prog 22 #[.int .i64 s] w fun e w' => e = .returned (.tuple #[.agg #[.int .i64 (8 * s), .int .i64 (2 * s), .int .i64 (min (max (s + 2 * s) 200) 60000), .int .i64 0], .int .i64 0]) ∧ Below w.heap.size w w' := by
  go_enter Try.func22, Try.ntmps22
  go_wp2_with (go_at_call 43; refine (ref_waits _ _ (by omega) (by omega) (by omega) (by omega) _).mono ?_; rintro e w1 ⟨rfl, hb1⟩; obtain ⟨hc1, hf1, hk1, hz1⟩ := bcell hb1; try simp at hz1)
  exact bodyPost_ret (v := .tuple #[.agg #[.int .i64 (8 * s), .int .i64 (2 * s), .int .i64 (min (max (s + 2 * s) 200) 60000), .int .i64 0], .int .i64 0]) (by first | (simp [results, Try.results22, go_sem]; done) | (simp [results, Try.results22, go_sem, *]; done)) rfl ⟨rfl, (by repeat (first | (with_reducible exact Below.refl _ _) | (with_reducible assumption) | (with_reducible refine bset ?_ ?_ _) | (with_reducible refine balloc ?_ _) | (with_reducible refine Below.drew ?_) | (with_reducible refine bdrewN ?_ _) | (with_reducible refine bnext ?_ (by with_reducible assumption)) | exact Nat.le_refl _ | (simp; done) | omega | (simp; omega)))⟩

set_option maxHeartbeats 400000 in
theorem lawRtoFirsts_walk (s : Int) (_ : IntOk s) (w : World) :
    Calls Try.prog 7 #[.int .i64 s] w fun e w' => e = .returned (.bool true) ∧ Below w.heap.size w w' := by
  by_cases h : 0 ≤ s ∧ s ≤ 1048576
  · go_enter Try.func7, Try.ntmps7
    go_wp2_with (first
      | (go_at_call 21; refine (rto_First_yes s h.1 h.2 _).mono ?_; rintro e w1 ⟨rfl, hb1⟩; obtain ⟨hc1, hf1, hk1, hz1⟩ := bcell hb1; try simp at hz1)
      | (go_at_call 22; refine (ref_RtoFirst_yes s h.1 h.2 _).mono ?_; rintro e w2 ⟨rfl, hb2⟩; obtain ⟨hc2, hf2, hk2, hz2⟩ := bcell hb2; try simp at hz2))
    go_ret
    exact ⟨rfl, (by repeat (first | (with_reducible exact Below.refl _ _) | (with_reducible assumption) | (with_reducible refine bset ?_ ?_ _) | (with_reducible refine balloc ?_ _) | (with_reducible refine Below.drew ?_) | (with_reducible refine bdrewN ?_ _) | (with_reducible refine bnext ?_ (by with_reducible assumption)) | exact Nat.le_refl _ | (simp; done) | omega | (simp; omega)))⟩
  · have h' : s < 0 ∨ 1048576 < s := by omega
    go_enter Try.func7, Try.ntmps7
    go_wp2_with (first
      | (go_at_call 21; refine (rto_First_no s h' _).mono ?_; rintro e w1 ⟨rfl, hb1⟩; obtain ⟨hc1, hf1, hk1, hz1⟩ := bcell hb1; try simp at hz1)
      | (go_at_call 22; refine (ref_RtoFirst_no s h' _).mono ?_; rintro e w2 ⟨rfl, hb2⟩; obtain ⟨hc2, hf2, hk2, hz2⟩ := bcell hb2; try simp at hz2))
    go_ret
    exact ⟨rfl, (by repeat (first | (with_reducible exact Below.refl _ _) | (with_reducible assumption) | (with_reducible refine bset ?_ ?_ _) | (with_reducible refine balloc ?_ _) | (with_reducible refine Below.drew ?_) | (with_reducible refine bdrewN ?_ _) | (with_reducible refine bnext ?_ (by with_reducible assumption)) | exact Nat.le_refl _ | (simp; done) | omega | (simp; omega)))⟩

theorem Timer.mayB_iff (t : Timer) : t.mayB = true ↔ 0 ≤ t.srtt ∧ t.srtt ≤ 8388608 ∧ 0 ≤ t.var ∧ t.var ≤ 4194304 ∧ 200 ≤ t.wait ∧ t.wait ≤ 60000 ∧ 0 ≤ t.backs ∧ t.backs ≤ 12 := by simp [Timer.mayB]

def backWait (x : Int) : Int := if x ≤ 30000 then 2 * x else 60000

set_option maxHeartbeats 400000 in
theorem rto_Back_form (t : Timer) (h : t.mayB = false) (w : World) :
    Calls Try.prog 26 #[.agg #[.int .i64 t.srtt, .int .i64 t.var, .int .i64 t.wait, .int .i64 t.backs]] w fun e w' => e = .returned (.tuple #[.agg #[.int .i64 0, .int .i64 0, .int .i64 0, .int .i64 0], .int .i64 4]) ∧ Below w.heap.size w w' := by
  go_enter Try.func26, Try.ntmps26
  go_wp2_with (go_at_call 15; refine (rto_May_no t h _).mono ?_; rintro e w1 ⟨rfl, hb1⟩; have B1 : Below w.heap.size w w1 := (by repeat (first | (with_reducible exact Below.refl _ _) | (with_reducible assumption) | (with_reducible refine bset ?_ ?_ _) | (with_reducible refine balloc ?_ _) | (with_reducible refine Below.drew ?_) | (with_reducible refine bdrewN ?_ _) | (with_reducible refine bnext ?_ (by with_reducible assumption)) | exact Nat.le_refl _ | (simp; done) | omega | (simp; omega))); have ha1 : ∀ b o, b < w.heap.size → w1.cell? ⟨b, o, none⟩ = w.cell? ⟨b, o, none⟩ := fun b o h => B1.cell (p := ⟨b, o, none⟩) h; have hz1 := hb1.size; try simp at hz1; have hc1_w0 := fun o => hb1.cell (p := ⟨w.heap.size, o, none⟩) (by first | (simp; done) | (simp; omega) | omega); have hf1_w0 := fun o => hb1.frozen (p := ⟨w.heap.size, o, none⟩) (by first | (simp; done) | (simp; omega) | omega); simp [go_sem] at hc1_w0 hf1_w0; have hc1_w1 := fun o => hb1.cell (p := ⟨w.heap.size + 1, o, none⟩) (by first | (simp; done) | (simp; omega) | omega); have hf1_w1 := fun o => hb1.frozen (p := ⟨w.heap.size + 1, o, none⟩) (by first | (simp; done) | (simp; omega) | omega); simp [go_sem] at hc1_w1 hf1_w1; clear hb1)
  exact bodyPost_ret (v := .tuple #[.agg #[.int .i64 0, .int .i64 0, .int .i64 0, .int .i64 0], .int .i64 4]) (by first | (simp [results, Try.results26, go_sem]; done) | (simp [results, Try.results26, go_sem, *]; done)) rfl ⟨rfl, (by repeat (first | (with_reducible exact Below.refl _ _) | (with_reducible assumption) | (with_reducible refine bset ?_ ?_ _) | (with_reducible refine balloc ?_ _) | (with_reducible refine Below.drew ?_) | (with_reducible refine bdrewN ?_ _) | (with_reducible refine bnext ?_ (by with_reducible assumption)) | exact Nat.le_refl _ | (simp; done) | omega | (simp; omega)))⟩

set_option maxHeartbeats 400000 in
theorem rto_Back_full (t : Timer) (h : t.mayB = true) (h2 : 12 ≤ t.backs) (w : World) :
    Calls Try.prog 26 #[.agg #[.int .i64 t.srtt, .int .i64 t.var, .int .i64 t.wait, .int .i64 t.backs]] w fun e w' => e = .returned (.tuple #[.agg #[.int .i64 0, .int .i64 0, .int .i64 0, .int .i64 0], .int .i64 9]) ∧ Below w.heap.size w w' := by
  have h3 := t.mayB_iff.1 h
  go_enter Try.func26, Try.ntmps26
  go_wp2_with (go_at_call 15; refine (rto_May_yes t h _).mono ?_; rintro e w1 ⟨rfl, hb1⟩; have B1 : Below w.heap.size w w1 := (by repeat (first | (with_reducible exact Below.refl _ _) | (with_reducible assumption) | (with_reducible refine bset ?_ ?_ _) | (with_reducible refine balloc ?_ _) | (with_reducible refine Below.drew ?_) | (with_reducible refine bdrewN ?_ _) | (with_reducible refine bnext ?_ (by with_reducible assumption)) | exact Nat.le_refl _ | (simp; done) | omega | (simp; omega))); have ha1 : ∀ b o, b < w.heap.size → w1.cell? ⟨b, o, none⟩ = w.cell? ⟨b, o, none⟩ := fun b o h => B1.cell (p := ⟨b, o, none⟩) h; have hz1 := hb1.size; try simp at hz1; have hc1_w0 := fun o => hb1.cell (p := ⟨w.heap.size, o, none⟩) (by first | (simp; done) | (simp; omega) | omega); have hf1_w0 := fun o => hb1.frozen (p := ⟨w.heap.size, o, none⟩) (by first | (simp; done) | (simp; omega) | omega); simp [go_sem] at hc1_w0 hf1_w0; have hc1_w1 := fun o => hb1.cell (p := ⟨w.heap.size + 1, o, none⟩) (by first | (simp; done) | (simp; omega) | omega); have hf1_w1 := fun o => hb1.frozen (p := ⟨w.heap.size + 1, o, none⟩) (by first | (simp; done) | (simp; omega) | omega); simp [go_sem] at hc1_w1 hf1_w1; clear hb1)
  exact bodyPost_ret (v := .tuple #[.agg #[.int .i64 0, .int .i64 0, .int .i64 0, .int .i64 0], .int .i64 9]) (by first | (simp [results, Try.results26, go_sem]; done) | (simp [results, Try.results26, go_sem, *]; done)) rfl ⟨rfl, (by repeat (first | (with_reducible exact Below.refl _ _) | (with_reducible assumption) | (with_reducible refine bset ?_ ?_ _) | (with_reducible refine balloc ?_ _) | (with_reducible refine Below.drew ?_) | (with_reducible refine bdrewN ?_ _) | (with_reducible refine bnext ?_ (by with_reducible assumption)) | exact Nat.le_refl _ | (simp; done) | omega | (simp; omega)))⟩

set_option maxHeartbeats 400000 in
theorem rto_Back_ok (t : Timer) (h : t.mayB = true) (h2 : t.backs < 12) (w : World) :
    Calls Try.prog 26 #[.agg #[.int .i64 t.srtt, .int .i64 t.var, .int .i64 t.wait, .int .i64 t.backs]] w fun e w' => e = .returned (.tuple #[.agg #[.int .i64 t.srtt, .int .i64 t.var, .int .i64 (backWait t.wait), .int .i64 (t.backs + 1)], .int .i64 0]) ∧ Below w.heap.size w w' := by
  have h3 := t.mayB_iff.1 h
  by_cases c : t.wait ≤ 30000
  · rw [show backWait t.wait = 2 * t.wait from if_pos c]
    go_enter Try.func26, Try.ntmps26
    go_wp2_with (go_at_call 15; refine (rto_May_yes t h _).mono ?_; rintro e w1 ⟨rfl, hb1⟩; have B1 : Below w.heap.size w w1 := (by repeat (first | (with_reducible exact Below.refl _ _) | (with_reducible assumption) | (with_reducible refine bset ?_ ?_ _) | (with_reducible refine balloc ?_ _) | (with_reducible refine Below.drew ?_) | (with_reducible refine bdrewN ?_ _) | (with_reducible refine bnext ?_ (by with_reducible assumption)) | exact Nat.le_refl _ | (simp; done) | omega | (simp; omega))); have ha1 : ∀ b o, b < w.heap.size → w1.cell? ⟨b, o, none⟩ = w.cell? ⟨b, o, none⟩ := fun b o h => B1.cell (p := ⟨b, o, none⟩) h; have hz1 := hb1.size; try simp at hz1; have hc1_w0 := fun o => hb1.cell (p := ⟨w.heap.size, o, none⟩) (by first | (simp; done) | (simp; omega) | omega); have hf1_w0 := fun o => hb1.frozen (p := ⟨w.heap.size, o, none⟩) (by first | (simp; done) | (simp; omega) | omega); simp [go_sem] at hc1_w0 hf1_w0; have hc1_w1 := fun o => hb1.cell (p := ⟨w.heap.size + 1, o, none⟩) (by first | (simp; done) | (simp; omega) | omega); have hf1_w1 := fun o => hb1.frozen (p := ⟨w.heap.size + 1, o, none⟩) (by first | (simp; done) | (simp; omega) | omega); simp [go_sem] at hc1_w1 hf1_w1; clear hb1)
    exact bodyPost_ret (v := .tuple #[.agg #[.int .i64 t.srtt, .int .i64 t.var, .int .i64 (2 * t.wait), .int .i64 (t.backs + 1)], .int .i64 0]) (by first | (simp [results, Try.results26, go_sem]; done) | (simp [results, Try.results26, go_sem, *]; done)) rfl ⟨rfl, (by repeat (first | (with_reducible exact Below.refl _ _) | (with_reducible assumption) | (with_reducible refine bset ?_ ?_ _) | (with_reducible refine balloc ?_ _) | (with_reducible refine Below.drew ?_) | (with_reducible refine bdrewN ?_ _) | (with_reducible refine bnext ?_ (by with_reducible assumption)) | exact Nat.le_refl _ | (simp; done) | omega | (simp; omega)))⟩
  · have c2 : 60000 < t.wait + t.wait := by omega
    rw [show backWait t.wait = 60000 from if_neg c]
    go_enter Try.func26, Try.ntmps26
    go_wp2_with (go_at_call 15; refine (rto_May_yes t h _).mono ?_; rintro e w1 ⟨rfl, hb1⟩; have B1 : Below w.heap.size w w1 := (by repeat (first | (with_reducible exact Below.refl _ _) | (with_reducible assumption) | (with_reducible refine bset ?_ ?_ _) | (with_reducible refine balloc ?_ _) | (with_reducible refine Below.drew ?_) | (with_reducible refine bdrewN ?_ _) | (with_reducible refine bnext ?_ (by with_reducible assumption)) | exact Nat.le_refl _ | (simp; done) | omega | (simp; omega))); have ha1 : ∀ b o, b < w.heap.size → w1.cell? ⟨b, o, none⟩ = w.cell? ⟨b, o, none⟩ := fun b o h => B1.cell (p := ⟨b, o, none⟩) h; have hz1 := hb1.size; try simp at hz1; have hc1_w0 := fun o => hb1.cell (p := ⟨w.heap.size, o, none⟩) (by first | (simp; done) | (simp; omega) | omega); have hf1_w0 := fun o => hb1.frozen (p := ⟨w.heap.size, o, none⟩) (by first | (simp; done) | (simp; omega) | omega); simp [go_sem] at hc1_w0 hf1_w0; have hc1_w1 := fun o => hb1.cell (p := ⟨w.heap.size + 1, o, none⟩) (by first | (simp; done) | (simp; omega) | omega); have hf1_w1 := fun o => hb1.frozen (p := ⟨w.heap.size + 1, o, none⟩) (by first | (simp; done) | (simp; omega) | omega); simp [go_sem] at hc1_w1 hf1_w1; clear hb1)
    exact bodyPost_ret (v := .tuple #[.agg #[.int .i64 t.srtt, .int .i64 t.var, .int .i64 60000, .int .i64 (t.backs + 1)], .int .i64 0]) (by first | (simp [results, Try.results26, go_sem]; done) | (simp [results, Try.results26, go_sem, *]; done)) rfl ⟨rfl, (by repeat (first | (with_reducible exact Below.refl _ _) | (with_reducible assumption) | (with_reducible refine bset ?_ ?_ _) | (with_reducible refine balloc ?_ _) | (with_reducible refine Below.drew ?_) | (with_reducible refine bdrewN ?_ _) | (with_reducible refine bnext ?_ (by with_reducible assumption)) | exact Nat.le_refl _ | (simp; done) | omega | (simp; omega)))⟩

set_option maxHeartbeats 400000 in
theorem ref_Back_form (t : Timer) (h : t.mayB = false) (w : World) :
    Calls Try.prog 27 #[.agg #[.int .i64 t.srtt, .int .i64 t.var, .int .i64 t.wait, .int .i64 t.backs]] w fun e w' => e = .returned (.tuple #[.agg #[.int .i64 0, .int .i64 0, .int .i64 0, .int .i64 0], .int .i64 4]) ∧ Below w.heap.size w w' := by
  go_enter Try.func27, Try.ntmps27
  go_wp2_with (go_at_call 16; refine (ref_TimerMay_no t h _).mono ?_; rintro e w1 ⟨rfl, hb1⟩; have B1 : Below w.heap.size w w1 := (by repeat (first | (with_reducible exact Below.refl _ _) | (with_reducible assumption) | (with_reducible refine bset ?_ ?_ _) | (with_reducible refine balloc ?_ _) | (with_reducible refine Below.drew ?_) | (with_reducible refine bdrewN ?_ _) | (with_reducible refine bnext ?_ (by with_reducible assumption)) | exact Nat.le_refl _ | (simp; done) | omega | (simp; omega))); have ha1 : ∀ b o, b < w.heap.size → w1.cell? ⟨b, o, none⟩ = w.cell? ⟨b, o, none⟩ := fun b o h => B1.cell (p := ⟨b, o, none⟩) h; have hz1 := hb1.size; try simp at hz1; have hc1_w0 := fun o => hb1.cell (p := ⟨w.heap.size, o, none⟩) (by first | (simp; done) | (simp; omega) | omega); have hf1_w0 := fun o => hb1.frozen (p := ⟨w.heap.size, o, none⟩) (by first | (simp; done) | (simp; omega) | omega); simp [go_sem] at hc1_w0 hf1_w0; have hc1_w1 := fun o => hb1.cell (p := ⟨w.heap.size + 1, o, none⟩) (by first | (simp; done) | (simp; omega) | omega); have hf1_w1 := fun o => hb1.frozen (p := ⟨w.heap.size + 1, o, none⟩) (by first | (simp; done) | (simp; omega) | omega); simp [go_sem] at hc1_w1 hf1_w1; clear hb1)
  exact bodyPost_ret (v := .tuple #[.agg #[.int .i64 0, .int .i64 0, .int .i64 0, .int .i64 0], .int .i64 4]) (by first | (simp [results, Try.results27, go_sem]; done) | (simp [results, Try.results27, go_sem, *]; done)) rfl ⟨rfl, (by repeat (first | (with_reducible exact Below.refl _ _) | (with_reducible assumption) | (with_reducible refine bset ?_ ?_ _) | (with_reducible refine balloc ?_ _) | (with_reducible refine Below.drew ?_) | (with_reducible refine bdrewN ?_ _) | (with_reducible refine bnext ?_ (by with_reducible assumption)) | exact Nat.le_refl _ | (simp; done) | omega | (simp; omega)))⟩

set_option maxHeartbeats 400000 in
theorem ref_Back_full (t : Timer) (h : t.mayB = true) (h2 : 12 ≤ t.backs) (w : World) :
    Calls Try.prog 27 #[.agg #[.int .i64 t.srtt, .int .i64 t.var, .int .i64 t.wait, .int .i64 t.backs]] w fun e w' => e = .returned (.tuple #[.agg #[.int .i64 0, .int .i64 0, .int .i64 0, .int .i64 0], .int .i64 9]) ∧ Below w.heap.size w w' := by
  have h3 := t.mayB_iff.1 h
  go_enter Try.func27, Try.ntmps27
  go_wp2_with (go_at_call 16; refine (ref_TimerMay_yes t h _).mono ?_; rintro e w1 ⟨rfl, hb1⟩; have B1 : Below w.heap.size w w1 := (by repeat (first | (with_reducible exact Below.refl _ _) | (with_reducible assumption) | (with_reducible refine bset ?_ ?_ _) | (with_reducible refine balloc ?_ _) | (with_reducible refine Below.drew ?_) | (with_reducible refine bdrewN ?_ _) | (with_reducible refine bnext ?_ (by with_reducible assumption)) | exact Nat.le_refl _ | (simp; done) | omega | (simp; omega))); have ha1 : ∀ b o, b < w.heap.size → w1.cell? ⟨b, o, none⟩ = w.cell? ⟨b, o, none⟩ := fun b o h => B1.cell (p := ⟨b, o, none⟩) h; have hz1 := hb1.size; try simp at hz1; have hc1_w0 := fun o => hb1.cell (p := ⟨w.heap.size, o, none⟩) (by first | (simp; done) | (simp; omega) | omega); have hf1_w0 := fun o => hb1.frozen (p := ⟨w.heap.size, o, none⟩) (by first | (simp; done) | (simp; omega) | omega); simp [go_sem] at hc1_w0 hf1_w0; have hc1_w1 := fun o => hb1.cell (p := ⟨w.heap.size + 1, o, none⟩) (by first | (simp; done) | (simp; omega) | omega); have hf1_w1 := fun o => hb1.frozen (p := ⟨w.heap.size + 1, o, none⟩) (by first | (simp; done) | (simp; omega) | omega); simp [go_sem] at hc1_w1 hf1_w1; clear hb1)
  exact bodyPost_ret (v := .tuple #[.agg #[.int .i64 0, .int .i64 0, .int .i64 0, .int .i64 0], .int .i64 9]) (by first | (simp [results, Try.results27, go_sem]; done) | (simp [results, Try.results27, go_sem, *]; done)) rfl ⟨rfl, (by repeat (first | (with_reducible exact Below.refl _ _) | (with_reducible assumption) | (with_reducible refine bset ?_ ?_ _) | (with_reducible refine balloc ?_ _) | (with_reducible refine Below.drew ?_) | (with_reducible refine bdrewN ?_ _) | (with_reducible refine bnext ?_ (by with_reducible assumption)) | exact Nat.le_refl _ | (simp; done) | omega | (simp; omega)))⟩

set_option maxHeartbeats 400000 in
theorem ref_Back_ok (t : Timer) (h : t.mayB = true) (h2 : t.backs < 12) (w : World) :
    Calls Try.prog 27 #[.agg #[.int .i64 t.srtt, .int .i64 t.var, .int .i64 t.wait, .int .i64 t.backs]] w fun e w' => e = .returned (.tuple #[.agg #[.int .i64 t.srtt, .int .i64 t.var, .int .i64 (backWait t.wait), .int .i64 (t.backs + 1)], .int .i64 0]) ∧ Below w.heap.size w w' := by
  have h3 := t.mayB_iff.1 h
  by_cases c : t.wait ≤ 30000
  · rw [show backWait t.wait = t.wait + t.wait from (if_pos c).trans (by omega)]
    go_enter Try.func27, Try.ntmps27
    go_wp2_with (go_at_call 16; refine (ref_TimerMay_yes t h _).mono ?_; rintro e w1 ⟨rfl, hb1⟩; have B1 : Below w.heap.size w w1 := (by repeat (first | (with_reducible exact Below.refl _ _) | (with_reducible assumption) | (with_reducible refine bset ?_ ?_ _) | (with_reducible refine balloc ?_ _) | (with_reducible refine Below.drew ?_) | (with_reducible refine bdrewN ?_ _) | (with_reducible refine bnext ?_ (by with_reducible assumption)) | exact Nat.le_refl _ | (simp; done) | omega | (simp; omega))); have ha1 : ∀ b o, b < w.heap.size → w1.cell? ⟨b, o, none⟩ = w.cell? ⟨b, o, none⟩ := fun b o h => B1.cell (p := ⟨b, o, none⟩) h; have hz1 := hb1.size; try simp at hz1; have hc1_w0 := fun o => hb1.cell (p := ⟨w.heap.size, o, none⟩) (by first | (simp; done) | (simp; omega) | omega); have hf1_w0 := fun o => hb1.frozen (p := ⟨w.heap.size, o, none⟩) (by first | (simp; done) | (simp; omega) | omega); simp [go_sem] at hc1_w0 hf1_w0; have hc1_w1 := fun o => hb1.cell (p := ⟨w.heap.size + 1, o, none⟩) (by first | (simp; done) | (simp; omega) | omega); have hf1_w1 := fun o => hb1.frozen (p := ⟨w.heap.size + 1, o, none⟩) (by first | (simp; done) | (simp; omega) | omega); simp [go_sem] at hc1_w1 hf1_w1; clear hb1)
    exact bodyPost_ret (v := .tuple #[.agg #[.int .i64 t.srtt, .int .i64 t.var, .int .i64 (t.wait + t.wait), .int .i64 (t.backs + 1)], .int .i64 0]) (by first | (simp [results, Try.results27, go_sem]; done) | (simp [results, Try.results27, go_sem, *]; done)) rfl ⟨rfl, (by repeat (first | (with_reducible exact Below.refl _ _) | (with_reducible assumption) | (with_reducible refine bset ?_ ?_ _) | (with_reducible refine balloc ?_ _) | (with_reducible refine Below.drew ?_) | (with_reducible refine bdrewN ?_ _) | (with_reducible refine bnext ?_ (by with_reducible assumption)) | exact Nat.le_refl _ | (simp; done) | omega | (simp; omega)))⟩
  · have c2 : 60000 < t.wait + t.wait := by omega
    rw [show backWait t.wait = 60000 from if_neg c]
    go_enter Try.func27, Try.ntmps27
    go_wp2_with (go_at_call 16; refine (ref_TimerMay_yes t h _).mono ?_; rintro e w1 ⟨rfl, hb1⟩; have B1 : Below w.heap.size w w1 := (by repeat (first | (with_reducible exact Below.refl _ _) | (with_reducible assumption) | (with_reducible refine bset ?_ ?_ _) | (with_reducible refine balloc ?_ _) | (with_reducible refine Below.drew ?_) | (with_reducible refine bdrewN ?_ _) | (with_reducible refine bnext ?_ (by with_reducible assumption)) | exact Nat.le_refl _ | (simp; done) | omega | (simp; omega))); have ha1 : ∀ b o, b < w.heap.size → w1.cell? ⟨b, o, none⟩ = w.cell? ⟨b, o, none⟩ := fun b o h => B1.cell (p := ⟨b, o, none⟩) h; have hz1 := hb1.size; try simp at hz1; have hc1_w0 := fun o => hb1.cell (p := ⟨w.heap.size, o, none⟩) (by first | (simp; done) | (simp; omega) | omega); have hf1_w0 := fun o => hb1.frozen (p := ⟨w.heap.size, o, none⟩) (by first | (simp; done) | (simp; omega) | omega); simp [go_sem] at hc1_w0 hf1_w0; have hc1_w1 := fun o => hb1.cell (p := ⟨w.heap.size + 1, o, none⟩) (by first | (simp; done) | (simp; omega) | omega); have hf1_w1 := fun o => hb1.frozen (p := ⟨w.heap.size + 1, o, none⟩) (by first | (simp; done) | (simp; omega) | omega); simp [go_sem] at hc1_w1 hf1_w1; clear hb1)
    exact bodyPost_ret (v := .tuple #[.agg #[.int .i64 t.srtt, .int .i64 t.var, .int .i64 60000, .int .i64 (t.backs + 1)], .int .i64 0]) (by first | (simp [results, Try.results27, go_sem]; done) | (simp [results, Try.results27, go_sem, *]; done)) rfl ⟨rfl, (by repeat (first | (with_reducible exact Below.refl _ _) | (with_reducible assumption) | (with_reducible refine bset ?_ ?_ _) | (with_reducible refine balloc ?_ _) | (with_reducible refine Below.drew ?_) | (with_reducible refine bdrewN ?_ _) | (with_reducible refine bnext ?_ (by with_reducible assumption)) | exact Nat.le_refl _ | (simp; done) | omega | (simp; omega)))⟩

set_option maxHeartbeats 1000000 in
theorem lawRtoBacks_walk (t : Timer) (_ : t.ok) (w : World) :
    Calls Try.prog 9 #[.agg #[.int .i64 t.srtt, .int .i64 t.var, .int .i64 t.wait, .int .i64 t.backs]] w fun e w' => e = .returned (.bool true) ∧ Below w.heap.size w w' := by
  cases h : t.mayB with
  | false =>
    go_enter Try.func9, Try.ntmps9
    go_wp2_with (first
      | (go_at_call 26; refine (rto_Back_form t h _).mono ?_; rintro e w1 ⟨rfl, hb1⟩; obtain ⟨hc1, hf1, hk1, hz1⟩ := bcell hb1; try simp at hz1)
      | (go_at_call 27; refine (ref_Back_form t h _).mono ?_; rintro e w2 ⟨rfl, hb2⟩; obtain ⟨hc2, hf2, hk2, hz2⟩ := bcell hb2; try simp at hz2))
    go_ret
    exact ⟨rfl, (by repeat (first | (with_reducible exact Below.refl _ _) | (with_reducible assumption) | (with_reducible refine bset ?_ ?_ _) | (with_reducible refine balloc ?_ _) | (with_reducible refine Below.drew ?_) | (with_reducible refine bdrewN ?_ _) | (with_reducible refine bnext ?_ (by with_reducible assumption)) | exact Nat.le_refl _ | (simp; done) | omega | (simp; omega)))⟩
  | true =>
    by_cases h2 : 12 ≤ t.backs
    · go_enter Try.func9, Try.ntmps9
      go_wp2_with (first
        | (go_at_call 26; refine (rto_Back_full t h h2 _).mono ?_; rintro e w1 ⟨rfl, hb1⟩; obtain ⟨hc1, hf1, hk1, hz1⟩ := bcell hb1; try simp at hz1)
        | (go_at_call 27; refine (ref_Back_full t h h2 _).mono ?_; rintro e w2 ⟨rfl, hb2⟩; obtain ⟨hc2, hf2, hk2, hz2⟩ := bcell hb2; try simp at hz2))
      go_ret
      exact ⟨rfl, (by repeat (first | (with_reducible exact Below.refl _ _) | (with_reducible assumption) | (with_reducible refine bset ?_ ?_ _) | (with_reducible refine balloc ?_ _) | (with_reducible refine Below.drew ?_) | (with_reducible refine bdrewN ?_ _) | (with_reducible refine bnext ?_ (by with_reducible assumption)) | exact Nat.le_refl _ | (simp; done) | omega | (simp; omega)))⟩
    · have h3 : t.backs < 12 := by omega
      go_enter Try.func9, Try.ntmps9
      go_wp2_with (first
        | (go_at_call 26; refine (rto_Back_ok t h h3 _).mono ?_; rintro e w1 ⟨rfl, hb1⟩; obtain ⟨hc1, hf1, hk1, hz1⟩ := bcell hb1; try simp at hz1)
        | (go_at_call 27; refine (ref_Back_ok t h h3 _).mono ?_; rintro e w2 ⟨rfl, hb2⟩; obtain ⟨hc2, hf2, hk2, hz2⟩ := bcell hb2; try simp at hz2))
      all_goals (go_ret; exact ⟨rfl, (by repeat (first | (with_reducible exact Below.refl _ _) | (with_reducible assumption) | (with_reducible refine bset ?_ ?_ _) | (with_reducible refine balloc ?_ _) | (with_reducible refine Below.drew ?_) | (with_reducible refine bdrewN ?_ _) | (with_reducible refine bnext ?_ (by with_reducible assumption)) | exact Nat.le_refl _ | (simp; done) | omega | (simp; omega)))⟩)
end Go.Proofs.Ytdjdjjbcmlnecaa
