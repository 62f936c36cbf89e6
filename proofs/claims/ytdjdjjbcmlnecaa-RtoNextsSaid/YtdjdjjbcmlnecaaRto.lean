/- Package rto and its reference, function by function; the walks of its laws. No condition. -/
import Derived.Test.YtdjdjjbcmlnecaaTypes
import Derived.RegionTactic
import Derived.Deep.RegionWith
namespace Go.Proofs.Ytdjdjjbcmlnecaa
open Go.RowKit

set_option maxHeartbeats 400000 in
theorem rto_in (n lo hi : Int) (w : World) :
    Calls Try.prog 39 #[.int .i64 n, .int .i64 lo, .int .i64 hi] w fun e w' => e = .returned (.bool (decide (lo ≤ n) && decide (n ≤ hi))) ∧ w = w' := by
  by_cases h1 : lo ≤ n
  all_goals
    go_enter Try.func39, Try.ntmps39
    go_wp2
    go_ret
    exact ⟨by simp [*] <;> omega, rfl⟩

theorem rto_in_yes (n lo hi : Int) (h : lo ≤ n) (h' : n ≤ hi) (w : World) :
    Calls Try.prog 39 #[.int .i64 n, .int .i64 lo, .int .i64 hi] w fun e w' => e = .returned (.bool true) ∧ w = w' :=
  (rto_in n lo hi w).mono fun _ _ ⟨he, hw⟩ => ⟨by rw [he]; exact ret_bool (by simp [h, h']), hw⟩
theorem rto_in_no (n lo hi : Int) (h : n < lo ∨ hi < n) (w : World) :
    Calls Try.prog 39 #[.int .i64 n, .int .i64 lo, .int .i64 hi] w fun e w' => e = .returned (.bool false) ∧ w = w' :=
  (rto_in n lo hi w).mono fun _ _ ⟨he, hw⟩ => ⟨by rw [he]; exact ret_bool (by simp; omega), hw⟩

def Timer.mayB (t : Timer) : Bool := decide (0 ≤ t.srtt ∧ t.srtt ≤ 8388608 ∧ 0 ≤ t.var ∧ t.var ≤ 4194304 ∧ 200 ≤ t.wait ∧ t.wait ≤ 60000 ∧ 0 ≤ t.backs ∧ t.backs ≤ 12)

set_option maxHeartbeats 400000 in
theorem rto_May (t : Timer) (w : World) :
    Calls Try.prog 15 #[.agg #[.int .i64 t.srtt, .int .i64 t.var, .int .i64 t.wait, .int .i64 t.backs]] w fun e w' => e = .returned (.bool t.mayB) ∧ Below w.heap.size w w' := by
  obtain ⟨a, b, c, d⟩ := t
  go_enter Try.func15, Try.ntmps15
  go_wp2_with (go_at_call 39; refine (rto_in _ _ _ _).mono ?_; rintro e w' ⟨rfl, rfl⟩)
  all_goals
    go_ret
    exact ⟨ret_bool (by simp only [Timer.mayB]; rw [Bool.eq_iff_iff]; simp; omega), (Below.refl _ _).alloc (Nat.le_refl _) _⟩

set_option maxHeartbeats 400000 in
theorem ref_TimerMay (t : Timer) (w : World) :
    Calls Try.prog 16 #[.agg #[.int .i64 t.srtt, .int .i64 t.var, .int .i64 t.wait, .int .i64 t.backs]] w fun e w' => e = .returned (.bool t.mayB) ∧ Below w.heap.size w w' := by
  obtain ⟨a, b, c, d⟩ := t
  go_enter Try.func16, Try.ntmps16
  go_wp2
  all_goals
    go_ret
    exact ⟨ret_bool (by simp only [Timer.mayB]; rw [Bool.eq_iff_iff]; simp; omega), (Below.refl _ _).alloc (Nat.le_refl _) _⟩


def Timer.setT (t : Timer) : Timer := ⟨t.srtt, t.var, min (max (t.srtt / 8 + t.var) 200) 60000, 0⟩

set_option maxHeartbeats 400000 in
theorem rto_set (a b c d : Int) (h1 : 0 ≤ a) (h2 : a ≤ 8388608) (h3 : 0 ≤ b) (h4 : b ≤ 4194304) (w : World) :
    Calls Try.prog 42 #[.agg #[.int .i64 a, .int .i64 b, .int .i64 c, .int .i64 d]] w fun e w' => e = .returned (.agg #[.int .i64 a, .int .i64 b, .int .i64 (min (max (a / 8 + b) 200) 60000), .int .i64 0]) ∧ Below w.heap.size w w' := by
  by_cases c1 : a / 8 + b < 200
  · rw [show min (max (a / 8 + b) 200) 60000 = 200 by omega]
    go_enter Try.func42, Try.ntmps42
    go_wp2
    exact bodyPost_ret (v := .agg #[.int .i64 a, .int .i64 b, .int .i64 200, .int .i64 0]) (by simp [results, Try.results42, go_sem]) rfl ⟨rfl, (balloc (balloc (bself _) _) _)⟩
  · by_cases c2 : a / 8 + b ≤ 60000
    · rw [show min (max (a / 8 + b) 200) 60000 = a / 8 + b by omega]
      go_enter Try.func42, Try.ntmps42
      go_wp2
      exact bodyPost_ret (v := .agg #[.int .i64 a, .int .i64 b, .int .i64 (a / 8 + b), .int .i64 0]) (by simp [results, Try.results42, go_sem]) rfl ⟨rfl, (balloc (balloc (bself _) _) _)⟩
    · rw [show min (max (a / 8 + b) 200) 60000 = 60000 by omega]
      go_enter Try.func42, Try.ntmps42
      go_wp2
      exact bodyPost_ret (v := .agg #[.int .i64 a, .int .i64 b, .int .i64 60000, .int .i64 0]) (by simp [results, Try.results42, go_sem]) rfl ⟨rfl, (balloc (balloc (bself _) _) _)⟩

set_option maxHeartbeats 400000 in
theorem ref_waits (a b : Int) (h1 : 0 ≤ a) (h2 : a ≤ 8388608) (h3 : 0 ≤ b) (h4 : b ≤ 4194304) (w : World) :
    Calls Try.prog 43 #[.int .i64 a, .int .i64 b] w fun e w' => e = .returned (.agg #[.int .i64 a, .int .i64 b, .int .i64 (min (max (a / 8 + b) 200) 60000), .int .i64 0]) ∧ Below w.heap.size w w' := by
  by_cases c1 : a / 8 + b < 200
  · rw [show min (max (a / 8 + b) 200) 60000 = 200 by omega]
    go_enter Try.func43, Try.ntmps43
    go_wp2
    exact bodyPost_ret (v := .agg #[.int .i64 a, .int .i64 b, .int .i64 200, .int .i64 0]) (by simp [results, Try.results43, go_sem]) rfl ⟨rfl, (balloc (bself _) _)⟩
  · by_cases c2 : a / 8 + b ≤ 60000
    · rw [show min (max (a / 8 + b) 200) 60000 = a / 8 + b by omega]
      go_enter Try.func43, Try.ntmps43
      go_wp2
      exact bodyPost_ret (v := .agg #[.int .i64 a, .int .i64 b, .int .i64 (a / 8 + b), .int .i64 0]) (by simp [results, Try.results43, go_sem]) rfl ⟨rfl, (balloc (bself _) _)⟩
    · rw [show min (max (a / 8 + b) 200) 60000 = 60000 by omega]
      go_enter Try.func43, Try.ntmps43
      go_wp2
      exact bodyPost_ret (v := .agg #[.int .i64 a, .int .i64 b, .int .i64 60000, .int .i64 0]) (by simp [results, Try.results43, go_sem]) rfl ⟨rfl, (balloc (bself _) _)⟩
theorem rto_May_yes (t : Timer) (h : t.mayB = true) (w : World) :
    Calls Try.prog 15 #[.agg #[.int .i64 t.srtt, .int .i64 t.var, .int .i64 t.wait, .int .i64 t.backs]] w fun e w' => e = .returned (.bool true) ∧ Below w.heap.size w w' := by rw [← h]; exact rto_May t w
theorem rto_May_no (t : Timer) (h : t.mayB = false) (w : World) :
    Calls Try.prog 15 #[.agg #[.int .i64 t.srtt, .int .i64 t.var, .int .i64 t.wait, .int .i64 t.backs]] w fun e w' => e = .returned (.bool false) ∧ Below w.heap.size w w' := by rw [← h]; exact rto_May t w
theorem ref_TimerMay_yes (t : Timer) (h : t.mayB = true) (w : World) :
    Calls Try.prog 16 #[.agg #[.int .i64 t.srtt, .int .i64 t.var, .int .i64 t.wait, .int .i64 t.backs]] w fun e w' => e = .returned (.bool true) ∧ Below w.heap.size w w' := by rw [← h]; exact ref_TimerMay t w
theorem ref_TimerMay_no (t : Timer) (h : t.mayB = false) (w : World) :
    Calls Try.prog 16 #[.agg #[.int .i64 t.srtt, .int .i64 t.var, .int .i64 t.wait, .int .i64 t.backs]] w fun e w' => e = .returned (.bool false) ∧ Below w.heap.size w w' := by rw [← h]; exact ref_TimerMay t w

end Go.Proofs.Ytdjdjjbcmlnecaa
