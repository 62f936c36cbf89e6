/- Package rto and its reference, function by function; the walks of its laws. No condition. -/
import Derived.Test.YtdjdjjbcmlnecaaTypes
import Derived.RegionTactic
import Derived.Deep.RegionWith
namespace Go.Proofs.Ytdjdjjbcmlnecaa
open Go.RowKit

set_option maxHeartbeats 400000 in
theorem rto_in (n lo hi : Int) (w : World) :
    Calls Try.prog 39 #[.int .i64 n, .int .i64 lo, .int .i64 hi] w fun e w' => e = .returned (.bool (decide (lo ≤ n) && decide (n ≤ hi))) ∧ w = w' := by
  by_cases h1 : lo ≤ n
  all_goals
    go_enter Try.func39, Try.ntmps39
    go_wp2
    go_ret
    exact ⟨by simp [*] <;> omega, rfl⟩

def Timer.mayB (t : Timer) : Bool := decide (0 ≤ t.srtt ∧ t.srtt ≤ 8388608 ∧ 0 ≤ t.var ∧ t.var ≤ 4194304 ∧ 200 ≤ t.wait ∧ t.wait ≤ 60000 ∧ 0 ≤ t.backs ∧ t.backs ≤ 12)

set_option maxHeartbeats 400000 in
theorem rto_May (t : Timer) (w : World) :
    Calls Try.prog 15 #[.agg #[.int .i64 t.srtt, .int .i64 t.var, .int .i64 t.wait, .int .i64 t.backs]] w fun e w' => e = .returned (.bool t.mayB) ∧ Below w.heap.size w w' := by
  obtain ⟨a, b, c, d⟩ := t
  go_enter Try.func15, Try.ntmps15
  go_wp2_with (go_at_call 39; refine (rto_in _ _ _ _).mono ?_; rintro e w' ⟨rfl, rfl⟩)
  all_goals
    go_ret
    exact ⟨ret_bool (by simp only [Timer.mayB]; rw [Bool.eq_iff_iff]; simp; omega), (Below.refl _ _).alloc (Nat.le_refl _) _⟩

set_option maxHeartbeats 400000 in
theorem ref_TimerMay (t : Timer) (w : World) :
    Calls Try.prog 16 #[.agg #[.int .i64 t.srtt, .int .i64 t.var, .int .i64 t.wait, .int .i64 t.backs]] w fun e w' => e = .returned (.bool t.mayB) ∧ Below w.heap.size w w' := by
  obtain ⟨a, b, c, d⟩ := t
  go_enter Try.func16, Try.ntmps16
  go_wp2
  all_goals
    go_ret
    exact ⟨ret_bool (by simp only [Timer.mayB]; rw [Bool.eq_iff_iff]; simp; omega), (Below.refl _ _).alloc (Nat.le_refl _) _⟩

set_option maxHeartbeats 400000 in
theorem lawRtoMays_walk (t : Timer) (_ : t.ok) (w : World) :
    Calls Try.prog 4 #[.agg #[.int .i64 t.srtt, .int .i64 t.var, .int .i64 t.wait, .int .i64 t.backs]] w fun e w' => e = .returned (.bool true) ∧ Below w.heap.size w w' := by
  go_enter Try.func4, Try.ntmps4
  go_wp2_with fail
  go_region_with (first
    | (go_at_call 15; refine (rto_May t _).mono ?_; rintro e w1 ⟨rfl, hb1⟩; obtain ⟨hc1, hf1⟩ := bcell hb1)
    | (go_at_call 16; refine (ref_TimerMay t _).mono ?_; rintro e w2 ⟨rfl, hb2⟩))
  all_goals
    go_wp2
    go_ret
    exact ⟨ret_bool (by simp), bnext (bnext (balloc (bself _) _).drew hb1) hb2⟩
end Go.Proofs.Ytdjdjjbcmlnecaa
