/- Package bucket: Bound and its reference; the walk of its law. No condition. -/
import Derived.Test.YtdjdjjbcmlnecaaTypes
namespace Go.Proofs.Ytdjdjjbcmlnecaa
open Go.RowKit

set_option maxHeartbeats 400000 in
theorem bucket_in (n lo hi : Int) (w : World) :
    Calls Try.prog 41 #[.int .i64 n, .int .i64 lo, .int .i64 hi] w fun e w' => e = .returned (.bool (decide (lo ≤ n) && decide (n ≤ hi))) ∧ w = w' := by
  by_cases h1 : lo ≤ n
  all_goals
    go_enter Try.func41, Try.ntmps41
    go_wp2
    go_ret
    exact ⟨by simp [*] <;> omega, rfl⟩
theorem bucket_in_yes (n lo hi : Int) (h : lo ≤ n) (h' : n ≤ hi) (w : World) :
    Calls Try.prog 41 #[.int .i64 n, .int .i64 lo, .int .i64 hi] w fun e w' => e = .returned (.bool true) ∧ w = w' :=
  (bucket_in n lo hi w).mono fun _ _ ⟨he, hw⟩ => ⟨by rw [he]; exact ret_bool (by simp [h, h']), hw⟩
theorem bucket_in_no (n lo hi : Int) (h : n < lo ∨ hi < n) (w : World) :
    Calls Try.prog 41 #[.int .i64 n, .int .i64 lo, .int .i64 hi] w fun e w' => e = .returned (.bool false) ∧ w = w' :=
  (bucket_in n lo hi w).mono fun _ _ ⟨he, hw⟩ => ⟨by rw [he]; exact ret_bool (by simp; omega), hw⟩

set_option maxHeartbeats 400000 in
theorem bucket_may_yes (r b : Int) (h1 : 0 ≤ r) (h2 : r ≤ 1000) (h3 : 0 ≤ b) (h4 : b ≤ 100000) (w : World) :
    Calls Try.prog 40 #[.int .i64 r, .int .i64 b] w fun e w' => e = .returned (.bool true) ∧ w = w' := by
  go_enter Try.func40, Try.ntmps40
  go_wp2_with (go_at_call 41; refine (bucket_in_yes _ _ _ (by omega) (by omega) _).mono ?_; rintro e w' ⟨rfl, rfl⟩)
  go_ret
  exact ⟨rfl, rfl⟩
set_option maxHeartbeats 400000 in
theorem bucket_may_no (r b : Int) (h : (r < 0 ∨ 1000 < r) ∨ (b < 0 ∨ 100000 < b)) (w : World) :
    Calls Try.prog 40 #[.int .i64 r, .int .i64 b] w fun e w' => e = .returned (.bool false) ∧ w = w' := by
  by_cases hr : r < 0 ∨ 1000 < r
  · go_enter Try.func40, Try.ntmps40
    go_wp2_with (go_at_call 41; refine (bucket_in_no _ _ _ hr _).mono ?_; rintro e w' ⟨rfl, rfl⟩)
    go_ret
    exact ⟨rfl, rfl⟩
  · go_enter Try.func40, Try.ntmps40
    go_wp2_with fail
    refine (bucket_in_yes _ _ _ (by omega) (by omega) _).mono ?_
    rintro e w' ⟨rfl, rfl⟩
    go_wp2_with fail
    refine (bucket_in_no _ _ _ (by omega) _).mono ?_
    rintro e w' ⟨rfl, rfl⟩
    go_wp2_with fail
    go_ret
    exact ⟨rfl, rfl⟩

set_option maxHeartbeats 400000 in
theorem bucket_Bound_ok (r b t : Int) (h1 : 0 ≤ r) (h2 : r ≤ 1000) (h3 : 0 ≤ b) (h4 : b ≤ 100000) (h5 : 0 ≤ t) (h6 : t ≤ 1048576) (w : World) :
    Calls Try.prog 17 #[.int .i64 r, .int .i64 b, .int .i64 t] w fun e w' => e = .returned (.tuple #[.int .i64 (b + r * t), .int .i64 0]) ∧ w = w' := by
  have m1 : 0 ≤ r * t := Int.mul_nonneg h1 h5
  have m2 : r * t ≤ 1000 * 1048576 := Int.mul_le_mul h2 h6 h5 (by omega)
  go_enter Try.func17, Try.ntmps17
  go_wp2_with (first
    | (go_at_call 40; refine (bucket_may_yes _ _ h1 h2 h3 h4 _).mono ?_; rintro e w' ⟨rfl, rfl⟩)
    | (go_at_call 41; refine (bucket_in_yes _ _ _ h5 h6 _).mono ?_; rintro e w' ⟨rfl, rfl⟩))
  go_ret2
  exact ⟨ret2_int (by first | rfl | (unfold wrap64; omega)) rfl, rfl⟩
set_option maxHeartbeats 400000 in
theorem bucket_Bound_no (r b t : Int) (h : ((r < 0 ∨ 1000 < r) ∨ (b < 0 ∨ 100000 < b)) ∨ (t < 0 ∨ 1048576 < t)) (w : World) :
    Calls Try.prog 17 #[.int .i64 r, .int .i64 b, .int .i64 t] w fun e w' => e = .returned (.tuple #[.int .i64 0, .int .i64 2]) ∧ w = w' := by
  by_cases hr : (r < 0 ∨ 1000 < r) ∨ (b < 0 ∨ 100000 < b)
  · go_enter Try.func17, Try.ntmps17
    go_wp2_with (go_at_call 40; refine (bucket_may_no _ _ hr _).mono ?_; rintro e w' ⟨rfl, rfl⟩)
    go_ret2
    exact ⟨rfl, rfl⟩
  · go_enter Try.func17, Try.ntmps17
    go_wp2_with (first
      | (go_at_call 40; refine (bucket_may_yes _ _ (by omega) (by omega) (by omega) (by omega) _).mono ?_; rintro e w' ⟨rfl, rfl⟩)
      | (go_at_call 41; refine (bucket_in_no _ _ _ (by omega) _).mono ?_; rintro e w' ⟨rfl, rfl⟩))
    go_ret2
    exact ⟨rfl, rfl⟩

set_option maxHeartbeats 400000 in
theorem ref_Bound_ok (r b t : Int) (h1 : 0 ≤ r) (h2 : r ≤ 1000) (h3 : 0 ≤ b) (h4 : b ≤ 100000) (h5 : 0 ≤ t) (h6 : t ≤ 1048576) (w : World) :
    Calls Try.prog 18 #[.int .i64 r, .int .i64 b, .int .i64 t] w fun e w' => e = .returned (.tuple #[.int .i64 (b + r * t), .int .i64 0]) ∧ w = w' := by
  have m1 : 0 ≤ t * r := Int.mul_nonneg h5 h1
  have m2 : t * r ≤ 1048576 * 1000 := Int.mul_le_mul h6 h2 h1 (by omega)
  rw [show r * t = t * r from Int.mul_comm r t]
  go_enter Try.func18, Try.ntmps18
  go_wp2
  go_ret2
  exact ⟨ret2_int (by first | rfl | (unfold wrap64; omega)) rfl, rfl⟩
set_option maxHeartbeats 400000 in
theorem ref_Bound_no (r b t : Int) (h : ((r < 0 ∨ 1000 < r) ∨ (b < 0 ∨ 100000 < b)) ∨ (t < 0 ∨ 1048576 < t)) (w : World) :
    Calls Try.prog 18 #[.int .i64 r, .int .i64 b, .int .i64 t] w fun e w' => e = .returned (.tuple #[.int .i64 0, .int .i64 2]) ∧ w = w' := by
  go_enter Try.func18, Try.ntmps18
  go_wp2
  all_goals (go_ret2; exact ⟨ret2_int (by omega) (by omega), rfl⟩)

set_option maxHeartbeats 400000 in
theorem lawBucketBounds_walk (r : Int) (_ : IntOk r) (b : Int) (_ : IntOk b) (t : Int) (_ : IntOk t) (w : World) :
    Calls Try.prog 5 #[.int .i64 r, .int .i64 b, .int .i64 t] w fun e w' => e = .returned (.bool true) ∧ Below w.heap.size w w' := by
  by_cases h : ((r < 0 ∨ 1000 < r) ∨ (b < 0 ∨ 100000 < b)) ∨ (t < 0 ∨ 1048576 < t)
  · go_enter Try.func5, Try.ntmps5
    go_wp2_with (first
      | (go_at_call 17; refine (bucket_Bound_no r b t h _).mono ?_; rintro e w' ⟨rfl, rfl⟩)
      | (go_at_call 18; refine (ref_Bound_no r b t h _).mono ?_; rintro e w' ⟨rfl, rfl⟩))
    go_ret
    exact ⟨rfl, (by repeat (first | (with_reducible exact Below.refl _ _) | (with_reducible assumption) | (with_reducible refine bset ?_ ?_ _) | (with_reducible refine balloc ?_ _) | (with_reducible refine Below.drew ?_) | (with_reducible refine bdrewN ?_ _) | (with_reducible refine bnext ?_ (by with_reducible assumption)) | exact Nat.le_refl _ | (simp; done) | omega | (simp; omega)))⟩
  · go_enter Try.func5, Try.ntmps5
    go_wp2_with (first
      | (go_at_call 17; refine (bucket_Bound_ok r b t (by omega) (by omega) (by omega) (by omega) (by omega) (by omega) _).mono ?_; rintro e w' ⟨rfl, rfl⟩)
      | (go_at_call 18; refine (ref_Bound_ok r b t (by omega) (by omega) (by omega) (by omega) (by omega) (by omega) _).mono ?_; rintro e w' ⟨rfl, rfl⟩))
    go_ret
    exact ⟨rfl, (by repeat (first | (with_reducible exact Below.refl _ _) | (with_reducible assumption) | (with_reducible refine bset ?_ ?_ _) | (with_reducible refine balloc ?_ _) | (with_reducible refine Below.drew ?_) | (with_reducible refine bdrewN ?_ _) | (with_reducible refine bnext ?_ (by with_reducible assumption)) | exact Nat.le_refl _ | (simp; done) | omega | (simp; omega)))⟩
end Go.Proofs.Ytdjdjjbcmlnecaa
