/- Package serial: Within and Near, their references; the walks of their laws. No condition. -/
import Derived.Test.YtkebfedgabjmjaaSerial
namespace Go.Proofs.Ytkebfedgabjmjaa
open Go.RowKit

set_option maxHeartbeats 400000 in
theorem serial_Within_ok (s l n : Int) (h1 : 0 ≤ s) (h2 : s < 65536) (h3 : 0 ≤ l) (h4 : l < 65536) (h5 : 0 ≤ n) (h6 : n ≤ 65536) (w : World) :
    Calls Try.prog 19 #[.int .i64 s, .int .i64 l, .int .i64 n] w fun e w' => e = .returned (.tuple #[.bool (decide ((s - l) % 65536 < n)), .int .i64 0]) ∧ Below w.heap.size w w' := by
  have HF := Lib.hid (serial_far l s h3 h4 h1 h2)
  go_enter Try.func19, Try.ntmps19
  go_wp2_with (first
    | (go_at_call 41; refine (serial_bad2_ok _ s l _ (by simp [go_sem]) (by simp [go_sem]) h1 h2 h3 h4).mono ?_; rintro e w' ⟨rfl, rfl⟩)
    | (go_at_call 43; refine (HF.out _).mono ?_; rintro e w' ⟨rfl, rfl⟩))
  go_ret2
  exact ⟨rfl, (by repeat (first | (with_reducible exact Below.refl _ _) | (with_reducible assumption) | (with_reducible refine bset ?_ ?_ _) | (with_reducible refine balloc ?_ _) | (with_reducible refine Below.drew ?_) | (with_reducible refine bdrewN ?_ _) | (with_reducible refine bnext ?_ (by with_reducible assumption)) | exact Nat.le_refl _ | (simp; done) | omega | (simp; omega)))⟩

set_option maxHeartbeats 400000 in
theorem serial_Within_no (s l n : Int) (h : ((s < 0 ∨ 65536 ≤ s) ∨ (l < 0 ∨ 65536 ≤ l)) ∨ (n < 0 ∨ 65536 < n)) (w : World) :
    Calls Try.prog 19 #[.int .i64 s, .int .i64 l, .int .i64 n] w fun e w' => e = .returned (.tuple #[.bool false, .int .i64 2]) ∧ Below w.heap.size w w' := by
  by_cases hb : (s < 0 ∨ 65536 ≤ s) ∨ (l < 0 ∨ 65536 ≤ l)
  · go_enter Try.func19, Try.ntmps19
    go_wp2_with (go_at_call 41; refine (serial_bad2_no _ s l _ (by simp [go_sem]) (by simp [go_sem]) hb).mono ?_; rintro e w' ⟨rfl, rfl⟩)
    go_ret2
    exact ⟨rfl, (by repeat (first | (with_reducible exact Below.refl _ _) | (with_reducible assumption) | (with_reducible refine bset ?_ ?_ _) | (with_reducible refine balloc ?_ _) | (with_reducible refine Below.drew ?_) | (with_reducible refine bdrewN ?_ _) | (with_reducible refine bnext ?_ (by with_reducible assumption)) | exact Nat.le_refl _ | (simp; done) | omega | (simp; omega)))⟩
  · have h1 : 0 ≤ s := by omega
    have h2 : s < 65536 := by omega
    have h3 : 0 ≤ l := by omega
    have h4 : l < 65536 := by omega
    by_cases hn : n < 0
    · clear h hb
      go_enter Try.func19, Try.ntmps19
      go_wp2_with (go_at_call 41; refine (serial_bad2_ok _ s l _ (by simp [go_sem]) (by simp [go_sem]) h1 h2 h3 h4).mono ?_; rintro e w' ⟨rfl, rfl⟩)
      go_ret2
      exact ⟨rfl, (by repeat (first | (with_reducible exact Below.refl _ _) | (with_reducible assumption) | (with_reducible refine bset ?_ ?_ _) | (with_reducible refine balloc ?_ _) | (with_reducible refine Below.drew ?_) | (with_reducible refine bdrewN ?_ _) | (with_reducible refine bnext ?_ (by with_reducible assumption)) | exact Nat.le_refl _ | (simp; done) | omega | (simp; omega)))⟩
    · have hn1 : 0 ≤ n := by omega
      have hn2 : 65536 < n := by omega
      clear h hb hn
      go_enter Try.func19, Try.ntmps19
      go_wp2_with (go_at_call 41; refine (serial_bad2_ok _ s l _ (by simp [go_sem]) (by simp [go_sem]) h1 h2 h3 h4).mono ?_; rintro e w' ⟨rfl, rfl⟩)
      go_ret2
      exact ⟨rfl, (by repeat (first | (with_reducible exact Below.refl _ _) | (with_reducible assumption) | (with_reducible refine bset ?_ ?_ _) | (with_reducible refine balloc ?_ _) | (with_reducible refine Below.drew ?_) | (with_reducible refine bdrewN ?_ _) | (with_reducible refine bnext ?_ (by with_reducible assumption)) | exact Nat.le_refl _ | (simp; done) | omega | (simp; omega)))⟩

set_option maxHeartbeats 400000 in
theorem ref_Within_no (s l n : Int) (h : ((s < 0 ∨ 65536 ≤ s) ∨ (l < 0 ∨ 65536 ≤ l)) ∨ (n < 0 ∨ 65536 < n)) (w : World) :
    Calls Try.prog 20 #[.int .i64 s, .int .i64 l, .int .i64 n] w fun e w' => e = .returned (.tuple #[.bool false, .int .i64 2]) ∧ w = w' := by
  by_cases hs : s < 0 ∨ 65536 ≤ s
  · go_enter Try.func20, Try.ntmps20
    go_wp2_with (go_at_call 42; refine (ref_serialMay_no _ hs _).mono ?_; rintro e w' ⟨rfl, rfl⟩)
    go_ret2
    exact ⟨rfl, rfl⟩
  · by_cases hl : l < 0 ∨ 65536 ≤ l
    · go_enter Try.func20, Try.ntmps20
      go_wp2_with fail
      refine (ref_serialMay_yes _ (by omega) (by omega) _).mono ?_
      rintro e w' ⟨rfl, rfl⟩
      go_wp2_with fail
      refine (ref_serialMay_no _ hl _).mono ?_
      rintro e w' ⟨rfl, rfl⟩
      go_wp2_with fail
      go_ret2
      exact ⟨rfl, rfl⟩
    · by_cases hn : n < 0
      · go_enter Try.func20, Try.ntmps20
        go_wp2_with (go_at_call 42; refine (ref_serialMay_yes _ (by omega) (by omega) _).mono ?_; rintro e w' ⟨rfl, rfl⟩)
        go_ret2
        exact ⟨rfl, rfl⟩
      · have hn1 : 0 ≤ n := by omega
        have hn2 : 65536 < n := by omega
        go_enter Try.func20, Try.ntmps20
        go_wp2_with (go_at_call 42; refine (ref_serialMay_yes _ (by omega) (by omega) _).mono ?_; rintro e w' ⟨rfl, rfl⟩)
        go_ret2
        exact ⟨rfl, rfl⟩

set_option maxHeartbeats 800000 in
theorem ref_Within_ok (s l n : Int) (h1 : 0 ≤ s) (h2 : s < 65536) (h3 : 0 ≤ l) (h4 : l < 65536) (h5 : 0 ≤ n) (h6 : n ≤ 65536) (w : World) :
    Calls Try.prog 20 #[.int .i64 s, .int .i64 l, .int .i64 n] w fun e w' => e = .returned (.tuple #[.bool (decide ((s - l) % 65536 < n)), .int .i64 0]) ∧ w = w' := by
  obtain ⟨x, hx⟩ : ∃ x, x = decide ((s - l) % 65536 < n) := ⟨_, rfl⟩
  rw [← hx]
  have fin : ∀ y, y = decide ((s - l) % 65536 < n) → Ending.returned (.tuple #[.bool y, .int .i64 0]) = .returned (.tuple #[.bool x, .int .i64 0]) := fun y h => by rw [h, hx]
  have FIN := Lib.hid fin
  clear fin hx
  by_cases c1 : l ≤ s
  · by_cases c2 : s < l + n
    · go_enter Try.func20, Try.ntmps20
      go_wp2_with (go_at_call 42; refine (ref_serialMay_yes _ (by omega) (by omega) _).mono ?_; rintro e w' ⟨rfl, rfl⟩)
      go_ret2
      exact ⟨FIN.out _ (by rw [Bool.eq_iff_iff]; simp; omega), rfl⟩
    · have c2' : l + n ≤ s := by omega
      have c3 : l + n ≤ s + 65536 := by omega
      go_enter Try.func20, Try.ntmps20
      go_wp2_with (go_at_call 42; refine (ref_serialMay_yes _ (by omega) (by omega) _).mono ?_; rintro e w' ⟨rfl, rfl⟩)
      go_ret2
      exact ⟨FIN.out _ (by rw [Bool.eq_iff_iff]; simp; omega), rfl⟩
  · have c1' : s < l := by omega
    have c4 : l ≤ s + 65536 := by omega
    by_cases c2 : s + 65536 < l + n
    · go_enter Try.func20, Try.ntmps20
      go_wp2_with (go_at_call 42; refine (ref_serialMay_yes _ (by omega) (by omega) _).mono ?_; rintro e w' ⟨rfl, rfl⟩)
      go_ret2
      exact ⟨FIN.out _ (by rw [Bool.eq_iff_iff]; simp; omega), rfl⟩
    · have c3 : l + n ≤ s + 65536 := by omega
      go_enter Try.func20, Try.ntmps20
      go_wp2_with (go_at_call 42; refine (ref_serialMay_yes _ (by omega) (by omega) _).mono ?_; rintro e w' ⟨rfl, rfl⟩)
      go_ret2
      exact ⟨FIN.out _ (by rw [Bool.eq_iff_iff]; simp; omega), rfl⟩

set_option maxHeartbeats 400000 in
theorem lawSerialWithins_walk (s : Int) (_ : IntOk s) (l : Int) (_ : IntOk l) (n : Int) (_ : IntOk n) (w : World) :
    Calls Try.prog 5 #[.int .i64 s, .int .i64 l, .int .i64 n] w fun e w' => e = .returned (.bool true) ∧ Below w.heap.size w w' := by
  by_cases h : ((s < 0 ∨ 65536 ≤ s) ∨ (l < 0 ∨ 65536 ≤ l)) ∨ (n < 0 ∨ 65536 < n)
  · go_enter Try.func5, Try.ntmps5
    go_wp2_with (first
      | (go_at_call 19; refine (serial_Within_no s l n h _).mono ?_; rintro e w1 ⟨rfl, hb1⟩)
      | (go_at_call 20; refine (ref_Within_no s l n h _).mono ?_; rintro e w' ⟨rfl, rfl⟩))
    go_ret
    exact ⟨rfl, (by repeat (first | (with_reducible exact Below.refl _ _) | (with_reducible assumption) | (with_reducible refine bset ?_ ?_ _) | (with_reducible refine balloc ?_ _) | (with_reducible refine Below.drew ?_) | (with_reducible refine bdrewN ?_ _) | (with_reducible refine bnext ?_ (by with_reducible assumption)) | exact Nat.le_refl _ | (simp; done) | omega | (simp; omega)))⟩
  · have k1 := serial_Within_ok s l n (by omega) (by omega) (by omega) (by omega) (by omega) (by omega)
    have k2 := ref_Within_ok s l n (by omega) (by omega) (by omega) (by omega) (by omega) (by omega)
    generalize decide ((s - l) % 65536 < n) = x at k1 k2
    have K1 := Lib.hid k1
    have K2 := Lib.hid k2
    clear k1 k2
    go_enter Try.func5, Try.ntmps5
    go_wp2_with (first
      | (go_at_call 19; refine (K1.out _).mono ?_; rintro e w1 ⟨rfl, hb1⟩)
      | (go_at_call 20; refine (K2.out _).mono ?_; rintro e w' ⟨rfl, rfl⟩))
    all_goals
      go_ret
      exact ⟨ret_bool (by simp), (by repeat (first | (with_reducible exact Below.refl _ _) | (with_reducible assumption) | (with_reducible refine bset ?_ ?_ _) | (with_reducible refine balloc ?_ _) | (with_reducible refine Below.drew ?_) | (with_reducible refine bdrewN ?_ _) | (with_reducible refine bnext ?_ (by with_reducible assumption)) | exact Nat.le_refl _ | (simp; done) | omega | (simp; omega)))⟩
end Go.Proofs.Ytkebfedgabjmjaa
