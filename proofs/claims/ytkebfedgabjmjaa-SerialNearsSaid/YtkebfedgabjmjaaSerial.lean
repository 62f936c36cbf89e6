/- Package serial and its reference, function by function; the walks of its laws. No condition. -/
import Derived.Test.YtkebfedgabjmjaaTypes
import Derived.LoopTactic
namespace Go.Proofs.Ytkebfedgabjmjaa
open Go.RowKit

set_option maxHeartbeats 400000 in
theorem serial_bad_ok (n b : Nat) (f : Nat → Int) (w : World) (hn : n ≤ 1000) (hc : ∀ k, k < n → w.cell? ⟨b, k, none⟩ = some (.int .i64 (f k))) (hf : ∀ k, k < n → 0 ≤ f k ∧ f k < 65536) :
    Calls Try.prog 41 #[.slice (some ⟨b, 0, none⟩) n n] w fun e w' => e = .returned (.bool false) ∧ w = w' := by
  have HC := Lib.hid hc
  have HF := Lib.hid hf
  clear hc hf
  go_enter Try.func41, Try.ntmps41
  go_wp2
  go_loop [7] (fun i => ∃ k : Nat, k ≤ n ∧ i = .int .i64 k) (fun i => n - (intOf i).toNat)
  case atStart => exact ⟨0, Nat.zero_le _, rfl⟩
  case round =>
    obtain ⟨k, hk, rfl⟩ := hrel
    by_cases hlt : k < n
    · have hcell := HC.out k hlt
      have h1 := (HF.out k hlt).1
      have h2 := (HF.out k hlt).2
      go_wp2
      go_round
      case rel => exact ⟨k + 1, by omega, by go_num⟩
      case measure => simp [intOf]; omega
    · go_wp2
      go_ret
      exact ⟨rfl, rfl⟩

set_option maxHeartbeats 400000 in
theorem serial_bad_no (n b : Nat) (f : Nat → Int) (w : World) (hn : n ≤ 1000) (hc : ∀ k, k < n → w.cell? ⟨b, k, none⟩ = some (.int .i64 (f k))) (j : Nat) (hj : j < n) (hf : f j < 0 ∨ 65536 ≤ f j) :
    Calls Try.prog 41 #[.slice (some ⟨b, 0, none⟩) n n] w fun e w' => e = .returned (.bool true) ∧ w = w' := by
  have HC := Lib.hid hc
  have HF := Lib.hid hf
  clear hc hf
  go_enter Try.func41, Try.ntmps41
  go_wp2
  go_loop [7] (fun i => ∃ k : Nat, k ≤ j ∧ i = .int .i64 k) (fun i => n - (intOf i).toNat)
  case atStart => exact ⟨0, Nat.zero_le _, rfl⟩
  case round =>
    obtain ⟨k, hk, rfl⟩ := hrel
    have hlt : k < n := by omega
    have hcell := HC.out k hlt
    by_cases h1 : f k < 0
    · go_wp2
      go_ret
      exact ⟨rfl, rfl⟩
    · have h1' : 0 ≤ f k := by omega
      by_cases h2 : 65536 ≤ f k
      · go_wp2
        go_ret
        exact ⟨rfl, rfl⟩
      · have h2' : f k < 65536 := by omega
        have hkj : k < j := by
          rcases Nat.lt_or_ge k j with h | h
          · exact h
          · have : k = j := by omega
            subst this
            have := HF.out
            omega
        go_wp2
        go_round
        case rel => exact ⟨k + 1, by omega, by go_num⟩
        case measure => simp [intOf]; omega

/-- one number, two: what is asked ahead of the others -/
theorem serial_bad1_ok (b : Nat) (x : Int) (w : World) (hc : w.cell? ⟨b, 0, none⟩ = some (.int .i64 x)) (h1 : 0 ≤ x) (h2 : x < 65536) :
    Calls Try.prog 41 #[.slice (some ⟨b, 0, none⟩) 1 1] w fun e w' => e = .returned (.bool false) ∧ w = w' :=
  serial_bad_ok 1 b (fun _ => x) w (by omega) (fun k hk => by
    obtain rfl : k = 0 := by omega
    exact hc) (fun _ _ => ⟨h1, h2⟩)
theorem serial_bad1_no (b : Nat) (x : Int) (w : World) (hc : w.cell? ⟨b, 0, none⟩ = some (.int .i64 x)) (h : x < 0 ∨ 65536 ≤ x) :
    Calls Try.prog 41 #[.slice (some ⟨b, 0, none⟩) 1 1] w fun e w' => e = .returned (.bool true) ∧ w = w' :=
  serial_bad_no 1 b (fun _ => x) w (by omega) (fun k hk => by
    obtain rfl : k = 0 := by omega
    exact hc) 0 (by omega) h
theorem serial_bad2_ok (b : Nat) (x y : Int) (w : World) (hc : w.cell? ⟨b, 0, none⟩ = some (.int .i64 x)) (hd : w.cell? ⟨b, 1, none⟩ = some (.int .i64 y)) (h1 : 0 ≤ x) (h2 : x < 65536) (h3 : 0 ≤ y) (h4 : y < 65536) :
    Calls Try.prog 41 #[.slice (some ⟨b, 0, none⟩) 2 2] w fun e w' => e = .returned (.bool false) ∧ w = w' :=
  serial_bad_ok 2 b (fun k => if k = 0 then x else y) w (by omega) (fun k hk => by
    by_cases h : k = 0
    · subst h; exact hc
    · obtain rfl : k = 1 := by omega
      exact hd) (fun k _ => by split <;> omega)
theorem serial_bad2_no (b : Nat) (x y : Int) (w : World) (hc : w.cell? ⟨b, 0, none⟩ = some (.int .i64 x)) (hd : w.cell? ⟨b, 1, none⟩ = some (.int .i64 y)) (h : (x < 0 ∨ 65536 ≤ x) ∨ (y < 0 ∨ 65536 ≤ y)) :
    Calls Try.prog 41 #[.slice (some ⟨b, 0, none⟩) 2 2] w fun e w' => e = .returned (.bool true) ∧ w = w' := by
  have hcells : ∀ k, k < 2 → w.cell? ⟨b, k, none⟩ = some (.int .i64 ((fun k => if k = 0 then x else y) k)) := fun k hk => by
    by_cases h : k = 0
    · subst h; exact hc
    · obtain rfl : k = 1 := by omega
      exact hd
  rcases h with h | h
  · exact serial_bad_no 2 b (fun k => if k = 0 then x else y) w (by omega) hcells 0 (by omega) h
  · exact serial_bad_no 2 b (fun k => if k = 0 then x else y) w (by omega) hcells 1 (by omega) h

set_option maxHeartbeats 400000 in
theorem serial_far (a b : Int) (h1 : 0 ≤ a) (h2 : a < 65536) (h3 : 0 ≤ b) (h4 : b < 65536) (w : World) :
    Calls Try.prog 43 #[.int .i64 a, .int .i64 b] w fun e w' => e = .returned (.int .i64 ((b - a) % 65536)) ∧ w = w' := by
  go_enter Try.func43, Try.ntmps43
  go_wp2
  go_ret
  exact ⟨ret_int (by omega), rfl⟩

set_option maxHeartbeats 400000 in
theorem serial_Add_ok (s n : Int) (h1 : 0 ≤ s) (h2 : s < 65536) (h3 : 0 ≤ n) (h4 : n < 32768) (w : World) :
    Calls Try.prog 15 #[.int .i64 s, .int .i64 n] w fun e w' => e = .returned (.tuple #[.int .i64 ((s + n) % 65536), .int .i64 0]) ∧ Below w.heap.size w w' := by
  go_enter Try.func15, Try.ntmps15
  go_wp2_with (go_at_call 41; refine (serial_bad1_ok _ s _ (by simp [go_sem]) h1 h2).mono ?_; rintro e w' ⟨rfl, rfl⟩)
  go_ret2
  exact ⟨rfl, (by repeat (first | (with_reducible exact Below.refl _ _) | (with_reducible assumption) | (with_reducible refine bset ?_ ?_ _) | (with_reducible refine balloc ?_ _) | (with_reducible refine Below.drew ?_) | (with_reducible refine bdrewN ?_ _) | (with_reducible refine bnext ?_ (by with_reducible assumption)) | exact Nat.le_refl _ | (simp; done) | omega | (simp; omega)))⟩

set_option maxHeartbeats 400000 in
theorem serial_Add_no (s n : Int) (h : (s < 0 ∨ 65536 ≤ s) ∨ (n < 0 ∨ 32768 ≤ n)) (w : World) :
    Calls Try.prog 15 #[.int .i64 s, .int .i64 n] w fun e w' => e = .returned (.tuple #[.int .i64 0, .int .i64 2]) ∧ Below w.heap.size w w' := by
  by_cases hs : s < 0 ∨ 65536 ≤ s
  · go_enter Try.func15, Try.ntmps15
    go_wp2_with (go_at_call 41; refine (serial_bad1_no _ s _ (by simp [go_sem]) hs).mono ?_; rintro e w' ⟨rfl, rfl⟩)
    go_ret2
    exact ⟨rfl, (by repeat (first | (with_reducible exact Below.refl _ _) | (with_reducible assumption) | (with_reducible refine bset ?_ ?_ _) | (with_reducible refine balloc ?_ _) | (with_reducible refine Below.drew ?_) | (with_reducible refine bdrewN ?_ _) | (with_reducible refine bnext ?_ (by with_reducible assumption)) | exact Nat.le_refl _ | (simp; done) | omega | (simp; omega)))⟩
  · have h1 : 0 ≤ s := by omega
    have h2 : s < 65536 := by omega
    by_cases hn : n < 0
    · go_enter Try.func15, Try.ntmps15
      go_wp2_with (go_at_call 41; refine (serial_bad1_ok _ s _ (by simp [go_sem]) h1 h2).mono ?_; rintro e w' ⟨rfl, rfl⟩)
      go_ret2
      exact ⟨rfl, (by repeat (first | (with_reducible exact Below.refl _ _) | (with_reducible assumption) | (with_reducible refine bset ?_ ?_ _) | (with_reducible refine balloc ?_ _) | (with_reducible refine Below.drew ?_) | (with_reducible refine bdrewN ?_ _) | (with_reducible refine bnext ?_ (by with_reducible assumption)) | exact Nat.le_refl _ | (simp; done) | omega | (simp; omega)))⟩
    · have hn1 : 0 ≤ n := by omega
      have hn2 : 32768 ≤ n := by omega
      clear h hs hn
      go_enter Try.func15, Try.ntmps15
      go_wp2_with (go_at_call 41; refine (serial_bad1_ok _ s _ (by simp [go_sem]) h1 h2).mono ?_; rintro e w' ⟨rfl, rfl⟩)
      go_ret2
      exact ⟨rfl, (by repeat (first | (with_reducible exact Below.refl _ _) | (with_reducible assumption) | (with_reducible refine bset ?_ ?_ _) | (with_reducible refine balloc ?_ _) | (with_reducible refine Below.drew ?_) | (with_reducible refine bdrewN ?_ _) | (with_reducible refine bnext ?_ (by with_reducible assumption)) | exact Nat.le_refl _ | (simp; done) | omega | (simp; omega)))⟩

set_option maxHeartbeats 400000 in
theorem ref_serialMay (s : Int) (w : World) :
    Calls Try.prog 42 #[.int .i64 s] w fun e w' => e = .returned (.bool (decide (0 ≤ s ∧ s < 65536))) ∧ w = w' := by
  by_cases h : 0 ≤ s
  all_goals
    go_enter Try.func42, Try.ntmps42
    go_wp2
    go_ret
    exact ⟨ret_bool (by rw [Bool.eq_iff_iff]; simp; omega), rfl⟩
theorem ref_serialMay_yes (s : Int) (h1 : 0 ≤ s) (h2 : s < 65536) (w : World) : Calls Try.prog 42 #[.int .i64 s] w fun e w' => e = .returned (.bool true) ∧ w = w' :=
  (ref_serialMay s w).mono fun _ _ ⟨he, hw⟩ => ⟨by rw [he]; exact ret_bool (by simp; omega), hw⟩
theorem ref_serialMay_no (s : Int) (h : s < 0 ∨ 65536 ≤ s) (w : World) : Calls Try.prog 42 #[.int .i64 s] w fun e w' => e = .returned (.bool false) ∧ w = w' :=
  (ref_serialMay s w).mono fun _ _ ⟨he, hw⟩ => ⟨by rw [he]; exact ret_bool (by simp; omega), hw⟩

set_option maxHeartbeats 400000 in
theorem ref_Add_ok (s n : Int) (h1 : 0 ≤ s) (h2 : s < 65536) (h3 : 0 ≤ n) (h4 : n < 32768) (w : World) :
    Calls Try.prog 16 #[.int .i64 s, .int .i64 n] w fun e w' => e = .returned (.tuple #[.int .i64 ((s + n) % 65536), .int .i64 0]) ∧ w = w' := by
  by_cases c : s + n < 65536
  · go_enter Try.func16, Try.ntmps16
    go_wp2_with (go_at_call 42; refine (ref_serialMay_yes _ h1 h2 _).mono ?_; rintro e w' ⟨rfl, rfl⟩)
    go_ret2
    exact ⟨ret2_int (by omega) rfl, rfl⟩
  · have c' : 65536 ≤ s + n := by omega
    go_enter Try.func16, Try.ntmps16
    go_wp2_with (go_at_call 42; refine (ref_serialMay_yes _ h1 h2 _).mono ?_; rintro e w' ⟨rfl, rfl⟩)
    go_ret2
    exact ⟨ret2_int (by omega) rfl, rfl⟩

set_option maxHeartbeats 400000 in
theorem ref_Add_no (s n : Int) (h : (s < 0 ∨ 65536 ≤ s) ∨ (n < 0 ∨ 32768 ≤ n)) (w : World) :
    Calls Try.prog 16 #[.int .i64 s, .int .i64 n] w fun e w' => e = .returned (.tuple #[.int .i64 0, .int .i64 2]) ∧ w = w' := by
  by_cases hs : s < 0 ∨ 65536 ≤ s
  · go_enter Try.func16, Try.ntmps16
    go_wp2_with (go_at_call 42; refine (ref_serialMay_no _ hs _).mono ?_; rintro e w' ⟨rfl, rfl⟩)
    go_ret2
    exact ⟨rfl, rfl⟩
  · have h1 : 0 ≤ s := by omega
    have h2 : s < 65536 := by omega
    by_cases hn : n < 0
    · go_enter Try.func16, Try.ntmps16
      go_wp2_with (go_at_call 42; refine (ref_serialMay_yes _ h1 h2 _).mono ?_; rintro e w' ⟨rfl, rfl⟩)
      go_ret2
      exact ⟨rfl, rfl⟩
    · have hn1 : 0 ≤ n := by omega
      have hn2 : 32768 ≤ n := by omega
      clear h hs hn
      go_enter Try.func16, Try.ntmps16
      go_wp2_with (go_at_call 42; refine (ref_serialMay_yes _ h1 h2 _).mono ?_; rintro e w' ⟨rfl, rfl⟩)
      go_ret2
      exact ⟨rfl, rfl⟩

set_option maxHeartbeats 400000 in
theorem lawSerialAdds_walk (s : Int) (_ : IntOk s) (n : Int) (_ : IntOk n) (w : World) :
    Calls Try.prog 3 #[.int .i64 s, .int .i64 n] w fun e w' => e = .returned (.bool true) ∧ Below w.heap.size w w' := by
  by_cases h : (s < 0 ∨ 65536 ≤ s) ∨ (n < 0 ∨ 32768 ≤ n)
  · go_enter Try.func3, Try.ntmps3
    go_wp2_with (first
      | (go_at_call 15; refine (serial_Add_no s n h _).mono ?_; rintro e w1 ⟨rfl, hb1⟩)
      | (go_at_call 16; refine (ref_Add_no s n h _).mono ?_; rintro e w' ⟨rfl, rfl⟩))
    go_ret
    exact ⟨rfl, (by repeat (first | (with_reducible exact Below.refl _ _) | (with_reducible assumption) | (with_reducible refine bset ?_ ?_ _) | (with_reducible refine balloc ?_ _) | (with_reducible refine Below.drew ?_) | (with_reducible refine bdrewN ?_ _) | (with_reducible refine bnext ?_ (by with_reducible assumption)) | exact Nat.le_refl _ | (simp; done) | omega | (simp; omega)))⟩
  · go_enter Try.func3, Try.ntmps3
    go_wp2_with (first
      | (go_at_call 15; refine (serial_Add_ok s n (by omega) (by omega) (by omega) (by omega) _).mono ?_; rintro e w1 ⟨rfl, hb1⟩)
      | (go_at_call 16; refine (ref_Add_ok s n (by omega) (by omega) (by omega) (by omega) _).mono ?_; rintro e w' ⟨rfl, rfl⟩))
    go_ret
    exact ⟨rfl, (by repeat (first | (with_reducible exact Below.refl _ _) | (with_reducible assumption) | (with_reducible refine bset ?_ ?_ _) | (with_reducible refine balloc ?_ _) | (with_reducible refine Below.drew ?_) | (with_reducible refine bdrewN ?_ _) | (with_reducible refine bnext ?_ (by with_reducible assumption)) | exact Nat.le_refl _ | (simp; done) | omega | (simp; omega)))⟩

/-! ### Far -/
set_option maxHeartbeats 400000 in
theorem serial_Far_ok (a b : Int) (h1 : 0 ≤ a) (h2 : a < 65536) (h3 : 0 ≤ b) (h4 : b < 65536) (w : World) :
    Calls Try.prog 17 #[.int .i64 a, .int .i64 b] w fun e w' => e = .returned (.tuple #[.int .i64 ((b - a) % 65536), .int .i64 0]) ∧ Below w.heap.size w w' := by
  go_enter Try.func17, Try.ntmps17
  go_wp2_with (first
    | (go_at_call 41; refine (serial_bad2_ok _ a b _ (by simp [go_sem]) (by simp [go_sem]) h1 h2 h3 h4).mono ?_; rintro e w' ⟨rfl, rfl⟩)
    | (go_at_call 43; refine (serial_far a b h1 h2 h3 h4 _).mono ?_; rintro e w' ⟨rfl, rfl⟩))
  go_ret2
  exact ⟨rfl, (by repeat (first | (with_reducible exact Below.refl _ _) | (with_reducible assumption) | (with_reducible refine bset ?_ ?_ _) | (with_reducible refine balloc ?_ _) | (with_reducible refine Below.drew ?_) | (with_reducible refine bdrewN ?_ _) | (with_reducible refine bnext ?_ (by with_reducible assumption)) | exact Nat.le_refl _ | (simp; done) | omega | (simp; omega)))⟩
set_option maxHeartbeats 400000 in
theorem serial_Far_no (a b : Int) (h : (a < 0 ∨ 65536 ≤ a) ∨ (b < 0 ∨ 65536 ≤ b)) (w : World) :
    Calls Try.prog 17 #[.int .i64 a, .int .i64 b] w fun e w' => e = .returned (.tuple #[.int .i64 0, .int .i64 2]) ∧ Below w.heap.size w w' := by
  go_enter Try.func17, Try.ntmps17
  go_wp2_with (go_at_call 41; refine (serial_bad2_no _ a b _ (by simp [go_sem]) (by simp [go_sem]) h).mono ?_; rintro e w' ⟨rfl, rfl⟩)
  go_ret2
  exact ⟨rfl, (by repeat (first | (with_reducible exact Below.refl _ _) | (with_reducible assumption) | (with_reducible refine bset ?_ ?_ _) | (with_reducible refine balloc ?_ _) | (with_reducible refine Below.drew ?_) | (with_reducible refine bdrewN ?_ _) | (with_reducible refine bnext ?_ (by with_reducible assumption)) | exact Nat.le_refl _ | (simp; done) | omega | (simp; omega)))⟩
set_option maxHeartbeats 400000 in
theorem ref_Far_ok (a b : Int) (h1 : 0 ≤ a) (h2 : a < 65536) (h3 : 0 ≤ b) (h4 : b < 65536) (w : World) :
    Calls Try.prog 18 #[.int .i64 a, .int .i64 b] w fun e w' => e = .returned (.tuple #[.int .i64 ((b - a) % 65536), .int .i64 0]) ∧ w = w' := by
  by_cases c : a ≤ b
  · go_enter Try.func18, Try.ntmps18
    go_wp2_with (go_at_call 42; refine (ref_serialMay_yes _ (by omega) (by omega) _).mono ?_; rintro e w' ⟨rfl, rfl⟩)
    go_ret2
    exact ⟨ret2_int (by omega) rfl, rfl⟩
  · have c' : b < a := by omega
    go_enter Try.func18, Try.ntmps18
    go_wp2_with (go_at_call 42; refine (ref_serialMay_yes _ (by omega) (by omega) _).mono ?_; rintro e w' ⟨rfl, rfl⟩)
    go_ret2
    exact ⟨ret2_int (by omega) rfl, rfl⟩
set_option maxHeartbeats 400000 in
theorem ref_Far_no (a b : Int) (h : (a < 0 ∨ 65536 ≤ a) ∨ (b < 0 ∨ 65536 ≤ b)) (w : World) :
    Calls Try.prog 18 #[.int .i64 a, .int .i64 b] w fun e w' => e = .returned (.tuple #[.int .i64 0, .int .i64 2]) ∧ w = w' := by
  by_cases ha : a < 0 ∨ 65536 ≤ a
  · go_enter Try.func18, Try.ntmps18
    go_wp2_with (go_at_call 42; refine (ref_serialMay_no _ ha _).mono ?_; rintro e w' ⟨rfl, rfl⟩)
    go_ret2
    exact ⟨rfl, rfl⟩
  · have hb : b < 0 ∨ 65536 ≤ b := by omega
    have h1 : 0 ≤ a := by omega
    have h2 : a < 65536 := by omega
    clear h ha
    go_enter Try.func18, Try.ntmps18
    go_wp2_with fail
    refine (ref_serialMay_yes _ h1 h2 _).mono ?_
    rintro e w' ⟨rfl, rfl⟩
    go_wp2_with fail
    refine (ref_serialMay_no _ hb _).mono ?_
    rintro e w' ⟨rfl, rfl⟩
    go_wp2_with fail
    go_ret2
    exact ⟨rfl, rfl⟩
set_option maxHeartbeats 400000 in
theorem lawSerialFars_walk (s : Int) (_ : IntOk s) (n : Int) (_ : IntOk n) (w : World) :
    Calls Try.prog 4 #[.int .i64 s, .int .i64 n] w fun e w' => e = .returned (.bool true) ∧ Below w.heap.size w w' := by
  by_cases h : (s < 0 ∨ 65536 ≤ s) ∨ (n < 0 ∨ 65536 ≤ n)
  · go_enter Try.func4, Try.ntmps4
    go_wp2_with (first
      | (go_at_call 17; refine (serial_Far_no s n h _).mono ?_; rintro e w1 ⟨rfl, hb1⟩)
      | (go_at_call 18; refine (ref_Far_no s n h _).mono ?_; rintro e w' ⟨rfl, rfl⟩))
    go_ret
    exact ⟨rfl, (by repeat (first | (with_reducible exact Below.refl _ _) | (with_reducible assumption) | (with_reducible refine bset ?_ ?_ _) | (with_reducible refine balloc ?_ _) | (with_reducible refine Below.drew ?_) | (with_reducible refine bdrewN ?_ _) | (with_reducible refine bnext ?_ (by with_reducible assumption)) | exact Nat.le_refl _ | (simp; done) | omega | (simp; omega)))⟩
  · go_enter Try.func4, Try.ntmps4
    go_wp2_with (first
      | (go_at_call 17; refine (serial_Far_ok s n (by omega) (by omega) (by omega) (by omega) _).mono ?_; rintro e w1 ⟨rfl, hb1⟩)
      | (go_at_call 18; refine (ref_Far_ok s n (by omega) (by omega) (by omega) (by omega) _).mono ?_; rintro e w' ⟨rfl, rfl⟩))
    go_ret
    exact ⟨rfl, (by repeat (first | (with_reducible exact Below.refl _ _) | (with_reducible assumption) | (with_reducible refine bset ?_ ?_ _) | (with_reducible refine balloc ?_ _) | (with_reducible refine Below.drew ?_) | (with_reducible refine bdrewN ?_ _) | (with_reducible refine bnext ?_ (by with_reducible assumption)) | exact Nat.le_refl _ | (simp; done) | omega | (simp; omega)))⟩

/-! ### Order -/
def ordOf (d : Int) : Int := if d = 0 then 0 else if d = 32768 then 2 else if d < 32768 then -1 else 1

set_option maxHeartbeats 400000 in
theorem serial_Order_ok (a b : Int) (h1 : 0 ≤ a) (h2 : a < 65536) (h3 : 0 ≤ b) (h4 : b < 65536) (w : World) :
    Calls Try.prog 33 #[.int .i64 a, .int .i64 b] w fun e w' => e = .returned (.tuple #[.int .i64 (ordOf ((b - a) % 65536)), .int .i64 0]) ∧ Below w.heap.size w w' := by
  have hd1 : 0 ≤ (b - a) % 65536 := by omega
  have hd2 : (b - a) % 65536 < 65536 := by omega
  have hf := serial_far a b h1 h2 h3 h4
  obtain ⟨d, hd⟩ : ∃ d, d = (b - a) % 65536 := ⟨_, rfl⟩
  rw [← hd] at hf hd1 hd2 ⊢
  clear hd
  have HF := Lib.hid hf
  clear hf
  by_cases c0 : d = 0
  · subst c0
    go_enter Try.func33, Try.ntmps33
    go_wp2_with (first
      | (go_at_call 41; refine (serial_bad2_ok _ a b _ (by simp [go_sem]) (by simp [go_sem]) h1 h2 h3 h4).mono ?_; rintro e w' ⟨rfl, rfl⟩)
      | (go_at_call 43; refine (HF.out _).mono ?_; rintro e w' ⟨rfl, rfl⟩))
    go_ret2
    exact ⟨rfl, (by repeat (first | (with_reducible exact Below.refl _ _) | (with_reducible assumption) | (with_reducible refine bset ?_ ?_ _) | (with_reducible refine balloc ?_ _) | (with_reducible refine Below.drew ?_) | (with_reducible refine bdrewN ?_ _) | (with_reducible refine bnext ?_ (by with_reducible assumption)) | exact Nat.le_refl _ | (simp; done) | omega | (simp; omega)))⟩
  · by_cases c1 : d = 32768
    · subst c1
      go_enter Try.func33, Try.ntmps33
      go_wp2_with (first
        | (go_at_call 41; refine (serial_bad2_ok _ a b _ (by simp [go_sem]) (by simp [go_sem]) h1 h2 h3 h4).mono ?_; rintro e w' ⟨rfl, rfl⟩)
        | (go_at_call 43; refine (HF.out _).mono ?_; rintro e w' ⟨rfl, rfl⟩))
      go_ret2
      exact ⟨rfl, (by repeat (first | (with_reducible exact Below.refl _ _) | (with_reducible assumption) | (with_reducible refine bset ?_ ?_ _) | (with_reducible refine balloc ?_ _) | (with_reducible refine Below.drew ?_) | (with_reducible refine bdrewN ?_ _) | (with_reducible refine bnext ?_ (by with_reducible assumption)) | exact Nat.le_refl _ | (simp; done) | omega | (simp; omega)))⟩
    · have e0 : (d == 0) = false := by simpa using c0
      have e1 : (d == 32768) = false := by simpa using c1
      by_cases c2 : d < 32768
      · rw [show ordOf d = -1 by unfold ordOf; rw [if_neg c0, if_neg c1, if_pos c2]]
        go_enter Try.func33, Try.ntmps33
        go_wp2_with (first
          | (go_at_call 41; refine (serial_bad2_ok _ a b _ (by simp [go_sem]) (by simp [go_sem]) h1 h2 h3 h4).mono ?_; rintro e w' ⟨rfl, rfl⟩)
          | (go_at_call 43; refine (HF.out _).mono ?_; rintro e w' ⟨rfl, rfl⟩))
        go_ret2
        exact ⟨rfl, (by repeat (first | (with_reducible exact Below.refl _ _) | (with_reducible assumption) | (with_reducible refine bset ?_ ?_ _) | (with_reducible refine balloc ?_ _) | (with_reducible refine Below.drew ?_) | (with_reducible refine bdrewN ?_ _) | (with_reducible refine bnext ?_ (by with_reducible assumption)) | exact Nat.le_refl _ | (simp; done) | omega | (simp; omega)))⟩
      · have c2' : 32768 < d := by omega
        rw [show ordOf d = 1 by unfold ordOf; rw [if_neg c0, if_neg c1, if_neg c2]]
        go_enter Try.func33, Try.ntmps33
        go_wp2_with (first
          | (go_at_call 41; refine (serial_bad2_ok _ a b _ (by simp [go_sem]) (by simp [go_sem]) h1 h2 h3 h4).mono ?_; rintro e w' ⟨rfl, rfl⟩)
          | (go_at_call 43; refine (HF.out _).mono ?_; rintro e w' ⟨rfl, rfl⟩))
        go_ret2
        exact ⟨rfl, (by repeat (first | (with_reducible exact Below.refl _ _) | (with_reducible assumption) | (with_reducible refine bset ?_ ?_ _) | (with_reducible refine balloc ?_ _) | (with_reducible refine Below.drew ?_) | (with_reducible refine bdrewN ?_ _) | (with_reducible refine bnext ?_ (by with_reducible assumption)) | exact Nat.le_refl _ | (simp; done) | omega | (simp; omega)))⟩

set_option maxHeartbeats 400000 in
theorem serial_Order_no (a b : Int) (h : (a < 0 ∨ 65536 ≤ a) ∨ (b < 0 ∨ 65536 ≤ b)) (w : World) :
    Calls Try.prog 33 #[.int .i64 a, .int .i64 b] w fun e w' => e = .returned (.tuple #[.int .i64 0, .int .i64 2]) ∧ Below w.heap.size w w' := by
  go_enter Try.func33, Try.ntmps33
  go_wp2_with (go_at_call 41; refine (serial_bad2_no _ a b _ (by simp [go_sem]) (by simp [go_sem]) h).mono ?_; rintro e w' ⟨rfl, rfl⟩)
  go_ret2
  exact ⟨rfl, (by repeat (first | (with_reducible exact Below.refl _ _) | (with_reducible assumption) | (with_reducible refine bset ?_ ?_ _) | (with_reducible refine balloc ?_ _) | (with_reducible refine Below.drew ?_) | (with_reducible refine bdrewN ?_ _) | (with_reducible refine bnext ?_ (by with_reducible assumption)) | exact Nat.le_refl _ | (simp; done) | omega | (simp; omega)))⟩

set_option maxHeartbeats 400000 in
theorem ref_Order_no (a b : Int) (h : (a < 0 ∨ 65536 ≤ a) ∨ (b < 0 ∨ 65536 ≤ b)) (w : World) :
    Calls Try.prog 34 #[.int .i64 a, .int .i64 b] w fun e w' => e = .returned (.tuple #[.int .i64 0, .int .i64 2]) ∧ w = w' := by
  go_enter Try.func34, Try.ntmps34
  go_wp2_with (go_at_call 18; refine (ref_Far_no a b h _).mono ?_; rintro e w' ⟨rfl, rfl⟩)
  go_ret2
  exact ⟨rfl, rfl⟩

set_option maxHeartbeats 400000 in
theorem ref_Order_ok (a b : Int) (h1 : 0 ≤ a) (h2 : a < 65536) (h3 : 0 ≤ b) (h4 : b < 65536) (w : World) :
    Calls Try.prog 34 #[.int .i64 a, .int .i64 b] w fun e w' => e = .returned (.tuple #[.int .i64 (ordOf ((b - a) % 65536)), .int .i64 0]) ∧ w = w' := by
  have hf := ref_Far_ok a b h1 h2 h3 h4
  have hg := ref_Far_ok b a h3 h4 h1 h2
  obtain ⟨d, hd⟩ : ∃ d, d = (b - a) % 65536 := ⟨_, rfl⟩
  obtain ⟨g, hgg⟩ : ∃ g, g = (a - b) % 65536 := ⟨_, rfl⟩
  have hd1 : 0 ≤ d := by omega
  have hd2 : d < 65536 := by omega
  have hcase : (a = b ∧ d = 0 ∧ g = 0) ∨ ((a == b) = false ∧ d ≠ 0 ∧ g = 65536 - d) := by
    by_cases e : a = b
    · exact .inl (by omega)
    · exact .inr ⟨by simpa using e, by omega, by omega⟩
  rw [← hd] at hf ⊢
  rw [← hgg] at hg
  clear hd hgg
  have HF := Lib.hid hf
  have HG := Lib.hid hg
  clear hf hg
  rcases hcase with ⟨rfl, rfl, rfl⟩ | ⟨e, hne, rfl⟩
  · clear HG
    go_enter Try.func34, Try.ntmps34
    go_wp2_with (go_at_call 18; refine (HF.out _).mono ?_; rintro e w' ⟨rfl, rfl⟩)
    go_ret2
    exact ⟨rfl, rfl⟩
  · have fin : ∀ x, x = ordOf d → Ending.returned (.tuple #[.int .i64 x, .int .i64 0]) = .returned (.tuple #[.int .i64 (ordOf d), .int .i64 0]) := fun x h => by rw [h]
    have FIN := Lib.hid fin
    clear fin
    by_cases c1 : d = 32768
    · subst c1
      have hne2 : (a == b) = false := e
      go_enter Try.func34, Try.ntmps34
      go_wp2_with fail
      refine (HF.out _).mono ?_
      rintro e w' ⟨rfl, rfl⟩
      go_wp2_with fail
      refine (HG.out _).mono ?_
      rintro e w' ⟨rfl, rfl⟩
      go_wp2_with fail
      go_ret2
      exact ⟨rfl, rfl⟩
    · have e1 : (d == 65536 - d) = false := by rw [beq_eq_false_iff_ne]; omega
      by_cases c2 : d < 32768
      · have c3 : d < 65536 - d := by omega
        go_enter Try.func34, Try.ntmps34
        go_wp2_with fail
        refine (HF.out _).mono ?_
        rintro e w' ⟨rfl, rfl⟩
        go_wp2_with fail
        refine (HG.out _).mono ?_
        rintro e w' ⟨rfl, rfl⟩
        go_wp2_with fail
        go_ret2
        exact ⟨FIN.out _ (by unfold ordOf; rw [if_neg hne, if_neg c1, if_pos c2]), rfl⟩
      · have c3 : 65536 - d ≤ d := by omega
        go_enter Try.func34, Try.ntmps34
        go_wp2_with fail
        refine (HF.out _).mono ?_
        rintro e w' ⟨rfl, rfl⟩
        go_wp2_with fail
        refine (HG.out _).mono ?_
        rintro e w' ⟨rfl, rfl⟩
        go_wp2_with fail
        go_ret2
        exact ⟨FIN.out _ (by unfold ordOf; rw [if_neg hne, if_neg c1, if_neg (by omega)]), rfl⟩

set_option maxHeartbeats 400000 in
theorem lawSerialOrders_walk (s : Int) (_ : IntOk s) (n : Int) (_ : IntOk n) (w : World) :
    Calls Try.prog 11 #[.int .i64 s, .int .i64 n] w fun e w' => e = .returned (.bool true) ∧ Below w.heap.size w w' := by
  by_cases h : (s < 0 ∨ 65536 ≤ s) ∨ (n < 0 ∨ 65536 ≤ n)
  · go_enter Try.func11, Try.ntmps11
    go_wp2_with (first
      | (go_at_call 33; refine (serial_Order_no s n h _).mono ?_; rintro e w1 ⟨rfl, hb1⟩)
      | (go_at_call 34; refine (ref_Order_no s n h _).mono ?_; rintro e w' ⟨rfl, rfl⟩))
    go_ret
    exact ⟨rfl, (by repeat (first | (with_reducible exact Below.refl _ _) | (with_reducible assumption) | (with_reducible refine bset ?_ ?_ _) | (with_reducible refine balloc ?_ _) | (with_reducible refine Below.drew ?_) | (with_reducible refine bdrewN ?_ _) | (with_reducible refine bnext ?_ (by with_reducible assumption)) | exact Nat.le_refl _ | (simp; done) | omega | (simp; omega)))⟩
  · go_enter Try.func11, Try.ntmps11
    go_wp2_with (first
      | (go_at_call 33; refine (serial_Order_ok s n (by omega) (by omega) (by omega) (by omega) _).mono ?_; rintro e w1 ⟨rfl, hb1⟩)
      | (go_at_call 34; refine (ref_Order_ok s n (by omega) (by omega) (by omega) (by omega) _).mono ?_; rintro e w' ⟨rfl, rfl⟩))
    go_ret
    exact ⟨rfl, (by repeat (first | (with_reducible exact Below.refl _ _) | (with_reducible assumption) | (with_reducible refine bset ?_ ?_ _) | (with_reducible refine balloc ?_ _) | (with_reducible refine Below.drew ?_) | (with_reducible refine bdrewN ?_ _) | (with_reducible refine bnext ?_ (by with_reducible assumption)) | exact Nat.le_refl _ | (simp; done) | omega | (simp; omega)))⟩
end Go.Proofs.Ytkebfedgabjmjaa
