/- Package inet: Join and Update, their references; the walks of their laws. No condition. -/
import Derived.Test.YtedbidblnjajdaaInet
namespace Go.Proofs.Ytedbidblnjajdaa
open Go.RowKit

set_option maxHeartbeats 400000 in
theorem inet_bad_ok (n b : Nat) (f : Nat → Int) (w : World) (hn : n ≤ 1000) (hc : ∀ k, k < n → w.cell? ⟨b, k, none⟩ = some (.int .i64 (f k))) (hf : ∀ k, k < n → 0 ≤ f k ∧ f k < 65536) :
    Calls Try.prog 68 #[.slice (some ⟨b, 0, none⟩) n n] w fun e w' => e = .returned (.bool false) ∧ w = w' := by
  have HC := Lib.hid hc
  have HF := Lib.hid hf
  clear hc hf
  go_enter Try.func68, Try.ntmps68
  go_wp2
  go_loop [7] (fun i => ∃ k : Nat, k ≤ n ∧ i = .int .i64 k) (fun i => n - (intOf i).toNat)
  case atStart => exact ⟨0, Nat.zero_le _, rfl⟩
  case round =>
    obtain ⟨k, hk, rfl⟩ := hrel
    by_cases hlt : k < n
    · have hcell := HC.out k hlt
      have h1 := (HF.out k hlt).1
      have h2 := (HF.out k hlt).2
      go_wp2
      go_round
      case rel => exact ⟨k + 1, by omega, by go_num⟩
      case measure => simp [intOf]; omega
    · go_wp2
      go_ret
      exact ⟨rfl, rfl⟩

set_option maxHeartbeats 400000 in
theorem inet_bad_no (n b : Nat) (f : Nat → Int) (w : World) (hn : n ≤ 1000) (hc : ∀ k, k < n → w.cell? ⟨b, k, none⟩ = some (.int .i64 (f k))) (j : Nat) (hj : j < n) (hf : f j < 0 ∨ 65536 ≤ f j) :
    Calls Try.prog 68 #[.slice (some ⟨b, 0, none⟩) n n] w fun e w' => e = .returned (.bool true) ∧ w = w' := by
  have HC := Lib.hid hc
  have HF := Lib.hid hf
  clear hc hf
  go_enter Try.func68, Try.ntmps68
  go_wp2
  go_loop [7] (fun i => ∃ k : Nat, k ≤ j ∧ i = .int .i64 k) (fun i => n - (intOf i).toNat)
  case atStart => exact ⟨0, Nat.zero_le _, rfl⟩
  case round =>
    obtain ⟨k, hk, rfl⟩ := hrel
    have hlt : k < n := by omega
    have hcell := HC.out k hlt
    by_cases h1 : f k < 0
    · go_wp2
      go_ret
      exact ⟨rfl, rfl⟩
    · have h1' : 0 ≤ f k := by omega
      by_cases h2 : 65536 ≤ f k
      · go_wp2
        go_ret
        exact ⟨rfl, rfl⟩
      · have h2' : f k < 65536 := by omega
        have hkj : k < j := by
          rcases Nat.lt_or_ge k j with h | h
          · exact h
          · have : k = j := by omega
            subst this
            have := HF.out
            omega
        go_wp2
        go_round
        case rel => exact ⟨k + 1, by omega, by go_num⟩
        case measure => simp [intOf]; omega

/-- one number, two: what is asked ahead of the others -/
theorem inet_bad1_ok (b : Nat) (x : Int) (w : World) (hc : w.cell? ⟨b, 0, none⟩ = some (.int .i64 x)) (h1 : 0 ≤ x) (h2 : x < 65536) :
    Calls Try.prog 68 #[.slice (some ⟨b, 0, none⟩) 1 1] w fun e w' => e = .returned (.bool false) ∧ w = w' :=
  inet_bad_ok 1 b (fun _ => x) w (by omega) (fun k hk => by
    obtain rfl : k = 0 := by omega
    exact hc) (fun _ _ => ⟨h1, h2⟩)
theorem inet_bad1_no (b : Nat) (x : Int) (w : World) (hc : w.cell? ⟨b, 0, none⟩ = some (.int .i64 x)) (h : x < 0 ∨ 65536 ≤ x) :
    Calls Try.prog 68 #[.slice (some ⟨b, 0, none⟩) 1 1] w fun e w' => e = .returned (.bool true) ∧ w = w' :=
  inet_bad_no 1 b (fun _ => x) w (by omega) (fun k hk => by
    obtain rfl : k = 0 := by omega
    exact hc) 0 (by omega) h
theorem inet_bad2_ok (b : Nat) (x y : Int) (w : World) (hc : w.cell? ⟨b, 0, none⟩ = some (.int .i64 x)) (hd : w.cell? ⟨b, 1, none⟩ = some (.int .i64 y)) (h1 : 0 ≤ x) (h2 : x < 65536) (h3 : 0 ≤ y) (h4 : y < 65536) :
    Calls Try.prog 68 #[.slice (some ⟨b, 0, none⟩) 2 2] w fun e w' => e = .returned (.bool false) ∧ w = w' :=
  inet_bad_ok 2 b (fun k => if k = 0 then x else y) w (by omega) (fun k hk => by
    by_cases h : k = 0
    · subst h; exact hc
    · obtain rfl : k = 1 := by omega
      exact hd) (fun k _ => by split <;> omega)
theorem inet_bad2_no (b : Nat) (x y : Int) (w : World) (hc : w.cell? ⟨b, 0, none⟩ = some (.int .i64 x)) (hd : w.cell? ⟨b, 1, none⟩ = some (.int .i64 y)) (h : (x < 0 ∨ 65536 ≤ x) ∨ (y < 0 ∨ 65536 ≤ y)) :
    Calls Try.prog 68 #[.slice (some ⟨b, 0, none⟩) 2 2] w fun e w' => e = .returned (.bool true) ∧ w = w' := by
  have hcells : ∀ k, k < 2 → w.cell? ⟨b, k, none⟩ = some (.int .i64 ((fun k => if k = 0 then x else y) k)) := fun k hk => by
    by_cases h : k = 0
    · subst h; exact hc
    · obtain rfl : k = 1 := by omega
      exact hd
  rcases h with h | h
  · exact inet_bad_no 2 b (fun k => if k = 0 then x else y) w (by omega) hcells 0 (by omega) h
  · exact inet_bad_no 2 b (fun k => if k = 0 then x else y) w (by omega) hcells 1 (by omega) h


theorem inet_bad3_ok (b : Nat) (x y z : Int) (w : World) (hc : w.cell? ⟨b, 0, none⟩ = some (.int .i64 x)) (hd : w.cell? ⟨b, 1, none⟩ = some (.int .i64 y)) (he : w.cell? ⟨b, 2, none⟩ = some (.int .i64 z))
    (h1 : 0 ≤ x) (h2 : x < 65536) (h3 : 0 ≤ y) (h4 : y < 65536) (h5 : 0 ≤ z) (h6 : z < 65536) :
    Calls Try.prog 68 #[.slice (some ⟨b, 0, none⟩) 3 3] w fun e w' => e = .returned (.bool false) ∧ w = w' :=
  inet_bad_ok 3 b (fun k => if k = 0 then x else if k = 1 then y else z) w (by omega) (fun k hk => by
    by_cases h : k = 0
    · subst h; exact hc
    · by_cases h' : k = 1
      · subst h'; exact hd
      · obtain rfl : k = 2 := by omega
        exact he) (fun k _ => by
    by_cases h : k = 0
    · simp only [h, if_true]; omega
    · by_cases h' : k = 1 <;> simp only [h, h', if_true, if_false] <;> omega)
theorem inet_bad3_no (b : Nat) (x y z : Int) (w : World) (hc : w.cell? ⟨b, 0, none⟩ = some (.int .i64 x)) (hd : w.cell? ⟨b, 1, none⟩ = some (.int .i64 y)) (he : w.cell? ⟨b, 2, none⟩ = some (.int .i64 z))
    (h : (x < 0 ∨ 65536 ≤ x) ∨ (y < 0 ∨ 65536 ≤ y) ∨ (z < 0 ∨ 65536 ≤ z)) :
    Calls Try.prog 68 #[.slice (some ⟨b, 0, none⟩) 3 3] w fun e w' => e = .returned (.bool true) ∧ w = w' := by
  have hcells : ∀ k, k < 3 → w.cell? ⟨b, k, none⟩ = some (.int .i64 ((fun k => if k = 0 then x else if k = 1 then y else z) k)) := fun k hk => by
    by_cases h : k = 0
    · subst h; exact hc
    · by_cases h' : k = 1
      · subst h'; exact hd
      · obtain rfl : k = 2 := by omega
        exact he
  rcases h with h | h | h
  · exact inet_bad_no 3 b _ w (by omega) hcells 0 (by omega) h
  · exact inet_bad_no 3 b _ w (by omega) hcells 1 (by omega) h
  · exact inet_bad_no 3 b _ w (by omega) hcells 2 (by omega) h

set_option maxHeartbeats 400000 in
theorem inet_Update_ok (s a b : Int) (h1 : 0 ≤ s) (h2 : s < 65536) (h3 : 0 ≤ a) (h4 : a < 65536) (h5 : 0 ≤ b) (h6 : b < 65536) (w : World) :
    Calls Try.prog 39 #[.int .i64 s, .int .i64 a, .int .i64 b] w fun e w' => e = .returned (.tuple #[.int .i64 (65535 - foldOf (65535 - s + 65535 - a + b)), .int .i64 0]) ∧ Below w.heap.size w w' := by
  have hb := foldOf_bd (65535 - s + 65535 - a + b) (by omega)
  have HF := Lib.hid (inet_fold (65535 - s + 65535 - a + b) (by omega) (by omega))
  generalize foldOf (65535 - s + 65535 - a + b) = x at *
  go_enter Try.func39, Try.ntmps39
  go_wp2_with (first
    | (go_at_call 68; refine (inet_bad3_ok _ s a b _ (by simp [go_sem]) (by simp [go_sem]) (by simp [go_sem]) h1 h2 h3 h4 h5 h6).mono ?_; rintro e w' ⟨rfl, rfl⟩)
    | (go_at_call 67; refine (HF.out _).mono ?_; rintro e w' ⟨rfl, rfl⟩))
  go_ret2
  exact ⟨rfl, (by repeat (first | (with_reducible exact Below.refl _ _) | (with_reducible assumption) | (with_reducible refine bset ?_ ?_ _) | (with_reducible refine balloc ?_ _) | (with_reducible refine Below.drew ?_) | (with_reducible refine bdrewN ?_ _) | (with_reducible refine bnext ?_ (by with_reducible assumption)) | exact Nat.le_refl _ | (simp; done) | omega | (simp; omega)))⟩
set_option maxHeartbeats 400000 in
theorem inet_Update_no (s a b : Int) (h : (s < 0 ∨ 65536 ≤ s) ∨ (a < 0 ∨ 65536 ≤ a) ∨ (b < 0 ∨ 65536 ≤ b)) (w : World) :
    Calls Try.prog 39 #[.int .i64 s, .int .i64 a, .int .i64 b] w fun e w' => e = .returned (.tuple #[.int .i64 0, .int .i64 2]) ∧ Below w.heap.size w w' := by
  go_enter Try.func39, Try.ntmps39
  go_wp2_with (go_at_call 68; refine (inet_bad3_no _ s a b _ (by simp [go_sem]) (by simp [go_sem]) (by simp [go_sem]) h).mono ?_; rintro e w' ⟨rfl, rfl⟩)
  go_ret2
  exact ⟨rfl, (by repeat (first | (with_reducible exact Below.refl _ _) | (with_reducible assumption) | (with_reducible refine bset ?_ ?_ _) | (with_reducible refine balloc ?_ _) | (with_reducible refine Below.drew ?_) | (with_reducible refine bdrewN ?_ _) | (with_reducible refine bnext ?_ (by with_reducible assumption)) | exact Nat.le_refl _ | (simp; done) | omega | (simp; omega)))⟩

end Go.Proofs.Ytedbidblnjajdaa
