/- Package inet: Join and Update, their references; the walks of their laws. No condition. -/
import Derived.Test.YtkebfedgabjmjaaInet
namespace Go.Proofs.Ytkebfedgabjmjaa
open Go.RowKit

set_option maxHeartbeats 400000 in
theorem inet_bad_ok (n b : Nat) (f : Nat → Int) (w : World) (hn : n ≤ 1000) (hc : ∀ k, k < n → w.cell? ⟨b, k, none⟩ = some (.int .i64 (f k))) (hf : ∀ k, k < n → 0 ≤ f k ∧ f k < 65536) :
    Calls Try.prog 45 #[.slice (some ⟨b, 0, none⟩) n n] w fun e w' => e = .returned (.bool false) ∧ w = w' := by
  have HC := Lib.hid hc
  have HF := Lib.hid hf
  clear hc hf
  go_enter Try.func45, Try.ntmps45
  go_wp2
  go_loop [7] (fun i => ∃ k : Nat, k ≤ n ∧ i = .int .i64 k) (fun i => n - (intOf i).toNat)
  case atStart => exact ⟨0, Nat.zero_le _, rfl⟩
  case round =>
    obtain ⟨k, hk, rfl⟩ := hrel
    by_cases hlt : k < n
    · have hcell := HC.out k hlt
      have h1 := (HF.out k hlt).1
      have h2 := (HF.out k hlt).2
      go_wp2
      go_round
      case rel => exact ⟨k + 1, by omega, by go_num⟩
      case measure => simp [intOf]; omega
    · go_wp2
      go_ret
      exact ⟨rfl, rfl⟩

set_option maxHeartbeats 400000 in
theorem inet_bad_no (n b : Nat) (f : Nat → Int) (w : World) (hn : n ≤ 1000) (hc : ∀ k, k < n → w.cell? ⟨b, k, none⟩ = some (.int .i64 (f k))) (j : Nat) (hj : j < n) (hf : f j < 0 ∨ 65536 ≤ f j) :
    Calls Try.prog 45 #[.slice (some ⟨b, 0, none⟩) n n] w fun e w' => e = .returned (.bool true) ∧ w = w' := by
  have HC := Lib.hid hc
  have HF := Lib.hid hf
  clear hc hf
  go_enter Try.func45, Try.ntmps45
  go_wp2
  go_loop [7] (fun i => ∃ k : Nat, k ≤ j ∧ i = .int .i64 k) (fun i => n - (intOf i).toNat)
  case atStart => exact ⟨0, Nat.zero_le _, rfl⟩
  case round =>
    obtain ⟨k, hk, rfl⟩ := hrel
    have hlt : k < n := by omega
    have hcell := HC.out k hlt
    by_cases h1 : f k < 0
    · go_wp2
      go_ret
      exact ⟨rfl, rfl⟩
    · have h1' : 0 ≤ f k := by omega
      by_cases h2 : 65536 ≤ f k
      · go_wp2
        go_ret
        exact ⟨rfl, rfl⟩
      · have h2' : f k < 65536 := by omega
        have hkj : k < j := by
          rcases Nat.lt_or_ge k j with h | h
          · exact h
          · have : k = j := by omega
            subst this
            have := HF.out
            omega
        go_wp2
        go_round
        case rel => exact ⟨k + 1, by omega, by go_num⟩
        case measure => simp [intOf]; omega

/-- one number, two: what is asked ahead of the others -/
theorem inet_bad1_ok (b : Nat) (x : Int) (w : World) (hc : w.cell? ⟨b, 0, none⟩ = some (.int .i64 x)) (h1 : 0 ≤ x) (h2 : x < 65536) :
    Calls Try.prog 45 #[.slice (some ⟨b, 0, none⟩) 1 1] w fun e w' => e = .returned (.bool false) ∧ w = w' :=
  inet_bad_ok 1 b (fun _ => x) w (by omega) (fun k hk => by
    obtain rfl : k = 0 := by omega
    exact hc) (fun _ _ => ⟨h1, h2⟩)
theorem inet_bad1_no (b : Nat) (x : Int) (w : World) (hc : w.cell? ⟨b, 0, none⟩ = some (.int .i64 x)) (h : x < 0 ∨ 65536 ≤ x) :
    Calls Try.prog 45 #[.slice (some ⟨b, 0, none⟩) 1 1] w fun e w' => e = .returned (.bool true) ∧ w = w' :=
  inet_bad_no 1 b (fun _ => x) w (by omega) (fun k hk => by
    obtain rfl : k = 0 := by omega
    exact hc) 0 (by omega) h
theorem inet_bad2_ok (b : Nat) (x y : Int) (w : World) (hc : w.cell? ⟨b, 0, none⟩ = some (.int .i64 x)) (hd : w.cell? ⟨b, 1, none⟩ = some (.int .i64 y)) (h1 : 0 ≤ x) (h2 : x < 65536) (h3 : 0 ≤ y) (h4 : y < 65536) :
    Calls Try.prog 45 #[.slice (some ⟨b, 0, none⟩) 2 2] w fun e w' => e = .returned (.bool false) ∧ w = w' :=
  inet_bad_ok 2 b (fun k => if k = 0 then x else y) w (by omega) (fun k hk => by
    by_cases h : k = 0
    · subst h; exact hc
    · obtain rfl : k = 1 := by omega
      exact hd) (fun k _ => by split <;> omega)
theorem inet_bad2_no (b : Nat) (x y : Int) (w : World) (hc : w.cell? ⟨b, 0, none⟩ = some (.int .i64 x)) (hd : w.cell? ⟨b, 1, none⟩ = some (.int .i64 y)) (h : (x < 0 ∨ 65536 ≤ x) ∨ (y < 0 ∨ 65536 ≤ y)) :
    Calls Try.prog 45 #[.slice (some ⟨b, 0, none⟩) 2 2] w fun e w' => e = .returned (.bool true) ∧ w = w' := by
  have hcells : ∀ k, k < 2 → w.cell? ⟨b, k, none⟩ = some (.int .i64 ((fun k => if k = 0 then x else y) k)) := fun k hk => by
    by_cases h : k = 0
    · subst h; exact hc
    · obtain rfl : k = 1 := by omega
      exact hd
  rcases h with h | h
  · exact inet_bad_no 2 b (fun k => if k = 0 then x else y) w (by omega) hcells 0 (by omega) h
  · exact inet_bad_no 2 b (fun k => if k = 0 then x else y) w (by omega) hcells 1 (by omega) h


theorem inet_bad3_ok (b : Nat) (x y z : Int) (w : World) (hc : w.cell? ⟨b, 0, none⟩ = some (.int .i64 x)) (hd : w.cell? ⟨b, 1, none⟩ = some (.int .i64 y)) (he : w.cell? ⟨b, 2, none⟩ = some (.int .i64 z))
    (h1 : 0 ≤ x) (h2 : x < 65536) (h3 : 0 ≤ y) (h4 : y < 65536) (h5 : 0 ≤ z) (h6 : z < 65536) :
    Calls Try.prog 45 #[.slice (some ⟨b, 0, none⟩) 3 3] w fun e w' => e = .returned (.bool false) ∧ w = w' :=
  inet_bad_ok 3 b (fun k => if k = 0 then x else if k = 1 then y else z) w (by omega) (fun k hk => by
    by_cases h : k = 0
    · subst h; exact hc
    · by_cases h' : k = 1
      · subst h'; exact hd
      · obtain rfl : k = 2 := by omega
        exact he) (fun k _ => by
    by_cases h : k = 0
    · simp only [h, if_true]; omega
    · by_cases h' : k = 1 <;> simp only [h, h', if_true, if_false] <;> omega)
theorem inet_bad3_no (b : Nat) (x y z : Int) (w : World) (hc : w.cell? ⟨b, 0, none⟩ = some (.int .i64 x)) (hd : w.cell? ⟨b, 1, none⟩ = some (.int .i64 y)) (he : w.cell? ⟨b, 2, none⟩ = some (.int .i64 z))
    (h : (x < 0 ∨ 65536 ≤ x) ∨ (y < 0 ∨ 65536 ≤ y) ∨ (z < 0 ∨ 65536 ≤ z)) :
    Calls Try.prog 45 #[.slice (some ⟨b, 0, none⟩) 3 3] w fun e w' => e = .returned (.bool true) ∧ w = w' := by
  have hcells : ∀ k, k < 3 → w.cell? ⟨b, k, none⟩ = some (.int .i64 ((fun k => if k = 0 then x else if k = 1 then y else z) k)) := fun k hk => by
    by_cases h : k = 0
    · subst h; exact hc
    · by_cases h' : k = 1
      · subst h'; exact hd
      · obtain rfl : k = 2 := by omega
        exact he
  rcases h with h | h | h
  · exact inet_bad_no 3 b _ w (by omega) hcells 0 (by omega) h
  · exact inet_bad_no 3 b _ w (by omega) hcells 1 (by omega) h
  · exact inet_bad_no 3 b _ w (by omega) hcells 2 (by omega) h

set_option maxHeartbeats 400000 in
theorem inet_Update_ok (s a b : Int) (h1 : 0 ≤ s) (h2 : s < 65536) (h3 : 0 ≤ a) (h4 : a < 65536) (h5 : 0 ≤ b) (h6 : b < 65536) (w : World) :
    Calls Try.prog 26 #[.int .i64 s, .int .i64 a, .int .i64 b] w fun e w' => e = .returned (.tuple #[.int .i64 (65535 - foldOf (65535 - s + 65535 - a + b)), .int .i64 0]) ∧ Below w.heap.size w w' := by
  have hb := foldOf_bd (65535 - s + 65535 - a + b) (by omega)
  have HF := Lib.hid (inet_fold (65535 - s + 65535 - a + b) (by omega) (by omega))
  generalize foldOf (65535 - s + 65535 - a + b) = x at *
  go_enter Try.func26, Try.ntmps26
  go_wp2_with (first
    | (go_at_call 45; refine (inet_bad3_ok _ s a b _ (by simp [go_sem]) (by simp [go_sem]) (by simp [go_sem]) h1 h2 h3 h4 h5 h6).mono ?_; rintro e w' ⟨rfl, rfl⟩)
    | (go_at_call 44; refine (HF.out _).mono ?_; rintro e w' ⟨rfl, rfl⟩))
  go_ret2
  exact ⟨rfl, (by repeat (first | (with_reducible exact Below.refl _ _) | (with_reducible assumption) | (with_reducible refine bset ?_ ?_ _) | (with_reducible refine balloc ?_ _) | (with_reducible refine Below.drew ?_) | (with_reducible refine bdrewN ?_ _) | (with_reducible refine bnext ?_ (by with_reducible assumption)) | exact Nat.le_refl _ | (simp; done) | omega | (simp; omega)))⟩
set_option maxHeartbeats 400000 in
theorem inet_Update_no (s a b : Int) (h : (s < 0 ∨ 65536 ≤ s) ∨ (a < 0 ∨ 65536 ≤ a) ∨ (b < 0 ∨ 65536 ≤ b)) (w : World) :
    Calls Try.prog 26 #[.int .i64 s, .int .i64 a, .int .i64 b] w fun e w' => e = .returned (.tuple #[.int .i64 0, .int .i64 2]) ∧ Below w.heap.size w w' := by
  go_enter Try.func26, Try.ntmps26
  go_wp2_with (go_at_call 45; refine (inet_bad3_no _ s a b _ (by simp [go_sem]) (by simp [go_sem]) (by simp [go_sem]) h).mono ?_; rintro e w' ⟨rfl, rfl⟩)
  go_ret2
  exact ⟨rfl, (by repeat (first | (with_reducible exact Below.refl _ _) | (with_reducible assumption) | (with_reducible refine bset ?_ ?_ _) | (with_reducible refine balloc ?_ _) | (with_reducible refine Below.drew ?_) | (with_reducible refine bdrewN ?_ _) | (with_reducible refine bnext ?_ (by with_reducible assumption)) | exact Nat.le_refl _ | (simp; done) | omega | (simp; omega)))⟩

set_option maxHeartbeats 400000 in
theorem ref_wordMay_yes (s : Int) (h1 : 0 ≤ s) (h2 : s < 65536) (w : World) : Calls Try.prog 46 #[.int .i64 s] w fun e w' => e = .returned (.bool true) ∧ w = w' := by
  go_enter Try.func46, Try.ntmps46
  go_wp2
  go_ret
  exact ⟨ret_bool (by simp; omega), rfl⟩
set_option maxHeartbeats 400000 in
theorem ref_wordMay_no (s : Int) (h : s < 0 ∨ 65536 ≤ s) (w : World) : Calls Try.prog 46 #[.int .i64 s] w fun e w' => e = .returned (.bool false) ∧ w = w' := by
  go_enter Try.func46, Try.ntmps46
  go_wp2
  all_goals (go_ret; exact ⟨ret_bool (by first | (simp; done) | (simp; omega)), rfl⟩)

/-- numbers added one by one -/
def sumF (f : Nat → Int) : Nat → Int
  | 0 => 0
  | k + 1 => sumF f k + f k
theorem sumF_nonneg (f : Nat → Int) (n : Nat) (hf : ∀ k, k < n → 0 ≤ f k) : 0 ≤ sumF f n := by
  induction n with
  | zero => simp [sumF]
  | succ n ih => have := ih (fun k hk => hf k (by omega)); have := hf n (by omega); simp only [sumF]; omega

set_option maxHeartbeats 400000 in
theorem ref_addWords (n b : Nat) (f : Nat → Int) (w : World) (hn : n ≤ 1000) (hc : ∀ k, k < n → w.cell? ⟨b, k, none⟩ = some (.int .i64 (f k))) (hf : ∀ k, k < n → 0 ≤ f k ∧ f k < 65536) :
    Calls Try.prog 47 #[.slice (some ⟨b, 0, none⟩) n n] w fun e w' => e = .returned (.int .i64 (foldOf (sumF f n))) ∧ w = w' := by
  have HC := Lib.hid hc
  have HF := Lib.hid hf
  clear hc hf
  go_enter Try.func47, Try.ntmps47
  go_wp2
  go_loop [3, 5, 8] (fun m _ i => ∃ k : Nat, k ≤ n ∧ i = .int .i64 k ∧ m = .int .i64 (foldOf (sumF f k))) (fun _ _ i => n - (intOf i).toNat)
  case atStart => exact ⟨0, Nat.zero_le _, rfl, by simp [sumF, foldOf]⟩
  case round =>
    obtain ⟨k, hk, rfl, rfl⟩ := hrel
    by_cases hlt : k < n
    · have hcell := HC.out k hlt
      have h1 := (HF.out k hlt).1
      have h2 := (HF.out k hlt).2
      have hs := sumF_nonneg f k (fun j hj => (HF.out j (by omega)).1)
      have hb := foldOf_bd _ hs
      have hfin : Hid (foldOf (sumF f (k + 1)) = if 65535 < foldOf (sumF f k) + f k then foldOf (sumF f k) + f k - 65535 else foldOf (sumF f k) + f k) := Lib.hid (foldOf_add _ _ hs h1 (by omega))
      generalize f k = x at *
      generalize foldOf (sumF f k) = y at *
      by_cases hov : 65535 < y + x
      · go_wp2
        go_round
        case rel => exact ⟨k + 1, by omega, by go_num, by rw [hfin.out, if_pos hov]⟩
        case measure => simp [intOf]; omega
      · go_wp2
        go_round
        case rel => exact ⟨k + 1, by omega, by go_num, by rw [hfin.out, if_neg hov]⟩
        case measure => simp [intOf]; omega
    · obtain rfl : k = n := by omega
      go_wp2
      go_ret
      exact ⟨rfl, rfl⟩

theorem ref_addWords2 (b : Nat) (x y : Int) (w : World) (hc : w.cell? ⟨b, 0, none⟩ = some (.int .i64 x)) (hd : w.cell? ⟨b, 1, none⟩ = some (.int .i64 y)) (h1 : 0 ≤ x) (h2 : x < 65536) (h3 : 0 ≤ y) (h4 : y < 65536) :
    Calls Try.prog 47 #[.slice (some ⟨b, 0, none⟩) 2 2] w fun e w' => e = .returned (.int .i64 (foldOf (x + y))) ∧ w = w' := by
  have h := ref_addWords 2 b (fun k => if k = 0 then x else y) w (by omega) (fun k hk => by
    by_cases h : k = 0
    · subst h; exact hc
    · obtain rfl : k = 1 := by omega
      exact hd) (fun k _ => by split <;> omega)
  simpa [sumF] using h
theorem ref_addWords3 (b : Nat) (x y z : Int) (w : World) (hc : w.cell? ⟨b, 0, none⟩ = some (.int .i64 x)) (hd : w.cell? ⟨b, 1, none⟩ = some (.int .i64 y)) (he : w.cell? ⟨b, 2, none⟩ = some (.int .i64 z))
    (h1 : 0 ≤ x) (h2 : x < 65536) (h3 : 0 ≤ y) (h4 : y < 65536) (h5 : 0 ≤ z) (h6 : z < 65536) :
    Calls Try.prog 47 #[.slice (some ⟨b, 0, none⟩) 3 3] w fun e w' => e = .returned (.int .i64 (foldOf (x + y + z))) ∧ w = w' := by
  have h := ref_addWords 3 b (fun k => if k = 0 then x else if k = 1 then y else z) w (by omega) (fun k hk => by
    by_cases h : k = 0
    · subst h; exact hc
    · by_cases h' : k = 1
      · subst h'; exact hd
      · obtain rfl : k = 2 := by omega
        exact he) (fun k _ => by
    by_cases h : k = 0
    · simp only [h, if_true]; omega
    · by_cases h' : k = 1 <;> simp only [h, h', if_true, if_false] <;> omega)
  simpa [sumF] using h

set_option maxHeartbeats 400000 in
theorem ref_Update_ok (s a b : Int) (h1 : 0 ≤ s) (h2 : s < 65536) (h3 : 0 ≤ a) (h4 : a < 65536) (h5 : 0 ≤ b) (h6 : b < 65536) (w : World) :
    Calls Try.prog 27 #[.int .i64 s, .int .i64 a, .int .i64 b] w fun e w' => e = .returned (.tuple #[.int .i64 (65535 - foldOf (65535 - s + 65535 - a + b)), .int .i64 0]) ∧ Below w.heap.size w w' := by
  have hb := foldOf_bd (65535 - s + 65535 - a + b) (by omega)
  have hf : ∀ bl (w : World), w.cell? ⟨bl, 0, none⟩ = some (.int .i64 (65535 - s)) → w.cell? ⟨bl, 1, none⟩ = some (.int .i64 (65535 - a)) → w.cell? ⟨bl, 2, none⟩ = some (.int .i64 b) →
      Calls Try.prog 47 #[.slice (some ⟨bl, 0, none⟩) 3 3] w fun e w' => e = .returned (.int .i64 (foldOf (65535 - s + 65535 - a + b))) ∧ w = w' := fun bl w a1 a2 a3 => by
    rw [show 65535 - s + 65535 - a + b = (65535 - s) + (65535 - a) + b by omega]
    exact ref_addWords3 bl _ _ _ w a1 a2 a3 (by omega) (by omega) (by omega) (by omega) (by omega) (by omega)
  generalize foldOf (65535 - s + 65535 - a + b) = x at *
  have HF := Lib.hid hf
  clear hf
  go_enter Try.func27, Try.ntmps27
  go_wp2_with (first
    | (go_at_call 46; refine (ref_wordMay_yes _ (by omega) (by omega) _).mono ?_; rintro e w' ⟨rfl, rfl⟩)
    | (go_at_call 47; refine (HF.out _ _ (by simp [go_sem]) (by simp [go_sem]) (by simp [go_sem])).mono ?_; rintro e w' ⟨rfl, rfl⟩))
  go_ret2
  exact ⟨rfl, (by repeat (first | (with_reducible exact Below.refl _ _) | (with_reducible assumption) | (with_reducible refine bset ?_ ?_ _) | (with_reducible refine balloc ?_ _) | (with_reducible refine Below.drew ?_) | (with_reducible refine bdrewN ?_ _) | (with_reducible refine bnext ?_ (by with_reducible assumption)) | exact Nat.le_refl _ | (simp; done) | omega | (simp; omega)))⟩

set_option maxHeartbeats 400000 in
theorem ref_Update_no (s a b : Int) (h : (s < 0 ∨ 65536 ≤ s) ∨ (a < 0 ∨ 65536 ≤ a) ∨ (b < 0 ∨ 65536 ≤ b)) (w : World) :
    Calls Try.prog 27 #[.int .i64 s, .int .i64 a, .int .i64 b] w fun e w' => e = .returned (.tuple #[.int .i64 0, .int .i64 2]) ∧ Below w.heap.size w w' := by
  by_cases hs : s < 0 ∨ 65536 ≤ s
  · go_enter Try.func27, Try.ntmps27
    go_wp2_with (go_at_call 46; refine (ref_wordMay_no _ hs _).mono ?_; rintro e w' ⟨rfl, rfl⟩)
    go_ret2
    exact ⟨rfl, (by repeat (first | (with_reducible exact Below.refl _ _) | (with_reducible assumption) | (with_reducible refine bset ?_ ?_ _) | (with_reducible refine balloc ?_ _) | (with_reducible refine Below.drew ?_) | (with_reducible refine bdrewN ?_ _) | (with_reducible refine bnext ?_ (by with_reducible assumption)) | exact Nat.le_refl _ | (simp; done) | omega | (simp; omega)))⟩
  · by_cases ha : a < 0 ∨ 65536 ≤ a
    · go_enter Try.func27, Try.ntmps27
      go_wp2_with fail
      refine (ref_wordMay_yes _ (by omega) (by omega) _).mono ?_
      rintro e w' ⟨rfl, rfl⟩
      go_wp2_with fail
      refine (ref_wordMay_no _ ha _).mono ?_
      rintro e w' ⟨rfl, rfl⟩
      go_wp2_with fail
      go_ret2
      exact ⟨rfl, (by repeat (first | (with_reducible exact Below.refl _ _) | (with_reducible assumption) | (with_reducible refine bset ?_ ?_ _) | (with_reducible refine balloc ?_ _) | (with_reducible refine Below.drew ?_) | (with_reducible refine bdrewN ?_ _) | (with_reducible refine bnext ?_ (by with_reducible assumption)) | exact Nat.le_refl _ | (simp; done) | omega | (simp; omega)))⟩
    · go_enter Try.func27, Try.ntmps27
      go_wp2_with fail
      refine (ref_wordMay_yes _ (by omega) (by omega) _).mono ?_
      rintro e w' ⟨rfl, rfl⟩
      go_wp2_with fail
      refine (ref_wordMay_yes _ (by omega) (by omega) _).mono ?_
      rintro e w' ⟨rfl, rfl⟩
      go_wp2_with fail
      refine (ref_wordMay_no _ (by omega) _).mono ?_
      rintro e w' ⟨rfl, rfl⟩
      go_wp2_with fail
      go_ret2
      exact ⟨rfl, (by repeat (first | (with_reducible exact Below.refl _ _) | (with_reducible assumption) | (with_reducible refine bset ?_ ?_ _) | (with_reducible refine balloc ?_ _) | (with_reducible refine Below.drew ?_) | (with_reducible refine bdrewN ?_ _) | (with_reducible refine bnext ?_ (by with_reducible assumption)) | exact Nat.le_refl _ | (simp; done) | omega | (simp; omega)))⟩

set_option maxHeartbeats 400000 in
theorem lawInetUpdates_walk (s : Int) (_ : IntOk s) (a : Int) (_ : IntOk a) (b : Int) (_ : IntOk b) (w : World) :
    Calls Try.prog 9 #[.int .i64 s, .int .i64 a, .int .i64 b] w fun e w' => e = .returned (.bool true) ∧ Below w.heap.size w w' := by
  by_cases h : (s < 0 ∨ 65536 ≤ s) ∨ (a < 0 ∨ 65536 ≤ a) ∨ (b < 0 ∨ 65536 ≤ b)
  · go_enter Try.func9, Try.ntmps9
    go_wp2_with (first
      | (go_at_call 26; refine (inet_Update_no s a b h _).mono ?_; rintro e w1 ⟨rfl, hb1⟩)
      | (go_at_call 27; refine (ref_Update_no s a b h _).mono ?_; rintro e w2 ⟨rfl, hb2⟩))
    go_ret
    exact ⟨rfl, (by repeat (first | (with_reducible exact Below.refl _ _) | (with_reducible assumption) | (with_reducible refine bset ?_ ?_ _) | (with_reducible refine balloc ?_ _) | (with_reducible refine Below.drew ?_) | (with_reducible refine bdrewN ?_ _) | (with_reducible refine bnext ?_ (by with_reducible assumption)) | exact Nat.le_refl _ | (simp; done) | omega | (simp; omega)))⟩
  · go_enter Try.func9, Try.ntmps9
    go_wp2_with (first
      | (go_at_call 26; refine (inet_Update_ok s a b (by omega) (by omega) (by omega) (by omega) (by omega) (by omega) _).mono ?_; rintro e w1 ⟨rfl, hb1⟩)
      | (go_at_call 27; refine (ref_Update_ok s a b (by omega) (by omega) (by omega) (by omega) (by omega) (by omega) _).mono ?_; rintro e w2 ⟨rfl, hb2⟩))
    go_ret
    exact ⟨ret_bool (by simp), (by repeat (first | (with_reducible exact Below.refl _ _) | (with_reducible assumption) | (with_reducible refine bset ?_ ?_ _) | (with_reducible refine balloc ?_ _) | (with_reducible refine Below.drew ?_) | (with_reducible refine bdrewN ?_ _) | (with_reducible refine bnext ?_ (by with_reducible assumption)) | exact Nat.le_refl _ | (simp; done) | omega | (simp; omega)))⟩

/-! ### Join -/
theorem bits_or_u16 (b : Int) (h1 : 0 ≤ b) (h2 : b < 65536) : bits .or .u16 (b / 256) (IntKind.u16.wrap (b * 256)) = b % 256 * 256 + b / 256 := by
  obtain ⟨m, rfl⟩ := Int.eq_ofNat_of_zero_le h1
  have e1 : IntKind.u16.wrap ((m : Int) * 256) = ((m % 256 * 256 : Nat) : Int) := by
    simp only [IntKind.wrap, IntKind.bits, IntKind.signed]
    simp
    omega
  have e2 : (m : Int) / 256 = ((m / 256 : Nat) : Int) := by omega
  rw [e1, e2]
  have t1 : (BitVec.ofInt 16 ((m / 256 : Nat) : Int)).toNat = m / 256 := by
    rw [BitVec.ofInt_natCast, BitVec.toNat_ofNat]; exact Nat.mod_eq_of_lt (by omega)
  have t2 : (BitVec.ofInt 16 ((m % 256 * 256 : Nat) : Int)).toNat = m % 256 * 256 := by
    rw [BitVec.ofInt_natCast, BitVec.toNat_ofNat]; exact Nat.mod_eq_of_lt (by omega)
  have h := Nat.two_pow_add_eq_or_of_lt (i := 8) (b := m / 256) (by omega) (m % 256)
  show IntKind.u16.wrap ((BitVec.ofInt 16 ((m / 256 : Nat) : Int) ||| BitVec.ofInt 16 ((m % 256 * 256 : Nat) : Int)).toNat : Int) = _
  rw [BitVec.toNat_or, t1, t2, Nat.or_comm, show m % 256 * 256 = 2 ^ 8 * (m % 256) by omega, ← h]
  simp only [IntKind.wrap, IntKind.bits, IntKind.signed]
  simp
  omega

set_option maxHeartbeats 400000 in
theorem bits_Reverse (b : Int) (h1 : 0 ≤ b) (h2 : b < 65536) (w : World) :
    Calls Try.prog 54 #[.int .u16 b] w fun e w' => e = .returned (.int .u16 (b % 256 * 256 + b / 256)) ∧ w = w' := by
  have hor := bits_or_u16 b h1 h2
  go_enter Try.func54, Try.ntmps54
  go_wp2
  go_ret
  first | exact ⟨rfl, rfl⟩ | exact ⟨ret_int hor, rfl⟩

set_option maxHeartbeats 400000 in
theorem inet_Join_ok (a b : Int) (odd : Bool) (h1 : 0 ≤ a) (h2 : a < 65536) (h3 : 0 ≤ b) (h4 : b < 65536) (w : World) :
    Calls Try.prog 35 #[.int .i64 a, .int .i64 b, .bool odd] w fun e w' => e = .returned (.tuple #[.int .i64 (foldOf (a + (if odd then b % 256 * 256 + b / 256 else b))), .int .i64 0]) ∧ Below w.heap.size w w' := by
  cases odd with
  | true =>
    have HF := Lib.hid (inet_fold (a + (b % 256 * 256 + b / 256)) (by omega) (by omega))
    have HR := Lib.hid (bits_Reverse b h3 h4)
    rw [if_pos rfl]
    go_enter Try.func35, Try.ntmps35
    go_wp2_with (first
      | (go_at_call 45; refine (inet_bad2_ok _ a b _ (by simp [go_sem]) (by simp [go_sem]) h1 h2 h3 h4).mono ?_; rintro e w' ⟨rfl, rfl⟩)
      | (go_at_call 54; refine (HR.out _).mono ?_; rintro e w' ⟨rfl, rfl⟩)
      | (go_at_call 44; refine (HF.out _).mono ?_; rintro e w' ⟨rfl, rfl⟩))
    go_ret2
    exact ⟨rfl, (by repeat (first | (with_reducible exact Below.refl _ _) | (with_reducible assumption) | (with_reducible refine bset ?_ ?_ _) | (with_reducible refine balloc ?_ _) | (with_reducible refine Below.drew ?_) | (with_reducible refine bdrewN ?_ _) | (with_reducible refine bnext ?_ (by with_reducible assumption)) | exact Nat.le_refl _ | (simp; done) | omega | (simp; omega)))⟩
  | false =>
    have HF := Lib.hid (inet_fold (a + b) (by omega) (by omega))
    rw [if_neg (by simp)]
    go_enter Try.func35, Try.ntmps35
    go_wp2_with (first
      | (go_at_call 45; refine (inet_bad2_ok _ a b _ (by simp [go_sem]) (by simp [go_sem]) h1 h2 h3 h4).mono ?_; rintro e w' ⟨rfl, rfl⟩)
      | (go_at_call 44; refine (HF.out _).mono ?_; rintro e w' ⟨rfl, rfl⟩))
    go_ret2
    exact ⟨rfl, (by repeat (first | (with_reducible exact Below.refl _ _) | (with_reducible assumption) | (with_reducible refine bset ?_ ?_ _) | (with_reducible refine balloc ?_ _) | (with_reducible refine Below.drew ?_) | (with_reducible refine bdrewN ?_ _) | (with_reducible refine bnext ?_ (by with_reducible assumption)) | exact Nat.le_refl _ | (simp; done) | omega | (simp; omega)))⟩
set_option maxHeartbeats 400000 in
theorem inet_Join_no (a b : Int) (odd : Bool) (h : (a < 0 ∨ 65536 ≤ a) ∨ (b < 0 ∨ 65536 ≤ b)) (w : World) :
    Calls Try.prog 35 #[.int .i64 a, .int .i64 b, .bool odd] w fun e w' => e = .returned (.tuple #[.int .i64 0, .int .i64 2]) ∧ Below w.heap.size w w' := by
  go_enter Try.func35, Try.ntmps35
  go_wp2_with (go_at_call 45; refine (inet_bad2_no _ a b _ (by simp [go_sem]) (by simp [go_sem]) h).mono ?_; rintro e w' ⟨rfl, rfl⟩)
  go_ret2
  exact ⟨rfl, (by repeat (first | (with_reducible exact Below.refl _ _) | (with_reducible assumption) | (with_reducible refine bset ?_ ?_ _) | (with_reducible refine balloc ?_ _) | (with_reducible refine Below.drew ?_) | (with_reducible refine bdrewN ?_ _) | (with_reducible refine bnext ?_ (by with_reducible assumption)) | exact Nat.le_refl _ | (simp; done) | omega | (simp; omega)))⟩

set_option maxHeartbeats 400000 in
theorem ref_Join_ok (a b : Int) (odd : Bool) (h1 : 0 ≤ a) (h2 : a < 65536) (h3 : 0 ≤ b) (h4 : b < 65536) (w : World) :
    Calls Try.prog 36 #[.int .i64 a, .int .i64 b, .bool odd] w fun e w' => e = .returned (.tuple #[.int .i64 (foldOf (a + (if odd then b % 256 * 256 + b / 256 else b))), .int .i64 0]) ∧ Below w.heap.size w w' := by
  cases odd with
  | true =>
    rw [if_pos rfl]
    go_enter Try.func36, Try.ntmps36
    go_wp2_with (first
      | (go_at_call 46; refine (ref_wordMay_yes _ (by omega) (by omega) _).mono ?_; rintro e w' ⟨rfl, rfl⟩)
      | (go_at_call 47; refine (ref_addWords2 _ a (b % 256 * 256 + b / 256) _ (by simp [go_sem]) (by simp [go_sem]) (by omega) (by omega) (by omega) (by omega)).mono ?_; rintro e w' ⟨rfl, rfl⟩))
    go_ret2
    exact ⟨rfl, (by repeat (first | (with_reducible exact Below.refl _ _) | (with_reducible assumption) | (with_reducible refine bset ?_ ?_ _) | (with_reducible refine balloc ?_ _) | (with_reducible refine Below.drew ?_) | (with_reducible refine bdrewN ?_ _) | (with_reducible refine bnext ?_ (by with_reducible assumption)) | exact Nat.le_refl _ | (simp; done) | omega | (simp; omega)))⟩
  | false =>
    rw [if_neg (by simp)]
    go_enter Try.func36, Try.ntmps36
    go_wp2_with (first
      | (go_at_call 46; refine (ref_wordMay_yes _ (by omega) (by omega) _).mono ?_; rintro e w' ⟨rfl, rfl⟩)
      | (go_at_call 47; refine (ref_addWords2 _ a b _ (by simp [go_sem]) (by simp [go_sem]) (by omega) (by omega) (by omega) (by omega)).mono ?_; rintro e w' ⟨rfl, rfl⟩))
    go_ret2
    exact ⟨rfl, (by repeat (first | (with_reducible exact Below.refl _ _) | (with_reducible assumption) | (with_reducible refine bset ?_ ?_ _) | (with_reducible refine balloc ?_ _) | (with_reducible refine Below.drew ?_) | (with_reducible refine bdrewN ?_ _) | (with_reducible refine bnext ?_ (by with_reducible assumption)) | exact Nat.le_refl _ | (simp; done) | omega | (simp; omega)))⟩
set_option maxHeartbeats 400000 in
theorem ref_Join_no (a b : Int) (odd : Bool) (h : (a < 0 ∨ 65536 ≤ a) ∨ (b < 0 ∨ 65536 ≤ b)) (w : World) :
    Calls Try.prog 36 #[.int .i64 a, .int .i64 b, .bool odd] w fun e w' => e = .returned (.tuple #[.int .i64 0, .int .i64 2]) ∧ Below w.heap.size w w' := by
  by_cases hs : a < 0 ∨ 65536 ≤ a
  · go_enter Try.func36, Try.ntmps36
    go_wp2_with (go_at_call 46; refine (ref_wordMay_no _ hs _).mono ?_; rintro e w' ⟨rfl, rfl⟩)
    go_ret2
    exact ⟨rfl, (by repeat (first | (with_reducible exact Below.refl _ _) | (with_reducible assumption) | (with_reducible refine bset ?_ ?_ _) | (with_reducible refine balloc ?_ _) | (with_reducible refine Below.drew ?_) | (with_reducible refine bdrewN ?_ _) | (with_reducible refine bnext ?_ (by with_reducible assumption)) | exact Nat.le_refl _ | (simp; done) | omega | (simp; omega)))⟩
  · go_enter Try.func36, Try.ntmps36
    go_wp2_with fail
    refine (ref_wordMay_yes _ (by omega) (by omega) _).mono ?_
    rintro e w' ⟨rfl, rfl⟩
    go_wp2_with fail
    refine (ref_wordMay_no _ (by omega) _).mono ?_
    rintro e w' ⟨rfl, rfl⟩
    go_wp2_with fail
    go_ret2
    exact ⟨rfl, (by repeat (first | (with_reducible exact Below.refl _ _) | (with_reducible assumption) | (with_reducible refine bset ?_ ?_ _) | (with_reducible refine balloc ?_ _) | (with_reducible refine Below.drew ?_) | (with_reducible refine bdrewN ?_ _) | (with_reducible refine bnext ?_ (by with_reducible assumption)) | exact Nat.le_refl _ | (simp; done) | omega | (simp; omega)))⟩

set_option maxHeartbeats 400000 in
theorem lawInetJoins_walk (a : Int) (_ : IntOk a) (b : Int) (_ : IntOk b) (odd : Bool) (w : World) :
    Calls Try.prog 12 #[.int .i64 a, .int .i64 b, .bool odd] w fun e w' => e = .returned (.bool true) ∧ Below w.heap.size w w' := by
  by_cases h : (a < 0 ∨ 65536 ≤ a) ∨ (b < 0 ∨ 65536 ≤ b)
  · go_enter Try.func12, Try.ntmps12
    go_wp2_with (first
      | (go_at_call 35; refine (inet_Join_no a b odd h _).mono ?_; rintro e w1 ⟨rfl, hb1⟩)
      | (go_at_call 36; refine (ref_Join_no a b odd h _).mono ?_; rintro e w2 ⟨rfl, hb2⟩))
    go_ret
    exact ⟨rfl, (by repeat (first | (with_reducible exact Below.refl _ _) | (with_reducible assumption) | (with_reducible refine bset ?_ ?_ _) | (with_reducible refine balloc ?_ _) | (with_reducible refine Below.drew ?_) | (with_reducible refine bdrewN ?_ _) | (with_reducible refine bnext ?_ (by with_reducible assumption)) | exact Nat.le_refl _ | (simp; done) | omega | (simp; omega)))⟩
  · have k1 := inet_Join_ok a b odd (by omega) (by omega) (by omega) (by omega)
    have k2 := ref_Join_ok a b odd (by omega) (by omega) (by omega) (by omega)
    generalize foldOf (a + (if odd = true then b % 256 * 256 + b / 256 else b)) = x at k1 k2
    have K1 := Lib.hid k1
    have K2 := Lib.hid k2
    clear k1 k2
    go_enter Try.func12, Try.ntmps12
    go_wp2_with (first
      | (go_at_call 35; refine (K1.out _).mono ?_; rintro e w1 ⟨rfl, hb1⟩)
      | (go_at_call 36; refine (K2.out _).mono ?_; rintro e w2 ⟨rfl, hb2⟩))
    go_ret
    exact ⟨ret_bool (by simp), (by repeat (first | (with_reducible exact Below.refl _ _) | (with_reducible assumption) | (with_reducible refine bset ?_ ?_ _) | (with_reducible refine balloc ?_ _) | (with_reducible refine Below.drew ?_) | (with_reducible refine bdrewN ?_ _) | (with_reducible refine bnext ?_ (by with_reducible assumption)) | exact Nat.le_refl _ | (simp; done) | omega | (simp; omega)))⟩
end Go.Proofs.Ytkebfedgabjmjaa
