/- Package serial: Near and its reference; the walk of its law. No condition. -/
import Derived.Test.YtkebfedgabjmjaaSerial
namespace Go.Proofs.Ytkebfedgabjmjaa
open Go.RowKit

/-- the place nearest to p that bears the number s -/
def nearOf (s p : Int) : Int := if 32768 ≤ (s - p) % 65536 then p + ((s - p) % 65536 - 65536) else p + (s - p) % 65536

set_option maxHeartbeats 400000 in
theorem serial_Near_ok (s p : Int) (h1 : 0 ≤ s) (h2 : s < 65536) (h3 : 0 ≤ p) (h4 : p ≤ 1048576) (w : World) :
    Calls Try.prog 24 #[.int .i64 s, .int .i64 p] w fun e w' => e = .returned (.tuple #[.int .i64 (nearOf s p), .int .i64 0]) ∧ Below w.heap.size w w' := by
  have hf := serial_far (p % 65536) s (by omega) (by omega) h1 h2
  rw [show (s - p % 65536) % 65536 = (s - p) % 65536 by omega] at hf
  have hd1 : 0 ≤ (s - p) % 65536 := by omega
  have hd2 : (s - p) % 65536 < 65536 := by omega
  unfold nearOf
  generalize (s - p) % 65536 = d at hf hd1 hd2 ⊢
  have HF := Lib.hid hf
  clear hf
  by_cases c : 32768 ≤ d
  · rw [if_pos c]
    go_enter Try.func24, Try.ntmps24
    go_wp2_with (first
      | (go_at_call 41; refine (serial_bad1_ok _ s _ (by simp [go_sem]) h1 h2).mono ?_; rintro e w' ⟨rfl, rfl⟩)
      | (go_at_call 43; refine (HF.out _).mono ?_; rintro e w' ⟨rfl, rfl⟩))
    go_ret2
    exact ⟨rfl, (by repeat (first | (with_reducible exact Below.refl _ _) | (with_reducible assumption) | (with_reducible refine bset ?_ ?_ _) | (with_reducible refine balloc ?_ _) | (with_reducible refine Below.drew ?_) | (with_reducible refine bdrewN ?_ _) | (with_reducible refine bnext ?_ (by with_reducible assumption)) | exact Nat.le_refl _ | (simp; done) | omega | (simp; omega)))⟩
  · rw [if_neg c]
    have c' : d < 32768 := by omega
    go_enter Try.func24, Try.ntmps24
    go_wp2_with (first
      | (go_at_call 41; refine (serial_bad1_ok _ s _ (by simp [go_sem]) h1 h2).mono ?_; rintro e w' ⟨rfl, rfl⟩)
      | (go_at_call 43; refine (HF.out _).mono ?_; rintro e w' ⟨rfl, rfl⟩))
    go_ret2
    exact ⟨rfl, (by repeat (first | (with_reducible exact Below.refl _ _) | (with_reducible assumption) | (with_reducible refine bset ?_ ?_ _) | (with_reducible refine balloc ?_ _) | (with_reducible refine Below.drew ?_) | (with_reducible refine bdrewN ?_ _) | (with_reducible refine bnext ?_ (by with_reducible assumption)) | exact Nat.le_refl _ | (simp; done) | omega | (simp; omega)))⟩

set_option maxHeartbeats 400000 in
theorem serial_Near_no (s p : Int) (h : (s < 0 ∨ 65536 ≤ s) ∨ (p < 0 ∨ 1048576 < p)) (w : World) :
    Calls Try.prog 24 #[.int .i64 s, .int .i64 p] w fun e w' => e = .returned (.tuple #[.int .i64 0, .int .i64 2]) ∧ Below w.heap.size w w' := by
  by_cases hs : s < 0 ∨ 65536 ≤ s
  · go_enter Try.func24, Try.ntmps24
    go_wp2_with (go_at_call 41; refine (serial_bad1_no _ s _ (by simp [go_sem]) hs).mono ?_; rintro e w' ⟨rfl, rfl⟩)
    go_ret2
    exact ⟨rfl, (by repeat (first | (with_reducible exact Below.refl _ _) | (with_reducible assumption) | (with_reducible refine bset ?_ ?_ _) | (with_reducible refine balloc ?_ _) | (with_reducible refine Below.drew ?_) | (with_reducible refine bdrewN ?_ _) | (with_reducible refine bnext ?_ (by with_reducible assumption)) | exact Nat.le_refl _ | (simp; done) | omega | (simp; omega)))⟩
  · have h1 : 0 ≤ s := by omega
    have h2 : s < 65536 := by omega
    by_cases hn : p < 0
    · clear h hs
      go_enter Try.func24, Try.ntmps24
      go_wp2_with (go_at_call 41; refine (serial_bad1_ok _ s _ (by simp [go_sem]) h1 h2).mono ?_; rintro e w' ⟨rfl, rfl⟩)
      go_ret2
      exact ⟨rfl, (by repeat (first | (with_reducible exact Below.refl _ _) | (with_reducible assumption) | (with_reducible refine bset ?_ ?_ _) | (with_reducible refine balloc ?_ _) | (with_reducible refine Below.drew ?_) | (with_reducible refine bdrewN ?_ _) | (with_reducible refine bnext ?_ (by with_reducible assumption)) | exact Nat.le_refl _ | (simp; done) | omega | (simp; omega)))⟩
    · have hn1 : 0 ≤ p := by omega
      have hn2 : 1048576 < p := by omega
      clear h hs hn
      go_enter Try.func24, Try.ntmps24
      go_wp2_with (go_at_call 41; refine (serial_bad1_ok _ s _ (by simp [go_sem]) h1 h2).mono ?_; rintro e w' ⟨rfl, rfl⟩)
      go_ret2
      exact ⟨rfl, (by repeat (first | (with_reducible exact Below.refl _ _) | (with_reducible assumption) | (with_reducible refine bset ?_ ?_ _) | (with_reducible refine balloc ?_ _) | (with_reducible refine Below.drew ?_) | (with_reducible refine bdrewN ?_ _) | (with_reducible refine bnext ?_ (by with_reducible assumption)) | exact Nat.le_refl _ | (simp; done) | omega | (simp; omega)))⟩

set_option maxHeartbeats 400000 in
theorem ref_Near_no (s p : Int) (h : (s < 0 ∨ 65536 ≤ s) ∨ (p < 0 ∨ 1048576 < p)) (w : World) :
    Calls Try.prog 25 #[.int .i64 s, .int .i64 p] w fun e w' => e = .returned (.tuple #[.int .i64 0, .int .i64 2]) ∧ w = w' := by
  by_cases hs : s < 0 ∨ 65536 ≤ s
  · go_enter Try.func25, Try.ntmps25
    go_wp2_with (go_at_call 42; refine (ref_serialMay_no _ hs _).mono ?_; rintro e w' ⟨rfl, rfl⟩)
    go_ret2
    exact ⟨rfl, rfl⟩
  · by_cases hn : p < 0
    · go_enter Try.func25, Try.ntmps25
      go_wp2_with (go_at_call 42; refine (ref_serialMay_yes _ (by omega) (by omega) _).mono ?_; rintro e w' ⟨rfl, rfl⟩)
      go_ret2
      exact ⟨rfl, rfl⟩
    · have hn1 : 0 ≤ p := by omega
      have hn2 : 1048576 < p := by omega
      go_enter Try.func25, Try.ntmps25
      go_wp2_with (go_at_call 42; refine (ref_serialMay_yes _ (by omega) (by omega) _).mono ?_; rintro e w' ⟨rfl, rfl⟩)
      go_ret2
      exact ⟨rfl, rfl⟩

/-- what the search has found ahead of k: q is the number of rounds of the nearest place -/
def NearAt (s p k best least : Int) : Prop :=
  (k = -2 ∧ best = 0 ∧ least = 1099511627776) ∨ (-2 < k ∧ 65536 * (k - 1) + s ≤ nearOf s p - 65536 ∧ best = 65536 * (k - 1) + s ∧ least = p - best) ∨
  (nearOf s p ≤ 65536 * (k - 1) + s ∧ best = nearOf s p ∧ (least = p - best ∧ best ≤ p ∨ least = best - p ∧ p ≤ best))

theorem near_q (s p : Int) (h1 : 0 ≤ s) (h2 : s < 65536) (h3 : 0 ≤ p) (h4 : p ≤ 1048576) : ∃ q : Int, nearOf s p = 65536 * q + s ∧ -1 ≤ q ∧ q ≤ 16 ∧ p - 32768 ≤ nearOf s p ∧ nearOf s p < p + 32768 := by
  unfold nearOf
  split
  · exact ⟨(p + ((s - p) % 65536 - 65536) - s) / 65536, by omega, by omega, by omega, by omega, by omega⟩
  · exact ⟨(p + (s - p) % 65536 - s) / 65536, by omega, by omega, by omega, by omega, by omega⟩

theorem near_bounds {s p k best least : Int} (h : NearAt s p k best least) (h1 : 0 ≤ s) (h2 : s < 65536) (h3 : 0 ≤ p) (h4 : p ≤ 1048576) (k1 : -2 ≤ k) (k2 : k ≤ 20) : 0 ≤ least ∧ least ≤ 1099511627776 := by
  obtain ⟨q, e, q1, q2, n1, n2⟩ := near_q s p h1 h2 h3 h4
  unfold NearAt at h
  generalize nearOf s p = X at *
  omega

theorem near_step (s p k best least : Int) (h1 : 0 ≤ s) (h2 : s < 65536) (h3 : 0 ≤ p) (h4 : p ≤ 1048576) (k1 : -2 ≤ k) (k2 : k < 20) (h : NearAt s p k best least) :
    (65536 * k + s - p < 0 → -(65536 * k + s - p) < least → NearAt s p (k + 1) (65536 * k + s) (-(65536 * k + s - p))) ∧
    (65536 * k + s - p < 0 → ¬ -(65536 * k + s - p) < least → NearAt s p (k + 1) best least) ∧
    (¬ 65536 * k + s - p < 0 → 65536 * k + s - p < least → NearAt s p (k + 1) (65536 * k + s) (65536 * k + s - p)) ∧
    (¬ 65536 * k + s - p < 0 → ¬ 65536 * k + s - p < least → NearAt s p (k + 1) best least) := by
  obtain ⟨q, e, q1, q2, n1, n2⟩ := near_q s p h1 h2 h3 h4
  unfold NearAt at *
  generalize nearOf s p = X at *
  rw [show k + 1 - 1 = k by omega]
  refine ⟨fun a b => ?_, fun a b => ?_, fun a b => ?_, fun a b => ?_⟩ <;> omega

theorem near_end (s p best least : Int) (h1 : 0 ≤ s) (h2 : s < 65536) (h3 : 0 ≤ p) (h4 : p ≤ 1048576) (h : NearAt s p 20 best least) : best = nearOf s p := by
  obtain ⟨q, e, q1, q2, n1, n2⟩ := near_q s p h1 h2 h3 h4
  unfold NearAt at h
  generalize nearOf s p = X at *
  omega

set_option maxHeartbeats 1000000 in
theorem ref_Near_ok (s p : Int) (h1 : 0 ≤ s) (h2 : s < 65536) (h3 : 0 ≤ p) (h4 : p ≤ 1048576) (w : World) :
    Calls Try.prog 25 #[.int .i64 s, .int .i64 p] w fun e w' => e = .returned (.tuple #[.int .i64 (nearOf s p), .int .i64 0]) ∧ w = w' := by
  go_enter Try.func25, Try.ntmps25
  go_wp2_with (go_at_call 42; refine (ref_serialMay_yes _ (by omega) (by omega) _).mono ?_; rintro e w' ⟨rfl, rfl⟩)
  go_loop [6, 7, 8, 9, 10] (fun b l k _ _ => ∃ best least i : Int, -2 ≤ i ∧ i ≤ 20 ∧ Hid (NearAt s p i best least) ∧ b = .int .i64 best ∧ l = .int .i64 least ∧ k = .int .i64 i) (fun _ _ k _ _ => (20 - intOf k).toNat)
  case atStart => exact ⟨0, 1099511627776, -2, by omega, by omega, Lib.hid (.inl ⟨rfl, rfl, rfl⟩), rfl, rfl, rfl⟩
  case round =>
    obtain ⟨best, least, i, i1, i2, HN, rfl, rfl, rfl⟩ := hrel
    have hb := near_bounds HN.out h1 h2 h3 h4 i1 i2
    by_cases hlt : i < 20
    · have ST := Lib.hid (near_step s p i best least h1 h2 h3 h4 i1 hlt HN.out)
      by_cases c1 : 65536 * i + s - p < 0
      · by_cases c2 : -(65536 * i + s - p) < least
        · go_wp2
          go_round
          case rel => exact ⟨_, _, i + 1, by omega, by omega, Lib.hid (ST.out.1 c1 c2), rfl, rfl, rfl⟩
          case measure => simp [intOf]; omega
        · go_wp2
          go_round
          case rel => exact ⟨_, _, i + 1, by omega, by omega, Lib.hid (ST.out.2.1 c1 (by omega)), rfl, rfl, rfl⟩
          case measure => simp [intOf]; omega
      · have c1' : 0 ≤ 65536 * i + s - p := by omega
        by_cases c2 : 65536 * i + s - p < least
        · go_wp2
          go_round
          case rel => exact ⟨_, _, i + 1, by omega, by omega, Lib.hid (ST.out.2.2.1 (by omega) c2), rfl, rfl, rfl⟩
          case measure => simp [intOf]; omega
        · go_wp2
          go_round
          case rel => exact ⟨_, _, i + 1, by omega, by omega, Lib.hid (ST.out.2.2.2 (by omega) (by omega)), rfl, rfl, rfl⟩
          case measure => simp [intOf]; omega
    · obtain rfl : i = 20 := by omega
      go_wp2
      go_ret2
      exact ⟨ret2_int (near_end s p best least h1 h2 h3 h4 HN.out) rfl, rfl⟩

set_option maxHeartbeats 400000 in
theorem lawSerialNears_walk (s : Int) (_ : IntOk s) (p : Int) (_ : IntOk p) (w : World) :
    Calls Try.prog 8 #[.int .i64 s, .int .i64 p] w fun e w' => e = .returned (.bool true) ∧ Below w.heap.size w w' := by
  by_cases h : (s < 0 ∨ 65536 ≤ s) ∨ (p < 0 ∨ 1048576 < p)
  · go_enter Try.func8, Try.ntmps8
    go_wp2_with (first
      | (go_at_call 24; refine (serial_Near_no s p h _).mono ?_; rintro e w1 ⟨rfl, hb1⟩)
      | (go_at_call 25; refine (ref_Near_no s p h _).mono ?_; rintro e w' ⟨rfl, rfl⟩))
    go_ret
    exact ⟨rfl, (by repeat (first | (with_reducible exact Below.refl _ _) | (with_reducible assumption) | (with_reducible refine bset ?_ ?_ _) | (with_reducible refine balloc ?_ _) | (with_reducible refine Below.drew ?_) | (with_reducible refine bdrewN ?_ _) | (with_reducible refine bnext ?_ (by with_reducible assumption)) | exact Nat.le_refl _ | (simp; done) | omega | (simp; omega)))⟩
  · go_enter Try.func8, Try.ntmps8
    go_wp2_with (first
      | (go_at_call 24; refine (serial_Near_ok s p (by omega) (by omega) (by omega) (by omega) _).mono ?_; rintro e w1 ⟨rfl, hb1⟩)
      | (go_at_call 25; refine (ref_Near_ok s p (by omega) (by omega) (by omega) (by omega) _).mono ?_; rintro e w' ⟨rfl, rfl⟩))
    go_ret
    exact ⟨rfl, (by repeat (first | (with_reducible exact Below.refl _ _) | (with_reducible assumption) | (with_reducible refine bset ?_ ?_ _) | (with_reducible refine balloc ?_ _) | (with_reducible refine Below.drew ?_) | (with_reducible refine bdrewN ?_ _) | (with_reducible refine bnext ?_ (by with_reducible assumption)) | exact Nat.le_refl _ | (simp; done) | omega | (simp; omega)))⟩
end Go.Proofs.Ytkebfedgabjmjaa
