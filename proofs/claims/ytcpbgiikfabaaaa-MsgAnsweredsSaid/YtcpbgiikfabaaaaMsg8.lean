/- Package ref: what a request is refused for. No condition. -/
import Derived.Test.YtcpbgiikfabaaaaMsg7
namespace Go.Proofs.Ytcpbgiikfabaaaa
open Go.RowKit

def mg.letter : mg.Sel → UInt8
  | .path => 112 | .to => 116 | .how => 104 | .handle => 110 | .at_ => 97 | .count => 99 | .data => 100 | .kind => 0 | .mark => 0
set_option maxHeartbeats 1000000 in
theorem ref_has (l : List UInt8) (c : UInt8) (w : World) (hl : l.length ≤ 100) : Calls Try.prog 40 #[.string (strOf l), .int .u8 c.toNat] w fun e w' => e = .returned (.bool (l.contains c)) ∧ w' = w := by
  go_enter Try.func40, Try.ntmps40
  go_wp2
  go_loopw [5] (fun s5 wr => ∃ (k : Nat), s5 = .int .i64 k ∧ k ≤ l.length ∧ Hid ((l.drop k).contains c = l.contains c) ∧ wr = w) (fun s5 _ => l.length - (intOf s5).toNat)
  case atStart => exact ⟨0, rfl, by omega, Lib.hid rfl, by first | trivial | rfl⟩
  case round =>
    obtain ⟨k, rfl, hk, HT, hw⟩ := hrel
    by_cases hlt : k < l.length
    · have hs := run_str_at (P := Try.prog) 9 Try.underlying9 l k (k : Int) rfl hlt
      have HD := Lib.hid (drop_getD l 0 hlt)
      generalize hx : l.getD k 0 = x at *
      clear hx
      by_cases hc : x = c
      · have HE : Hid (l.contains c = true) := Lib.hid (by rw [← HT.out, HD.out, hc]; simp)
        have q : ((x.toNat : Int) == (c.toNat : Int)) = true := by rw [hc]; simp
        clear hc HD
        go_wp2
        go_ret
        exact ⟨by rw [HE.out]; rfl, by first | exact hw | trivial⟩
      · have HE : Hid ((l.drop (k + 1)).contains c = l.contains c) := Lib.hid (by rw [← HT.out, HD.out, List.contains_cons, beq_eq_false_iff_ne.2 (fun e => hc e.symm), Bool.false_or])
        have q : ((x.toNat : Int) == (c.toNat : Int)) = false := by rw [beq_eq_false_iff_ne]; intro e; exact hc (UInt8.toNat_inj.1 (by omega))
        clear hc HD
        have hw1 : wrap64 ((k : Int) + 1) = (k : Int) + 1 := IntWalk.wrap64_in _ (by omega)
        go_wp2
        go_roundw
        case rel => exact ⟨k + 1, by simp [hw1], by omega, HE, by first | trivial | exact hw⟩
        case measure => simp [intOf, hw1]; omega
    · obtain rfl : k = l.length := by omega
      have HE : Hid (l.contains c = false) := Lib.hid (by rw [← HT.out, List.drop_length]; rfl)
      go_wp2
      go_ret
      exact ⟨by rw [HE.out]; rfl, by first | exact hw | trivial⟩
set_option maxHeartbeats 1000000 in
theorem ref_msgNames (k : Int) (hk : ¬ (k < 1 ∨ 10 < k)) (w : World) : Calls Try.prog 25 #[.int .i64 k] w fun e w' => e = .returned (.string (strOf ((mg.parts k).map mg.letter))) ∧ Below w.heap.size w w' := by
  rcases mg.kinds hk with rfl | rfl | rfl | rfl | rfl | rfl | rfl | rfl | rfl | rfl
  all_goals
    clear hk
    go_enter Try.func25, Try.ntmps25
    go_wp2
    go_ret
    exact ⟨rfl, (by repeat (first | (with_reducible exact Below.refl _ _) | (with_reducible assumption) | (with_reducible refine bset ?_ ?_ _) | (with_reducible refine balloc ?_ _) | (with_reducible refine Below.drew ?_) | (with_reducible refine bdrewN ?_ _) | (with_reducible refine bnext ?_ (by with_reducible assumption)) | exact Nat.le_refl _ | (simp; done) | omega | (simp; omega)))⟩
theorem ref_four (n : Int) (w : World) : Calls Try.prog 41 #[.int .i64 n] w fun e w' => e = .returned (.bool (decide (0 ≤ n ∧ n ≤ 4294967295))) ∧ w' = w := by
  by_cases h0 : 0 ≤ n
  · have q0 : decide (n ≥ 0) = true := decide_eq_true h0
    have HE : Hid (decide (0 ≤ n ∧ n ≤ 4294967295) = decide (n ≤ 4294967295)) := Lib.hid (by simp [h0])
    rw [HE.out]
    clear h0
    go_enter Try.func41, Try.ntmps41
    go_wp2
    go_ret
    exact ⟨rfl, rfl⟩
  · have q0 : decide (n ≥ 0) = false := decide_eq_false h0
    have HE : Hid (decide (0 ≤ n ∧ n ≤ 4294967295) = false) := Lib.hid (by simp [h0])
    rw [HE.out]
    clear h0
    go_enter Try.func41, Try.ntmps41
    go_wp2
    go_ret
    exact ⟨rfl, rfl⟩
end Go.Proofs.Ytcpbgiikfabaaaa
