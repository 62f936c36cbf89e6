/- Package glob: the reference's test of what may stand in a set. No condition. -/
import Derived.Test.YtldoihbblgnpjaaGlob7
namespace Go.Proofs.Ytldoihbblgnpjaa
open Go.RowKit

theorem gl.plain_drop {s : List UInt8} {k : Nat} (hk : k < s.length) : gl.plainB (s.drop k) = (s.getD k 0 != 93 && s.getD k 0 != 92) := by
  rw [gl.drop_byte hk]; rfl
theorem gl.plain_end {s : List UInt8} {k : Nat} (hk : s.length ≤ k) : gl.plainB (s.drop k) = false := by rw [List.drop_eq_nil_of_le hk]; rfl
set_option maxHeartbeats 400000 in
theorem ref_fits (s : List UInt8) (k : Nat) (b : Nat) (w : World) (hb : w.cell? ⟨b, 0, none⟩ = some (.string (strOf s))) (hs : s.length ≤ 1000000) (hk0 : k ≤ 1000000) :
    Calls Try.prog 26 #[.int .i64 k, .pointer (some ⟨b, 0, none⟩)] w fun e w' => e = .returned (.bool (gl.plainB (s.drop k))) ∧ w = w' := by
  by_cases hk : k < s.length
  · obtain ⟨x, hx⟩ : ∃ x, x = s.getD k 0 := ⟨_, rfl⟩
    have hxi : ∀ h, s[k]'h = x := fun h => by rw [hx, List.getD_eq_getElem?_getD, List.getElem?_eq_getElem h]; rfl
    have HX : Hid (gl.plainB (s.drop k) = (x != 93 && x != 92)) := Lib.hid (by rw [gl.plain_drop hk, ← hx])
    have hk' : (k : Int) < (s.length : Int) := by omega
    have h0 := x.toNat_lt
    clear hx
    by_cases h1 : x = 93
    · subst h1
      go_enter Try.func26, Try.ntmps26
      go_wp2
      go_ret
      exact ⟨by rw [HX.out]; rfl, rfl⟩
    · obtain ⟨k1, k1'⟩ := u8_no 93 h1 rfl
      by_cases h2 : x = 92
      · subst h2
        go_enter Try.func26, Try.ntmps26
        go_wp2
        go_ret
        exact ⟨by rw [HX.out]; rfl, rfl⟩
      · obtain ⟨k2, k2'⟩ := u8_no 92 h2 rfl
        have HY : Hid (gl.plainB (s.drop k) = true) := Lib.hid (by rw [HX.out]; simp [h1, h2])
        clear h1 h2
        go_enter Try.func26, Try.ntmps26
        go_wp2
        go_ret
        exact ⟨by rw [HY.out]; rfl, rfl⟩
  · have HX : Hid (gl.plainB (s.drop k) = false) := Lib.hid (gl.plain_end (by omega))
    have hd : decide (k < s.length) = false := decide_eq_false hk
    clear hk
    go_enter Try.func26, Try.ntmps26
    go_wp2
    go_ret
    exact ⟨by rw [HX.out]; rfl, rfl⟩
theorem ref_fits_at (s : List UInt8) (k : Nat) (m : Int) (hm : m = (k : Int)) (b : Nat) (w : World) (hb : w.cell? ⟨b, 0, none⟩ = some (.string (strOf s))) (hs : s.length ≤ 1000000) (hk0 : k ≤ 1000000) :
    Calls Try.prog 26 #[.int .i64 m, .pointer (some ⟨b, 0, none⟩)] w fun e w' => e = .returned (.bool (gl.plainB (s.drop k))) ∧ w = w' := by
  subst hm
  exact ref_fits s k b w hb hs hk0
end Go.Proofs.Ytldoihbblgnpjaa
