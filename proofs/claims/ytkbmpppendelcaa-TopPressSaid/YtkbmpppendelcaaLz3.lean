/- Package lz: run. No condition. -/
import Derived.Test.YtkbmpppendelcaaPrA
import Derived.Test.YtkbmpppendelcaaLz
import Derived.Test.YtkbmpppendelcaaPrB
import Derived.BigQuiet
namespace Go.Proofs.Ytkbmpppendelcaa
open Go.RowKit

theorem u8_ne {x y : UInt8} (h : x ≠ y) : (((x.toNat : Nat) : Int) == ((y.toNat : Nat) : Int)) = false := by
  rw [beq_eq_false_iff_ne]
  intro e
  exact h (UInt8.toNat_inj.1 (by omega))
theorem drewN_add (w : World) (m n : Nat) : (w.drewN m).drewN n = w.drewN (m + n) := by simp [World.drewN, Nat.add_assoc]
/-- a result that is a number, said otherwise -/
theorem ret_nat {m n : Nat} (h : m = n) : Ending.returned (.int .i64 (n : Int)) = .returned (.int .i64 (m : Int)) := by rw [h]

set_option maxHeartbeats 1000000 in
theorem lz_run (l : List UInt8) (A : Option Addr) (c f a : Nat) (w : World) {S : Nat → Prop} (hl : SlRep Rep.u8 w S l A c) (hfa : f < a) (ha : a ≤ l.length) (hn : l.length ≤ 4096) :
    Calls Try.prog 29 #[.slice A l.length c, .int .i64 f, .int .i64 a] w fun e w' => e = .returned (.int .i64 (lzq.run l f a)) ∧ ∃ m, w' = w.drewN m := by
  have HL := Lib.hid hl
  clear hl
  go_enter Try.func29, Try.ntmps29
  go_wp2
  go_loopw [7] (fun i wr => ∃ n m : Nat, n ≤ 200 ∧ a + n ≤ l.length ∧ i = .int .i64 n ∧ wr = w.drewN m ∧ Hid (lzq.upto l f a n)) (fun i _ => 200 - (intOf i).toNat)
  case atStart => exact ⟨0, 0, by omega, by omega, rfl, rfl, Lib.hid (lzq.upto_zero l f a)⟩
  case round =>
    obtain ⟨n, m, hn2, hn3, rfl, rfl, HU⟩ := hrel
    by_cases h1 : n < 200
    · have h1i : (n : Int) < 200 := by omega
      by_cases h2 : a + n < l.length
      · have h2i : (a : Int) + (n : Int) < (l.length : Int) := by omega
        obtain ⟨b, o, rfl, _, hc1⟩ := u8_at HL.out (show f + n < l.length by omega)
        obtain ⟨b', o', e, _, hc2⟩ := u8_at HL.out h2
        simp only [Option.some.injEq, Addr.mk.injEq, and_true] at e
        obtain ⟨rfl, rfl⟩ := e
        have HS := Lib.hid (fun h => lzq.upto_succ HU.out h1 h2 (by omega) h)
        have HX := Lib.hid (fun h => lzq.upto_ne HU.out h1 h2 (by omega) h)
        obtain ⟨p, hp⟩ : ∃ p, p = f + n := ⟨_, rfl⟩
        obtain ⟨r, hr⟩ : ∃ r, r = a + n := ⟨_, rfl⟩
        rw [← hp, ← hr] at HS HX
        rw [← hp] at hc1
        rw [← hr] at hc2
        have e1 : (f : Int) + (n : Int) = (p : Int) := by omega
        have e2 : (a : Int) + (n : Int) = (r : Int) := by omega
        have h3i : (p : Int) < (l.length : Int) := by omega
        have h4i : (r : Int) < (l.length : Int) := by omega
        have hle : a + (n + 1) ≤ l.length := by omega
        rw [e2] at h2i
        clear hp hr HU
        by_cases h3 : l.getD p 0 = l.getD r 0
        · have HU2 := Lib.hid (HS.out h3)
          rw [h3] at hc1
          clear HS HX h3
          generalize l.getD r 0 = x at *
          go_wp2
          go_quiet (fail)
          go_wp2
          go_roundw
          case rel => exact ⟨n + 1, _, by omega, hle, by go_num, rfl, HU2⟩
          case measure => simp [intOf]; omega
        · have HR := Lib.hid (HX.out h3)
          have hq := u8_ne h3
          clear HS HX h3
          generalize l.getD r 0 = x at *
          generalize l.getD p 0 = y at *
          go_wp2
          go_quiet (fail)
          go_wp2
          go_ret
          exact ⟨ret_nat HR.out, _, drewN_add _ _ _⟩
      · have h2i : (l.length : Int) ≤ (a : Int) + (n : Int) := by omega
        have h2d : decide ((a : Int) + (n : Int) < (l.length : Int)) = false := by simp; omega
        have HR := Lib.hid (lzq.upto_end HU.out (by omega))
        clear HU
        go_wp2
        go_quiet (fail)
        go_wp2
        go_ret
        exact ⟨ret_nat HR.out, _, drewN_add _ _ _⟩
    · obtain rfl : n = 200 := by omega
      have HR := Lib.hid (lzq.upto_far HU.out (by omega))
      clear HU
      go_wp2
      go_quiet (fail)
      go_wp2
      go_ret
      exact ⟨ret_nat HR.out, _, drewN_add _ _ _⟩
end Go.Proofs.Ytkbmpppendelcaa
