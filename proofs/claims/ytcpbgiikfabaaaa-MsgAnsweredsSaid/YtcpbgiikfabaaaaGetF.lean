/- frame.Get: the number of bytes. No condition. -/
import Derived.Test.YtcpbgiikfabaaaaFeedP
import Derived.Test.YtcpbgiikfabaaaaBytes
import Derived.LoopTactic
namespace Go.Proofs.Ytcpbgiikfabaaaa
open Go.RowKit

theorem bits_or_byte (m x : Nat) (hm : m ≤ 16777216) (hx : x ≤ 255) : bits .or .i64 ((m : Int) * 256) (x : Int) = ((m * 256 + x : Nat) : Int) := by
  have t1 : (BitVec.ofInt 64 ((m : Int) * 256)).toNat = m * 256 := by
    rw [show ((m : Int) * 256) = ((m * 256 : Nat) : Int) by omega, BitVec.ofInt_natCast, BitVec.toNat_ofNat]; exact Nat.mod_eq_of_lt (by omega)
  have t2 : (BitVec.ofInt 64 (x : Int)).toNat = x := by
    rw [BitVec.ofInt_natCast, BitVec.toNat_ofNat]; exact Nat.mod_eq_of_lt (by omega)
  have h := Nat.two_pow_add_eq_or_of_lt (i := 8) (b := x) (by omega) m
  show IntKind.i64.wrap ((BitVec.ofInt 64 ((m : Int) * 256) ||| BitVec.ofInt 64 (x : Int)).toNat : Int) = _
  rw [BitVec.toNat_or, t1, t2, show m * 256 = 2 ^ 8 * m by omega, ← h, IntKind.wrap_i64]
  omega

set_option maxHeartbeats 400000 in
theorem frame_Get (l : List UInt8) (A : Option Addr) (c : Nat) (w : World) {S : Nat → Prop} (hl : SlRep Rep.u8 w S l A c) (hn : l.length ≤ 4) :
    Calls Try.prog 47 #[.slice A l.length c] w fun e w' => e = .returned (.int .i64 (feed.be l)) ∧ w = w' := by
  have HL := Lib.hid hl
  clear hl
  go_enter Try.func47, Try.ntmps47
  go_wp2
  go_loop [3, 8] (fun n i => ∃ k : Nat, k ≤ l.length ∧ i = .int .i64 k ∧ n = .int .i64 (feed.be (l.take k))) (fun _ i => l.length - (intOf i).toNat)
  case atStart => exact ⟨0, Nat.zero_le _, rfl, rfl⟩
  case round =>
    obtain ⟨k, hk, rfl, rfl⟩ := hrel
    by_cases hlt : k < l.length
    · obtain ⟨b, o, rfl, _, hc⟩ := u8_at HL.out hlt
      have HS := Lib.hid (feed.be_take_succ l k hlt)
      have hb1 := feed.be_lt l k
      have hb2 : (256 : Nat) ^ k ≤ 256 ^ 3 := Nat.pow_le_pow_right (by omega) (by omega)
      have hb : (feed.be (l.take k) : Int) ≤ 16777216 := by omega
      have hx : ((l.getD k 0).toNat : Int) ≤ 255 := by have := (l.getD k 0).toNat_lt; omega
      clear hb1 hb2
      generalize feed.be (l.take k) = m at *
      generalize (l.getD k 0).toNat = x at *
      go_wp2
      go_round
      case rel => exact ⟨k + 1, by omega, by go_num, by rw [HS.out, bits_or_byte m x (by omega) (by omega)]⟩
      case measure => simp [intOf]; omega
    · obtain rfl : k = l.length := by omega
      go_wp2
      go_ret
      exact ⟨rfl, rfl⟩
end Go.Proofs.Ytcpbgiikfabaaaa
