/- Package inet and its reference, function by function; the walks of its laws. No condition. -/
import Derived.Test.YtedbidblnjajdaaTypes
import Derived.LoopTactic
import Derived.Laws.BitsAllLaws
import Derived.Laws.BitsLemmas
namespace Go.Proofs.Ytedbidblnjajdaa
open Go.RowKit

/-! ### The plain law -/
/-- a number folded into 16 bits -/
def foldOf (n : Int) : Int := if n = 0 then 0 else (n - 1) % 65535 + 1
theorem foldOf_small (n : Int) (_h0 : 0 ≤ n) (h : n ≤ 65535) : foldOf n = n := by unfold foldOf; split <;> omega
theorem foldOf_step (n : Int) (h : 65535 < n) : foldOf (n / 65536 + n % 65536) = foldOf n := by unfold foldOf; split <;> split <;> omega
theorem foldOf_bd (n : Int) (_h : 0 ≤ n) : 0 ≤ foldOf n ∧ foldOf n ≤ 65535 := by unfold foldOf; split <;> omega
theorem foldOf_add (n x : Int) (h : 0 ≤ n) (hx : 0 ≤ x) (hx2 : x ≤ 65535) : foldOf (n + x) = if 65535 < foldOf n + x then foldOf n + x - 65535 else foldOf n + x := by
  unfold foldOf; split <;> split <;> split <;> omega
theorem foldOf_fold (n x : Int) (h : 0 ≤ n) (hx : 0 ≤ x) : foldOf (foldOf n + x) = foldOf (n + x) := by
  unfold foldOf; split <;> split <;> split <;> omega

/-- the sum of pairs, up to the k-th byte -/
def sumTo (l : List UInt8) : Nat → Int
  | 0 => 0
  | k + 1 => sumTo l k + (if k % 2 = 0 then 256 * ((l.getD k 0).toNat : Int) else ((l.getD k 0).toNat : Int))
theorem sumTo_bd (l : List UInt8) (k : Nat) : 0 ≤ sumTo l k ∧ sumTo l k ≤ 65280 * k := by
  induction k with
  | zero => simp [sumTo]
  | succ k ih =>
    have := (l.getD k 0).toNat_lt
    simp only [sumTo]
    split <;> omega

theorem i64_and_16 (n : Int) (h : 0 ≤ n) (h' : n < 9223372036854775808) : bits .and .i64 n 65535 = n % 65536 := by
  obtain ⟨m, rfl⟩ := Int.eq_ofNat_of_zero_le h
  have hx : m &&& 65535 < 2 ^ 63 := Nat.and_lt_two_pow _ (by omega)
  have hm : (BitVec.ofInt 64 (m : Int)).toNat = m := by
    rw [BitVec.ofInt_natCast, BitVec.toNat_ofNat]; exact Nat.mod_eq_of_lt (by omega)
  show IntKind.i64.wrap ((BitVec.ofInt 64 (m : Int) &&& BitVec.ofInt 64 (65535 : Int)).toNat : Int) = _
  rw [BitVec.toNat_and, hm, show (BitVec.ofInt 64 (65535 : Int)).toNat = 65535 by decide, IntKind.wrap_i64]
  rw [show (65535 : Nat) = 2 ^ 16 - 1 by decide, Nat.and_two_pow_sub_one_eq_mod] at hx ⊢
  omega

/-! ### The walks -/
set_option maxHeartbeats 400000 in
theorem inet_fold (n : Int) (h : 0 ≤ n) (h' : n ≤ 9223372036854775807) (w : World) :
    Calls Try.prog 67 #[.int .i64 n] w fun e w' => e = .returned (.int .i64 (foldOf n)) ∧ w = w' := by
  go_enter Try.func67, Try.ntmps67
  go_wp2
  go_loop [0] (fun i => ∃ m : Int, 0 ≤ m ∧ m ≤ 9223372036854775807 ∧ Hid (foldOf m = foldOf n) ∧ i = .int .i64 m) (fun i => (intOf i).toNat)
  case atStart => exact ⟨n, h, h', Lib.hid rfl, rfl⟩
  case round =>
    obtain ⟨m, m1, m2, HM, rfl⟩ := hrel
    by_cases hlt : 65535 < m
    · have hand := i64_and_16 m m1 (by omega)
      have hs := Lib.hid (foldOf_step m hlt)
      go_wp2
      go_round
      case rel => exact ⟨m / 65536 + m % 65536, by omega, by omega, Lib.hid (hs.out.trans HM.out), rfl⟩
      case measure => simp [intOf]; omega
    · go_wp2
      go_ret
      exact ⟨ret_int (by rw [← HM.out, foldOf_small m m1 (by omega)]), rfl⟩

set_option maxHeartbeats 400000 in
theorem inet_Fold (l : List UInt8) (A : Option Addr) (c : Nat) (S : Nat → Prop) (w : World) (hl : SlRep Rep.u8 w S l A c) (hn : l.length ≤ 140737488351232) :
    Calls Try.prog 37 #[.slice A l.length c] w fun e w' => e = .returned (.int .i64 (foldOf (sumTo l l.length))) ∧ w = w' := by
  have HL := Lib.hid hl
  clear hl
  go_enter Try.func37, Try.ntmps37
  go_wp2
  go_loop [3, 4, 5, 8] (fun m _ _ i => ∃ k : Nat, k ≤ l.length ∧ i = .int .i64 k ∧ m = .int .i64 (sumTo l k)) (fun _ _ _ i => l.length - (intOf i).toNat)
  case atStart => exact ⟨0, Nat.zero_le _, rfl, rfl⟩
  case round =>
    obtain ⟨k, hk, rfl, rfl⟩ := hrel
    have hb := sumTo_bd l k
    by_cases hlt : k < l.length
    · obtain ⟨b, o, rfl, _, hc⟩ := u8_at HL.out hlt
      have hx := (l.getD k 0).toNat_lt
      have hsn : Hid (sumTo l (k + 1) = sumTo l k + (if k % 2 = 0 then 256 * ((l.getD k 0).toNat : Int) else ((l.getD k 0).toNat : Int))) := Lib.hid rfl
      generalize (l.getD k 0).toNat = x at hc hx hsn
      generalize sumTo l k = s at *
      by_cases hev : k % 2 = 0
      · go_wp2
        go_round
        case rel => exact ⟨k + 1, by omega, by go_num, by rw [hsn.out, if_pos hev]; congr 1; omega⟩
        case measure => simp [intOf]; omega
      · go_wp2
        go_round
        case rel => exact ⟨k + 1, by omega, by go_num, by rw [hsn.out, if_neg hev]⟩
        case measure => simp [intOf]; omega
    · obtain rfl : k = l.length := by omega
      go_wp2_with (go_at_call 67; refine (inet_fold _ hb.1 (by omega) _).mono ?_; rintro e w' ⟨rfl, rfl⟩)
      go_ret
      exact ⟨rfl, rfl⟩

set_option maxHeartbeats 400000 in
theorem inet_Sum (l : List UInt8) (A : Option Addr) (c : Nat) (S : Nat → Prop) (w : World) (hl : SlRep Rep.u8 w S l A c) (hn : l.length ≤ 140737488351232) :
    Calls Try.prog 60 #[.slice A l.length c] w fun e w' => e = .returned (.int .i64 (65535 - foldOf (sumTo l l.length))) ∧ w = w' := by
  have hb := foldOf_bd _ (sumTo_bd l l.length).1
  have H := Lib.hid (inet_Fold l A c S w hl hn)
  clear hl
  generalize foldOf (sumTo l l.length) = x at *
  go_enter Try.func60, Try.ntmps60
  go_wp2_with (go_at_call 37; refine H.out.mono ?_; rintro e w' ⟨rfl, rfl⟩)
  go_ret
  exact ⟨rfl, rfl⟩

set_option maxHeartbeats 1000000 in
theorem ref_InetFold (l : List UInt8) (A : Option Addr) (c : Nat) (S : Nat → Prop) (w : World) (hl : SlRep Rep.u8 w S l A c) (hn : l.length ≤ 140737488351232) :
    Calls Try.prog 63 #[.slice A l.length c] w fun e w' => e = .returned (.int .i64 (foldOf (sumTo l l.length))) ∧ w = w' := by
  have HL := Lib.hid hl
  clear hl
  go_enter Try.func63, Try.ntmps63
  go_wp2
  go_loop [3, 4, 5] (fun m i _ => ∃ k : Nat, k ≤ l.length + 1 ∧ k % 2 = 0 ∧ i = .int .i64 k ∧ m = .int .i64 (foldOf (sumTo l (min k l.length)))) (fun _ i _ => l.length + 1 - (intOf i).toNat)
  case atStart => exact ⟨0, Nat.zero_le _, rfl, rfl, by simp [sumTo, foldOf]⟩
  case round =>
    obtain ⟨k, hk, hev, rfl, rfl⟩ := hrel
    by_cases hlt : k < l.length
    · have hmin : min k l.length = k := by omega
      rw [hmin]
      have hb := sumTo_bd l k
      have hfb := foldOf_bd _ hb.1
      obtain ⟨b, o, rfl, _, hc⟩ := u8_at HL.out hlt
      have hx := (l.getD k 0).toNat_lt
      by_cases h1 : k + 1 < l.length
      · obtain ⟨b', o', hbo, _, hd⟩ := u8_at HL.out h1
        simp only [Option.some.injEq, Addr.mk.injEq, and_true] at hbo
        obtain ⟨rfl, rfl⟩ := hbo
        have hy := (l.getD (k + 1) 0).toNat_lt
        have hfin : Hid (foldOf (sumTo l (min (k + 2) l.length)) = if 65535 < foldOf (sumTo l k) + (256 * ((l.getD k 0).toNat : Int) + ((l.getD (k + 1) 0).toNat : Int)) then foldOf (sumTo l k) + (256 * ((l.getD k 0).toNat : Int) + ((l.getD (k + 1) 0).toNat : Int)) - 65535 else foldOf (sumTo l k) + (256 * ((l.getD k 0).toNat : Int) + ((l.getD (k + 1) 0).toNat : Int))) := Lib.hid (by
          rw [show min (k + 2) l.length = k + 2 by omega, ← foldOf_add _ _ hb.1 (by omega) (by omega)]
          simp only [sumTo]
          rw [if_pos hev, if_neg (by omega)]
          congr 1
          omega)
        rw [← Nat.add_assoc] at hd
        generalize (l.getD k 0).toNat = x at *
        generalize (l.getD (k + 1) 0).toNat = y at *
        generalize foldOf (sumTo l k) = s at *
        have hd' : w.cell? ⟨b, o + (k + 1), none⟩ = some (.int .u8 (y : Int)) := hd
        by_cases hov : 65535 < s + (256 * (x : Int) + (y : Int))
        · go_wp2
          go_round
          case rel => exact ⟨k + 2, by omega, by omega, by go_num, by rw [hfin.out, if_pos hov]⟩
          case measure => simp [intOf]; omega
        · go_wp2
          go_round
          case rel => exact ⟨k + 2, by omega, by omega, by go_num, by rw [hfin.out, if_neg hov]⟩
          case measure => simp [intOf]; omega
      · have hfin : Hid (foldOf (sumTo l (min (k + 2) l.length)) = if 65535 < foldOf (sumTo l k) + 256 * ((l.getD k 0).toNat : Int) then foldOf (sumTo l k) + 256 * ((l.getD k 0).toNat : Int) - 65535 else foldOf (sumTo l k) + 256 * ((l.getD k 0).toNat : Int)) := Lib.hid (by
          rw [show min (k + 2) l.length = k + 1 by omega, ← foldOf_add _ _ hb.1 (by omega) (by omega)]
          simp only [sumTo]
          rw [if_pos hev])
        generalize (l.getD k 0).toNat = x at *
        generalize foldOf (sumTo l k) = s at *
        by_cases hov : 65535 < s + 256 * (x : Int)
        · go_wp2
          go_round
          case rel => exact ⟨k + 2, by omega, by omega, by go_num, by rw [hfin.out, if_pos hov]⟩
          case measure => simp [intOf]; omega
        · go_wp2
          go_round
          case rel => exact ⟨k + 2, by omega, by omega, by go_num, by rw [hfin.out, if_neg hov]⟩
          case measure => simp [intOf]; omega
    · rw [show min k l.length = l.length by omega]
      go_wp2
      go_ret
      exact ⟨rfl, rfl⟩

end Go.Proofs.Ytedbidblnjajdaa
