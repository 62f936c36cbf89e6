/- Bytes: slices of bytes, numbers in bytes, equal lists of bytes. No condition. -/
import Derived.Test.YtdldfllllgogoaaOwn
import Derived.LoopTactic
import Derived.Deep.QuietTactic
import Derived.BigQuiet
namespace Go.Proofs.Ytdldfllllgogoaa
open Go.RowKit

theorem elemU8 : ElemT Try.prog 28 5 1 1 := ElemT.of Try.underlying28 (z := .int .u8 0) (by kernel_rfl) rfl (by decide)

def u8v (b : UInt8) : Value := .int .u8 (b.toNat : Int)
/-- a number's lowest byte -/
def byteOf (x : Int) : UInt8 := UInt8.ofNat (x % 256).toNat
theorem byteOf_toNat (x : Int) : ((byteOf x).toNat : Int) = x % 256 := by
  unfold byteOf
  rw [UInt8.toNat_ofNat']
  omega
/-- a number in so many bytes, the highest one first -/
def beBytes (n : Int) : Nat → List UInt8
  | 0 => []
  | k + 1 => byteOf (n / 2 ^ (8 * k)) :: beBytes n k

set_option maxHeartbeats 400000 in
theorem law_sameBytes_q (l : List UInt8) (A A' : Option Addr) (c c' : Nat) (S S' : Nat → Prop) (w : World) (hl : SlRep Rep.u8 w S l A c) (hl' : SlRep Rep.u8 w S' l A' c') (hn : l.length ≤ 9223372036854775807) :
    Calls Try.prog 9 #[.slice A l.length c, .slice A' l.length c'] w fun e w' => e = .returned (.bool true) ∧ ∃ m, w' = w.drewN m := by
  have HL := Lib.hid hl
  have HL' := Lib.hid hl'
  clear hl hl'
  go_enter Try.func9, Try.ntmps9
  go_wp2
  go_loopw [5] (fun i wr => ∃ k m : Nat, k ≤ l.length ∧ i = .int .i64 k ∧ wr = w.drewN m) (fun i _ => l.length - (intOf i).toNat)
  case atStart => exact ⟨0, 0, by omega, rfl, rfl⟩
  case round =>
    obtain ⟨k, m, hk, rfl, rfl⟩ := hrel
    by_cases hlt : k < l.length
    · obtain ⟨b, o, rfl, _, hc1⟩ := u8_at HL.out hlt
      obtain ⟨b', o', rfl, _, hc2⟩ := u8_at HL'.out hlt
      have hlt' : (k : Int) < (l.length : Int) := by omega
      generalize (l.getD k 0).toNat = x at *
      go_wp2
      go_quiet (fail)
      go_wp2
      go_roundw
      case rel => exact ⟨k + 1, _, by omega, by go_num, rfl⟩
      case measure => simp [intOf]; omega
    · go_wp2
      go_ret
      exact ⟨rfl, m, rfl⟩

theorem law_sameBytes (l : List UInt8) (A A' : Option Addr) (c c' : Nat) (S S' : Nat → Prop) (w : World) (hl : SlRep Rep.u8 w S l A c) (hl' : SlRep Rep.u8 w S' l A' c') (hn : l.length ≤ 9223372036854775807) :
    Calls Try.prog 9 #[.slice A l.length c, .slice A' l.length c'] w fun e w' => e = .returned (.bool true) ∧ Below w.heap.size w w' :=
  (law_sameBytes_q l A A' c c' S S' w hl hl' hn).mono fun e w' ⟨he, m, hw⟩ => ⟨he, by rw [hw]; exact bdrewN (bself w) m⟩

/-! ### What a call answers: a list, or a fault -/
def exL {α : Type} : Except Int (List α) → List α
  | .ok l => l
  | .error _ => []
def exC {β : Type} : Except Int β → Int
  | .ok _ => 0
  | .error c => c
def BytesRes (r : Except Int (List UInt8)) (w : World) (e : Ending) (w' : World) : Prop :=
  ∃ A c, e = .returned (.tuple #[.slice A (exL r).length c, .int .i64 (exC r)]) ∧ Own w' w.heap.size 5 1 A (exL r).length c ((exL r).map u8v) ∧ Below w.heap.size w w'
theorem BytesRes.no {r : Except Int (List UInt8)} {c : Int} (h : r = .error c) {w w' : World} (hb : Below w.heap.size w w') : BytesRes r w (.returned (.tuple #[.slice none 0 0, .int .i64 c])) w' := by
  subst h
  exact ⟨none, 0, rfl, Own.nil _ _ _ _, hb⟩
theorem BytesRes.yes {r : Except Int (List UInt8)} {l : List UInt8} (h : r = .ok l) {w w' : World} {A : Option Addr} {n c : Nat} (ho : Own w' w.heap.size 5 1 A n c (l.map u8v)) (hb : Below w.heap.size w w') : BytesRes r w (.returned (.tuple #[.slice A n c, .int .i64 0])) w' := by
  subst h
  have hn := ho.u8.1
  subst hn
  exact ⟨A, c, rfl, ho, hb⟩
end Go.Proofs.Ytdldfllllgogoaa
