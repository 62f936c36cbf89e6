/- Bytes: slices of bytes, numbers in bytes, equal lists of bytes. No condition. -/
import Derived.Test.YtldoihbblgnpjaaDoorOwn
import Derived.LoopTactic
import Derived.Deep.QuietTactic
import Derived.BigQuiet
namespace Go.Proofs.YtldoihbblgnpjaaDoor
open Go.RowKit


def u8v (b : UInt8) : Value := .int .u8 (b.toNat : Int)
/-- a number's lowest byte -/
def byteOf (x : Int) : UInt8 := UInt8.ofNat (x % 256).toNat
theorem byteOf_toNat (x : Int) : ((byteOf x).toNat : Int) = x % 256 := by
  unfold byteOf
  rw [UInt8.toNat_ofNat']
  omega
/-- a number in so many bytes, the highest one first -/
def beBytes (n : Int) : Nat → List UInt8
  | 0 => []
  | k + 1 => byteOf (n / 2 ^ (8 * k)) :: beBytes n k


/-! ### What a call answers: a list, or a fault -/
def exL {α : Type} : Except Int (List α) → List α
  | .ok l => l
  | .error _ => []
def exC {β : Type} : Except Int β → Int
  | .ok _ => 0
  | .error c => c
def BytesRes (r : Except Int (List UInt8)) (w : World) (e : Ending) (w' : World) : Prop :=
  ∃ A c, e = .returned (.tuple #[.slice A (exL r).length c, .int .i64 (exC r)]) ∧ Own w' w.heap.size 5 1 A (exL r).length c ((exL r).map u8v) ∧ Below w.heap.size w w'
theorem BytesRes.no {r : Except Int (List UInt8)} {c : Int} (h : r = .error c) {w w' : World} (hb : Below w.heap.size w w') : BytesRes r w (.returned (.tuple #[.slice none 0 0, .int .i64 c])) w' := by
  subst h
  exact ⟨none, 0, rfl, Own.nil _ _ _ _, hb⟩
theorem BytesRes.yes {r : Except Int (List UInt8)} {l : List UInt8} (h : r = .ok l) {w w' : World} {A : Option Addr} {n c : Nat} (ho : Own w' w.heap.size 5 1 A n c (l.map u8v)) (hb : Below w.heap.size w w') : BytesRes r w (.returned (.tuple #[.slice A n c, .int .i64 0])) w' := by
  subst h
  have hn := ho.u8.1
  subst hn
  exact ⟨A, c, rfl, ho, hb⟩
end Go.Proofs.YtldoihbblgnpjaaDoor
