/- Bytes as strings. No condition. -/
import Derived.Test.YtldoihbblgnpjaaDoorBytes
import Derived.Laws.BytesArg
namespace Go.Proofs.YtldoihbblgnpjaaDoor
open Go.RowKit

/-- the string of bytes -/
def strOf (l : List UInt8) : ByteArray := ⟨l.toArray⟩
theorem strOf_inj {l m : List UInt8} : strOf l = strOf m ↔ l = m := by
  constructor
  · intro h
    have := congrArg (fun s : ByteArray => s.data.toList) h
    simpa [strOf] using this
  · rintro rfl; rfl
theorem loop_eq (l : List UInt8) (i : Nat) (r : List UInt8) : ByteArray.toList.loop (strOf l) i r = r.reverse ++ l.drop i := by
  generalize hn : l.length - i = n
  induction n generalizing i r with
  | zero =>
    rw [ByteArray.toList.loop, if_neg (by simp [strOf, ByteArray.size]; omega), List.drop_eq_nil_of_le (by omega), List.append_nil]
  | succ n ih =>
    rw [ByteArray.toList.loop, if_pos (by simp [strOf, ByteArray.size]; omega), ih _ _ (by omega), List.drop_eq_getElem_cons (by omega : i < l.length)]
    simp [strOf, ByteArray.get!, List.getElem?_eq_getElem (by omega : i < l.length)]
theorem strOf_toList (l : List UInt8) : (strOf l).toList = l := by
  unfold ByteArray.toList
  rw [loop_eq]
  simp
end Go.Proofs.YtldoihbblgnpjaaDoor
