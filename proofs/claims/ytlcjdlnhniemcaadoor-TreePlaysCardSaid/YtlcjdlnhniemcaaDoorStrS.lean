/- Strings told by their bytes: index, cut, compare with the empty one. No condition. -/
import Derived.Test.YtlcjdlnhniemcaaDoorStr
namespace Go.Proofs.YtlcjdlnhniemcaaDoor
open Go.RowKit

theorem strOf_size (l : List UInt8) : (strOf l).size = l.length := by simp [strOf, ByteArray.size]
theorem strOf_of (s : ByteArray) : s = strOf s.data.toList := by cases s; simp [strOf]
theorem strOf_extract (l : List UInt8) (k : Nat) : (strOf l).extract k l.length = strOf (l.drop k) := by
  have h : ((strOf l).extract k l.length).data.toList = l.drop k := by
    simp [strOf]
    rw [List.take_of_length_le (by rw [List.length_drop]; exact Nat.le_refl _)]
  rw [strOf_of ((strOf l).extract k l.length), h]
theorem strOf_get (l : List UInt8) (i : Nat) (h : i < (strOf l).size) : (strOf l)[i]'h = l[i]'(by rw [strOf_size] at h; exact h) := rfl
theorem strOf_tail (a : UInt8) (t : List UInt8) : (strOf (a :: t)).extract 1 (t.length + 1) = strOf t := strOf_extract (a :: t) 1
theorem strOf_tail2 (a b : UInt8) (t : List UInt8) : (strOf (a :: b :: t)).extract 2 (t.length + 1 + 1) = strOf t := strOf_extract (a :: b :: t) 2
theorem strOf_nil : (strOf []) = { data := #[] } := rfl
theorem strOf_tail1 (a b : UInt8) (t : List UInt8) : (strOf (a :: b :: t)).extract 1 (t.length + 1 + 1) = strOf (b :: t) := strOf_extract (a :: b :: t) 1
attribute [go_sem] strOf_tail1 strOf_size strOf_toList strOf_get strOf_tail strOf_tail2
section
variable {P : Program}
theorem run_str_at (t : TypeId) (h : P.underlying t = some .string) (l : List UInt8) (k : Nat) (i : Int) (hi : i = (k : Int)) (hk : k < l.length) (w : World) :
    (Instr.index t (.string (strOf l)) (.int .i64 i)).run P w = .ok (.int .u8 ((l.getD k 0).toNat : Int)) w := by
  subst hi
  rw [run_index_string w t _ .i64 _ h, dif_pos (by rw [strOf_size]; omega)]
  simp [strOf, List.getElem?_eq_getElem hk]
  rfl
theorem run_str_from (t : TypeId) (h : P.underlying t = some .string) (l : List UInt8) (k : Nat) (i : Int) (hi : i = (k : Int)) (hk : k ≤ l.length) (w : World) :
    (Instr.slice t (.string (strOf l)) (some (.int .i64 i)) none none).run P w = .ok (.string (strOf (l.drop k))) w := by
  subst hi
  rw [← strOf_extract]
  have hj : 0 ≤ (k : Int) ∧ (k : Int) ≤ ((strOf l).size : Int) := ⟨by omega, by rw [strOf_size]; omega⟩
  simp [Instr.slice, Instr.sliceBounds, Instr.sliceBound, asIntOf, run_underlying h, hj, strOf_size]
  omega
end
end Go.Proofs.YtlcjdlnhniemcaaDoor
