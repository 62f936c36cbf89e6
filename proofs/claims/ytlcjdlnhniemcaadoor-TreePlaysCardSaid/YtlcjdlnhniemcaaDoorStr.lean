/- Bytes as strings. No condition. -/
import Derived.Test.YtlcjdlnhniemcaaDoorMgA
import Derived.Laws.BytesArg
namespace Go.Proofs.YtlcjdlnhniemcaaDoor
open Go.RowKit

/-- the string of bytes -/
def strOf (l : List UInt8) : ByteArray := ⟨l.toArray⟩
theorem strOf_inj {l m : List UInt8} : strOf l = strOf m ↔ l = m := by
  constructor
  · intro h
    have := congrArg (fun s : ByteArray => s.data.toList) h
    simpa [strOf] using this
  · rintro rfl; rfl
theorem loop_eq (l : List UInt8) (i : Nat) (r : List UInt8) : ByteArray.toList.loop (strOf l) i r = r.reverse ++ l.drop i := by
  generalize hn : l.length - i = n
  induction n generalizing i r with
  | zero =>
    rw [ByteArray.toList.loop, if_neg (by simp [strOf, ByteArray.size]; omega), List.drop_eq_nil_of_le (by omega), List.append_nil]
  | succ n ih =>
    rw [ByteArray.toList.loop, if_pos (by simp [strOf, ByteArray.size]; omega), ih _ _ (by omega), List.drop_eq_getElem_cons (by omega : i < l.length)]
    simp [strOf, ByteArray.get!, List.getElem?_eq_getElem (by omega : i < l.length)]
theorem strOf_toList (l : List UInt8) : (strOf l).toList = l := by
  unfold ByteArray.toList
  rw [loop_eq]
  simp
theorem run_string {w : World} {S : Nat → Prop} {l : List UInt8} {A : Option Addr} {c : Nat} (h : SlRep Rep.u8 w S l A c) :
    (convert 28 9 (.slice A l.length c)).run Tryd.prog w = .ok (.string (strOf l)) w := by
  rcases h.2.2 with rfl | ⟨b, o, rfl, _, _⟩
  · cases A with
    | none => exact run_convert_bytes_nil w _ _ Tryd.underlying28 Tryd.underlying5 _ _ _ Tryd.underlying9
    | some a =>
      obtain ⟨b, o, s⟩ := a
      rw [run_convert_bytes_string w _ _ _ _ _ _ Tryd.underlying28 Tryd.underlying5 Tryd.underlying9]
      simp [Conv.bytesToString, loadCells, strOf]
      rfl
  · have := run_convert_bytes_arg (P := Tryd.prog) w 28 5 Tryd.underlying28 Tryd.underlying5 b o l.length c (l.map fun x => (x.toNat : Int)) (by simp) (fun i hi => by
      obtain ⟨b', o', e, _, hc⟩ := u8_at h hi
      simp only [Option.some.injEq, Addr.mk.injEq, and_true] at e
      obtain ⟨rfl, rfl⟩ := e
      rw [hc]
      congr 2
      simp [List.getD_eq_getElem?_getD, List.getElem?_eq_getElem hi]) 9 Tryd.underlying9
    have e : strOfNums (l.map fun x => (x.toNat : Int)) = strOf l := by
      unfold strOfNums strOf
      refine congrArg ByteArray.mk (congrArg List.toArray ?_)
      rw [List.map_map]
      conv => rhs; rw [← List.map_id l]
      refine List.map_congr_left fun x _ => ?_
      simp
    rw [this, e]
end Go.Proofs.YtlcjdlnhniemcaaDoor
