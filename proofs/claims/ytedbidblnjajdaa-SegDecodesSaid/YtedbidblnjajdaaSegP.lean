/- The plain law of package seg: segments as bytes. No program in sight. No condition. -/
import Derived.Test.YtedbidblnjajdaaBytes
import Derived.Test.YtedbidblnjajdaaInet
namespace Go.Proofs.Ytedbidblnjajdaa.sg

def serB (n : Int) : Bool := decide (0 ≤ n ∧ n < 65536)
theorem serB_yes {n : Int} (h : 0 ≤ n ∧ n < 65536) : serB n = true := decide_eq_true h
theorem serB_no {n : Int} (h : ¬ (0 ≤ n ∧ n < 65536)) : serB n = false := decide_eq_false h
def rngOk (r : Rng) : Bool := serB r.lo && serB r.hi
theorem rngOk_iff {r : Rng} : rngOk r = true ↔ (0 ≤ r.lo ∧ r.lo < 65536) ∧ (0 ≤ r.hi ∧ r.hi < 65536) := by simp [rngOk, serB]
def bad1 (s : Segment) : Prop := ¬ (0 ≤ s.seq ∧ s.seq < 65536) ∨ ¬ (0 ≤ s.ack ∧ s.ack < 65536) ∨ s.window < 0 ∨ 65535 < s.window
instance (s : Segment) : Decidable (bad1 s) := by unfold bad1; infer_instance
def bad4 (s : Segment) : Prop := s.acks = false ∧ (s.ack ≠ 0 ∨ s.window ≠ 0 ∨ s.sacks.length ≠ 0)
instance (s : Segment) : Decidable (bad4 s) := by unfold bad4; infer_instance
def fault (s : Segment) : Int :=
  if bad1 s then 2 else if 3 < s.sacks.length ∨ 64 < s.data.length then 1 else if s.sacks.all rngOk = false then 2 else if bad4 s then 4 else 0
theorem fault_cases (s : Segment) : fault s = 0 ∨ fault s = 1 ∨ fault s = 2 ∨ fault s = 4 := by
  unfold fault
  split
  · exact .inr (.inr (.inl rfl))
  · split
    · exact .inr (.inl rfl)
    · split
      · exact .inr (.inr (.inl rfl))
      · split
        · exact .inr (.inr (.inr rfl))
        · exact .inl rfl
theorem fault_zero {s : Segment} (h : fault s = 0) : ¬ bad1 s ∧ s.sacks.length ≤ 3 ∧ s.data.length ≤ 64 ∧ s.sacks.all rngOk = true ∧ ¬ bad4 s := by
  unfold fault at h
  split at h
  · simp at h
  · rename_i h1
    split at h
    · simp at h
    · rename_i h2
      split at h
      · simp at h
      · rename_i h3
        split at h
        · simp at h
        · rename_i h4
          exact ⟨h1, by omega, by omega, by simpa using h3, h4⟩
theorem all_true {l : List Rng} {k : Nat} (h : l.all rngOk = true) (hk : k < l.length) (z : Rng) : rngOk (l.getD k z) = true := by
  rw [List.getD_eq_getElem?_getD, List.getElem?_eq_getElem hk]
  exact List.all_eq_true.1 h _ (List.getElem_mem hk)
theorem all_of {l : List Rng} (z : Rng) (h : ∀ k, k < l.length → rngOk (l.getD k z) = true) : l.all rngOk = true := by
  rw [List.all_eq_true]
  intro x hx
  obtain ⟨k, hk, rfl⟩ := List.getElem_of_mem hx
  have := h k hk
  rwa [List.getD_eq_getElem?_getD, List.getElem?_eq_getElem hk] at this
theorem all_false {l : List Rng} {k : Nat} (hk : k < l.length) (z : Rng) (h : rngOk (l.getD k z) = false) : l.all rngOk = false := by
  cases e : l.all rngOk with
  | false => rfl
  | true => rw [all_true e hk z] at h; cases h

/-- a number in two bytes -/
def two (n : Int) : List UInt8 := [byteOf (n / 256), byteOf n]
def flagsOf (s : Segment) : Int := (if s.syn then 1 else 0) + (if s.fin then 2 else 0) + (if s.rst then 4 else 0) + (if s.acks then 8 else 0)
def head (s : Segment) : List UInt8 := two s.seq ++ two s.ack ++ two s.window ++ [byteOf (flagsOf s), byteOf s.sacks.length, 0, 0]
def ranges (s : Segment) : Nat → List UInt8
  | 0 => []
  | k + 1 => ranges s k ++ (two (s.sacks.getD k ⟨0, 0⟩).lo ++ two (s.sacks.getD k ⟨0, 0⟩).hi)
theorem ranges_length (s : Segment) (k : Nat) : (ranges s k).length = 4 * k := by
  induction k with
  | zero => rfl
  | succ k ih => simp [ranges, ih, two]; omega
def bare (s : Segment) : List UInt8 := head s ++ ranges s s.sacks.length ++ s.data
theorem head_length (s : Segment) : (head s).length = 10 := rfl
theorem bare_length (s : Segment) : (bare s).length = 10 + 4 * s.sacks.length + s.data.length := by simp [bare, ranges_length, head_length]; omega
def sumOf (l : List UInt8) : Int := 65535 - foldOf (sumTo l l.length)
def summed (l : List UInt8) : List UInt8 := (l.set 8 (byteOf (sumOf l / 256))).set 9 (byteOf (sumOf l))
def enc (s : Segment) : Except Int (List UInt8) := if fault s = 0 then .ok (summed (bare s)) else .error (fault s)
theorem sumOf_bd (l : List UInt8) : 0 ≤ sumOf l ∧ sumOf l ≤ 65535 := by
  have := foldOf_bd _ (sumTo_bd l l.length).1
  unfold sumOf
  omega
end Go.Proofs.Ytedbidblnjajdaa.sg
