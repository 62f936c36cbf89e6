/- The reference of recv: ranges. No condition. -/
import Derived.Test.YtdldfllllgogoaaRecvR1
namespace Go.Proofs.Ytdldfllllgogoaa
open Go.RowKit Go.Maps Go.WideShapes Go.ChangeMaps Go.MapKept
set_option linter.unusedSimpArgs false

def rv.isP (f : Int → Option Value) (n : Int) : Bool := (f n).isSome
theorem rv.runs_len (P : Int → Bool) (lo : Int) : ∀ k, (rv.runs P lo k).length ≤ k
  | 0 => Nat.le_refl _
  | k + 1 => by
    have h := rv.runs_len P lo k
    rw [rv.runs]
    split
    · split
      · split
        · rw [List.length_append, List.length_dropLast]; simp only [List.length_cons, List.length_nil]; omega
        · rw [List.length_append]; simp only [List.length_cons, List.length_nil]; omega
      · simp
    · omega
theorem rv.runs_no {P : Int → Bool} {lo : Int} {k : Nat} (h : P (lo + k) = false) : rv.runs P lo (k + 1) = rv.runs P lo k := by rw [rv.runs, if_neg (by rw [h]; decide)]
theorem rv.runs_first {P : Int → Bool} {lo : Int} {k : Nat} (h : P (lo + k) = true) (h0 : rv.runs P lo k = []) : rv.runs P lo (k + 1) = [⟨lo + k, lo + k + 1⟩] := by rw [rv.runs, if_pos h, h0]; rfl
theorem rv.runs_on {P : Int → Bool} {lo : Int} {k : Nat} (h : P (lo + k) = true) {o : List Rng} {x : Rng} (h0 : rv.runs P lo k = o ++ [x]) (e : x.hi = lo + k) : rv.runs P lo (k + 1) = o ++ [⟨x.lo, lo + k + 1⟩] := by
  rw [rv.runs, if_pos h, h0]
  simp only [List.getLast?_append, List.getLast?_singleton, Option.some_or]
  rw [if_pos e, List.dropLast_concat]
theorem rv.runs_new {P : Int → Bool} {lo : Int} {k : Nat} (h : P (lo + k) = true) {o : List Rng} {x : Rng} (h0 : rv.runs P lo k = o ++ [x]) (e : x.hi ≠ lo + k) : rv.runs P lo (k + 1) = (o ++ [x]) ++ [⟨lo + k, lo + k + 1⟩] := by
  rw [rv.runs, if_pos h, h0]
  simp only [List.getLast?_append, List.getLast?_singleton, Option.some_or]
  rw [if_neg e]
end Go.Proofs.Ytdldfllllgogoaa
