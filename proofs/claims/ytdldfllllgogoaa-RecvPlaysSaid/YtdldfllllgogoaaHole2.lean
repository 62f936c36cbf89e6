/- Package hole: Gaps and its reference; equal lists of ranges; the walk of the law HoleGaps. No condition. -/
import Derived.Test.YtdldfllllgogoaaHole
namespace Go.Proofs.Ytdldfllllgogoaa
open Go.RowKit

/-- the gaps ahead of the first k ranges -/
def gapsTo (done : Int) (l : List Rng) : Nat → List Rng
  | 0 => []
  | k + 1 => gapsTo done l k ++ [⟨endAt done l k, (l.getD k Rng.z).lo⟩]
theorem gapsTo_length (done : Int) (l : List Rng) (k : Nat) : (gapsTo done l k).length = k := by
  induction k with
  | zero => rfl
  | succ k ih => simp [gapsTo, ih]

theorem hole_May_yes (done : Int) (l : List Rng) (A : Option Addr) (c : Nat) (w : World) (hl : SlRep Rng.rep w (· < w.heap.size) l A c) (hn : l.length ≤ 140737488351232) (h : holeMayB done l = true) :
    Calls Try.prog 73 #[.int .i64 done, .slice A l.length c] w fun e w' => e = .returned (.bool true) ∧ Below w.heap.size w w' := by rw [← h]; exact hole_May done l A c w hl hn
theorem hole_May_no (done : Int) (l : List Rng) (A : Option Addr) (c : Nat) (w : World) (hl : SlRep Rng.rep w (· < w.heap.size) l A c) (hn : l.length ≤ 140737488351232) (h : holeMayB done l = false) :
    Calls Try.prog 73 #[.int .i64 done, .slice A l.length c] w fun e w' => e = .returned (.bool false) ∧ Below w.heap.size w w' := by rw [← h]; exact hole_May done l A c w hl hn
theorem ref_HoleMay_yes (done : Int) (l : List Rng) (A : Option Addr) (c : Nat) (w : World) (hl : SlRep Rng.rep w (· < w.heap.size) l A c) (hn : l.length ≤ 140737488351232) (h : holeMayB done l = true) :
    Calls Try.prog 75 #[.int .i64 done, .slice A l.length c] w fun e w' => e = .returned (.bool true) ∧ Below w.heap.size w w' := by rw [← h]; exact ref_HoleMay done l A c w hl hn
theorem ref_HoleMay_no (done : Int) (l : List Rng) (A : Option Addr) (c : Nat) (w : World) (hl : SlRep Rng.rep w (· < w.heap.size) l A c) (hn : l.length ≤ 140737488351232) (h : holeMayB done l = false) :
    Calls Try.prog 75 #[.int .i64 done, .slice A l.length c] w fun e w' => e = .returned (.bool false) ∧ Below w.heap.size w w' := by rw [← h]; exact ref_HoleMay done l A c w hl hn

end Go.Proofs.Ytdldfllllgogoaa
