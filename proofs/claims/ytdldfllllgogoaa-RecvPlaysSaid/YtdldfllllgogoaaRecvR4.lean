/- The reference of recv: NewInlet. No condition. -/
import Derived.Test.YtdldfllllgogoaaRecvR3
namespace Go.Proofs.Ytdldfllllgogoaa
open Go.RowKit Go.Maps Go.WideShapes Go.ChangeMaps Go.MapKept
set_option linter.unusedSimpArgs false

set_option maxHeartbeats 400000 in
theorem ref_NewInlet (room : Int) (w : World) :
    Calls Try.prog 22 #[.int .i64 room] w fun e w' => ∃ G Mb, e = .returned (.pointer (some ⟨G, 0, none⟩)) ∧ IAt w' G Mb 0 room 0 0 false (fun _ => none) ∧ w.heap.size ≤ G ∧ w.heap.size ≤ Mb ∧ Below w.heap.size w w' := by
  have hmm := @run_makeMap Try.prog
  go_enter Try.func22, Try.ntmps22
  go_wp2
  go_ret
  refine ⟨w.heap.size + 1, w.heap.size, by simp, ⟨?_, ?_⟩, by omega, by omega, (by repeat (first | (with_reducible exact Below.refl _ _) | (with_reducible assumption) | (with_reducible refine bset ?_ ?_ _) | (with_reducible refine balloc ?_ _) | (with_reducible refine Below.drew ?_) | (with_reducible refine bdrewN ?_ _) | (with_reducible refine bnext ?_ (by with_reducible assumption)) | exact Nat.le_refl _ | (simp; done) | omega | (simp; omega)))⟩
  · have h := BlkA.new (w.alloc (.map #[] 0)) 107 #[.int .i64 room, .map (some w.heap.size), .int .i64 0, .int .i64 0, .bool false]
    simpa using h
  · rw [← mapI_none]
    exact (MapV.made w _ _).alloc _
end Go.Proofs.Ytdldfllllgogoaa
