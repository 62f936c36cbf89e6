/- Package glob: the reference's GlobMay; the law GlobMays. No condition. -/
import Derived.Test.YtldoihbblgnpjaaGlob11
namespace Go.Proofs.Ytldoihbblgnpjaa
open Go.RowKit

set_option maxHeartbeats 400000 in
theorem ref_GlobMay (p : List UInt8) (w : World) (hp : p.length ≤ 140737488351232) : Calls Try.prog 8 #[.string (strOf p)] w fun e w' => e = .returned (.bool (gl.parse p).isSome) ∧ Below w.heap.size w w' := by
  go_enter Try.func8, Try.ntmps8
  go_wp2_with fail
  refine (ref_globItems p w hp).mono ?_
  rintro e w1 ⟨⟨A, n, c, rfl, _⟩, hb⟩
  go_wp2
  go_ret
  exact ⟨rfl, hb⟩
set_option maxHeartbeats 400000 in
theorem lawGlobMays_walk {w : World} (p : ByteArray) (hok : StrOk p) : Calls Try.prog 3 #[.string p] w fun e w' => e = .returned (.bool true) ∧ Below w.heap.size w w' := by
  have hl : (gl.bytes p).length ≤ 140737488351232 := by
    have h := hok
    rw [← gl.of_bytes p] at h
    unfold StrOk at h
    rwa [strOf_size] at h
  rw [← gl.of_bytes p]
  generalize gl.bytes p = l at *
  clear hok
  go_enter Try.func3, Try.ntmps3
  go_wp2_with fail
  refine (glob_May l w hl).mono ?_
  rintro e w1 ⟨rfl, hb1⟩
  go_wp2_with fail
  refine (ref_GlobMay l w1 hl).mono ?_
  rintro e w2 ⟨rfl, hb2⟩
  generalize (gl.parse l).isSome = b
  go_wp2
  go_ret
  exact ⟨by simp, bnext hb1 hb2⟩
end Go.Proofs.Ytldoihbblgnpjaa
