/- Package glob: the law GlobPicks. No condition. -/
import Derived.Test.YtldoihbblgnpjaaGlob14
namespace Go.Proofs.Ytldoihbblgnpjaa
open Go.RowKit

set_option maxRecDepth 100000 in
set_option maxHeartbeats 1000000 in
theorem lawGlobPicks_walk {w : World} (p : ByteArray) (hok : StrOk p) (l : List ByteArray) (A : Option Addr) (c : Nat) (hlr : SlRep Rep.str w (· < w.heap.size) l A c) (hok2 : AllOk 16 StrOk l) :
    Calls Try.prog 5 #[.string p, .slice A l.length c] w fun e w' => e = .returned (.bool true) ∧ Below w.heap.size w w' := by
  have hp : (gl.bytes p).length ≤ 140737488351232 := by
    have h := hok
    rw [← gl.of_bytes p] at h
    unfold StrOk at h
    rwa [strOf_size] at h
  rw [← gl.of_bytes p]
  generalize gl.bytes p = q at *
  have hm : l.length ≤ 140737488351232 := by have := hok2.2; omega
  have hs : ∀ s ∈ l, s.size ≤ 140737488351232 := fun s h => hok2.1 s h
  clear hok hok2
  have HL := Lib.hid hlr
  have HS := Lib.hid hs
  clear hlr hs
  go_enter Try.func5, Try.ntmps5
  go_wp2_with fail
  refine (glob_Pick q l A c w HL.out hp hm HS.out).mono ?_
  rintro e w1 ⟨B1, d1, rfl, ho1, hb1⟩
  have HO1 := Lib.hid ho1
  clear ho1
  go_wp2_with fail
  refine (ref_GlobPick q l A c w1 (HL.out.next hb1) hp hm HS.out).mono ?_
  rintro e w2 ⟨B2, d2, rfl, ho2, hb2⟩
  have R1 := Lib.hid (HO1.out.next hb2).strs.2
  have R2 := Lib.hid ho2.strs.2
  have hmo : (gl.pickOut q l).length ≤ 9223372036854775807 := by have := ho2.cap; unfold maxLen at this; omega
  have hB2 : Below w.heap.size w w2 := bnext hb1 hb2
  clear ho2 HO1 hb1 hb2 HL HS
  generalize gl.pickOut q l = o at *
  generalize gl.pickCode q l = er at *
  go_wp2_with fail
  refine (law_sameTexts o B1 B2 d1 d2 _ _ w2 R1.out R2.out hmo).mono ?_
  rintro e w3 ⟨rfl, hb3⟩
  go_wp2
  go_ret
  exact ⟨by simp, bnext hB2 hb3⟩
end Go.Proofs.Ytldoihbblgnpjaa
