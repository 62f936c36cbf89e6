/- Package glob: the reference's GlobMatch; the law GlobMatches. No condition. -/
import Derived.Test.YtldoihbblgnpjaaGlob8
import Derived.Test.YtldoihbblgnpjaaGlob12
namespace Go.Proofs.Ytldoihbblgnpjaa
open Go.RowKit

set_option maxHeartbeats 1000000 in
theorem ref_GlobMatch (p n : List UInt8) (w : World) (hp : p.length ≤ 140737488351232) (hn : n.length ≤ 140737488351232) :
    Calls Try.prog 10 #[.string (strOf p), .string (strOf n)] w fun e w' => e = .returned (.tuple #[.bool (gl.matchOut p n), .int .i64 (gl.matchCode p n)]) ∧ Below w.heap.size w w' := by
  have HPR := Lib.hid (ref_globItems p w hp)
  clear hp
  go_enter Try.func10, Try.ntmps10
  go_wp2_with fail
  refine HPR.out.mono ?_
  rintro e w1 ⟨⟨A, m, c, rfl, hok⟩, hb⟩
  have HOK := Lib.hid hok
  have HB := Lib.hid hb
  clear hok hb
  cases hps : gl.parse p with
  | none =>
    have HX : Hid (gl.matchOut p n = false ∧ gl.matchCode p n = 4) := Lib.hid (by unfold gl.matchOut gl.matchCode; rw [hps]; exact ⟨rfl, rfl⟩)
    clear hps
    simp only [Option.isSome_none]
    go_wp2
    go_ret2
    exact ⟨by rw [HX.out.1, HX.out.2]; rfl, HB.out⟩
  | some is =>
    obtain ⟨rfl, h40, ho⟩ := HOK.out is hps
    have HO := Lib.hid ho
    by_cases hlong : 200 < n.length
    · have hd : decide ((n.length : Int) > 200) = true := by simp; omega
      have hd' : decide (200 < (n.length : Int)) = true := by simp; omega
      have HX : Hid (gl.matchOut p n = false ∧ gl.matchCode p n = 1) := Lib.hid (by unfold gl.matchOut gl.matchCode; rw [hps]; exact ⟨if_pos hlong, if_pos hlong⟩)
      clear hps ho hlong
      simp only [Option.isSome_some]
      go_wp2
      go_ret2
      exact ⟨by rw [HX.out.1, HX.out.2]; rfl, HB.out⟩
    · have hd : decide ((n.length : Int) > 200) = false := by simp; omega
      have hd' : decide (200 < (n.length : Int)) = false := by simp; omega
      have HX : Hid (gl.matchOut p n = gl.matches_ is n ∧ gl.matchCode p n = 0) := Lib.hid (by unfold gl.matchOut gl.matchCode; rw [hps]; exact ⟨if_neg hlong, if_neg hlong⟩)
      have hn2 : n.length ≤ 1000000 := by omega
      clear hps ho hlong
      simp only [Option.isSome_some]
      go_wp2_with fail
      refine (ref_globOf is A c n w1 HO.out h40 hn2).mono ?_
      rintro e w2 ⟨rfl, hb2⟩
      go_wp2
      go_ret2
      exact ⟨by rw [HX.out.1, HX.out.2]; rfl, bnext HB.out hb2⟩

set_option maxHeartbeats 1000000 in
theorem lawGlobMatches_walk {w : World} (p : ByteArray) (hok : StrOk p) (n : ByteArray) (hok2 : StrOk n) : Calls Try.prog 4 #[.string p, .string n] w fun e w' => e = .returned (.bool true) ∧ Below w.heap.size w w' := by
  have hl : (gl.bytes p).length ≤ 140737488351232 := by
    have h := hok
    rw [← gl.of_bytes p] at h
    unfold StrOk at h
    rwa [strOf_size] at h
  have hl2 : (gl.bytes n).length ≤ 140737488351232 := by
    have h := hok2
    rw [← gl.of_bytes n] at h
    unfold StrOk at h
    rwa [strOf_size] at h
  rw [← gl.of_bytes p, ← gl.of_bytes n]
  generalize gl.bytes p = l at *
  generalize gl.bytes n = m at *
  clear hok hok2
  have HA := fun w => Lib.hid (glob_Match l m w hl hl2)
  have HR := fun w => Lib.hid (ref_GlobMatch l m w hl hl2)
  go_enter Try.func4, Try.ntmps4
  go_wp2_with fail
  refine (HA w).out.mono ?_
  rintro e w1 ⟨rfl, hb1⟩
  go_wp2_with fail
  refine (HR w1).out.mono ?_
  rintro e w2 ⟨rfl, hb2⟩
  generalize gl.matchOut l m = b
  generalize gl.matchCode l m = c
  go_wp2
  go_ret
  exact ⟨by simp, bnext hb1 hb2⟩
end Go.Proofs.Ytldoihbblgnpjaa
