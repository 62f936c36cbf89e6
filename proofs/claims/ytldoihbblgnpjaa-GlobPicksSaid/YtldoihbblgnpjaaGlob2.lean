/- Package glob: any byte; a set. No condition. -/
import Derived.Test.YtldoihbblgnpjaaGlob
namespace Go.Proofs.Ytldoihbblgnpjaa
open Go.RowKit

set_option maxRecDepth 100000 in
set_option maxHeartbeats 400000 in
theorem glob_any (w : World) : Calls Try.prog 23 #[] w fun e w' => e = .returned (.agg (gl.cells false (fun _ => true)).toArray) ∧ Below w.heap.size w w' := by
  obtain ⟨fs, hu⟩ := gl.isRow
  have HU := Lib.hid hu
  clear hu
  go_enter Try.func23, Try.ntmps23
  go_upto_region 1 with (first
    | ((with_reducible show wpList _ _ _ _ _ _); refine wpList_new rfl 47 rfl (gl.cells false gl.no) gl.zero ?_)
    | fail)
  obtain ⟨w1, hw1⟩ : ∃ w1, w1 = w.alloc (.cells (gl.cells false gl.no).toArray 47) := ⟨_, rfl⟩
  rw [← hw1]
  have hb1 : Below w.heap.size w w1 := by rw [hw1]; exact (by repeat (first | (with_reducible exact Below.refl _ _) | (with_reducible assumption) | (with_reducible refine bset ?_ ?_ _) | (with_reducible refine balloc ?_ _) | (with_reducible refine Below.drew ?_) | (with_reducible refine bdrewN ?_ _) | (with_reducible refine bnext ?_ (by with_reducible assumption)) | exact Nat.le_refl _ | (simp; done) | omega | (simp; omega)))
  have hr1 : w1.rangeAt w.heap.size 0 (gl.cells false gl.no) := by rw [hw1]; exact rangeAt_new _ _ _
  have ht1 : w1.there w.heap.size 0 257 := by rw [hw1]; exact there_new _ (gl.cells false gl.no) _
  have HR := Lib.hid hr1
  have HT := Lib.hid ht1
  have HB := Lib.hid hb1
  clear hw1 hr1 ht1 hb1
  go_wp2_with fail
  go_loopw [1, 2] (fun _ i wr => ∃ k : Nat, k ≤ 256 ∧ i = .int .i64 k ∧ Hid (wr.rangeAt w.heap.size 0 (gl.cells false (fun j => decide (j < k))) ∧ wr.there w.heap.size 0 257 ∧ Below w.heap.size w wr)) (fun _ i _ => 256 - (intOf i).toNat)
  case atStart => exact ⟨0, by omega, rfl, Lib.hid ⟨by rw [gl.cells_congr false (g := gl.no) (fun i _ => by simp [gl.no])]; exact HR.out, HT.out, HB.out⟩⟩
  case round =>
    obtain ⟨k, hk, rfl, H⟩ := hrel
    rename World => wr
    by_cases hlt : k < 256
    · have hs2 := (H.out.2.1 (1 + k) (by omega)).2
      have hs1 := H.out.1 (1 + k) _ (gl.cells_at _ _ hlt)
      rw [Nat.zero_add] at hs1 hs2
      have HN : Hid ((wr.setCell ⟨w.heap.size, 1 + k, none⟩ (.bool true)).rangeAt w.heap.size 0 (gl.cells false (fun j => decide (j < k + 1)))) := Lib.hid (by
        have h := rangeAt_set H.out.1 (1 + k) (.bool true)
        rw [gl.cells_set _ _ _ hlt] at h
        rw [gl.cells_congr false (g := fun j => if j = k then true else decide (j < k)) (fun i _ => by
          by_cases e : i = k
          · subst e; simp
          · rw [if_neg e]; exact decide_eq_decide.2 (by omega))]
        exact h)
      go_wp2
      go_roundw
      case rel => exact ⟨k + 1, by omega, by go_num, Lib.hid ⟨HN.out, there_set H.out.2.1 _ _, H.out.2.2.setCell (p := ⟨w.heap.size, _, none⟩) (Nat.le_refl _) _⟩⟩
      case measure => simp [intOf]; omega
    · obtain rfl : k = 256 := by omega
      have HR2 : Hid (wr.rangeAt w.heap.size 0 (gl.cells false (fun _ => true))) := Lib.hid (by
        rw [gl.cells_congr false (g := fun j => decide (j < 256)) (fun i hi => by simp [hi])]
        exact H.out.1)
      go_wp2_with (first
        | ((with_reducible show wpList _ _ _ _ _ _); refine wpList_load_mid rfl 47 _ rfl w.heap.size 0 rfl _ _ HR2.out HU.out rfl (gl.sizeL _ _) ?_)
        | ((with_reducible show wpList _ _ _ _ _ _); refine wpList_store_mid rfl 47 _ _ rfl w.heap.size 0 _ rfl rfl (gl.thereA H.out.2.1 _ _) (gl.sizeA _ _) (gl.oneA _ _) ?_)
        | fail)
      have HR3 := Lib.hid (gl.stored H.out.2.1 false (fun _ => true))
      refine bodyPost_ret (v := .agg (gl.cells false (fun _ => true)).toArray) ?_ rfl ⟨rfl, ?_⟩
      · exact results_one (a := 0) (t := 47) rfl w.heap.size _ _ rfl HR3.out HU.out rfl (gl.sizeL _ _)
      exact below_setCells (Nat.le_refl _) _ _ H.out.2.2
end Go.Proofs.Ytldoihbblgnpjaa
