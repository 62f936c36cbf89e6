/- Package glob: one part, any byte, what may stand in a set. No condition. -/
import Derived.Test.YtldoihbblgnpjaaGlobQ
import Derived.Test.YtldoihbblgnpjaaLong
import Derived.Test.YtldoihbblgnpjaaStrS
import Derived.BigQuiet
import Derived.IntWalk
import Derived.Deep.DeepCutAuto
import Derived.Deep.CutBlock
namespace Go.Proofs.Ytldoihbblgnpjaa
open Go.RowKit

theorem u8_no {a b : UInt8} (n : Int) (h : a ≠ b) (hb : (b.toNat : Int) = n) : ((a.toNat : Int) == n) = false ∧ ((a.toNat : Int) != n) = true := by
  have e : (a.toNat : Int) ≠ n := fun e => h (UInt8.toNat_inj.1 (by omega))
  exact ⟨by rw [beq_eq_false_iff_ne]; exact e, by rw [bne_iff_ne]; exact e⟩
set_option maxHeartbeats 400000 in
theorem glob_plain (s : List UInt8) (w : World) (hs : s.length ≤ 1000000) : Calls Try.prog 35 #[.string (strOf s)] w fun e w' => e = .returned (.bool (gl.plainB s)) ∧ w = w' := by
  cases s with
  | nil =>
    go_enter Try.func35, Try.ntmps35
    go_wp2
    go_ret
    exact ⟨rfl, rfl⟩
  | cons a t =>
    have h0 := a.toNat_lt
    by_cases h1 : a = 93
    · subst h1
      go_enter Try.func35, Try.ntmps35
      go_wp2
      go_ret
      exact ⟨rfl, rfl⟩
    · obtain ⟨k1, k1'⟩ := u8_no 93 h1 rfl
      by_cases h2 : a = 92
      · subst h2
        go_enter Try.func35, Try.ntmps35
        go_wp2
        go_ret
        exact ⟨rfl, rfl⟩
      · obtain ⟨k2, k2'⟩ := u8_no 92 h2 rfl
        have HX : Hid (gl.plainB (a :: t) = true) := Lib.hid (by simp [gl.plainB, h1, h2])
        clear h1 h2
        go_enter Try.func35, Try.ntmps35
        go_wp2
        go_ret
        exact ⟨by rw [HX.out]; rfl, rfl⟩

/-- the cells of a part -/
def gl.cells (run : Bool) (f : Nat → Bool) : List Value := .bool run :: (List.range 256).map (fun i => .bool (f i))
theorem gl.cells_len (r : Bool) (f : Nat → Bool) : (gl.cells r f).length = 257 := by simp [gl.cells]
theorem gl.cells_at (r : Bool) (f : Nat → Bool) {i : Nat} (hi : i < 256) : (gl.cells r f)[1 + i]? = some (.bool (f i)) := by
  rw [Nat.add_comm]
  simp [gl.cells, hi]
theorem gl.cells_set (r : Bool) (f : Nat → Bool) {i : Nat} (v : Bool) (hi : i < 256) : (gl.cells r f).set (1 + i) (.bool v) = gl.cells r (fun j => if j = i then v else f j) := by
  rw [Nat.add_comm]
  apply List.ext_getElem?
  intro j
  rw [List.getElem?_set]
  cases j with
  | zero => simp [gl.cells]
  | succ j =>
    by_cases e : i = j
    · subst e
      simp [gl.cells, hi]
    · simp only [Nat.add_right_cancel_iff, e, if_false]
      simp only [gl.cells, List.getElem?_cons_succ, List.getElem?_map]
      rcases Nat.lt_or_ge j 256 with h | h
      · rw [List.getElem?_range h]
        simp only [Option.map_some, Option.some.injEq, Value.bool.injEq]
        rw [if_neg (fun e2 => e e2.symm)]
      · rw [List.getElem?_eq_none (by simpa using h)]
        rfl
theorem gl.cells_one (r : Bool) (f : Nat → Bool) : ∀ v ∈ gl.cells r f, v.oneCell' = true := fun v hv => by
  simp only [gl.cells, List.mem_cons, List.mem_map] at hv
  rcases hv with rfl | ⟨i, _, rfl⟩ <;> rfl
theorem gl.cells_congr (r : Bool) {f g : Nat → Bool} (h : ∀ i, i < 256 → f i = g i) : gl.cells r f = gl.cells r g := by
  unfold gl.cells
  congr 1
  exact List.map_congr_left fun i hi => by rw [h i (by simpa using hi)]
def gl.no : Nat → Bool := fun _ => false
theorem gl.zero : ((Try.prog.info? 47).bind (·.zero)).map (·.cells.toList) = some (gl.cells false gl.no) := by kernel_rfl
theorem gl.size : (Try.prog.info? 47).map (·.size) = some 257 := by kernel_rfl
theorem gl.cells_size (r : Bool) (f : Nat → Bool) : (gl.cells r f).toArray.size = 257 := by simp [gl.cells_len]
theorem gl.sizeL (r : Bool) (f : Nat → Bool) : (Try.prog.info? 47).map (·.size) = some (gl.cells r f).length := by rw [gl.cells_len]; exact gl.size
theorem gl.sizeA (r : Bool) (f : Nat → Bool) : (Try.prog.info? 47).map (·.size) = some (gl.cells r f).toArray.size := by rw [gl.cells_size]; exact gl.size
theorem gl.thereA {w : World} {b : Nat} (h : w.there b 0 257) (r : Bool) (f : Nat → Bool) : w.there b 0 (gl.cells r f).toArray.size := by rw [gl.cells_size]; exact h
theorem gl.oneA (r : Bool) (f : Nat → Bool) : (gl.cells r f).toArray.all (·.oneCell') = true := all_oneCell_toArray (gl.cells_one _ _)
theorem gl.stored {w : World} {b : Nat} (h : w.there b 0 257) (r : Bool) (f : Nat → Bool) : (w.setCells b 0 (gl.cells r f).toArray.toList).rangeAt b 0 (gl.cells r f) := World.rangeAt_setCells_same _ _ _ _ (by rw [gl.cells_len]; exact h)
theorem gl.isRow : ∃ fs, Try.prog.underlying 47 = some (.struct fs) := ⟨_, Try.underlying47⟩

set_option maxRecDepth 100000 in
set_option maxHeartbeats 400000 in
theorem glob_one (b : UInt8) (w : World) : Calls Try.prog 25 #[.int .u8 (b.toNat : Int)] w fun e w' => e = .returned (.agg (gl.cells false (fun i => i == b.toNat)).toArray) ∧ Below w.heap.size w w' := by
  have h0 := b.toNat_lt
  have h1 : (b.toNat : Int) < 256 := by omega
  obtain ⟨fs, hu⟩ := gl.isRow
  have HU := Lib.hid hu
  clear hu h0
  go_enter Try.func25, Try.ntmps25
  go_upto_region 1 with (first
    | ((with_reducible show wpList _ _ _ _ _ _); refine wpList_new rfl 47 rfl (gl.cells false gl.no) gl.zero ?_)
    | fail)
  obtain ⟨w1, hw1⟩ : ∃ w1, w1 = w.alloc (.cells (gl.cells false gl.no).toArray 47) := ⟨_, rfl⟩
  rw [← hw1]
  have hb1 : Below w.heap.size w w1 := by rw [hw1]; exact (by repeat (first | (with_reducible exact Below.refl _ _) | (with_reducible assumption) | (with_reducible refine bset ?_ ?_ _) | (with_reducible refine balloc ?_ _) | (with_reducible refine Below.drew ?_) | (with_reducible refine bdrewN ?_ _) | (with_reducible refine bnext ?_ (by with_reducible assumption)) | exact Nat.le_refl _ | (simp; done) | omega | (simp; omega)))
  have hr1 : w1.rangeAt w.heap.size 0 (gl.cells false gl.no) := by rw [hw1]; exact rangeAt_new _ _ _
  have ht1 : w1.there w.heap.size 0 257 := by rw [hw1]; exact there_new _ (gl.cells false gl.no) _
  have hs := (ht1 (1 + b.toNat) (by omega))
  rw [Nat.zero_add] at hs
  have hs2 := hs.2
  have hs1 := hr1 (1 + b.toNat) _ (gl.cells_at _ _ (by omega))
  rw [Nat.zero_add] at hs1
  clear hs
  have HR := Lib.hid hr1
  have HT := Lib.hid ht1
  clear hw1 hr1 ht1
  go_upto_region 2 with fail
  have HR2 : Hid ((w1.setCell ⟨w.heap.size, 1 + b.toNat, none⟩ (.bool true)).rangeAt w.heap.size 0 (gl.cells false (fun i => i == b.toNat))) := Lib.hid (by
    have h := rangeAt_set HR.out (1 + b.toNat) (.bool true)
    rw [gl.cells_set _ _ _ (by omega)] at h
    rw [gl.cells_congr false (g := fun j => if j = b.toNat then true else gl.no j) (fun i _ => by simp [gl.no]; rfl)]
    exact h)
  have HT2 := Lib.hid (there_set HT.out ⟨w.heap.size, 1 + b.toNat, none⟩ (.bool true))
  generalize hw2 : w1.setCell ⟨w.heap.size, 1 + b.toNat, none⟩ (.bool true) = w2 at *
  have hb2 : Below w.heap.size w w2 := by rw [← hw2]; exact hb1.setCell (p := ⟨w.heap.size, _, none⟩) (Nat.le_refl _) _
  clear hw2 hs1 hs2
  go_wp2_with (first
    | ((with_reducible show wpList _ _ _ _ _ _); refine wpList_load_mid rfl 47 _ rfl w.heap.size 0 rfl _ _ HR2.out HU.out rfl (gl.sizeL _ _) ?_)
    | ((with_reducible show wpList _ _ _ _ _ _); refine wpList_store_mid rfl 47 _ _ rfl w.heap.size 0 _ rfl rfl (gl.thereA HT2.out _ _) (gl.sizeA _ _) (gl.oneA _ _) ?_)
    | fail)
  have HR3 : Hid ((w2.setCells w.heap.size 0 (gl.cells false (fun i => i == b.toNat)).toArray.toList).rangeAt w.heap.size 0 (gl.cells false (fun i => i == b.toNat))) := Lib.hid (gl.stored HT2.out _ _)
  refine bodyPost_ret (v := .agg (gl.cells false (fun i => i == b.toNat)).toArray) ?_ rfl ⟨rfl, ?_⟩
  · exact results_one (a := 2) (t := 47) rfl w.heap.size _ _ rfl HR3.out HU.out rfl (gl.sizeL _ _)
  exact below_setCells (Nat.le_refl _) _ _ hb2
end Go.Proofs.Ytldoihbblgnpjaa
