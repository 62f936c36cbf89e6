/- Package cong: what a signal does to the window behind the pointer. No condition. -/
import Derived.Test.YteeaklndkfjahaaCongP
import Derived.Test.YteeaklndkfjahaaOwn2
import Derived.LoopTactic
import Derived.Deep.QuietTactic
import Derived.BigQuiet
namespace Go.Proofs.Yteeaklndkfjahaa
open Go.RowKit

/-- block g holds the window s -/
def CW (w : World) (g : Nat) (s : Width) : Prop := w.heap[g]? = some (.cells #[.int .i64 s.window, .int .i64 s.slow, .int .i64 s.again] 28 (0, 0))
section
variable {w w' : World} {g : Nat} {s : Width}
theorem CW.cells (h : CW w g s) : w.cell? ⟨g, 0, none⟩ = some (.int .i64 s.window) ∧ w.cell? ⟨g, 1, none⟩ = some (.int .i64 s.slow) ∧ w.cell? ⟨g, 2, none⟩ = some (.int .i64 s.again) ∧ (∀ o, w.frozen? ⟨g, o, none⟩ = false) ∧ g < w.heap.size := by
  unfold CW at h
  refine ⟨?_, ?_, ?_, fun o => ?_, (Array.getElem?_eq_some_iff.1 h).1⟩
  · exact cell_of_row w g 0 _ _ _ h
  · exact cell_of_row w g 1 _ _ _ h
  · exact cell_of_row w g 2 _ _ _ h
  · simp [World.frozen?, h]
theorem CW.drewN (h : CW w g s) (n : Nat) : CW (w.drewN n) g s := h
theorem CW.set0 (h : CW w g s) (v : Int) : CW (w.setCell ⟨g, 0, none⟩ (.int .i64 v)) g ⟨v, s.slow, s.again⟩ := heap_setCell_same w g 0 _ _ _ h
theorem CW.set1 (h : CW w g s) (v : Int) : CW (w.setCell ⟨g, 1, none⟩ (.int .i64 v)) g ⟨s.window, v, s.again⟩ := heap_setCell_same w g 1 _ _ _ h
theorem CW.set2 (h : CW w g s) (v : Int) : CW (w.setCell ⟨g, 2, none⟩ (.int .i64 v)) g ⟨s.window, s.slow, v⟩ := heap_setCell_same w g 2 _ _ _ h
theorem only_set {a : World} (h : a.grownBy w (some g)) (o : Nat) (u : Value) : a.grownBy (w.setCell ⟨g, o, none⟩ u) (some g) :=
  ⟨h.os, h.tape, h.output, by simpa [World.setCell] using h.size, fun i hi hne => (Below.heap_setCell w ⟨g, o, none⟩ u i (fun e => hne (by rw [e]))).trans (h.block i hi hne)⟩
theorem only_drewN {a : World} {row : Option Nat} (h : a.grownBy w row) (n : Nat) : a.grownBy (w.drewN n) row := ⟨h.os, h.tape, h.output, h.size, h.block⟩
theorem only_trans {a b c : World} (h : a.grownBy b (some g)) (k : b.grownBy c (some g)) : a.grownBy c (some g) :=
  ⟨k.os.trans h.os, k.tape.trans h.tape, k.output.trans h.output, Nat.le_trans h.size k.size, fun i hi hne => (k.block i (Nat.lt_of_lt_of_le hi h.size) hne).trans (h.block i hi hne)⟩
end

set_option maxHeartbeats 400000 in
theorem cong_wider (g : Nat) (s : Width) (w : World) (h : CW w g s) (h1 : 0 ≤ s.window) (h2 : s.window ≤ 1000) :
    Calls Try.prog 69 #[.pointer (some ⟨g, 0, none⟩)] w fun e w' => e = .returned (.tuple #[]) ∧ w' = w.setCell ⟨g, 0, none⟩ (.int .i64 (min (s.window + 1) 64)) := by
  obtain ⟨c0, c1, c2, cf, cl⟩ := h.cells
  clear h
  obtain ⟨wi, sl, ag⟩ := s
  dsimp only at *
  by_cases hc : wi + 1 ≤ 64
  · rw [show min (wi + 1) 64 = wi + 1 by omega]
    go_enter Try.func69, Try.ntmps69
    go_wp2
    go_end0
    exact ⟨rfl, rfl⟩
  · rw [show min (wi + 1) 64 = 64 by omega]
    go_enter Try.func69, Try.ntmps69
    go_wp2
    go_end0
    exact ⟨rfl, rfl⟩

set_option maxHeartbeats 1000000 in
theorem cong_acked (g : Nat) (s : Width) (w : World) (h : CW w g s) (hg : cng.Good s) :
    Calls Try.prog 44 #[.pointer (some ⟨g, 0, none⟩)] w fun e w' => e = .returned (.tuple #[]) ∧ CW w' g (cng.ack s) ∧ w.grownBy w' (some g) := by
  have H := Lib.hid h
  obtain ⟨c0, c1, c2, cf, cl⟩ := h.cells
  unfold cng.Good at hg
  clear h
  obtain ⟨wi, sl, ag⟩ := s
  dsimp only at *
  by_cases hc : wi < sl
  · have HA : Hid (cng.ack ⟨wi, sl, ag⟩ = ⟨min (wi + 1) 64, sl, ag⟩) := Lib.hid (by unfold cng.ack; rw [if_pos hc])
    go_enter Try.func44, Try.ntmps44
    go_wp2_with fail
    go_quiet (fail)
    go_wp2_with (go_at_call 69; refine (cong_wider g ⟨wi, sl, ag⟩ _ (H.out.drewN _) (by dsimp only; omega) (by dsimp only; omega)).mono ?_; rintro e w' ⟨rfl, rfl⟩)
    refine bodyPost_ret (results_none rfl _ _ _) rfl ⟨rfl, ?_, ?_⟩
    · rw [HA.out]
      exact (H.out.drewN _).set0 _
    · exact only_set (only_drewN (World.grownBy.refl w _) _) _ _
  · have hc' : sl ≤ wi := by omega
    by_cases hd : wi ≤ ag + 1
    · have HA : Hid (cng.ack ⟨wi, sl, ag⟩ = ⟨min (wi + 1) 64, sl, 0⟩) := Lib.hid (by unfold cng.ack; rw [if_neg (by dsimp only; omega), if_pos hd])
      go_enter Try.func44, Try.ntmps44
      go_wp2_with fail
      go_quiet (fail)
      go_wp2_with fail
      go_quiet (fail)
      go_wp2_with (go_at_call 69; refine (cong_wider g ⟨wi, sl, 0⟩ _ (((((H.out.drewN _).set2 _).drewN _)).set2 _) (by dsimp only; omega) (by dsimp only; omega)).mono ?_; rintro e w' ⟨rfl, rfl⟩)
      go_end0
      exact ⟨rfl, by rw [HA.out]; exact ((((H.out.drewN _).set2 _).drewN _).set2 _).set0 _, (by repeat (first | (with_reducible exact World.grownBy.refl _ _) | (with_reducible refine only_set ?_ _ _) | (with_reducible refine only_drewN ?_ _)))⟩
    · have hd' : ag + 1 < wi := by omega
      have HA : Hid (cng.ack ⟨wi, sl, ag⟩ = ⟨wi, sl, ag + 1⟩) := Lib.hid (by unfold cng.ack; rw [if_neg (by dsimp only; omega), if_neg hd])
      go_enter Try.func44, Try.ntmps44
      go_wp2_with fail
      go_quiet (fail)
      go_wp2_with fail
      go_quiet (fail)
      go_wp2_with fail
      go_end0
      exact ⟨rfl, by rw [HA.out]; exact ((H.out.drewN _).set2 _).drewN _, (by repeat (first | (with_reducible exact World.grownBy.refl _ _) | (with_reducible refine only_set ?_ _ _) | (with_reducible refine only_drewN ?_ _)))⟩

set_option maxHeartbeats 1000000 in
theorem cong_lost (g : Nat) (s : Width) (late : Bool) (w : World) (h : CW w g s) (hg : cng.Good s) :
    Calls Try.prog 45 #[.pointer (some ⟨g, 0, none⟩), .bool late] w fun e w' => e = .returned (.tuple #[]) ∧ CW w' g (cng.lost late s) ∧ w.grownBy w' (some g) := by
  have H := Lib.hid h
  obtain ⟨c0, c1, c2, cf, cl⟩ := h.cells
  unfold cng.Good at hg
  clear h
  obtain ⟨wi, sl, ag⟩ := s
  dsimp only at *
  by_cases hc : 2 ≤ wi / 2
  · cases late with
    | true =>
      have HA : Hid (cng.lost true ⟨wi, sl, ag⟩ = ⟨1, wi / 2, 0⟩) := Lib.hid (by simp [cng.lost]; try omega)
      go_enter Try.func45, Try.ntmps45
      go_wp2
      go_end0
      exact ⟨rfl, by rw [HA.out]; exact (((H.out.set1 _).set2 _).set0 _), (by repeat (first | (with_reducible exact World.grownBy.refl _ _) | (with_reducible refine only_set ?_ _ _) | (with_reducible refine only_drewN ?_ _)))⟩
    | false =>
      have HA : Hid (cng.lost false ⟨wi, sl, ag⟩ = ⟨wi / 2, wi / 2, 0⟩) := Lib.hid (by simp [cng.lost]; try omega)
      go_enter Try.func45, Try.ntmps45
      go_wp2
      go_end0
      exact ⟨rfl, by rw [HA.out]; exact (((H.out.set1 _).set2 _).set0 _), (by repeat (first | (with_reducible exact World.grownBy.refl _ _) | (with_reducible refine only_set ?_ _ _) | (with_reducible refine only_drewN ?_ _)))⟩
  · have hc' : wi / 2 < 2 := by omega
    cases late with
    | true =>
      have HA : Hid (cng.lost true ⟨wi, sl, ag⟩ = ⟨1, 2, 0⟩) := Lib.hid (by simp [cng.lost]; try omega)
      go_enter Try.func45, Try.ntmps45
      go_wp2
      go_end0
      exact ⟨rfl, by rw [HA.out]; exact (((H.out.set1 _).set2 _).set0 _), (by repeat (first | (with_reducible exact World.grownBy.refl _ _) | (with_reducible refine only_set ?_ _ _) | (with_reducible refine only_drewN ?_ _)))⟩
    | false =>
      have HA : Hid (cng.lost false ⟨wi, sl, ag⟩ = ⟨2, 2, 0⟩) := Lib.hid (by simp [cng.lost]; try omega)
      go_enter Try.func45, Try.ntmps45
      go_wp2
      go_end0
      exact ⟨rfl, by rw [HA.out]; exact (((H.out.set1 _).set2 _).set0 _), (by repeat (first | (with_reducible exact World.grownBy.refl _ _) | (with_reducible refine only_set ?_ _ _) | (with_reducible refine only_drewN ?_ _)))⟩
end Go.Proofs.Yteeaklndkfjahaa
