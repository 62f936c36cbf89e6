/- Texts in one: Send4, Send5. No condition. -/
import Derived.Test.YtdldfllllgogoaaSendM6
import Derived.Test.YtdldfllllgogoaaSendM3
namespace Go.Proofs.Ytdldfllllgogoaa
open Go.RowKit
set_option linter.unusedSimpArgs false

def TimeRes (w : World) (B F : Nat) (s' : sd.St) (D : Option Addr) (dc : Nat) (M : Option Addr) (mc : Nat) (e : Ending) (w' : World) : Prop :=
  e = .returned (.tuple #[]) ∧ SAt w' B F s' D dc M mc ∧ Stays w w' (fun k => k = F)
set_option maxRecDepth 100000 in
set_option maxHeartbeats 2000000 in
theorem send_timeout (B F : Nat) (s : sd.St) (D : Option Addr) (dc : Nat) (M : Option Addr) (mc : Nat) (w : World) (h : SAt w B F s D dc M mc) (hi : sd.Inv s) :
    Calls Try.prog 48 #[.pointer (some ⟨F, 0, none⟩)] w (TimeRes w B F (sd.timeout s) D dc M mc) := by
  have H := Lib.hid h
  have c2 := h.blk.get 2
  have c5 := h.blk.get 5
  have f5 := h.blk.frozen 5
  simp only [List.getElem?_toArray, List.getElem?_cons_succ, List.getElem?_cons_zero] at c2 c5
  have hF := h.blk.lt
  have hlo := hi.lo
  have hen := hi.end_
  have hed := hi.edge
  have HI1 : Hid (sd.Inv { s with again := s.done }) := Lib.hid ⟨hi.lo, hi.canon, hi.few, hi.hi, hi.size, ⟨hi.lo.1, hi.lo.2.1⟩, hi.edge⟩
  obtain ⟨w1, hw1⟩ : ∃ w1, w1 = w.setCell ⟨F, 5, none⟩ (.int .i64 s.done) := ⟨_, rfl⟩
  have h1 : SAt w1 B F { s with again := s.done } D dc M mc := by rw [hw1]; exact h.putAgain s.done
  have HW1 : Hid (Stays w w1 (fun k => k = F)) := Lib.hid (by rw [hw1]; exact Stays.set _ _ _ _)
  have H1 := Lib.hid h1
  have hF1 := h1.blk.lt
  have b2 := h1.blk.get 2
  have b4 := h1.blk.get 4
  have b6 := h1.blk.get 6
  simp only [List.getElem?_toArray, List.getElem?_cons_succ, List.getElem?_cons_zero] at b2 b4 b6
  have HFI := Lib.hid (fun wz (hb : Below w1.heap.size w1 wz) => send_first B F { s with again := s.done } D dc M mc s.done s.next wz (h1.next hb) HI1.out ⟨hi.lo.1, hi.lo.2.1⟩ (by omega))
  have HEN := Lib.hid (fun wz (hb : Below w1.heap.size w1 wz) => send_end B F { s with again := s.done } D dc M mc wz (h1.next hb) hi.size)
  have hfe : sd.first { s with again := s.done } s.done s.next = sd.first s s.done s.next := rfl
  have hee : sd.endOf { s with again := s.done } = sd.endOf s := rfl
  rw [hfe] at HFI
  rw [hee] at HEN
  obtain ⟨ev, hev⟩ : ∃ ev, ev = if sd.first s s.done s.next = s.next ∧ s.next < sd.endOf s ∧ s.edge ≤ s.next then s.next + 1 else s.edge := ⟨_, rfl⟩
  have HT : Hid (sd.timeout s = { s with again := s.done, edge := ev }) := Lib.hid (by rw [hev]; rfl)
  obtain ⟨dn, hdn⟩ : ∃ dn, s.done = dn := ⟨_, rfl⟩
  obtain ⟨nx, hnx⟩ : ∃ nx, s.next = nx := ⟨_, rfl⟩
  obtain ⟨eg, heg⟩ : ∃ eg, s.edge = eg := ⟨_, rfl⟩
  obtain ⟨fi, hfi⟩ : ∃ fi, sd.first s s.done s.next = fi := ⟨_, rfl⟩
  obtain ⟨en, henn⟩ : ∃ en, sd.endOf s = en := ⟨_, rfl⟩
  rw [hfi, henn, hnx, heg] at hev
  rw [hfi, hdn, hnx] at HFI
  rw [henn] at HEN hlo hen
  rw [hdn] at c2 b2 hlo hw1
  rw [hnx] at b4 hlo
  rw [heg] at b6 hed
  have HDN := Lib.hid hdn
  have HNX := Lib.hid hnx
  have HEND : Hid (∀ wx, Below w1.heap.size w1 wx → eg = (if fi = nx ∧ nx < en ∧ eg ≤ nx then nx + 1 else eg) → TimeRes w B F (sd.timeout s) D dc M mc (.returned (.tuple #[])) wx) := Lib.hid (fun wx hb hv => by
    have e : ev = s.edge := by rw [hev, ← hv, heg]
    rw [HT.out, e]
    exact ⟨rfl, H1.out.next hb, HW1.out.comp (Stays.of_below hb _)⟩)
  have HEND2 : Hid (∀ wx wy, Below w1.heap.size w1 wx → (fi = nx ∧ nx < en ∧ eg ≤ nx) → wy = wx.setCell ⟨F, 6, none⟩ (.int .i64 (nx + 1)) → TimeRes w B F (sd.timeout s) D dc M mc (.returned (.tuple #[])) wy) := Lib.hid (fun wx wy hb hc hy => by
    rw [HT.out, hev, if_pos hc, hy]
    exact ⟨rfl, (H1.out.next hb).putEdge (nx + 1), (HW1.out.comp (Stays.of_below hb _)).comp (Stays.set _ _ _ _)⟩)
  have hf6 : ∀ wx, Below w1.heap.size w1 wx → wx.frozen? ⟨F, 6, none⟩ = false := fun wx hb => (H1.out.next hb).blk.frozen 6
  have HF6 := Lib.hid hf6
  clear h h1 hi hdn hnx heg hfi henn hfe hee HT hf6 hev
  go_enter Try.func48, Try.ntmps48
  go_upto_region 1 with (fail)
  rw [← hw1]
  clear hw1 c2 c5 f5
  by_cases k1 : fi = nx
  · have k1b : (fi == nx) = true := by simpa using k1
    by_cases k2 : nx < en
    · have k2b : decide (nx < en) = true := by simpa using k2
      by_cases k3 : eg ≤ nx
      · have HK := Lib.hid (And.intro k1 (And.intro k2 k3))
        have k3b : decide (eg ≤ nx) = true := by simpa using k3
        clear k1
        --<yy
        refine wp_region_tail [] (fun wx => wx.cell? ⟨F, 2, none⟩ = some (.int .i64 dn) ∧ wx.cell? ⟨F, 4, none⟩ = some (.int .i64 nx) ∧ wx.cell? ⟨F, 6, none⟩ = some (.int .i64 eg)) (by kernel_rfl) (⟨b2, b4, b6⟩) ?_
        intro hHeld
        refine wpAnyT_pure (i := 0) (v := ?_) rfl (by kernel_rfl) (by kernel_rfl) (by kernel_rfl) (fun _ _ _ h => h) (.inl ⟨by kernel_rfl, ?_⟩) (fun _ => hHeld) ?_ (by decide)
        rotate_left
        · intro w9; go_simp; try with_reducible rfl
        try simp only [Act.put, List.getElem_toArray, List.getElem_cons_succ, List.getElem_cons_zero, List.setIfInBounds_toArray, List.set_cons_zero, List.set_cons_succ]
        refine wpAnyT_pure (i := 1) (v := ?_) rfl (by kernel_rfl) (by kernel_rfl) (by kernel_rfl) (fun _ _ _ h => h) (.inl ⟨by kernel_rfl, ?_⟩) (fun _ => hHeld) ?_ (by decide)
        rotate_left
        · intro w9; go_simp; try with_reducible rfl
        try simp only [Act.put, List.getElem_toArray, List.getElem_cons_succ, List.getElem_cons_zero, List.setIfInBounds_toArray, List.set_cons_zero, List.set_cons_succ]
        refine wpAnyT_pure (i := 2) (v := ?_) rfl (by kernel_rfl) (by kernel_rfl) (by kernel_rfl) (fun _ _ _ h => h) (.inl ⟨by kernel_rfl, ?_⟩) (fun _ => hHeld) ?_ (by decide)
        rotate_left
        · intro w9; go_simp; try with_reducible rfl
        try simp only [Act.put, List.getElem_toArray, List.getElem_cons_succ, List.getElem_cons_zero, List.setIfInBounds_toArray, List.set_cons_zero, List.set_cons_succ]
        refine wpAnyT_pure (i := 3) (v := ?_) rfl (by kernel_rfl) (by kernel_rfl) (by kernel_rfl) (fun _ _ _ h => h) (.inl ⟨by kernel_rfl, ?_⟩) (fun _ => hHeld) ?_ (by decide)
        rotate_left
        · intro w9; go_simp; try with_reducible rfl
        try simp only [Act.put, List.getElem_toArray, List.getElem_cons_succ, List.getElem_cons_zero, List.setIfInBounds_toArray, List.set_cons_zero, List.set_cons_succ]
        refine wpAnyT_take (i := 4) [] (v := ?_) rfl (by kernel_rfl) (by kernel_rfl) (by kernel_rfl) (by kernel_rfl) (fun _ _ _ h => h) (.inl ⟨by kernel_rfl, ?_⟩) hHeld ?_
        rotate_left
        · intro w9 hS9; (try dsimp only at hS9); obtain ⟨q1, q2, q3⟩ := hS9; go_simp; try with_reducible rfl
        try simp only [Act.put, List.getElem_toArray, List.getElem_cons_succ, List.getElem_cons_zero, List.setIfInBounds_toArray, List.set_cons_zero, List.set_cons_succ]
        refine wpAnyT_pure (i := 5) (v := ?_) rfl (by kernel_rfl) (by kernel_rfl) (by kernel_rfl) (fun _ _ _ h => h) (.inl ⟨by kernel_rfl, ?_⟩) (fun _ => hHeld) ?_ (by decide)
        rotate_left
        · intro w9; go_simp; try with_reducible rfl
        try simp only [Act.put, List.getElem_toArray, List.getElem_cons_succ, List.getElem_cons_zero, List.setIfInBounds_toArray, List.set_cons_zero, List.set_cons_succ]
        refine wpAnyT_pure (i := 6) (v := ?_) rfl (by kernel_rfl) (by kernel_rfl) (by kernel_rfl) (fun _ _ _ h => h) (.inl ⟨by kernel_rfl, ?_⟩) (fun _ => hHeld) ?_ (by decide)
        rotate_left
        · intro w9; go_simp; try with_reducible rfl
        try simp only [Act.put, List.getElem_toArray, List.getElem_cons_succ, List.getElem_cons_zero, List.setIfInBounds_toArray, List.set_cons_zero, List.set_cons_succ]
        refine wpAnyT_pure (i := 7) (v := ?_) rfl (by kernel_rfl) (by kernel_rfl) (by kernel_rfl) (fun _ _ _ h => h) (.inl ⟨by kernel_rfl, ?_⟩) (fun _ => hHeld) ?_ (by decide)
        rotate_left
        · intro w9; go_simp; try with_reducible rfl
        try simp only [Act.put, List.getElem_toArray, List.getElem_cons_succ, List.getElem_cons_zero, List.setIfInBounds_toArray, List.set_cons_zero, List.set_cons_succ]
        refine wpAnyT_take (i := 8) [] (v := ?_) rfl (by kernel_rfl) (by kernel_rfl) (by kernel_rfl) (by kernel_rfl) (fun _ _ _ h => h) (.inl ⟨by kernel_rfl, ?_⟩) hHeld ?_
        rotate_left
        · intro w9 hS9; (try dsimp only at hS9); obtain ⟨q1, q2, q3⟩ := hS9; go_simp; try with_reducible rfl
        try simp only [Act.put, List.getElem_toArray, List.getElem_cons_succ, List.getElem_cons_zero, List.setIfInBounds_toArray, List.set_cons_zero, List.set_cons_succ]
        refine wpAnyT_pure (i := 10) (v := ?_) rfl (by kernel_rfl) (by kernel_rfl) (by kernel_rfl) (fun _ _ _ h => h) (.inl ⟨by kernel_rfl, ?_⟩) (fun _ => hHeld) ?_ (by decide)
        rotate_left
        · intro w9; go_simp; try with_reducible rfl
        try simp only [Act.put, List.getElem_toArray, List.getElem_cons_succ, List.getElem_cons_zero, List.setIfInBounds_toArray, List.set_cons_zero, List.set_cons_succ]
        refine wpAnyT_pure (i := 11) (v := ?_) rfl (by kernel_rfl) (by kernel_rfl) (by kernel_rfl) (fun _ _ _ h => h) (.inl ⟨by kernel_rfl, ?_⟩) (fun _ => hHeld) ?_ (by decide)
        rotate_left
        · intro w9; go_simp; try with_reducible rfl
        try simp only [Act.put, List.getElem_toArray, List.getElem_cons_succ, List.getElem_cons_zero, List.setIfInBounds_toArray, List.set_cons_zero, List.set_cons_succ]
        refine wpAnyT_pure (i := 12) (v := ?_) rfl (by kernel_rfl) (by kernel_rfl) (by kernel_rfl) (fun _ _ _ h => h) (.inl ⟨by kernel_rfl, ?_⟩) (fun _ => hHeld) ?_ (by decide)
        rotate_left
        · intro w9; go_simp; try with_reducible rfl
        try simp only [Act.put, List.getElem_toArray, List.getElem_cons_succ, List.getElem_cons_zero, List.setIfInBounds_toArray, List.set_cons_zero, List.set_cons_succ]
        refine wpAnyT_take (i := 13) [] (v := ?_) rfl (by kernel_rfl) (by kernel_rfl) (by kernel_rfl) (by kernel_rfl) (fun _ _ _ h => h) (.inl ⟨by kernel_rfl, ?_⟩) hHeld ?_
        rotate_left
        · intro w9 hS9; (try dsimp only at hS9); obtain ⟨q1, q2, q3⟩ := hS9; go_simp; try with_reducible rfl
        try simp only [Act.put, List.getElem_toArray, List.getElem_cons_succ, List.getElem_cons_zero, List.setIfInBounds_toArray, List.set_cons_zero, List.set_cons_succ]
        refine wpAnyT_next (i := 9) (by kernel_rfl) rfl ?_
        intro K hK
        go_simp
        go_at_call 79
        refine (HFI.out _ (by exact (by repeat (first | (with_reducible exact Below.refl _ _) | (with_reducible assumption) | (with_reducible refine bset ?_ ?_ _) | (with_reducible refine balloc ?_ _) | (with_reducible refine Below.drew ?_) | (with_reducible refine bdrewN ?_ _) | (with_reducible refine bnext ?_ (by with_reducible assumption)) | exact Nat.le_refl _ | (simp; done) | omega | (simp; omega))))).mono ?_
        rintro e w4 ⟨rfl, hb4⟩
        have B4 : Below w1.heap.size w1 w4 := (by repeat (first | (with_reducible exact Below.refl _ _) | (with_reducible assumption) | (with_reducible refine bset ?_ ?_ _) | (with_reducible refine balloc ?_ _) | (with_reducible refine Below.drew ?_) | (with_reducible refine bdrewN ?_ _) | (with_reducible refine bnext ?_ (by with_reducible assumption)) | exact Nat.le_refl _ | (simp; done) | omega | (simp; omega)))
        have c2 := (B4.cell (p := ⟨F, 2, none⟩) hF1).trans b2
        have c4 := (B4.cell (p := ⟨F, 4, none⟩) hF1).trans b4
        have c6 := (B4.cell (p := ⟨F, 6, none⟩) hF1).trans b6
        clear hb4
        go_simp
        have hHeld2 := And.intro c2 (And.intro c4 c6)
        refine hK.out _ _ (fun _ => hHeld2) ?_
        clear hK K hHeld
        have hHeld := hHeld2
        clear hHeld2
        try simp only [Act.put, List.getElem_toArray, List.getElem_cons_succ, List.getElem_cons_zero, List.setIfInBounds_toArray, List.set_cons_zero, List.set_cons_succ]
        refine wpAnyT_pure (i := 14) (v := ?_) rfl (by kernel_rfl) (by kernel_rfl) (by kernel_rfl) (fun _ _ _ h => h) (.inl ⟨by kernel_rfl, ?_⟩) (fun _ => hHeld) ?_ (by decide)
        rotate_left
        · intro w9; go_simp; try with_reducible rfl
        try simp only [Act.put, List.getElem_toArray, List.getElem_cons_succ, List.getElem_cons_zero, List.setIfInBounds_toArray, List.set_cons_zero, List.set_cons_succ]
        refine wpAnyT_pure (i := 15) (v := ?_) rfl (by kernel_rfl) (by kernel_rfl) (by kernel_rfl) (fun _ _ _ h => h) (.inl ⟨by kernel_rfl, ?_⟩) (fun _ => hHeld) ?_ (by decide)
        rotate_left
        · intro w9; go_simp; try with_reducible rfl
        try simp only [Act.put, List.getElem_toArray, List.getElem_cons_succ, List.getElem_cons_zero, List.setIfInBounds_toArray, List.set_cons_zero, List.set_cons_succ]
        refine wpAnyT_pure (i := 16) (v := ?_) rfl (by kernel_rfl) (by kernel_rfl) (by kernel_rfl) (fun _ _ _ h => h) (.inl ⟨by kernel_rfl, ?_⟩) (fun _ => hHeld) ?_ (by decide)
        rotate_left
        · intro w9; go_simp; try with_reducible rfl
        try simp only [Act.put, List.getElem_toArray, List.getElem_cons_succ, List.getElem_cons_zero, List.setIfInBounds_toArray, List.set_cons_zero, List.set_cons_succ]
        refine wpAnyT_pure (i := 17) (v := ?_) rfl (by kernel_rfl) (by kernel_rfl) (by kernel_rfl) (fun _ _ _ h => h) (.inl ⟨by kernel_rfl, ?_⟩) (fun _ => hHeld) ?_ (by decide)
        rotate_left
        · intro w9; go_simp; try with_reducible rfl
        try simp only [Act.put, List.getElem_toArray, List.getElem_cons_succ, List.getElem_cons_zero, List.setIfInBounds_toArray, List.set_cons_zero, List.set_cons_succ]
        refine wpAnyT_pure (i := 18) (v := ?_) rfl (by kernel_rfl) (by kernel_rfl) (by kernel_rfl) (fun _ _ _ h => h) (.inl ⟨by kernel_rfl, ?_⟩) (fun _ => hHeld) ?_ (by decide)
        rotate_left
        · intro w9; go_simp; try with_reducible rfl
        try simp only [Act.put, List.getElem_toArray, List.getElem_cons_succ, List.getElem_cons_zero, List.setIfInBounds_toArray, List.set_cons_zero, List.set_cons_succ]
        refine wpAnyT_take (i := 19) [] (v := ?_) rfl (by kernel_rfl) (by kernel_rfl) (by kernel_rfl) (by kernel_rfl) (fun _ _ _ h => h) (.inl ⟨by kernel_rfl, ?_⟩) hHeld ?_
        rotate_left
        · intro w9 hS9; (try dsimp only at hS9); obtain ⟨q1, q2, q3⟩ := hS9; go_simp; try with_reducible rfl
        try simp only [Act.put, List.getElem_toArray, List.getElem_cons_succ, List.getElem_cons_zero, List.setIfInBounds_toArray, List.set_cons_zero, List.set_cons_succ]
        refine wpAnyT_pure (i := 20) (v := ?_) rfl (by kernel_rfl) (by kernel_rfl) (by kernel_rfl) (fun _ _ _ h => h) (.inl ⟨by kernel_rfl, ?_⟩) (fun _ => hHeld) ?_ (by decide)
        rotate_left
        · intro w9; go_simp; try with_reducible rfl
        try simp only [Act.put, List.getElem_toArray, List.getElem_cons_succ, List.getElem_cons_zero, List.setIfInBounds_toArray, List.set_cons_zero, List.set_cons_succ]
        refine wpAnyT_next (i := 21) (by kernel_rfl) rfl ?_
        intro K hK
        go_simp
        go_at_call 80
        refine (HEN.out _ (by exact (by repeat (first | (with_reducible exact Below.refl _ _) | (with_reducible assumption) | (with_reducible refine bset ?_ ?_ _) | (with_reducible refine balloc ?_ _) | (with_reducible refine Below.drew ?_) | (with_reducible refine bdrewN ?_ _) | (with_reducible refine bnext ?_ (by with_reducible assumption)) | exact Nat.le_refl _ | (simp; done) | omega | (simp; omega))))).mono ?_
        rintro e _ ⟨rfl, rfl⟩
        go_simp
        have hHeld2 := And.intro c2 (And.intro c4 c6)
        refine hK.out _ _ (fun _ => hHeld2) ?_
        clear hK K hHeld
        have hHeld := hHeld2
        clear hHeld2
        try simp only [Act.put, List.getElem_toArray, List.getElem_cons_succ, List.getElem_cons_zero, List.setIfInBounds_toArray, List.set_cons_zero, List.set_cons_succ]
        refine wpAnyT_pure (i := 22) (v := ?_) rfl (by kernel_rfl) (by kernel_rfl) (by kernel_rfl) (fun _ _ _ h => h) (.inl ⟨by kernel_rfl, ?_⟩) (fun _ => hHeld) ?_ (by decide)
        rotate_left
        · intro w9; go_simp; try with_reducible rfl
        try simp only [Act.put, List.getElem_toArray, List.getElem_cons_succ, List.getElem_cons_zero, List.setIfInBounds_toArray, List.set_cons_zero, List.set_cons_succ]
        refine wpAnyT_pure (i := 23) (v := ?_) rfl (by kernel_rfl) (by kernel_rfl) (by kernel_rfl) (fun _ _ _ h => h) (.inl ⟨by kernel_rfl, ?_⟩) (fun _ => hHeld) ?_ (by decide)
        rotate_left
        · intro w9; go_simp; try with_reducible rfl
        try simp only [Act.put, List.getElem_toArray, List.getElem_cons_succ, List.getElem_cons_zero, List.setIfInBounds_toArray, List.set_cons_zero, List.set_cons_succ]
        refine wpAnyT_pure (i := 24) (v := ?_) rfl (by kernel_rfl) (by kernel_rfl) (by kernel_rfl) (fun _ _ _ h => h) (.inl ⟨by kernel_rfl, ?_⟩) (fun _ => hHeld) ?_ (by decide)
        rotate_left
        · intro w9; go_simp; try with_reducible rfl
        try simp only [Act.put, List.getElem_toArray, List.getElem_cons_succ, List.getElem_cons_zero, List.setIfInBounds_toArray, List.set_cons_zero, List.set_cons_succ]
        refine wpAnyT_pure (i := 25) (v := ?_) rfl (by kernel_rfl) (by kernel_rfl) (by kernel_rfl) (fun _ _ _ h => h) (.inl ⟨by kernel_rfl, ?_⟩) (fun _ => hHeld) ?_ (by decide)
        rotate_left
        · intro w9; go_simp; try with_reducible rfl
        try simp only [Act.put, List.getElem_toArray, List.getElem_cons_succ, List.getElem_cons_zero, List.setIfInBounds_toArray, List.set_cons_zero, List.set_cons_succ]
        refine wpAnyT_pure (i := 26) (v := ?_) rfl (by kernel_rfl) (by kernel_rfl) (by kernel_rfl) (fun _ _ _ h => h) (.inl ⟨by kernel_rfl, ?_⟩) (fun _ => hHeld) ?_ (by decide)
        rotate_left
        · intro w9; go_simp; try with_reducible rfl
        try simp only [Act.put, List.getElem_toArray, List.getElem_cons_succ, List.getElem_cons_zero, List.setIfInBounds_toArray, List.set_cons_zero, List.set_cons_succ]
        refine wpAnyT_pure (i := 27) (v := ?_) rfl (by kernel_rfl) (by kernel_rfl) (by kernel_rfl) (fun _ _ _ h => h) (.inl ⟨by kernel_rfl, ?_⟩) (fun _ => hHeld) ?_ (by decide)
        rotate_left
        · intro w9; go_simp; try with_reducible rfl
        try simp only [Act.put, List.getElem_toArray, List.getElem_cons_succ, List.getElem_cons_zero, List.setIfInBounds_toArray, List.set_cons_zero, List.set_cons_succ]
        refine wpAnyT_take (i := 28) [] (v := ?_) rfl (by kernel_rfl) (by kernel_rfl) (by kernel_rfl) (by kernel_rfl) (fun _ _ _ h => h) (.inl ⟨by kernel_rfl, ?_⟩) hHeld ?_
        rotate_left
        · intro w9 hS9; (try dsimp only at hS9); obtain ⟨q1, q2, q3⟩ := hS9; go_simp; try with_reducible rfl
        try simp only [Act.put, List.getElem_toArray, List.getElem_cons_succ, List.getElem_cons_zero, List.setIfInBounds_toArray, List.set_cons_zero, List.set_cons_succ]
        refine wpAnyT_pure (i := 29) (v := ?_) rfl (by kernel_rfl) (by kernel_rfl) (by kernel_rfl) (fun _ _ _ h => h) (.inl ⟨by kernel_rfl, ?_⟩) (fun _ => hHeld) ?_ (by decide)
        rotate_left
        · intro w9; go_simp; try with_reducible rfl
        try simp only [Act.put, List.getElem_toArray, List.getElem_cons_succ, List.getElem_cons_zero, List.setIfInBounds_toArray, List.set_cons_zero, List.set_cons_succ]
        refine wpAnyT_pure (i := 30) (v := ?_) rfl (by kernel_rfl) (by kernel_rfl) (by kernel_rfl) (fun _ _ _ h => h) (.inl ⟨by kernel_rfl, ?_⟩) (fun _ => hHeld) ?_ (by decide)
        rotate_left
        · intro w9; go_simp; try with_reducible rfl
        try simp only [Act.put, List.getElem_toArray, List.getElem_cons_succ, List.getElem_cons_zero, List.setIfInBounds_toArray, List.set_cons_zero, List.set_cons_succ]
        refine wpAnyT_pure (i := 31) (v := ?_) rfl (by kernel_rfl) (by kernel_rfl) (by kernel_rfl) (fun _ _ _ h => h) (.inl ⟨by kernel_rfl, ?_⟩) (fun _ => hHeld) ?_ (by decide)
        rotate_left
        · intro w9; go_simp; try with_reducible rfl
        try simp only [Act.put, List.getElem_toArray, List.getElem_cons_succ, List.getElem_cons_zero, List.setIfInBounds_toArray, List.set_cons_zero, List.set_cons_succ]
        refine wpAnyT_take (i := 32) [] (v := ?_) rfl (by kernel_rfl) (by kernel_rfl) (by kernel_rfl) (by kernel_rfl) (fun _ _ _ h => h) (.inl ⟨by kernel_rfl, ?_⟩) hHeld ?_
        rotate_left
        · intro w9 hS9; (try dsimp only at hS9); obtain ⟨q1, q2, q3⟩ := hS9; go_simp; try with_reducible rfl
        try simp only [Act.put, List.getElem_toArray, List.getElem_cons_succ, List.getElem_cons_zero, List.setIfInBounds_toArray, List.set_cons_zero, List.set_cons_succ]
        refine wpAnyT_pure (i := 33) (v := ?_) rfl (by kernel_rfl) (by kernel_rfl) (by kernel_rfl) (fun _ _ _ h => h) (.inl ⟨by kernel_rfl, ?_⟩) (fun _ => hHeld) ?_ (by decide)
        rotate_left
        · intro w9; go_simp; try with_reducible rfl
        try simp only [Act.put, List.getElem_toArray, List.getElem_cons_succ, List.getElem_cons_zero, List.setIfInBounds_toArray, List.set_cons_zero, List.set_cons_succ]
        refine wpAnyT_pure (i := 34) (v := ?_) rfl (by kernel_rfl) (by kernel_rfl) (by kernel_rfl) (fun _ _ _ h => h) (.inl ⟨by kernel_rfl, ?_⟩) (fun _ => hHeld) ?_ (by decide)
        rotate_left
        · intro w9; go_simp; try with_reducible rfl
        try simp only [Act.put, List.getElem_toArray, List.getElem_cons_succ, List.getElem_cons_zero, List.setIfInBounds_toArray, List.set_cons_zero, List.set_cons_succ]
        refine wpAnyT_done (by kernel_rfl) ?_ _
        --yy>
        have f6 := HF6.out w4 B4
        have HB4 := Lib.hid B4
        clear B4
        go_wp2
        go_end0
        exact HEND2.out _ _ (by first | exact HB4.out | exact Below.drew HB4.out) HK.out rfl
      · have HK : Hid (eg = if fi = nx ∧ nx < en ∧ eg ≤ nx then nx + 1 else eg) := Lib.hid (by rw [if_neg (fun e => k3 e.2.2)])
        have k3b : decide (eg ≤ nx) = false := by simpa using k3
        clear k1 k3
        --<yy
        refine wp_region_tail [] (fun wx => wx.cell? ⟨F, 2, none⟩ = some (.int .i64 dn) ∧ wx.cell? ⟨F, 4, none⟩ = some (.int .i64 nx) ∧ wx.cell? ⟨F, 6, none⟩ = some (.int .i64 eg)) (by kernel_rfl) (⟨b2, b4, b6⟩) ?_
        intro hHeld
        refine wpAnyT_pure (i := 0) (v := ?_) rfl (by kernel_rfl) (by kernel_rfl) (by kernel_rfl) (fun _ _ _ h => h) (.inl ⟨by kernel_rfl, ?_⟩) (fun _ => hHeld) ?_ (by decide)
        rotate_left
        · intro w9; go_simp; try with_reducible rfl
        try simp only [Act.put, List.getElem_toArray, List.getElem_cons_succ, List.getElem_cons_zero, List.setIfInBounds_toArray, List.set_cons_zero, List.set_cons_succ]
        refine wpAnyT_pure (i := 1) (v := ?_) rfl (by kernel_rfl) (by kernel_rfl) (by kernel_rfl) (fun _ _ _ h => h) (.inl ⟨by kernel_rfl, ?_⟩) (fun _ => hHeld) ?_ (by decide)
        rotate_left
        · intro w9; go_simp; try with_reducible rfl
        try simp only [Act.put, List.getElem_toArray, List.getElem_cons_succ, List.getElem_cons_zero, List.setIfInBounds_toArray, List.set_cons_zero, List.set_cons_succ]
        refine wpAnyT_pure (i := 2) (v := ?_) rfl (by kernel_rfl) (by kernel_rfl) (by kernel_rfl) (fun _ _ _ h => h) (.inl ⟨by kernel_rfl, ?_⟩) (fun _ => hHeld) ?_ (by decide)
        rotate_left
        · intro w9; go_simp; try with_reducible rfl
        try simp only [Act.put, List.getElem_toArray, List.getElem_cons_succ, List.getElem_cons_zero, List.setIfInBounds_toArray, List.set_cons_zero, List.set_cons_succ]
        refine wpAnyT_pure (i := 3) (v := ?_) rfl (by kernel_rfl) (by kernel_rfl) (by kernel_rfl) (fun _ _ _ h => h) (.inl ⟨by kernel_rfl, ?_⟩) (fun _ => hHeld) ?_ (by decide)
        rotate_left
        · intro w9; go_simp; try with_reducible rfl
        try simp only [Act.put, List.getElem_toArray, List.getElem_cons_succ, List.getElem_cons_zero, List.setIfInBounds_toArray, List.set_cons_zero, List.set_cons_succ]
        refine wpAnyT_take (i := 4) [] (v := ?_) rfl (by kernel_rfl) (by kernel_rfl) (by kernel_rfl) (by kernel_rfl) (fun _ _ _ h => h) (.inl ⟨by kernel_rfl, ?_⟩) hHeld ?_
        rotate_left
        · intro w9 hS9; (try dsimp only at hS9); obtain ⟨q1, q2, q3⟩ := hS9; go_simp; try with_reducible rfl
        try simp only [Act.put, List.getElem_toArray, List.getElem_cons_succ, List.getElem_cons_zero, List.setIfInBounds_toArray, List.set_cons_zero, List.set_cons_succ]
        refine wpAnyT_pure (i := 5) (v := ?_) rfl (by kernel_rfl) (by kernel_rfl) (by kernel_rfl) (fun _ _ _ h => h) (.inl ⟨by kernel_rfl, ?_⟩) (fun _ => hHeld) ?_ (by decide)
        rotate_left
        · intro w9; go_simp; try with_reducible rfl
        try simp only [Act.put, List.getElem_toArray, List.getElem_cons_succ, List.getElem_cons_zero, List.setIfInBounds_toArray, List.set_cons_zero, List.set_cons_succ]
        refine wpAnyT_pure (i := 6) (v := ?_) rfl (by kernel_rfl) (by kernel_rfl) (by kernel_rfl) (fun _ _ _ h => h) (.inl ⟨by kernel_rfl, ?_⟩) (fun _ => hHeld) ?_ (by decide)
        rotate_left
        · intro w9; go_simp; try with_reducible rfl
        try simp only [Act.put, List.getElem_toArray, List.getElem_cons_succ, List.getElem_cons_zero, List.setIfInBounds_toArray, List.set_cons_zero, List.set_cons_succ]
        refine wpAnyT_pure (i := 7) (v := ?_) rfl (by kernel_rfl) (by kernel_rfl) (by kernel_rfl) (fun _ _ _ h => h) (.inl ⟨by kernel_rfl, ?_⟩) (fun _ => hHeld) ?_ (by decide)
        rotate_left
        · intro w9; go_simp; try with_reducible rfl
        try simp only [Act.put, List.getElem_toArray, List.getElem_cons_succ, List.getElem_cons_zero, List.setIfInBounds_toArray, List.set_cons_zero, List.set_cons_succ]
        refine wpAnyT_take (i := 8) [] (v := ?_) rfl (by kernel_rfl) (by kernel_rfl) (by kernel_rfl) (by kernel_rfl) (fun _ _ _ h => h) (.inl ⟨by kernel_rfl, ?_⟩) hHeld ?_
        rotate_left
        · intro w9 hS9; (try dsimp only at hS9); obtain ⟨q1, q2, q3⟩ := hS9; go_simp; try with_reducible rfl
        try simp only [Act.put, List.getElem_toArray, List.getElem_cons_succ, List.getElem_cons_zero, List.setIfInBounds_toArray, List.set_cons_zero, List.set_cons_succ]
        refine wpAnyT_pure (i := 10) (v := ?_) rfl (by kernel_rfl) (by kernel_rfl) (by kernel_rfl) (fun _ _ _ h => h) (.inl ⟨by kernel_rfl, ?_⟩) (fun _ => hHeld) ?_ (by decide)
        rotate_left
        · intro w9; go_simp; try with_reducible rfl
        try simp only [Act.put, List.getElem_toArray, List.getElem_cons_succ, List.getElem_cons_zero, List.setIfInBounds_toArray, List.set_cons_zero, List.set_cons_succ]
        refine wpAnyT_pure (i := 11) (v := ?_) rfl (by kernel_rfl) (by kernel_rfl) (by kernel_rfl) (fun _ _ _ h => h) (.inl ⟨by kernel_rfl, ?_⟩) (fun _ => hHeld) ?_ (by decide)
        rotate_left
        · intro w9; go_simp; try with_reducible rfl
        try simp only [Act.put, List.getElem_toArray, List.getElem_cons_succ, List.getElem_cons_zero, List.setIfInBounds_toArray, List.set_cons_zero, List.set_cons_succ]
        refine wpAnyT_pure (i := 12) (v := ?_) rfl (by kernel_rfl) (by kernel_rfl) (by kernel_rfl) (fun _ _ _ h => h) (.inl ⟨by kernel_rfl, ?_⟩) (fun _ => hHeld) ?_ (by decide)
        rotate_left
        · intro w9; go_simp; try with_reducible rfl
        try simp only [Act.put, List.getElem_toArray, List.getElem_cons_succ, List.getElem_cons_zero, List.setIfInBounds_toArray, List.set_cons_zero, List.set_cons_succ]
        refine wpAnyT_take (i := 13) [] (v := ?_) rfl (by kernel_rfl) (by kernel_rfl) (by kernel_rfl) (by kernel_rfl) (fun _ _ _ h => h) (.inl ⟨by kernel_rfl, ?_⟩) hHeld ?_
        rotate_left
        · intro w9 hS9; (try dsimp only at hS9); obtain ⟨q1, q2, q3⟩ := hS9; go_simp; try with_reducible rfl
        try simp only [Act.put, List.getElem_toArray, List.getElem_cons_succ, List.getElem_cons_zero, List.setIfInBounds_toArray, List.set_cons_zero, List.set_cons_succ]
        refine wpAnyT_next (i := 9) (by kernel_rfl) rfl ?_
        intro K hK
        go_simp
        go_at_call 79
        refine (HFI.out _ (by exact (by repeat (first | (with_reducible exact Below.refl _ _) | (with_reducible assumption) | (with_reducible refine bset ?_ ?_ _) | (with_reducible refine balloc ?_ _) | (with_reducible refine Below.drew ?_) | (with_reducible refine bdrewN ?_ _) | (with_reducible refine bnext ?_ (by with_reducible assumption)) | exact Nat.le_refl _ | (simp; done) | omega | (simp; omega))))).mono ?_
        rintro e w4 ⟨rfl, hb4⟩
        have B4 : Below w1.heap.size w1 w4 := (by repeat (first | (with_reducible exact Below.refl _ _) | (with_reducible assumption) | (with_reducible refine bset ?_ ?_ _) | (with_reducible refine balloc ?_ _) | (with_reducible refine Below.drew ?_) | (with_reducible refine bdrewN ?_ _) | (with_reducible refine bnext ?_ (by with_reducible assumption)) | exact Nat.le_refl _ | (simp; done) | omega | (simp; omega)))
        have c2 := (B4.cell (p := ⟨F, 2, none⟩) hF1).trans b2
        have c4 := (B4.cell (p := ⟨F, 4, none⟩) hF1).trans b4
        have c6 := (B4.cell (p := ⟨F, 6, none⟩) hF1).trans b6
        clear hb4
        go_simp
        have hHeld2 := And.intro c2 (And.intro c4 c6)
        refine hK.out _ _ (fun _ => hHeld2) ?_
        clear hK K hHeld
        have hHeld := hHeld2
        clear hHeld2
        try simp only [Act.put, List.getElem_toArray, List.getElem_cons_succ, List.getElem_cons_zero, List.setIfInBounds_toArray, List.set_cons_zero, List.set_cons_succ]
        refine wpAnyT_pure (i := 14) (v := ?_) rfl (by kernel_rfl) (by kernel_rfl) (by kernel_rfl) (fun _ _ _ h => h) (.inl ⟨by kernel_rfl, ?_⟩) (fun _ => hHeld) ?_ (by decide)
        rotate_left
        · intro w9; go_simp; try with_reducible rfl
        try simp only [Act.put, List.getElem_toArray, List.getElem_cons_succ, List.getElem_cons_zero, List.setIfInBounds_toArray, List.set_cons_zero, List.set_cons_succ]
        refine wpAnyT_pure (i := 15) (v := ?_) rfl (by kernel_rfl) (by kernel_rfl) (by kernel_rfl) (fun _ _ _ h => h) (.inl ⟨by kernel_rfl, ?_⟩) (fun _ => hHeld) ?_ (by decide)
        rotate_left
        · intro w9; go_simp; try with_reducible rfl
        try simp only [Act.put, List.getElem_toArray, List.getElem_cons_succ, List.getElem_cons_zero, List.setIfInBounds_toArray, List.set_cons_zero, List.set_cons_succ]
        refine wpAnyT_pure (i := 16) (v := ?_) rfl (by kernel_rfl) (by kernel_rfl) (by kernel_rfl) (fun _ _ _ h => h) (.inl ⟨by kernel_rfl, ?_⟩) (fun _ => hHeld) ?_ (by decide)
        rotate_left
        · intro w9; go_simp; try with_reducible rfl
        try simp only [Act.put, List.getElem_toArray, List.getElem_cons_succ, List.getElem_cons_zero, List.setIfInBounds_toArray, List.set_cons_zero, List.set_cons_succ]
        refine wpAnyT_pure (i := 17) (v := ?_) rfl (by kernel_rfl) (by kernel_rfl) (by kernel_rfl) (fun _ _ _ h => h) (.inl ⟨by kernel_rfl, ?_⟩) (fun _ => hHeld) ?_ (by decide)
        rotate_left
        · intro w9; go_simp; try with_reducible rfl
        try simp only [Act.put, List.getElem_toArray, List.getElem_cons_succ, List.getElem_cons_zero, List.setIfInBounds_toArray, List.set_cons_zero, List.set_cons_succ]
        refine wpAnyT_pure (i := 18) (v := ?_) rfl (by kernel_rfl) (by kernel_rfl) (by kernel_rfl) (fun _ _ _ h => h) (.inl ⟨by kernel_rfl, ?_⟩) (fun _ => hHeld) ?_ (by decide)
        rotate_left
        · intro w9; go_simp; try with_reducible rfl
        try simp only [Act.put, List.getElem_toArray, List.getElem_cons_succ, List.getElem_cons_zero, List.setIfInBounds_toArray, List.set_cons_zero, List.set_cons_succ]
        refine wpAnyT_take (i := 19) [] (v := ?_) rfl (by kernel_rfl) (by kernel_rfl) (by kernel_rfl) (by kernel_rfl) (fun _ _ _ h => h) (.inl ⟨by kernel_rfl, ?_⟩) hHeld ?_
        rotate_left
        · intro w9 hS9; (try dsimp only at hS9); obtain ⟨q1, q2, q3⟩ := hS9; go_simp; try with_reducible rfl
        try simp only [Act.put, List.getElem_toArray, List.getElem_cons_succ, List.getElem_cons_zero, List.setIfInBounds_toArray, List.set_cons_zero, List.set_cons_succ]
        refine wpAnyT_pure (i := 20) (v := ?_) rfl (by kernel_rfl) (by kernel_rfl) (by kernel_rfl) (fun _ _ _ h => h) (.inl ⟨by kernel_rfl, ?_⟩) (fun _ => hHeld) ?_ (by decide)
        rotate_left
        · intro w9; go_simp; try with_reducible rfl
        try simp only [Act.put, List.getElem_toArray, List.getElem_cons_succ, List.getElem_cons_zero, List.setIfInBounds_toArray, List.set_cons_zero, List.set_cons_succ]
        refine wpAnyT_next (i := 21) (by kernel_rfl) rfl ?_
        intro K hK
        go_simp
        go_at_call 80
        refine (HEN.out _ (by exact (by repeat (first | (with_reducible exact Below.refl _ _) | (with_reducible assumption) | (with_reducible refine bset ?_ ?_ _) | (with_reducible refine balloc ?_ _) | (with_reducible refine Below.drew ?_) | (with_reducible refine bdrewN ?_ _) | (with_reducible refine bnext ?_ (by with_reducible assumption)) | exact Nat.le_refl _ | (simp; done) | omega | (simp; omega))))).mono ?_
        rintro e _ ⟨rfl, rfl⟩
        go_simp
        have hHeld2 := And.intro c2 (And.intro c4 c6)
        refine hK.out _ _ (fun _ => hHeld2) ?_
        clear hK K hHeld
        have hHeld := hHeld2
        clear hHeld2
        try simp only [Act.put, List.getElem_toArray, List.getElem_cons_succ, List.getElem_cons_zero, List.setIfInBounds_toArray, List.set_cons_zero, List.set_cons_succ]
        refine wpAnyT_pure (i := 22) (v := ?_) rfl (by kernel_rfl) (by kernel_rfl) (by kernel_rfl) (fun _ _ _ h => h) (.inl ⟨by kernel_rfl, ?_⟩) (fun _ => hHeld) ?_ (by decide)
        rotate_left
        · intro w9; go_simp; try with_reducible rfl
        try simp only [Act.put, List.getElem_toArray, List.getElem_cons_succ, List.getElem_cons_zero, List.setIfInBounds_toArray, List.set_cons_zero, List.set_cons_succ]
        refine wpAnyT_pure (i := 23) (v := ?_) rfl (by kernel_rfl) (by kernel_rfl) (by kernel_rfl) (fun _ _ _ h => h) (.inl ⟨by kernel_rfl, ?_⟩) (fun _ => hHeld) ?_ (by decide)
        rotate_left
        · intro w9; go_simp; try with_reducible rfl
        try simp only [Act.put, List.getElem_toArray, List.getElem_cons_succ, List.getElem_cons_zero, List.setIfInBounds_toArray, List.set_cons_zero, List.set_cons_succ]
        refine wpAnyT_pure (i := 24) (v := ?_) rfl (by kernel_rfl) (by kernel_rfl) (by kernel_rfl) (fun _ _ _ h => h) (.inl ⟨by kernel_rfl, ?_⟩) (fun _ => hHeld) ?_ (by decide)
        rotate_left
        · intro w9; go_simp; try with_reducible rfl
        try simp only [Act.put, List.getElem_toArray, List.getElem_cons_succ, List.getElem_cons_zero, List.setIfInBounds_toArray, List.set_cons_zero, List.set_cons_succ]
        refine wpAnyT_pure (i := 25) (v := ?_) rfl (by kernel_rfl) (by kernel_rfl) (by kernel_rfl) (fun _ _ _ h => h) (.inl ⟨by kernel_rfl, ?_⟩) (fun _ => hHeld) ?_ (by decide)
        rotate_left
        · intro w9; go_simp; try with_reducible rfl
        try simp only [Act.put, List.getElem_toArray, List.getElem_cons_succ, List.getElem_cons_zero, List.setIfInBounds_toArray, List.set_cons_zero, List.set_cons_succ]
        refine wpAnyT_pure (i := 26) (v := ?_) rfl (by kernel_rfl) (by kernel_rfl) (by kernel_rfl) (fun _ _ _ h => h) (.inl ⟨by kernel_rfl, ?_⟩) (fun _ => hHeld) ?_ (by decide)
        rotate_left
        · intro w9; go_simp; try with_reducible rfl
        try simp only [Act.put, List.getElem_toArray, List.getElem_cons_succ, List.getElem_cons_zero, List.setIfInBounds_toArray, List.set_cons_zero, List.set_cons_succ]
        refine wpAnyT_pure (i := 27) (v := ?_) rfl (by kernel_rfl) (by kernel_rfl) (by kernel_rfl) (fun _ _ _ h => h) (.inl ⟨by kernel_rfl, ?_⟩) (fun _ => hHeld) ?_ (by decide)
        rotate_left
        · intro w9; go_simp; try with_reducible rfl
        try simp only [Act.put, List.getElem_toArray, List.getElem_cons_succ, List.getElem_cons_zero, List.setIfInBounds_toArray, List.set_cons_zero, List.set_cons_succ]
        refine wpAnyT_take (i := 28) [] (v := ?_) rfl (by kernel_rfl) (by kernel_rfl) (by kernel_rfl) (by kernel_rfl) (fun _ _ _ h => h) (.inl ⟨by kernel_rfl, ?_⟩) hHeld ?_
        rotate_left
        · intro w9 hS9; (try dsimp only at hS9); obtain ⟨q1, q2, q3⟩ := hS9; go_simp; try with_reducible rfl
        try simp only [Act.put, List.getElem_toArray, List.getElem_cons_succ, List.getElem_cons_zero, List.setIfInBounds_toArray, List.set_cons_zero, List.set_cons_succ]
        refine wpAnyT_pure (i := 29) (v := ?_) rfl (by kernel_rfl) (by kernel_rfl) (by kernel_rfl) (fun _ _ _ h => h) (.inl ⟨by kernel_rfl, ?_⟩) (fun _ => hHeld) ?_ (by decide)
        rotate_left
        · intro w9; go_simp; try with_reducible rfl
        try simp only [Act.put, List.getElem_toArray, List.getElem_cons_succ, List.getElem_cons_zero, List.setIfInBounds_toArray, List.set_cons_zero, List.set_cons_succ]
        refine wpAnyT_pure (i := 30) (v := ?_) rfl (by kernel_rfl) (by kernel_rfl) (by kernel_rfl) (fun _ _ _ h => h) (.inl ⟨by kernel_rfl, ?_⟩) (fun _ => hHeld) ?_ (by decide)
        rotate_left
        · intro w9; go_simp; try with_reducible rfl
        try simp only [Act.put, List.getElem_toArray, List.getElem_cons_succ, List.getElem_cons_zero, List.setIfInBounds_toArray, List.set_cons_zero, List.set_cons_succ]
        refine wpAnyT_pure (i := 31) (v := ?_) rfl (by kernel_rfl) (by kernel_rfl) (by kernel_rfl) (fun _ _ _ h => h) (.inl ⟨by kernel_rfl, ?_⟩) (fun _ => hHeld) ?_ (by decide)
        rotate_left
        · intro w9; go_simp; try with_reducible rfl
        try simp only [Act.put, List.getElem_toArray, List.getElem_cons_succ, List.getElem_cons_zero, List.setIfInBounds_toArray, List.set_cons_zero, List.set_cons_succ]
        refine wpAnyT_take (i := 32) [] (v := ?_) rfl (by kernel_rfl) (by kernel_rfl) (by kernel_rfl) (by kernel_rfl) (fun _ _ _ h => h) (.inl ⟨by kernel_rfl, ?_⟩) hHeld ?_
        rotate_left
        · intro w9 hS9; (try dsimp only at hS9); obtain ⟨q1, q2, q3⟩ := hS9; go_simp; try with_reducible rfl
        try simp only [Act.put, List.getElem_toArray, List.getElem_cons_succ, List.getElem_cons_zero, List.setIfInBounds_toArray, List.set_cons_zero, List.set_cons_succ]
        refine wpAnyT_pure (i := 33) (v := ?_) rfl (by kernel_rfl) (by kernel_rfl) (by kernel_rfl) (fun _ _ _ h => h) (.inl ⟨by kernel_rfl, ?_⟩) (fun _ => hHeld) ?_ (by decide)
        rotate_left
        · intro w9; go_simp; try with_reducible rfl
        try simp only [Act.put, List.getElem_toArray, List.getElem_cons_succ, List.getElem_cons_zero, List.setIfInBounds_toArray, List.set_cons_zero, List.set_cons_succ]
        refine wpAnyT_pure (i := 34) (v := ?_) rfl (by kernel_rfl) (by kernel_rfl) (by kernel_rfl) (fun _ _ _ h => h) (.inl ⟨by kernel_rfl, ?_⟩) (fun _ => hHeld) ?_ (by decide)
        rotate_left
        · intro w9; go_simp; try with_reducible rfl
        try simp only [Act.put, List.getElem_toArray, List.getElem_cons_succ, List.getElem_cons_zero, List.setIfInBounds_toArray, List.set_cons_zero, List.set_cons_succ]
        refine wpAnyT_done (by kernel_rfl) ?_ _
        --yy>
        have HB4 := Lib.hid B4
        clear B4
        go_wp2
        go_end0
        exact HEND.out _ (by first | exact HB4.out | exact Below.drew HB4.out) HK.out
    · have HK : Hid (eg = if fi = nx ∧ nx < en ∧ eg ≤ nx then nx + 1 else eg) := Lib.hid (by rw [if_neg (fun e => k2 e.2.1)])
      have k2b : decide (nx < en) = false := by simpa using k2
      clear k1 k2
      --<yn
      refine wp_region_tail [] (fun wx => wx.cell? ⟨F, 2, none⟩ = some (.int .i64 dn) ∧ wx.cell? ⟨F, 4, none⟩ = some (.int .i64 nx) ∧ wx.cell? ⟨F, 6, none⟩ = some (.int .i64 eg)) (by kernel_rfl) (⟨b2, b4, b6⟩) ?_
      intro hHeld
      refine wpAnyT_pure (i := 0) (v := ?_) rfl (by kernel_rfl) (by kernel_rfl) (by kernel_rfl) (fun _ _ _ h => h) (.inl ⟨by kernel_rfl, ?_⟩) (fun _ => hHeld) ?_ (by decide)
      rotate_left
      · intro w9; go_simp; try with_reducible rfl
      try simp only [Act.put, List.getElem_toArray, List.getElem_cons_succ, List.getElem_cons_zero, List.setIfInBounds_toArray, List.set_cons_zero, List.set_cons_succ]
      refine wpAnyT_pure (i := 1) (v := ?_) rfl (by kernel_rfl) (by kernel_rfl) (by kernel_rfl) (fun _ _ _ h => h) (.inl ⟨by kernel_rfl, ?_⟩) (fun _ => hHeld) ?_ (by decide)
      rotate_left
      · intro w9; go_simp; try with_reducible rfl
      try simp only [Act.put, List.getElem_toArray, List.getElem_cons_succ, List.getElem_cons_zero, List.setIfInBounds_toArray, List.set_cons_zero, List.set_cons_succ]
      refine wpAnyT_pure (i := 2) (v := ?_) rfl (by kernel_rfl) (by kernel_rfl) (by kernel_rfl) (fun _ _ _ h => h) (.inl ⟨by kernel_rfl, ?_⟩) (fun _ => hHeld) ?_ (by decide)
      rotate_left
      · intro w9; go_simp; try with_reducible rfl
      try simp only [Act.put, List.getElem_toArray, List.getElem_cons_succ, List.getElem_cons_zero, List.setIfInBounds_toArray, List.set_cons_zero, List.set_cons_succ]
      refine wpAnyT_pure (i := 3) (v := ?_) rfl (by kernel_rfl) (by kernel_rfl) (by kernel_rfl) (fun _ _ _ h => h) (.inl ⟨by kernel_rfl, ?_⟩) (fun _ => hHeld) ?_ (by decide)
      rotate_left
      · intro w9; go_simp; try with_reducible rfl
      try simp only [Act.put, List.getElem_toArray, List.getElem_cons_succ, List.getElem_cons_zero, List.setIfInBounds_toArray, List.set_cons_zero, List.set_cons_succ]
      refine wpAnyT_take (i := 4) [] (v := ?_) rfl (by kernel_rfl) (by kernel_rfl) (by kernel_rfl) (by kernel_rfl) (fun _ _ _ h => h) (.inl ⟨by kernel_rfl, ?_⟩) hHeld ?_
      rotate_left
      · intro w9 hS9; (try dsimp only at hS9); obtain ⟨q1, q2, q3⟩ := hS9; go_simp; try with_reducible rfl
      try simp only [Act.put, List.getElem_toArray, List.getElem_cons_succ, List.getElem_cons_zero, List.setIfInBounds_toArray, List.set_cons_zero, List.set_cons_succ]
      refine wpAnyT_pure (i := 5) (v := ?_) rfl (by kernel_rfl) (by kernel_rfl) (by kernel_rfl) (fun _ _ _ h => h) (.inl ⟨by kernel_rfl, ?_⟩) (fun _ => hHeld) ?_ (by decide)
      rotate_left
      · intro w9; go_simp; try with_reducible rfl
      try simp only [Act.put, List.getElem_toArray, List.getElem_cons_succ, List.getElem_cons_zero, List.setIfInBounds_toArray, List.set_cons_zero, List.set_cons_succ]
      refine wpAnyT_pure (i := 6) (v := ?_) rfl (by kernel_rfl) (by kernel_rfl) (by kernel_rfl) (fun _ _ _ h => h) (.inl ⟨by kernel_rfl, ?_⟩) (fun _ => hHeld) ?_ (by decide)
      rotate_left
      · intro w9; go_simp; try with_reducible rfl
      try simp only [Act.put, List.getElem_toArray, List.getElem_cons_succ, List.getElem_cons_zero, List.setIfInBounds_toArray, List.set_cons_zero, List.set_cons_succ]
      refine wpAnyT_pure (i := 7) (v := ?_) rfl (by kernel_rfl) (by kernel_rfl) (by kernel_rfl) (fun _ _ _ h => h) (.inl ⟨by kernel_rfl, ?_⟩) (fun _ => hHeld) ?_ (by decide)
      rotate_left
      · intro w9; go_simp; try with_reducible rfl
      try simp only [Act.put, List.getElem_toArray, List.getElem_cons_succ, List.getElem_cons_zero, List.setIfInBounds_toArray, List.set_cons_zero, List.set_cons_succ]
      refine wpAnyT_take (i := 8) [] (v := ?_) rfl (by kernel_rfl) (by kernel_rfl) (by kernel_rfl) (by kernel_rfl) (fun _ _ _ h => h) (.inl ⟨by kernel_rfl, ?_⟩) hHeld ?_
      rotate_left
      · intro w9 hS9; (try dsimp only at hS9); obtain ⟨q1, q2, q3⟩ := hS9; go_simp; try with_reducible rfl
      try simp only [Act.put, List.getElem_toArray, List.getElem_cons_succ, List.getElem_cons_zero, List.setIfInBounds_toArray, List.set_cons_zero, List.set_cons_succ]
      refine wpAnyT_pure (i := 10) (v := ?_) rfl (by kernel_rfl) (by kernel_rfl) (by kernel_rfl) (fun _ _ _ h => h) (.inl ⟨by kernel_rfl, ?_⟩) (fun _ => hHeld) ?_ (by decide)
      rotate_left
      · intro w9; go_simp; try with_reducible rfl
      try simp only [Act.put, List.getElem_toArray, List.getElem_cons_succ, List.getElem_cons_zero, List.setIfInBounds_toArray, List.set_cons_zero, List.set_cons_succ]
      refine wpAnyT_pure (i := 11) (v := ?_) rfl (by kernel_rfl) (by kernel_rfl) (by kernel_rfl) (fun _ _ _ h => h) (.inl ⟨by kernel_rfl, ?_⟩) (fun _ => hHeld) ?_ (by decide)
      rotate_left
      · intro w9; go_simp; try with_reducible rfl
      try simp only [Act.put, List.getElem_toArray, List.getElem_cons_succ, List.getElem_cons_zero, List.setIfInBounds_toArray, List.set_cons_zero, List.set_cons_succ]
      refine wpAnyT_pure (i := 12) (v := ?_) rfl (by kernel_rfl) (by kernel_rfl) (by kernel_rfl) (fun _ _ _ h => h) (.inl ⟨by kernel_rfl, ?_⟩) (fun _ => hHeld) ?_ (by decide)
      rotate_left
      · intro w9; go_simp; try with_reducible rfl
      try simp only [Act.put, List.getElem_toArray, List.getElem_cons_succ, List.getElem_cons_zero, List.setIfInBounds_toArray, List.set_cons_zero, List.set_cons_succ]
      refine wpAnyT_take (i := 13) [] (v := ?_) rfl (by kernel_rfl) (by kernel_rfl) (by kernel_rfl) (by kernel_rfl) (fun _ _ _ h => h) (.inl ⟨by kernel_rfl, ?_⟩) hHeld ?_
      rotate_left
      · intro w9 hS9; (try dsimp only at hS9); obtain ⟨q1, q2, q3⟩ := hS9; go_simp; try with_reducible rfl
      try simp only [Act.put, List.getElem_toArray, List.getElem_cons_succ, List.getElem_cons_zero, List.setIfInBounds_toArray, List.set_cons_zero, List.set_cons_succ]
      refine wpAnyT_next (i := 9) (by kernel_rfl) rfl ?_
      intro K hK
      go_simp
      go_at_call 79
      refine (HFI.out _ (by exact (by repeat (first | (with_reducible exact Below.refl _ _) | (with_reducible assumption) | (with_reducible refine bset ?_ ?_ _) | (with_reducible refine balloc ?_ _) | (with_reducible refine Below.drew ?_) | (with_reducible refine bdrewN ?_ _) | (with_reducible refine bnext ?_ (by with_reducible assumption)) | exact Nat.le_refl _ | (simp; done) | omega | (simp; omega))))).mono ?_
      rintro e w4 ⟨rfl, hb4⟩
      have B4 : Below w1.heap.size w1 w4 := (by repeat (first | (with_reducible exact Below.refl _ _) | (with_reducible assumption) | (with_reducible refine bset ?_ ?_ _) | (with_reducible refine balloc ?_ _) | (with_reducible refine Below.drew ?_) | (with_reducible refine bdrewN ?_ _) | (with_reducible refine bnext ?_ (by with_reducible assumption)) | exact Nat.le_refl _ | (simp; done) | omega | (simp; omega)))
      have c2 := (B4.cell (p := ⟨F, 2, none⟩) hF1).trans b2
      have c4 := (B4.cell (p := ⟨F, 4, none⟩) hF1).trans b4
      have c6 := (B4.cell (p := ⟨F, 6, none⟩) hF1).trans b6
      clear hb4
      go_simp
      have hHeld2 := And.intro c2 (And.intro c4 c6)
      refine hK.out _ _ (fun _ => hHeld2) ?_
      clear hK K hHeld
      have hHeld := hHeld2
      clear hHeld2
      try simp only [Act.put, List.getElem_toArray, List.getElem_cons_succ, List.getElem_cons_zero, List.setIfInBounds_toArray, List.set_cons_zero, List.set_cons_succ]
      refine wpAnyT_pure (i := 14) (v := ?_) rfl (by kernel_rfl) (by kernel_rfl) (by kernel_rfl) (fun _ _ _ h => h) (.inl ⟨by kernel_rfl, ?_⟩) (fun _ => hHeld) ?_ (by decide)
      rotate_left
      · intro w9; go_simp; try with_reducible rfl
      try simp only [Act.put, List.getElem_toArray, List.getElem_cons_succ, List.getElem_cons_zero, List.setIfInBounds_toArray, List.set_cons_zero, List.set_cons_succ]
      refine wpAnyT_pure (i := 15) (v := ?_) rfl (by kernel_rfl) (by kernel_rfl) (by kernel_rfl) (fun _ _ _ h => h) (.inl ⟨by kernel_rfl, ?_⟩) (fun _ => hHeld) ?_ (by decide)
      rotate_left
      · intro w9; go_simp; try with_reducible rfl
      try simp only [Act.put, List.getElem_toArray, List.getElem_cons_succ, List.getElem_cons_zero, List.setIfInBounds_toArray, List.set_cons_zero, List.set_cons_succ]
      refine wpAnyT_pure (i := 16) (v := ?_) rfl (by kernel_rfl) (by kernel_rfl) (by kernel_rfl) (fun _ _ _ h => h) (.inl ⟨by kernel_rfl, ?_⟩) (fun _ => hHeld) ?_ (by decide)
      rotate_left
      · intro w9; go_simp; try with_reducible rfl
      try simp only [Act.put, List.getElem_toArray, List.getElem_cons_succ, List.getElem_cons_zero, List.setIfInBounds_toArray, List.set_cons_zero, List.set_cons_succ]
      refine wpAnyT_pure (i := 17) (v := ?_) rfl (by kernel_rfl) (by kernel_rfl) (by kernel_rfl) (fun _ _ _ h => h) (.inl ⟨by kernel_rfl, ?_⟩) (fun _ => hHeld) ?_ (by decide)
      rotate_left
      · intro w9; go_simp; try with_reducible rfl
      try simp only [Act.put, List.getElem_toArray, List.getElem_cons_succ, List.getElem_cons_zero, List.setIfInBounds_toArray, List.set_cons_zero, List.set_cons_succ]
      refine wpAnyT_pure (i := 18) (v := ?_) rfl (by kernel_rfl) (by kernel_rfl) (by kernel_rfl) (fun _ _ _ h => h) (.inl ⟨by kernel_rfl, ?_⟩) (fun _ => hHeld) ?_ (by decide)
      rotate_left
      · intro w9; go_simp; try with_reducible rfl
      try simp only [Act.put, List.getElem_toArray, List.getElem_cons_succ, List.getElem_cons_zero, List.setIfInBounds_toArray, List.set_cons_zero, List.set_cons_succ]
      refine wpAnyT_take (i := 19) [] (v := ?_) rfl (by kernel_rfl) (by kernel_rfl) (by kernel_rfl) (by kernel_rfl) (fun _ _ _ h => h) (.inl ⟨by kernel_rfl, ?_⟩) hHeld ?_
      rotate_left
      · intro w9 hS9; (try dsimp only at hS9); obtain ⟨q1, q2, q3⟩ := hS9; go_simp; try with_reducible rfl
      try simp only [Act.put, List.getElem_toArray, List.getElem_cons_succ, List.getElem_cons_zero, List.setIfInBounds_toArray, List.set_cons_zero, List.set_cons_succ]
      refine wpAnyT_pure (i := 20) (v := ?_) rfl (by kernel_rfl) (by kernel_rfl) (by kernel_rfl) (fun _ _ _ h => h) (.inl ⟨by kernel_rfl, ?_⟩) (fun _ => hHeld) ?_ (by decide)
      rotate_left
      · intro w9; go_simp; try with_reducible rfl
      try simp only [Act.put, List.getElem_toArray, List.getElem_cons_succ, List.getElem_cons_zero, List.setIfInBounds_toArray, List.set_cons_zero, List.set_cons_succ]
      refine wpAnyT_next (i := 21) (by kernel_rfl) rfl ?_
      intro K hK
      go_simp
      go_at_call 80
      refine (HEN.out _ (by exact (by repeat (first | (with_reducible exact Below.refl _ _) | (with_reducible assumption) | (with_reducible refine bset ?_ ?_ _) | (with_reducible refine balloc ?_ _) | (with_reducible refine Below.drew ?_) | (with_reducible refine bdrewN ?_ _) | (with_reducible refine bnext ?_ (by with_reducible assumption)) | exact Nat.le_refl _ | (simp; done) | omega | (simp; omega))))).mono ?_
      rintro e _ ⟨rfl, rfl⟩
      go_simp
      have hHeld2 := And.intro c2 (And.intro c4 c6)
      refine hK.out _ _ (fun _ => hHeld2) ?_
      clear hK K hHeld
      have hHeld := hHeld2
      clear hHeld2
      try simp only [Act.put, List.getElem_toArray, List.getElem_cons_succ, List.getElem_cons_zero, List.setIfInBounds_toArray, List.set_cons_zero, List.set_cons_succ]
      refine wpAnyT_pure (i := 22) (v := ?_) rfl (by kernel_rfl) (by kernel_rfl) (by kernel_rfl) (fun _ _ _ h => h) (.inl ⟨by kernel_rfl, ?_⟩) (fun _ => hHeld) ?_ (by decide)
      rotate_left
      · intro w9; go_simp; try with_reducible rfl
      try simp only [Act.put, List.getElem_toArray, List.getElem_cons_succ, List.getElem_cons_zero, List.setIfInBounds_toArray, List.set_cons_zero, List.set_cons_succ]
      refine wpAnyT_pure (i := 23) (v := ?_) rfl (by kernel_rfl) (by kernel_rfl) (by kernel_rfl) (fun _ _ _ h => h) (.inl ⟨by kernel_rfl, ?_⟩) (fun _ => hHeld) ?_ (by decide)
      rotate_left
      · intro w9; go_simp; try with_reducible rfl
      try simp only [Act.put, List.getElem_toArray, List.getElem_cons_succ, List.getElem_cons_zero, List.setIfInBounds_toArray, List.set_cons_zero, List.set_cons_succ]
      refine wpAnyT_pure (i := 24) (v := ?_) rfl (by kernel_rfl) (by kernel_rfl) (by kernel_rfl) (fun _ _ _ h => h) (.inl ⟨by kernel_rfl, ?_⟩) (fun _ => hHeld) ?_ (by decide)
      rotate_left
      · intro w9; go_simp; try with_reducible rfl
      try simp only [Act.put, List.getElem_toArray, List.getElem_cons_succ, List.getElem_cons_zero, List.setIfInBounds_toArray, List.set_cons_zero, List.set_cons_succ]
      refine wpAnyT_pure (i := 25) (v := undef) rfl (by kernel_rfl) (by kernel_rfl) (by kernel_rfl) (fun _ _ _ h => h) (.inr ⟨by kernel_rfl, rfl⟩) (fun _ => hHeld) ?_ (by decide)
      try simp only [Act.put, List.getElem_toArray, List.getElem_cons_succ, List.getElem_cons_zero, List.setIfInBounds_toArray, List.set_cons_zero, List.set_cons_succ]
      refine wpAnyT_pure (i := 26) (v := undef) rfl (by kernel_rfl) (by kernel_rfl) (by kernel_rfl) (fun _ _ _ h => h) (.inr ⟨by kernel_rfl, rfl⟩) (fun _ => hHeld) ?_ (by decide)
      try simp only [Act.put, List.getElem_toArray, List.getElem_cons_succ, List.getElem_cons_zero, List.setIfInBounds_toArray, List.set_cons_zero, List.set_cons_succ]
      refine wpAnyT_pure (i := 27) (v := undef) rfl (by kernel_rfl) (by kernel_rfl) (by kernel_rfl) (fun _ _ _ h => h) (.inr ⟨by kernel_rfl, rfl⟩) (fun _ => hHeld) ?_ (by decide)
      try simp only [Act.put, List.getElem_toArray, List.getElem_cons_succ, List.getElem_cons_zero, List.setIfInBounds_toArray, List.set_cons_zero, List.set_cons_succ]
      refine wpAnyT_pure (i := 28) (v := undef) rfl (by kernel_rfl) (by kernel_rfl) (by kernel_rfl) (fun _ _ _ h => h) (.inr ⟨by kernel_rfl, rfl⟩) (fun _ => hHeld) ?_ (by decide)
      try simp only [Act.put, List.getElem_toArray, List.getElem_cons_succ, List.getElem_cons_zero, List.setIfInBounds_toArray, List.set_cons_zero, List.set_cons_succ]
      refine wpAnyT_pure (i := 29) (v := undef) rfl (by kernel_rfl) (by kernel_rfl) (by kernel_rfl) (fun _ _ _ h => h) (.inr ⟨by kernel_rfl, rfl⟩) (fun _ => hHeld) ?_ (by decide)
      try simp only [Act.put, List.getElem_toArray, List.getElem_cons_succ, List.getElem_cons_zero, List.setIfInBounds_toArray, List.set_cons_zero, List.set_cons_succ]
      refine wpAnyT_pure (i := 30) (v := undef) rfl (by kernel_rfl) (by kernel_rfl) (by kernel_rfl) (fun _ _ _ h => h) (.inr ⟨by kernel_rfl, rfl⟩) (fun _ => hHeld) ?_ (by decide)
      try simp only [Act.put, List.getElem_toArray, List.getElem_cons_succ, List.getElem_cons_zero, List.setIfInBounds_toArray, List.set_cons_zero, List.set_cons_succ]
      refine wpAnyT_pure (i := 31) (v := undef) rfl (by kernel_rfl) (by kernel_rfl) (by kernel_rfl) (fun _ _ _ h => h) (.inr ⟨by kernel_rfl, rfl⟩) (fun _ => hHeld) ?_ (by decide)
      try simp only [Act.put, List.getElem_toArray, List.getElem_cons_succ, List.getElem_cons_zero, List.setIfInBounds_toArray, List.set_cons_zero, List.set_cons_succ]
      refine wpAnyT_pure (i := 32) (v := undef) rfl (by kernel_rfl) (by kernel_rfl) (by kernel_rfl) (fun _ _ _ h => h) (.inr ⟨by kernel_rfl, rfl⟩) (fun _ => hHeld) ?_ (by decide)
      try simp only [Act.put, List.getElem_toArray, List.getElem_cons_succ, List.getElem_cons_zero, List.setIfInBounds_toArray, List.set_cons_zero, List.set_cons_succ]
      refine wpAnyT_pure (i := 33) (v := undef) rfl (by kernel_rfl) (by kernel_rfl) (by kernel_rfl) (fun _ _ _ h => h) (.inr ⟨by kernel_rfl, rfl⟩) (fun _ => hHeld) ?_ (by decide)
      try simp only [Act.put, List.getElem_toArray, List.getElem_cons_succ, List.getElem_cons_zero, List.setIfInBounds_toArray, List.set_cons_zero, List.set_cons_succ]
      refine wpAnyT_pure (i := 34) (v := ?_) rfl (by kernel_rfl) (by kernel_rfl) (by kernel_rfl) (fun _ _ _ h => h) (.inl ⟨by kernel_rfl, ?_⟩) (fun _ => hHeld) ?_ (by decide)
      rotate_left
      · intro w9; go_simp; try with_reducible rfl
      try simp only [Act.put, List.getElem_toArray, List.getElem_cons_succ, List.getElem_cons_zero, List.setIfInBounds_toArray, List.set_cons_zero, List.set_cons_succ]
      refine wpAnyT_done (by kernel_rfl) ?_ _
      --yn>
      have HB4 := Lib.hid B4
      clear B4
      go_wp2
      go_end0
      exact HEND.out _ (by first | exact HB4.out | exact Below.drew HB4.out) HK.out
  · have HK : Hid (eg = if fi = nx ∧ nx < en ∧ eg ≤ nx then nx + 1 else eg) := Lib.hid (by rw [if_neg (fun e => k1 e.1)])
    have k1b : (fi == nx) = false := by simpa using k1
    clear k1
    --<n
    refine wp_region_tail [] (fun wx => wx.cell? ⟨F, 2, none⟩ = some (.int .i64 dn) ∧ wx.cell? ⟨F, 4, none⟩ = some (.int .i64 nx) ∧ wx.cell? ⟨F, 6, none⟩ = some (.int .i64 eg)) (by kernel_rfl) (⟨b2, b4, b6⟩) ?_
    intro hHeld
    refine wpAnyT_pure (i := 0) (v := ?_) rfl (by kernel_rfl) (by kernel_rfl) (by kernel_rfl) (fun _ _ _ h => h) (.inl ⟨by kernel_rfl, ?_⟩) (fun _ => hHeld) ?_ (by decide)
    rotate_left
    · intro w9; go_simp; try with_reducible rfl
    try simp only [Act.put, List.getElem_toArray, List.getElem_cons_succ, List.getElem_cons_zero, List.setIfInBounds_toArray, List.set_cons_zero, List.set_cons_succ]
    refine wpAnyT_pure (i := 1) (v := ?_) rfl (by kernel_rfl) (by kernel_rfl) (by kernel_rfl) (fun _ _ _ h => h) (.inl ⟨by kernel_rfl, ?_⟩) (fun _ => hHeld) ?_ (by decide)
    rotate_left
    · intro w9; go_simp; try with_reducible rfl
    try simp only [Act.put, List.getElem_toArray, List.getElem_cons_succ, List.getElem_cons_zero, List.setIfInBounds_toArray, List.set_cons_zero, List.set_cons_succ]
    refine wpAnyT_pure (i := 2) (v := ?_) rfl (by kernel_rfl) (by kernel_rfl) (by kernel_rfl) (fun _ _ _ h => h) (.inl ⟨by kernel_rfl, ?_⟩) (fun _ => hHeld) ?_ (by decide)
    rotate_left
    · intro w9; go_simp; try with_reducible rfl
    try simp only [Act.put, List.getElem_toArray, List.getElem_cons_succ, List.getElem_cons_zero, List.setIfInBounds_toArray, List.set_cons_zero, List.set_cons_succ]
    refine wpAnyT_pure (i := 3) (v := ?_) rfl (by kernel_rfl) (by kernel_rfl) (by kernel_rfl) (fun _ _ _ h => h) (.inl ⟨by kernel_rfl, ?_⟩) (fun _ => hHeld) ?_ (by decide)
    rotate_left
    · intro w9; go_simp; try with_reducible rfl
    try simp only [Act.put, List.getElem_toArray, List.getElem_cons_succ, List.getElem_cons_zero, List.setIfInBounds_toArray, List.set_cons_zero, List.set_cons_succ]
    refine wpAnyT_take (i := 4) [] (v := ?_) rfl (by kernel_rfl) (by kernel_rfl) (by kernel_rfl) (by kernel_rfl) (fun _ _ _ h => h) (.inl ⟨by kernel_rfl, ?_⟩) hHeld ?_
    rotate_left
    · intro w9 hS9; (try dsimp only at hS9); obtain ⟨q1, q2, q3⟩ := hS9; go_simp; try with_reducible rfl
    try simp only [Act.put, List.getElem_toArray, List.getElem_cons_succ, List.getElem_cons_zero, List.setIfInBounds_toArray, List.set_cons_zero, List.set_cons_succ]
    refine wpAnyT_pure (i := 5) (v := ?_) rfl (by kernel_rfl) (by kernel_rfl) (by kernel_rfl) (fun _ _ _ h => h) (.inl ⟨by kernel_rfl, ?_⟩) (fun _ => hHeld) ?_ (by decide)
    rotate_left
    · intro w9; go_simp; try with_reducible rfl
    try simp only [Act.put, List.getElem_toArray, List.getElem_cons_succ, List.getElem_cons_zero, List.setIfInBounds_toArray, List.set_cons_zero, List.set_cons_succ]
    refine wpAnyT_pure (i := 6) (v := ?_) rfl (by kernel_rfl) (by kernel_rfl) (by kernel_rfl) (fun _ _ _ h => h) (.inl ⟨by kernel_rfl, ?_⟩) (fun _ => hHeld) ?_ (by decide)
    rotate_left
    · intro w9; go_simp; try with_reducible rfl
    try simp only [Act.put, List.getElem_toArray, List.getElem_cons_succ, List.getElem_cons_zero, List.setIfInBounds_toArray, List.set_cons_zero, List.set_cons_succ]
    refine wpAnyT_pure (i := 7) (v := ?_) rfl (by kernel_rfl) (by kernel_rfl) (by kernel_rfl) (fun _ _ _ h => h) (.inl ⟨by kernel_rfl, ?_⟩) (fun _ => hHeld) ?_ (by decide)
    rotate_left
    · intro w9; go_simp; try with_reducible rfl
    try simp only [Act.put, List.getElem_toArray, List.getElem_cons_succ, List.getElem_cons_zero, List.setIfInBounds_toArray, List.set_cons_zero, List.set_cons_succ]
    refine wpAnyT_take (i := 8) [] (v := ?_) rfl (by kernel_rfl) (by kernel_rfl) (by kernel_rfl) (by kernel_rfl) (fun _ _ _ h => h) (.inl ⟨by kernel_rfl, ?_⟩) hHeld ?_
    rotate_left
    · intro w9 hS9; (try dsimp only at hS9); obtain ⟨q1, q2, q3⟩ := hS9; go_simp; try with_reducible rfl
    try simp only [Act.put, List.getElem_toArray, List.getElem_cons_succ, List.getElem_cons_zero, List.setIfInBounds_toArray, List.set_cons_zero, List.set_cons_succ]
    refine wpAnyT_pure (i := 10) (v := ?_) rfl (by kernel_rfl) (by kernel_rfl) (by kernel_rfl) (fun _ _ _ h => h) (.inl ⟨by kernel_rfl, ?_⟩) (fun _ => hHeld) ?_ (by decide)
    rotate_left
    · intro w9; go_simp; try with_reducible rfl
    try simp only [Act.put, List.getElem_toArray, List.getElem_cons_succ, List.getElem_cons_zero, List.setIfInBounds_toArray, List.set_cons_zero, List.set_cons_succ]
    refine wpAnyT_pure (i := 11) (v := ?_) rfl (by kernel_rfl) (by kernel_rfl) (by kernel_rfl) (fun _ _ _ h => h) (.inl ⟨by kernel_rfl, ?_⟩) (fun _ => hHeld) ?_ (by decide)
    rotate_left
    · intro w9; go_simp; try with_reducible rfl
    try simp only [Act.put, List.getElem_toArray, List.getElem_cons_succ, List.getElem_cons_zero, List.setIfInBounds_toArray, List.set_cons_zero, List.set_cons_succ]
    refine wpAnyT_pure (i := 12) (v := ?_) rfl (by kernel_rfl) (by kernel_rfl) (by kernel_rfl) (fun _ _ _ h => h) (.inl ⟨by kernel_rfl, ?_⟩) (fun _ => hHeld) ?_ (by decide)
    rotate_left
    · intro w9; go_simp; try with_reducible rfl
    try simp only [Act.put, List.getElem_toArray, List.getElem_cons_succ, List.getElem_cons_zero, List.setIfInBounds_toArray, List.set_cons_zero, List.set_cons_succ]
    refine wpAnyT_take (i := 13) [] (v := ?_) rfl (by kernel_rfl) (by kernel_rfl) (by kernel_rfl) (by kernel_rfl) (fun _ _ _ h => h) (.inl ⟨by kernel_rfl, ?_⟩) hHeld ?_
    rotate_left
    · intro w9 hS9; (try dsimp only at hS9); obtain ⟨q1, q2, q3⟩ := hS9; go_simp; try with_reducible rfl
    try simp only [Act.put, List.getElem_toArray, List.getElem_cons_succ, List.getElem_cons_zero, List.setIfInBounds_toArray, List.set_cons_zero, List.set_cons_succ]
    refine wpAnyT_next (i := 9) (by kernel_rfl) rfl ?_
    intro K hK
    go_simp
    go_at_call 79
    refine (HFI.out _ (by exact (by repeat (first | (with_reducible exact Below.refl _ _) | (with_reducible assumption) | (with_reducible refine bset ?_ ?_ _) | (with_reducible refine balloc ?_ _) | (with_reducible refine Below.drew ?_) | (with_reducible refine bdrewN ?_ _) | (with_reducible refine bnext ?_ (by with_reducible assumption)) | exact Nat.le_refl _ | (simp; done) | omega | (simp; omega))))).mono ?_
    rintro e w4 ⟨rfl, hb4⟩
    have B4 : Below w1.heap.size w1 w4 := (by repeat (first | (with_reducible exact Below.refl _ _) | (with_reducible assumption) | (with_reducible refine bset ?_ ?_ _) | (with_reducible refine balloc ?_ _) | (with_reducible refine Below.drew ?_) | (with_reducible refine bdrewN ?_ _) | (with_reducible refine bnext ?_ (by with_reducible assumption)) | exact Nat.le_refl _ | (simp; done) | omega | (simp; omega)))
    have c2 := (B4.cell (p := ⟨F, 2, none⟩) hF1).trans b2
    have c4 := (B4.cell (p := ⟨F, 4, none⟩) hF1).trans b4
    have c6 := (B4.cell (p := ⟨F, 6, none⟩) hF1).trans b6
    clear hb4
    go_simp
    have hHeld2 := And.intro c2 (And.intro c4 c6)
    refine hK.out _ _ (fun _ => hHeld2) ?_
    clear hK K hHeld
    have hHeld := hHeld2
    clear hHeld2
    try simp only [Act.put, List.getElem_toArray, List.getElem_cons_succ, List.getElem_cons_zero, List.setIfInBounds_toArray, List.set_cons_zero, List.set_cons_succ]
    refine wpAnyT_pure (i := 14) (v := ?_) rfl (by kernel_rfl) (by kernel_rfl) (by kernel_rfl) (fun _ _ _ h => h) (.inl ⟨by kernel_rfl, ?_⟩) (fun _ => hHeld) ?_ (by decide)
    rotate_left
    · intro w9; go_simp; try with_reducible rfl
    try simp only [Act.put, List.getElem_toArray, List.getElem_cons_succ, List.getElem_cons_zero, List.setIfInBounds_toArray, List.set_cons_zero, List.set_cons_succ]
    refine wpAnyT_pure (i := 15) (v := ?_) rfl (by kernel_rfl) (by kernel_rfl) (by kernel_rfl) (fun _ _ _ h => h) (.inl ⟨by kernel_rfl, ?_⟩) (fun _ => hHeld) ?_ (by decide)
    rotate_left
    · intro w9; go_simp; try with_reducible rfl
    try simp only [Act.put, List.getElem_toArray, List.getElem_cons_succ, List.getElem_cons_zero, List.setIfInBounds_toArray, List.set_cons_zero, List.set_cons_succ]
    refine wpAnyT_pure (i := 16) (v := undef) rfl (by kernel_rfl) (by kernel_rfl) (by kernel_rfl) (fun _ _ _ h => h) (.inr ⟨by kernel_rfl, rfl⟩) (fun _ => hHeld) ?_ (by decide)
    try simp only [Act.put, List.getElem_toArray, List.getElem_cons_succ, List.getElem_cons_zero, List.setIfInBounds_toArray, List.set_cons_zero, List.set_cons_succ]
    refine wpAnyT_pure (i := 17) (v := undef) rfl (by kernel_rfl) (by kernel_rfl) (by kernel_rfl) (fun _ _ _ h => h) (.inr ⟨by kernel_rfl, rfl⟩) (fun _ => hHeld) ?_ (by decide)
    try simp only [Act.put, List.getElem_toArray, List.getElem_cons_succ, List.getElem_cons_zero, List.setIfInBounds_toArray, List.set_cons_zero, List.set_cons_succ]
    refine wpAnyT_pure (i := 18) (v := undef) rfl (by kernel_rfl) (by kernel_rfl) (by kernel_rfl) (fun _ _ _ h => h) (.inr ⟨by kernel_rfl, rfl⟩) (fun _ => hHeld) ?_ (by decide)
    try simp only [Act.put, List.getElem_toArray, List.getElem_cons_succ, List.getElem_cons_zero, List.setIfInBounds_toArray, List.set_cons_zero, List.set_cons_succ]
    refine wpAnyT_pure (i := 19) (v := undef) rfl (by kernel_rfl) (by kernel_rfl) (by kernel_rfl) (fun _ _ _ h => h) (.inr ⟨by kernel_rfl, rfl⟩) (fun _ => hHeld) ?_ (by decide)
    try simp only [Act.put, List.getElem_toArray, List.getElem_cons_succ, List.getElem_cons_zero, List.setIfInBounds_toArray, List.set_cons_zero, List.set_cons_succ]
    refine wpAnyT_pure (i := 20) (v := undef) rfl (by kernel_rfl) (by kernel_rfl) (by kernel_rfl) (fun _ _ _ h => h) (.inr ⟨by kernel_rfl, rfl⟩) (fun _ => hHeld) ?_ (by decide)
    try simp only [Act.put, List.getElem_toArray, List.getElem_cons_succ, List.getElem_cons_zero, List.setIfInBounds_toArray, List.set_cons_zero, List.set_cons_succ]
    refine wpAnyT_pure (i := 21) (v := undef) rfl (by kernel_rfl) (by kernel_rfl) (by kernel_rfl) (fun _ _ _ h => h) (.inr ⟨by kernel_rfl, rfl⟩) (fun _ => hHeld) ?_ (by decide)
    try simp only [Act.put, List.getElem_toArray, List.getElem_cons_succ, List.getElem_cons_zero, List.setIfInBounds_toArray, List.set_cons_zero, List.set_cons_succ]
    refine wpAnyT_pure (i := 22) (v := undef) rfl (by kernel_rfl) (by kernel_rfl) (by kernel_rfl) (fun _ _ _ h => h) (.inr ⟨by kernel_rfl, rfl⟩) (fun _ => hHeld) ?_ (by decide)
    try simp only [Act.put, List.getElem_toArray, List.getElem_cons_succ, List.getElem_cons_zero, List.setIfInBounds_toArray, List.set_cons_zero, List.set_cons_succ]
    refine wpAnyT_pure (i := 23) (v := ?_) rfl (by kernel_rfl) (by kernel_rfl) (by kernel_rfl) (fun _ _ _ h => h) (.inl ⟨by kernel_rfl, ?_⟩) (fun _ => hHeld) ?_ (by decide)
    rotate_left
    · intro w9; go_simp; try with_reducible rfl
    try simp only [Act.put, List.getElem_toArray, List.getElem_cons_succ, List.getElem_cons_zero, List.setIfInBounds_toArray, List.set_cons_zero, List.set_cons_succ]
    refine wpAnyT_pure (i := 24) (v := ?_) rfl (by kernel_rfl) (by kernel_rfl) (by kernel_rfl) (fun _ _ _ h => h) (.inl ⟨by kernel_rfl, ?_⟩) (fun _ => hHeld) ?_ (by decide)
    rotate_left
    · intro w9; go_simp; try with_reducible rfl
    try simp only [Act.put, List.getElem_toArray, List.getElem_cons_succ, List.getElem_cons_zero, List.setIfInBounds_toArray, List.set_cons_zero, List.set_cons_succ]
    refine wpAnyT_pure (i := 25) (v := undef) rfl (by kernel_rfl) (by kernel_rfl) (by kernel_rfl) (fun _ _ _ h => h) (.inr ⟨by kernel_rfl, rfl⟩) (fun _ => hHeld) ?_ (by decide)
    try simp only [Act.put, List.getElem_toArray, List.getElem_cons_succ, List.getElem_cons_zero, List.setIfInBounds_toArray, List.set_cons_zero, List.set_cons_succ]
    refine wpAnyT_pure (i := 26) (v := undef) rfl (by kernel_rfl) (by kernel_rfl) (by kernel_rfl) (fun _ _ _ h => h) (.inr ⟨by kernel_rfl, rfl⟩) (fun _ => hHeld) ?_ (by decide)
    try simp only [Act.put, List.getElem_toArray, List.getElem_cons_succ, List.getElem_cons_zero, List.setIfInBounds_toArray, List.set_cons_zero, List.set_cons_succ]
    refine wpAnyT_pure (i := 27) (v := undef) rfl (by kernel_rfl) (by kernel_rfl) (by kernel_rfl) (fun _ _ _ h => h) (.inr ⟨by kernel_rfl, rfl⟩) (fun _ => hHeld) ?_ (by decide)
    try simp only [Act.put, List.getElem_toArray, List.getElem_cons_succ, List.getElem_cons_zero, List.setIfInBounds_toArray, List.set_cons_zero, List.set_cons_succ]
    refine wpAnyT_pure (i := 28) (v := undef) rfl (by kernel_rfl) (by kernel_rfl) (by kernel_rfl) (fun _ _ _ h => h) (.inr ⟨by kernel_rfl, rfl⟩) (fun _ => hHeld) ?_ (by decide)
    try simp only [Act.put, List.getElem_toArray, List.getElem_cons_succ, List.getElem_cons_zero, List.setIfInBounds_toArray, List.set_cons_zero, List.set_cons_succ]
    refine wpAnyT_pure (i := 29) (v := undef) rfl (by kernel_rfl) (by kernel_rfl) (by kernel_rfl) (fun _ _ _ h => h) (.inr ⟨by kernel_rfl, rfl⟩) (fun _ => hHeld) ?_ (by decide)
    try simp only [Act.put, List.getElem_toArray, List.getElem_cons_succ, List.getElem_cons_zero, List.setIfInBounds_toArray, List.set_cons_zero, List.set_cons_succ]
    refine wpAnyT_pure (i := 30) (v := undef) rfl (by kernel_rfl) (by kernel_rfl) (by kernel_rfl) (fun _ _ _ h => h) (.inr ⟨by kernel_rfl, rfl⟩) (fun _ => hHeld) ?_ (by decide)
    try simp only [Act.put, List.getElem_toArray, List.getElem_cons_succ, List.getElem_cons_zero, List.setIfInBounds_toArray, List.set_cons_zero, List.set_cons_succ]
    refine wpAnyT_pure (i := 31) (v := undef) rfl (by kernel_rfl) (by kernel_rfl) (by kernel_rfl) (fun _ _ _ h => h) (.inr ⟨by kernel_rfl, rfl⟩) (fun _ => hHeld) ?_ (by decide)
    try simp only [Act.put, List.getElem_toArray, List.getElem_cons_succ, List.getElem_cons_zero, List.setIfInBounds_toArray, List.set_cons_zero, List.set_cons_succ]
    refine wpAnyT_pure (i := 32) (v := undef) rfl (by kernel_rfl) (by kernel_rfl) (by kernel_rfl) (fun _ _ _ h => h) (.inr ⟨by kernel_rfl, rfl⟩) (fun _ => hHeld) ?_ (by decide)
    try simp only [Act.put, List.getElem_toArray, List.getElem_cons_succ, List.getElem_cons_zero, List.setIfInBounds_toArray, List.set_cons_zero, List.set_cons_succ]
    refine wpAnyT_pure (i := 33) (v := undef) rfl (by kernel_rfl) (by kernel_rfl) (by kernel_rfl) (fun _ _ _ h => h) (.inr ⟨by kernel_rfl, rfl⟩) (fun _ => hHeld) ?_ (by decide)
    try simp only [Act.put, List.getElem_toArray, List.getElem_cons_succ, List.getElem_cons_zero, List.setIfInBounds_toArray, List.set_cons_zero, List.set_cons_succ]
    refine wpAnyT_pure (i := 34) (v := ?_) rfl (by kernel_rfl) (by kernel_rfl) (by kernel_rfl) (fun _ _ _ h => h) (.inl ⟨by kernel_rfl, ?_⟩) (fun _ => hHeld) ?_ (by decide)
    rotate_left
    · intro w9; go_simp; try with_reducible rfl
    try simp only [Act.put, List.getElem_toArray, List.getElem_cons_succ, List.getElem_cons_zero, List.setIfInBounds_toArray, List.set_cons_zero, List.set_cons_succ]
    refine wpAnyT_done (by kernel_rfl) ?_ _
    --n>
    have HB4 := Lib.hid B4
    clear B4
    go_wp2
    go_end0
    exact HEND.out _ (by first | exact HB4.out | exact Below.drew HB4.out) HK.out
end Go.Proofs.Ytdldfllllgogoaa
namespace Go.Proofs.Ytdldfllllgogoaa
open Go.RowKit Go.Shelf
set_option linter.unusedSimpArgs false

def PollRes (w : World) (B F : Nat) (p : Sent) (s' : sd.St) (D : Option Addr) (dc : Nat) (M : Option Addr) (mc : Nat) (e : Ending) (w' : World) : Prop :=
  ∃ E ec, e = .returned (.agg #[.int .i64 0, .int .i64 p.from_, .slice E p.data.length ec, .bool p.fin, .bool p.again, .bool p.idle, .int .i64 0]) ∧ Own w' w.heap.size 5 1 E p.data.length ec (p.data.map rv.u8v) ∧ SAt w' B F s' D dc M mc ∧ Stays w w' (fun k => k = F)
/-- what was gone through tells where the next range begins -/
def sd.seen (at_ : Int) (pre : List (Int × Rng)) (t : Int) : Int := pre.foldl (fun t x => if at_ < x.2.lo then x.2.lo else t) t
theorem sd.seen_snoc (at_ : Int) (pre : List (Int × Rng)) (x : Int × Rng) (t : Int) : sd.seen at_ (pre ++ [x]) t = if at_ < x.2.lo then x.2.lo else sd.seen at_ pre t := by
  unfold sd.seen
  rw [List.foldl_append]
  rfl
theorem sd.back_all (l : List Rng) : ∀ k, k ≤ l.length → (backTo l k).map Prod.snd = l.reverse.take k := by
  intro k
  induction k with
  | zero => intro _; simp [backTo]
  | succ k ih =>
    intro hk
    rw [backTo, List.map_append, ih (by omega), List.take_add_one]
    congr 1
    rw [List.getElem?_reverse (by omega), List.getElem?_eq_getElem (by omega)]
    simp only [List.map_cons, List.map_nil, Option.toList_some, List.cons.injEq, and_true]
    rw [List.getD_eq_getElem?_getD, List.getElem?_eq_getElem (by omega)]
    rfl
theorem sd.seen_all (l : List Rng) (at_ t : Int) : sd.seen at_ (backTo l l.length) t = sd.ahead l at_ t := by
  have h := sd.back_all l l.length (Nat.le_refl _)
  rw [List.take_of_length_le (by simp)] at h
  have e : ∀ (pre : List (Int × Rng)) (t : Int), sd.seen at_ pre t = (pre.map Prod.snd).foldl (fun t r => if at_ < r.lo then r.lo else t) t := by
    intro pre
    induction pre with
    | nil => intro t; rfl
    | cons x pre ih => intro t; exact ih _
  rw [e, h, List.foldl_reverse]
  rfl
/-- within the loop over the ranges: the boxes of at and of to, and the slice's -/
structure PolC (w : World) (b3 b4 Bs : Nat) (at_ t : Int) (v : Value) (W : World) : Prop where
  low : Below w.heap.size w W
  box3 : Boxed W b3 3 (.int .i64 at_)
  box4 : Boxed W b4 3 (.int .i64 t)
  bs : Boxed W Bs 39 v
  ne : b3 ≠ b4 ∧ b4 ≠ Bs ∧ w.heap.size ≤ b4
theorem PolC.kept {w : World} {b3 b4 Bs : Nat} {at_ t : Int} {v : Value} {W W' : World} {row : Option Nat} (h : PolC w b3 b4 Bs at_ t v W) (hg : W.grownBy W' row) (hr : ∀ r, row = some r → w.heap.size ≤ r ∧ ∃ o : Obj, W.heap[r]? = some o ∧ o.isCells = false) : PolC w b3 b4 Bs at_ t v W' :=
  have hr' := fun r e => (hr r e).2
  ⟨h.low.grown hg h.low.size (fun k e => (hr k e).1), h.box3.kept hg (box_ne h.box3 hr'), h.box4.kept hg (box_ne h.box4 hr'), h.bs.kept hg (box_ne h.bs hr'), h.ne⟩
theorem PolC.alloc {w : World} {b3 b4 Bs : Nat} {at_ t : Int} {v : Value} {W : World} (h : PolC w b3 b4 Bs at_ t v W) (o : Obj) : PolC w b3 b4 Bs at_ t v (W.alloc o) :=
  h.kept (World.grownBy_alloc W o none) (fun r e => by cases e)

theorem PolC.step {w : World} {b3 b4 Bs : Nat} {at_ t : Int} {v : Value} {W : World} (h : PolC w b3 b4 Bs at_ t v W) (x : Int) : PolC w b3 b4 Bs at_ x v (W.setCell ⟨b4, 0, none⟩ (.int .i64 x)) :=
  ⟨h.low.setCell (p := ⟨b4, 0, none⟩) h.ne.2.2 _, h.box3.other h.ne.1 _, h.box4.set _, h.bs.other h.ne.2.1.symm _, h.ne⟩
section
variable (B F : Nat) (s : sd.St) (D : Option Addr) (dc : Nat) (M : Option Addr) (mc : Nat) (w : World)
set_option maxRecDepth 100000 in
set_option maxHeartbeats 4000000 in
theorem send_poll_new (h : SAt w B F s D dc M mc) (hi : sd.Inv s) (hnew : ¬ sd.first s s.again s.next < s.next) :
    Calls Try.prog 49 #[.pointer (some ⟨F, 0, none⟩)] w (PollRes w B F (sd.poll s).1 (sd.poll s).2 D dc M mc) := by
  have H := Lib.hid h
  have HI := Lib.hid hi
  have hF := h.blk.lt
  have hlo := hi.lo
  have hen := hi.end_
  have hed := hi.edge
  have hag := hi.again
  have hfew := hi.few
  have HFI := Lib.hid (fun wz (hb : Below w.heap.size w wz) => send_first B F s D dc M mc s.again s.next wz (h.next hb) hi hi.again (by omega))
  obtain ⟨at_, hat⟩ : ∃ a, a = sd.first s s.again s.next := ⟨_, rfl⟩
  rw [← hat] at HFI hnew
  have HNEW := Lib.hid hnew
  clear hnew
  have hfo := sd.first_ok hi hi.again.2
  rw [← hat] at hfo
  have HFO := Lib.hid hfo
  have hatb : 0 ≤ at_ ∧ at_ ≤ s.next := by omega
  have HAT := Lib.hid hat
  obtain ⟨w1, hw1⟩ : ∃ w1, w1 = w.alloc (.cells #[.int .i64 0, .int .i64 0, .slice none 0 0, .bool false, .bool false, .bool false, .int .i64 0] 49) := ⟨_, rfl⟩
  have HB1 : Hid (Below w.heap.size w w1) := Lib.hid (by rw [hw1]; exact balloc (bself w) _)
  have HR1 : Hid (BlkA w1 w.heap.size 49 #[.int .i64 0, .int .i64 0, .slice none 0 0, .bool false, .bool false, .bool false, .int .i64 0]) := Lib.hid (by rw [hw1]; exact BlkA.new _ _ _)
  have h1 := h.next HB1.out
  have b4 := h1.blk.get 4
  have b5 := h1.blk.get 5
  simp only [List.getElem?_toArray, List.getElem?_cons_succ, List.getElem?_cons_zero] at b4 b5
  have hF1 := h1.blk.lt
  have hb1 := HB1.out
  have hz1 := HR1.out.lt
  clear h hi hfo hat h1
  go_enter Try.func49, Try.ntmps49
  go_upto_region 1 with (fail)
  rw [← hw1]
  clear hw1
  go_cut [3] (fun s3 wx => ∃ b3 : Nat, s3 = .pointer (some ⟨b3, 0, none⟩) ∧ w1.heap.size ≤ b3 ∧ Hid (Below w1.heap.size w1 wx ∧ Boxed wx b3 3 (.int .i64 at_)))
  case first =>
    go_region_held3 (fun w' => w'.cell? ⟨F, 4, none⟩ = some (.int .i64 s.next) ∧ w'.cell? ⟨F, 5, none⟩ = some (.int .i64 s.again)) ((first | (go_keep; done) | (refine ⟨?_, ?_⟩ <;> (simp [go_sem, *]; done)) | fail))
      (first
        | (go_at_call 79; ((refine (HFI.out _ (by exact (by repeat (first | (with_reducible exact Below.refl _ _) | (with_reducible assumption) | (with_reducible refine bset ?_ ?_ _) | (with_reducible refine balloc ?_ _) | (with_reducible refine Below.drew ?_) | (with_reducible refine bdrewN ?_ _) | (with_reducible refine bnext ?_ (by with_reducible assumption)) | exact Nat.le_refl _ | (simp; done) | omega | (simp; omega))))).mono ?_); rintro e w2 ⟨rfl, hb2⟩; have B2 : Below w1.heap.size w1 w2 := (by repeat (first | (with_reducible exact Below.refl _ _) | (with_reducible assumption) | (with_reducible refine bset ?_ ?_ _) | (with_reducible refine balloc ?_ _) | (with_reducible refine Below.drew ?_) | (with_reducible refine bdrewN ?_ _) | (with_reducible refine bnext ?_ (by with_reducible assumption)) | exact Nat.le_refl _ | (simp; done) | omega | (simp; omega))); have x4 := (B2.cell (p := ⟨F, 4, none⟩) hF1).trans b4; have x5 := (B2.cell (p := ⟨F, 5, none⟩) hF1).trans b5; have hF2 : F < w2.heap.size := Nat.lt_of_lt_of_le hF1 B2.size; have hn1 : F ≠ w1.heap.size := Nat.ne_of_lt hF1; have hn2 : F ≠ w2.heap.size := Nat.ne_of_lt hF2; have hn3 : w1.heap.size ≠ F := Nat.ne_of_gt hF1; have hn4 : w2.heap.size ≠ F := Nat.ne_of_gt hF2; (first | (have hq := after_alloc hb2; have hzq := hq.2; have yc := hq.1.get; have yf := hq.1.frozen) | (have hq := after_allocD hb2; have hzq := hq.2; have yc := hq.1.get; have yf := hq.1.frozen) | (have hq := after_allocN hb2; have hzq := hq.2; have yc := hq.1.get; have yf := hq.1.frozen) | skip); clear hb2))
        | fail)
    · (try go_wp2)
      go_meet
      exact ⟨w2.heap.size, rfl, B2.size, Lib.hid ⟨balloc B2 _, Boxed.new _ _ _⟩⟩
    · (try go_wp2)
      go_meet
      exact ⟨w1.heap.size, rfl, Nat.le_refl _, Lib.hid ⟨B2.trans ((Stays.set w2 w1.heap.size 0 _).below B2.size (fun k hk => Nat.le_of_eq hk.symm)), show BlkA _ _ _ #[.int .i64 at_] from by simpa using hq.1.set 0 (.int .i64 at_)⟩⟩
  case rest =>
    obtain ⟨b3, rfl, hb3, HX3⟩ := hcut
    rename World => w3
    have hB3 : Below w1.heap.size w1 w3 := HX3.out.1
    have b4 := (hB3.cell (p := ⟨F, 4, none⟩) hF1).trans b4
    have x3 : w3.cell? ⟨b3, 0, none⟩ = some (.int .i64 at_) := HX3.out.2.cell
    have hbl3 : b3 < w3.heap.size := HX3.out.2.lt
    obtain ⟨q, HQ⟩ : ∃ q : Bool, Hid (q = decide (at_ < s.next)) := ⟨_, Lib.hid rfl⟩
    have HB3 := Lib.hid hB3
    clear hB3 b5
    go_upto_region 2 with (fail)
    go_cut [25] (fun s25 wx => s25 = .bool q ∧ Hid (Below w3.heap.size w3 wx))
    case first =>
      go_quiet (fail)
      go_wp2
      go_meet
      exact ⟨by rw [HQ.out], Lib.hid (by repeat (first | (with_reducible exact Below.refl _ _) | (with_reducible assumption) | (with_reducible refine bset ?_ ?_ _) | (with_reducible refine balloc ?_ _) | (with_reducible refine Below.drew ?_) | (with_reducible refine bdrewN ?_ _) | (with_reducible refine bnext ?_ (by with_reducible assumption)) | exact Nat.le_refl _ | (simp; done) | omega | (simp; omega)))⟩
    case rest =>
    obtain ⟨rfl, HB4⟩ := hcut
    rename World => w4
    have hB4 : Below w1.heap.size w1 w4 := HB3.out.trans (HB4.out.mono HB3.out.size)
    have H4 : Hid (SAt w4 B F s D dc M mc) := Lib.hid ((H.out.next HB1.out).next hB4)
    have HX4 : Hid (Boxed w4 b3 3 (.int .i64 at_)) := Lib.hid ((HB4.out.block b3 hbl3).trans HX3.out.2)
    have HR4 := Lib.hid (HR1.out.next hB4)
    have hR4 := HR4.out.lt
    have hF4 : F < w4.heap.size := H4.out.blk.lt
    have hbl4 : b3 < w4.heap.size := HX4.out.lt
    have HB04 : Hid (Below w.heap.size w w4) := Lib.hid (HB1.out.trans (hB4.mono HB1.out.size))
    clear HX3 b4 x3 hbl3 hB4 HB3 HB4
    cases q with
    | true =>
      have hlt : at_ < s.next := of_decide_eq_true HQ.out.symm
      exact absurd hlt HNEW.out
    | false =>
      have hlt : ¬ at_ < s.next := of_decide_eq_false HQ.out.symm
      have hPO : sd.poll s = if min (sd.endOf s) s.edge ≤ s.next then (⟨0, 0, [], false, false, true, 0⟩, s) else (sd.piece s s.next (min (sd.endOf s) s.edge), { s with next := sd.after (sd.piece s s.next (min (sd.endOf s) s.edge)), again := sd.after (sd.piece s s.next (min (sd.endOf s) s.edge)) }) := by
        unfold sd.poll
        simp only
        rw [← HAT.out, if_neg hlt]
      obtain ⟨tt, htt⟩ : ∃ tt, tt = min (sd.endOf s) s.edge := ⟨_, rfl⟩
      rw [← htt] at hPO
      have HPO := Lib.hid hPO
      have HTT := Lib.hid htt
      clear hPO htt
      have b6 := H4.out.blk.get 6
      simp only [List.getElem?_toArray, List.getElem?_cons_succ, List.getElem?_cons_zero] at b6
      have HEN := Lib.hid (fun wz (hb : Below w4.heap.size w4 wz) => send_end B F s D dc M mc wz (H4.out.next hb) HI.out.size)
      go_upto_region 11 with (fail)
      go_cut [8] (fun s8 wx => s8 = .int .i64 tt ∧ Hid (Below w4.heap.size w4 wx))
      case first =>
        go_quiet ((go_at_call 80; exact Calls.quiet_of_same ((HEN.out _ (by exact (by repeat (first | (with_reducible exact Below.refl _ _) | (with_reducible assumption) | (with_reducible refine bset ?_ ?_ _) | (with_reducible refine balloc ?_ _) | (with_reducible refine Below.drew ?_) | (with_reducible refine bdrewN ?_ _) | (with_reducible refine bnext ?_ (by with_reducible assumption)) | exact Nat.le_refl _ | (simp; done) | omega | (simp; omega))))).mono (fun e w' he => ⟨he.1, he.2.symm⟩))))
        go_wp2
        all_goals
          go_meet
          refine ⟨?_, Lib.hid (by repeat (first | (with_reducible exact Below.refl _ _) | (with_reducible assumption) | (with_reducible refine bset ?_ ?_ _) | (with_reducible refine balloc ?_ _) | (with_reducible refine Below.drew ?_) | (with_reducible refine bdrewN ?_ _) | (with_reducible refine bnext ?_ (by with_reducible assumption)) | exact Nat.le_refl _ | (simp; done) | omega | (simp; omega)))⟩
          rw [HTT.out]; congr 1; omega
      case rest =>
        obtain ⟨rfl, HB5⟩ := hcut
        rename World => w5
        have hb45 : Below w4.heap.size w4 w5 := HB5.out
        have H5 := Lib.hid (H4.out.next hb45)
        have HR5 := Lib.hid (HR4.out.next hb45)
        have HB05 : Hid (Below w.heap.size w w5) := Lib.hid (HB04.out.trans (hb45.mono HB04.out.size))
        have c4 := H5.out.blk.get 4
        simp only [List.getElem?_toArray, List.getElem?_cons_succ, List.getElem?_cons_zero] at c4
        have hF5 := H5.out.blk.lt
        have hR5 := HR5.out.lt
        have HEN2 := HTT.out
        have hen2 : sd.endOf s ≤ s.data.length + 1 := by unfold sd.endOf; have := sd.fin1_le s.closed; omega
        clear b4 b6 HEN H4 HR4 HX4 HB04 hb45 HB5 hF4 hbl4 hR4
        by_cases hid : tt ≤ s.next
        · have hid' : s.next ≥ tt := hid
          have tc := HR5.out.get
          have tf := HR5.out.frozen
          have HEND : Hid (∀ wx, Stays w5 wx (fun k => k = w.heap.size) → PollRes w B F (sd.poll s).1 (sd.poll s).2 D dc M mc (.returned (.agg #[.int .i64 0, .int .i64 0, .slice none 0 0, .bool false, .bool false, .bool true, .int .i64 0])) wx) := Lib.hid (fun wx hs => by
            rw [HPO.out, if_pos hid]
            exact ⟨none, 0, rfl, Own.nil _ _ _ _, H5.out.stays hs (fun k hk e => by have := (H.out.hf_lt hk).2; omega), (Stays.of_below HB05.out _).trans hs (fun k hk e => by omega)⟩)
          clear hid HEN2
          go_wp2
          exact bodyPost_ret (v := .agg #[.int .i64 0, .int .i64 0, .slice none 0 0, .bool false, .bool false, .bool true, .int .i64 0]) (by simp [results, Try.results49, go_sem, *]) rfl (HEND.out _ (Stays.seven _ _ _ _ _ _ _ _ _))
        · have hid' : ¬ s.next ≥ tt := hid
          have HPC := Lib.hid (send_piece B F s D dc M mc s.next tt w5 H5.out HI.out (by omega) (by omega) (by omega) (by omega))
          have hal := sd.after_piece (s := s) (f := s.next) (t := tt) (by omega) (by omega) (by omega) (by omega)
          have hpf : (sd.piece s s.next tt).from_ = s.next := rfl
          have hpi : (sd.piece s s.next tt).again = false ∧ (sd.piece s s.next tt).idle = false ∧ (sd.piece s s.next tt).code = 0 ∧ (sd.piece s s.next tt).left = 0 := ⟨rfl, rfl, rfl, rfl⟩
          have hpd := sd.piece_len s s.next tt (by omega) (by omega) (by omega)
          have HPQ : Hid (sd.poll s = (sd.piece s s.next tt, { s with next := sd.after (sd.piece s s.next tt), again := sd.after (sd.piece s s.next tt) })) := Lib.hid (by rw [HPO.out, if_neg hid])
          have hpd64 : (sd.piece s s.next tt).data.length ≤ 64 := by omega
          have HPF := Lib.hid hpf
          have HPI := Lib.hid hpi
          generalize sd.piece s s.next tt = pc at *
          obtain ⟨xc, xf, xd, xn, xa, xi, xl⟩ := pc
          simp only at hpf hpi hpd64 HPC HPQ HPI
          obtain ⟨rfl, rfl, rfl, rfl⟩ := hpi
          subst hpf
          have HAF := Lib.hid (fun (G : Option Addr) (gc : Nat) wz => send_after ⟨0, s.next, xd, xn, false, false, 0⟩ G gc F wz ⟨by simp only; omega, by simp only; omega⟩ hpd64)
          simp only at HAF
          obtain ⟨av, hav⟩ : ∃ av, sd.after ⟨0, s.next, xd, xn, false, false, 0⟩ = av := ⟨_, rfl⟩
          rw [hav] at HAF HPQ hal
          have havb : 0 ≤ av ∧ av ≤ 1048576 := by omega
          clear hav hpd hid HEN2 hal
          go_wp2_with (first
            | (go_at_call 81; ((with_reducible refine HPC.out.mono ?_); rintro e w6 ⟨E, ec, rfl, hE, hb6⟩; have HE := Lib.hid hE; have HB6 := Lib.hid hb6; clear hE hb6))
            | fail)
          refine (HAF.out E ec _).mono ?_
          rintro e w7 ⟨rfl, hb7⟩
          have B7 : Below w5.heap.size w5 w7 := bnext (balloc HB6.out _) hb7
          have s7 := H5.out.next B7
          have d4 := s7.blk.get 4
          have d5 := s7.blk.get 5
          have f4 := s7.blk.frozen 4
          have f5 := s7.blk.frozen 5
          simp only [List.getElem?_toArray, List.getElem?_cons_succ, List.getElem?_cons_zero] at d4 d5
          have r7 := HR5.out.next B7
          have tc := r7.get
          have tf := r7.frozen
          have hq7 := after_alloc hb7
          have uc := hq7.1.get
          have h56 := HB6.out.size
          have hn1 : F ≠ w6.heap.size := by omega
          have hn2 : w.heap.size ≠ w6.heap.size := by omega
          have hn3 : F ≠ w.heap.size := by omega
          have hn4 : w6.heap.size ≠ F := by omega
          have hn5 : w6.heap.size ≠ w.heap.size := by omega
          have hn6 : w.heap.size ≠ F := by omega
          have HE7 := Lib.hid ((HE.out.alloc (.cells #[.int .i64 0, .int .i64 s.next, .slice E xd.length ec, .bool xn, .bool false, .bool false, .int .i64 0] 49)).next hb7)
          have S7 := Lib.hid s7
          have HBB7 := Lib.hid B7
          have hl7 := hq7.2
          clear s7 r7 hq7 hb7 B7
          have HEND : Hid (∀ wx, Stays ((w7.setCell ⟨F, 4, none⟩ (.int .i64 av)).setCell ⟨F, 5, none⟩ (.int .i64 av)) wx (fun k => k = w.heap.size) → PollRes w B F (sd.poll s).1 (sd.poll s).2 D dc M mc (.returned (.agg #[.int .i64 0, .int .i64 s.next, .slice E xd.length ec, .bool xn, .bool false, .bool false, .int .i64 0])) wx) := Lib.hid (fun wx hs => by
            rw [HPQ.out]
            have hlt2 := HE7.out.lt
            have s8 := (S7.out.putNext av).putAgain av
            have st : Stays w7 wx (fun k => k = F ∨ k = w.heap.size) := (((Stays.set w7 F 4 (.int .i64 av)).comp (Stays.set _ F 5 (.int .i64 av))).mono fun k _ e => .inl e).comp (hs.mono fun k _ e => .inr e)
            refine ⟨E, ec, rfl, ?_, s8.stays hs (fun k hk e => by have := (H.out.hf_lt hk).2; omega), ((Stays.of_below (HB05.out.trans (HBB7.out.mono HB05.out.size)) _).trans st (fun k hk e => by omega))⟩
            exact (HE7.out.base_le HB05.out.size).stays st (fun k hk e => by have := (hlt2 k hk).1; omega))
          go_wp2
          exact bodyPost_ret (v := .agg #[.int .i64 0, .int .i64 s.next, .slice E xd.length ec, .bool xn, .bool false, .bool false, .int .i64 0]) (by simp [results, Try.results49, go_sem, *]) rfl (HEND.out _ (Stays.seven _ _ _ _ _ _ _ _ _))
end
end Go.Proofs.Ytdldfllllgogoaa
