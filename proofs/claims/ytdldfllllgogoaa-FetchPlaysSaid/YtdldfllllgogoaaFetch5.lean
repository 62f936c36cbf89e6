/- Package fetch: slices.Index at what is asked for. No condition. -/
import Derived.Test.YtdldfllllgogoaaFetch4
namespace Go.Proofs.Ytdldfllllgogoaa
open Go.RowKit

def ft.idxI (o : Option Nat) : Int := match o with | some i => i | none => -1
theorem ft.index_here {l : List Want} {x : Want} {k : Nat} (hk : k < l.length) (h : l.getD k ⟨0, 0⟩ = x) (hj : ∀ j, j < k → l.getD j ⟨0, 0⟩ ≠ x) : ft.index l x = some k := by
  unfold ft.index
  rw [List.findIdx?_eq_some_iff_getElem]
  refine ⟨hk, ?_, fun j hjk => ?_⟩
  · rw [List.getD_eq_getElem?_getD, List.getElem?_eq_getElem hk] at h
    simpa using h
  · have := hj j hjk
    rw [List.getD_eq_getElem?_getD, List.getElem?_eq_getElem (by omega)] at this
    simpa using this
theorem ft.index_none {l : List Want} {x : Want} (hj : ∀ j, j < l.length → l.getD j ⟨0, 0⟩ ≠ x) : ft.index l x = none := by
  unfold ft.index
  rw [List.findIdx?_eq_none_iff]
  intro y hy
  obtain ⟨j, h1, rfl⟩ := List.mem_iff_getElem.1 hy
  have := hj j h1
  rw [List.getD_eq_getElem?_getD, List.getElem?_eq_getElem h1] at this
  simpa using this
set_option maxHeartbeats 1000000 in
theorem fetch_idx (l : List Want) (x : Want) (A : Option Addr) (c B : Nat) (w : World) (hl : Own w B 33 2 A l.length c (wantCells l)) (hn : l.length ≤ 1000) :
    Calls Try.prog 37 #[.slice A l.length c, .agg #[.int .i64 x.at_, .int .i64 x.count]] w fun e w' => e = .returned (.int .i64 (ft.idxI (ft.index l x))) ∧ Below w.heap.size w w' := by
  have HL := Lib.hid hl
  clear hl
  obtain ⟨w1, hw1⟩ : ∃ w1, w1 = w.alloc (.cells #[.int .i64 x.at_, .int .i64 x.count] 33) := ⟨_, rfl⟩
  have hb1 : Below w.heap.size w w1 := by rw [hw1]; exact balloc (bself w) _
  have hx0 : w1.cell? ⟨w.heap.size, 0, none⟩ = some (.int .i64 x.at_) := by rw [hw1]; simp [go_sem]
  have hx1 : w1.cell? ⟨w.heap.size, 1, none⟩ = some (.int .i64 x.count) := by rw [hw1]; simp [go_sem]
  have hX1 : w.heap.size < w1.heap.size := by rw [hw1]; simp
  go_enter Try.func37, Try.ntmps37
  go_wp2
  rw [← hw1]
  clear hw1
  go_loopw [5, 8] (fun _ i wr => ∃ k : Nat, k ≤ l.length ∧ i = .int .i64 k ∧ Hid (∀ j, j < k → l.getD j ⟨0, 0⟩ ≠ x) ∧ Below w1.heap.size w1 wr) (fun _ i _ => l.length - (intOf i).toNat)
  case atStart => exact ⟨0, by omega, rfl, Lib.hid (fun j hj => by omega), Below.refl _ _⟩
  case round =>
    obtain ⟨k, hk, rfl, HA, hB⟩ := hrel
    rename World => wr
    have hBw : Below w.heap.size w wr := hb1.trans (hB.mono (Nat.le_of_lt hX1))
    have hy0 := (hB.cell (p := ⟨w.heap.size, 0, none⟩) hX1).trans hx0
    have hy1 := (hB.cell (p := ⟨w.heap.size, 1, none⟩) hX1).trans hx1
    by_cases hlt : k < l.length
    · obtain ⟨g, rfl, hg0, hg1, hc1, hc2⟩ := want_at (HL.out.next hBw) hlt
      have HN : Hid (l.getD k ⟨0, 0⟩ ≠ x → ∀ j, j < k + 1 → l.getD j ⟨0, 0⟩ ≠ x) := Lib.hid (fun h j hj => by
        rcases Nat.lt_or_ge j k with h' | h'
        · exact HA.out j h'
        · obtain rfl : j = k := by omega
          exact h)
      have HY : Hid (l.getD k ⟨0, 0⟩ = x → ft.index l x = some k) := Lib.hid (fun h => ft.index_here hlt h HA.out)
      clear HL HA
      generalize l.getD k ⟨0, 0⟩ = r at *
      by_cases hr : r = x
      · have HR := Lib.hid (HY.out hr)
        subst hr
        clear HY HN hx0 hx1
        go_wp2_with fail
        (try go_quiet (fail))
        (try go_wp2)
        go_ret
        exact ⟨by rw [HR.out]; rfl, bdrewN hBw _⟩
      · have HR := Lib.hid (HN.out hr)
        have HQ : Hid (¬ (x.at_ = r.at_ ∧ x.count = r.count)) := Lib.hid (fun h => hr (by cases r; cases x; simp_all))
        clear HY HN hx0 hx1 hr
        by_cases ha : x.at_ = r.at_
        · have hcn : ¬ x.count = r.count := fun h => HQ.out ⟨ha, h⟩
          have hcd : decide (x.count = r.count) = false := decide_eq_false hcn
          rw [← ha] at hc1
          generalize r.count = rc at *
          generalize x.count = xc at *
          generalize x.at_ = xa at *
          go_wp2_with fail
          go_quiet (fail)
          go_wp2
          go_roundw
          case rel => exact ⟨k + 1, by omega, by go_num, Lib.hid HR.out, bdrewN hB _⟩
          case measure => simp [intOf]; omega
        · have hcd : decide (x.at_ = r.at_) = false := decide_eq_false ha
          generalize r.count = rc at *
          generalize r.at_ = ra at *
          generalize x.count = xc at *
          generalize x.at_ = xa at *
          go_wp2_with fail
          go_quiet (fail)
          go_wp2
          go_roundw
          case rel => exact ⟨k + 1, by omega, by go_num, Lib.hid HR.out, bdrewN hB _⟩
          case measure => simp [intOf]; omega
    · obtain rfl : k = l.length := by omega
      have HT : Hid (ft.index l x = none) := Lib.hid (ft.index_none HA.out)
      clear HA HL
      go_wp2
      go_ret
      exact ⟨by rw [HT.out]; rfl, hBw⟩
end Go.Proofs.Ytdldfllllgogoaa
