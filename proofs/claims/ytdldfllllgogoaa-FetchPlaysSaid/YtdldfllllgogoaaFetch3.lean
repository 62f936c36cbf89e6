/- Package fetch: is any of what is asked for ahead of the end. No condition. -/
import Derived.Test.YtdldfllllgogoaaFetch2
namespace Go.Proofs.Ytdldfllllgogoaa
open Go.RowKit

set_option maxHeartbeats 400000 in
theorem fetch_open (x : Want) (e : Int) (F Bx : Nat) (y0 y1 y3 : Value) (w : World) (hF : Blk4 w F 62 y0 y1 (.int .i64 e) y3) (hB : w.cell? ⟨Bx, 0, none⟩ = some (.pointer (some ⟨F, 0, none⟩))) (hBl : Bx < w.heap.size) :
    Calls Try.prog 34 #[.agg #[.int .i64 x.at_, .int .i64 x.count], .pointer (some ⟨Bx, 0, none⟩)] w fun r w' => r = .returned (.bool (decide (x.at_ < e))) ∧ Below w.heap.size w w' := by
  have hc2 := hF.cell2
  have hl := hF.lt
  clear hF
  go_enter Try.func34, Try.ntmps34
  go_wp2
  go_quiet (fail)
  go_wp2
  go_ret
  refine ⟨rfl, ?_⟩
  exact (by repeat (first | (with_reducible exact Below.refl _ _) | (with_reducible assumption) | (with_reducible refine bset ?_ ?_ _) | (with_reducible refine balloc ?_ _) | (with_reducible refine Below.drew ?_) | (with_reducible refine bdrewN ?_ _) | (with_reducible refine bnext ?_ (by with_reducible assumption)) | exact Nat.le_refl _ | (simp; done) | omega | (simp; omega)))

theorem want_at {w : World} {B n c : Nat} {A : Option Addr} {l : List Want} (h : Own w B 33 2 A n c (wantCells l)) {k : Nat} (hk : k < l.length) : ∃ g, A = some ⟨g, 0, none⟩ ∧ B ≤ g ∧ g < w.heap.size ∧ w.cell? ⟨g, k * 2, none⟩ = some (.int .i64 (l.getD k ⟨0, 0⟩).at_) ∧ w.cell? ⟨g, k * 2 + 1, none⟩ = some (.int .i64 (l.getD k ⟨0, 0⟩).count) := by
  obtain ⟨h1, h2⟩ := wantCells_at (l := l) (i := k) (a := l.getD k ⟨0, 0⟩) (by rw [List.getD_eq_getElem?_getD, List.getElem?_eq_getElem hk]; rfl)
  obtain ⟨g, rfl, h3, h4, h5⟩ := h.cell h1
  obtain ⟨g', e, _, _, h6⟩ := h.cell h2
  simp only [Option.some.injEq, Addr.mk.injEq, and_true] at e
  subst e
  exact ⟨g, rfl, h3, h4, h5, h6⟩
def ft.anyB (l : List Want) (e : Int) : Bool := l.any fun w => decide (w.at_ < e)
theorem ft.any_at {l : List Want} {e : Int} {k : Nat} (hk : k < l.length) (h : (l.getD k ⟨0, 0⟩).at_ < e) : ft.anyB l e = true := by
  unfold ft.anyB
  rw [List.any_eq_true]
  refine ⟨l[k], List.getElem_mem hk, ?_⟩
  rw [List.getD_eq_getElem?_getD, List.getElem?_eq_getElem hk] at h
  exact decide_eq_true h
theorem ft.any_no {l : List Want} {e : Int} (h : ∀ j, j < l.length → ¬ (l.getD j ⟨0, 0⟩).at_ < e) : ft.anyB l e = false := by
  unfold ft.anyB
  rw [List.any_eq_false]
  intro x hx
  obtain ⟨j, hj, rfl⟩ := List.mem_iff_getElem.1 hx
  have := h j hj
  rw [List.getD_eq_getElem?_getD, List.getElem?_eq_getElem hj] at this
  simpa using this
def WIdxPost (b : Bool) (w : World) (e : Ending) (w' : World) : Prop := (∃ n : Int, e = .returned (.int .i64 n) ∧ -1 ≤ n ∧ n ≤ 1000 ∧ (0 ≤ n ↔ b = true)) ∧ Below w.heap.size w w'
theorem WIdxPost.mk {b : Bool} {w w' : World} {e : Ending} (n : Int) (h : e = .returned (.int .i64 n)) (h1 : -1 ≤ n) (h2 : n ≤ 1000) (h3 : 0 ≤ n ↔ b = true) (hb : Below w.heap.size w w') : WIdxPost b w e w' := ⟨⟨n, h, h1, h2, h3⟩, hb⟩
set_option maxHeartbeats 1000000 in
theorem fetch_index (l : List Want) (e : Int) (A : Option Addr) (c B F Bx : Nat) (y0 y1 y3 : Value) (w : World) (hl : Own w B 33 2 A l.length c (wantCells l)) (hF : Blk4 w F 62 y0 y1 (.int .i64 e) y3) (hB : w.cell? ⟨Bx, 0, none⟩ = some (.pointer (some ⟨F, 0, none⟩))) (hBl : Bx < w.heap.size) (hn : l.length ≤ 1000) :
    Calls Try.prog 69 #[.slice A l.length c, .func (.func 34) #[] #[.pointer (some ⟨Bx, 0, none⟩)]] w (WIdxPost (ft.anyB l e) w) := by
  have HL := Lib.hid hl
  have HF := Lib.hid hF
  have HBX := Lib.hid hB
  have HBL := Lib.hid hBl
  clear hl hF hB hBl
  go_enter Try.func69, Try.ntmps69
  go_wp2
  go_loopw [5, 8] (fun _ i wr => ∃ k : Nat, k ≤ l.length ∧ i = .int .i64 k ∧ Hid (∀ j, j < k → ¬ (l.getD j ⟨0, 0⟩).at_ < e) ∧ Below w.heap.size w wr) (fun _ i _ => l.length - (intOf i).toNat)
  case atStart => exact ⟨0, by omega, rfl, Lib.hid (fun j hj => by omega), Below.refl _ _⟩
  case round =>
    obtain ⟨k, hk, rfl, HA, hB⟩ := hrel
    rename World => wr
    by_cases hlt : k < l.length
    · obtain ⟨g, rfl, hg0, hg1, hc1, hc2⟩ := want_at (HL.out.next hB) hlt
      have HN : Hid (¬ (l.getD k ⟨0, 0⟩).at_ < e → ∀ j, j < k + 1 → ¬ (l.getD j ⟨0, 0⟩).at_ < e) := Lib.hid (fun h j hj => by
        rcases Nat.lt_or_ge j k with h' | h'
        · exact HA.out j h'
        · obtain rfl : j = k := by omega
          exact h)
      have HY : Hid ((l.getD k ⟨0, 0⟩).at_ < e → ft.anyB l e = true) := Lib.hid (ft.any_at hlt)
      have HC := Lib.hid (fun x => fetch_open x e F Bx y0 y1 y3 wr (HF.out.next hB) ((hB.cell (p := ⟨Bx, 0, none⟩) HBL.out).trans HBX.out) (Nat.lt_of_lt_of_le HBL.out hB.size))
      clear HL HA
      generalize l.getD k ⟨0, 0⟩ = r at *
      by_cases hr : r.at_ < e
      · have HT : Hid (decide (r.at_ < e) = true) := Lib.hid (decide_eq_true hr)
        have HR := Lib.hid (HY.out hr)
        clear hr
        go_wp2_with (go_at_call 34; ((with_reducible refine (HC.out r).mono ?_); rintro e' w2 ⟨rfl, hb2⟩; rw [HT.out]))
        go_ret
        exact WIdxPost.mk k rfl (by omega) (by omega) ⟨fun _ => HR.out, fun _ => by omega⟩ (bnext hB hb2)
      · have HT : Hid (decide (r.at_ < e) = false) := Lib.hid (decide_eq_false hr)
        have HR := Lib.hid (HN.out hr)
        clear hr
        go_wp2_with (go_at_call 34; ((with_reducible refine (HC.out r).mono ?_); rintro e' w2 ⟨rfl, hb2⟩; rw [HT.out]))
        go_roundw
        case rel => exact ⟨k + 1, by omega, by go_num, Lib.hid (fun j hj => Int.not_lt.2 (HR.out j hj)), bnext hB hb2⟩
        case measure => simp [intOf]; omega
    · obtain rfl : k = l.length := by omega
      have HT : Hid (ft.anyB l e = false) := Lib.hid (ft.any_no HA.out)
      clear HA HL
      go_wp2
      go_ret
      exact WIdxPost.mk (-1) rfl (by omega) (by omega) ⟨fun h => by omega, fun h => by rw [HT.out] at h; cases h⟩ hB

set_option maxHeartbeats 400000 in
theorem fetch_contains (l : List Want) (e : Int) (A : Option Addr) (c B F Bx : Nat) (y0 y1 y3 : Value) (w : World) (hl : Own w B 33 2 A l.length c (wantCells l)) (hF : Blk4 w F 62 y0 y1 (.int .i64 e) y3) (hB : w.cell? ⟨Bx, 0, none⟩ = some (.pointer (some ⟨F, 0, none⟩))) (hBl : Bx < w.heap.size) (hn : l.length ≤ 1000) :
    Calls Try.prog 35 #[.slice A l.length c, .func (.func 34) #[] #[.pointer (some ⟨Bx, 0, none⟩)]] w fun r w' => r = .returned (.bool (ft.anyB l e)) ∧ Below w.heap.size w w' := by
  have HI := Lib.hid (fetch_index l e A c B F Bx y0 y1 y3 w hl hF hB hBl hn)
  clear hl hF hB hBl
  generalize ft.anyB l e = b at *
  go_enter Try.func35, Try.ntmps35
  go_wp2_with (go_at_call 69; refine HI.out.mono ?_; rintro e w2 ⟨⟨n, rfl, h1, h2, h3⟩, hb2⟩; have H3 := Lib.hid h3; clear h3)
  go_ret
  refine ⟨ret_bool ?_, hb2⟩
  cases b with
  | true => exact decide_eq_true (H3.out.2 rfl)
  | false => exact decide_eq_false (fun h => by have := H3.out.1 h; cases this)
end Go.Proofs.Ytdldfllllgogoaa
