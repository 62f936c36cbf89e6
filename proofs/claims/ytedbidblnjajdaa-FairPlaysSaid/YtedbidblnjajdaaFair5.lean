/- Package fair: sends without any that wait; the test of the quanta. No condition. -/
import Derived.Test.YtedbidblnjajdaaFair4
import Derived.Test.YtedbidblnjajdaaFairQ
namespace Go.Proofs.Ytedbidblnjajdaa
open Go.RowKit

set_option maxRecDepth 100000 in
set_option maxHeartbeats 4000000 in
theorem fair_sends_none (B0 base R G nf : Nat) (q : Nat → Int) (s : fr.St) (No : Nat → Prop) (w : World) (h : Ring w B0 base R G nf q s No) (ht : s.t = []) (hN : ∀ g, No g → g < w.heap.size) :
    Calls Try.prog 77 #[.pointer (some ⟨R, 0, none⟩)] w fun e w' => e = .returned (.agg #[.int .i64 7, .int .i64 0, .int .i64 0]) ∧ Ring w' B0 base R G nf q s No ∧ Below B0 w w' ∧ ∀ g, No g → w'.heap[g]? = w.heap[g]? := by
  have hr0 := h
  obtain ⟨A0, c0, At0, ct0, cG0, hr⟩ := hr0
  obtain ⟨l1, l2, l3, l4, l5, l6⟩ := hr.lo
  have k1 := hr.r1
  rw [ht, List.length_nil] at k1
  have HG := Lib.hid h
  have HN := Lib.hid hN
  have hRw : R < w.heap.size := by omega
  clear h hN hr ht
  go_enter Try.func77, Try.ntmps77
  go_upto_region 2 with fail
  obtain ⟨w1, hw1⟩ : ∃ w1, w1 = w.alloc (.cells #[.int .i64 0, .int .i64 0, .int .i64 0] 74) := ⟨_, rfl⟩
  have hb1 : Below w.heap.size w w1 := by rw [hw1]; exact (by repeat (first | (with_reducible exact Below.refl _ _) | (with_reducible assumption) | (with_reducible refine bset ?_ ?_ _) | (with_reducible refine balloc ?_ _) | (with_reducible refine Below.drew ?_) | (with_reducible refine bdrewN ?_ _) | (with_reducible refine bnext ?_ (by with_reducible assumption)) | exact Nat.le_refl _ | (simp; done) | omega | (simp; omega)))
  have hz1 : w1.heap.size = w.heap.size + 1 := by rw [hw1]; simp
  have u0 : w1.cell? ⟨w.heap.size, 0, none⟩ = some (.int .i64 0) := by rw [hw1]; simp [go_sem]
  have u1 : w1.cell? ⟨w.heap.size, 1, none⟩ = some (.int .i64 0) := by rw [hw1]; simp [go_sem]
  have u2 : w1.cell? ⟨w.heap.size, 2, none⟩ = some (.int .i64 0) := by rw [hw1]; simp [go_sem]
  have uf : ∀ o, w1.frozen? ⟨w.heap.size, o, none⟩ = false := fun o => by rw [hw1]; simp [go_sem]
  rw [← hw1]
  clear hw1 k1
  have HU := Lib.hid (And.intro u0 (And.intro u1 (And.intro u2 uf)))
  clear u0 u1 u2 uf
  have HG1 : Hid (Ring w1 B0 base R G nf q s (fun j => No j ∨ j = w.heap.size)) := Lib.hid (HG.out.keep (fun j hj _ => hb1.block j hj) hb1.size (fun j h => h.imp id (fun e => by omega)))
  go_wp2_with fail
  refine (fair_no 7 _).mono ?_
  rintro e w6 ⟨rfl, h7⟩
  have hz6 := h7.block w.heap.size (by omega)
  have v0 := (World.cell?_of_block (a := ⟨w.heap.size, 0, none⟩) hz6).trans HU.out.1
  have v1 := (World.cell?_of_block (a := ⟨w.heap.size, 1, none⟩) hz6).trans HU.out.2.1
  have v2 := (World.cell?_of_block (a := ⟨w.heap.size, 2, none⟩) hz6).trans HU.out.2.2.1
  have vf := fun o => (World.frozen?_of_block (a := ⟨w.heap.size, o, none⟩) hz6).trans (HU.out.2.2.2 o)
  have HB7 := Lib.hid h7
  have HB1 := Lib.hid hb1
  clear h7 hb1
  go_wp2
  refine bodyPost_ret (v := .agg #[.int .i64 7, .int .i64 0, .int .i64 0]) (by simp [results, Try.results77, go_sem, v0, v1, v2]) rfl ⟨rfl, ?_, ?_, ?_⟩
  · exact (HG1.out.keep (fun j hj _ => HB7.out.block j hj) HB7.out.size (fun j h => .inl h)).keep (fun j hj hn => by have hjz : j ≠ w.heap.size := fun e => hn (.inr e); rw [heap_set ⟨w.heap.size, 2, none⟩ hjz, heap_set ⟨w.heap.size, 1, none⟩ hjz, heap_set ⟨w.heap.size, 0, none⟩ hjz]) (by simp) (fun j h => .inl (.inl h))
  · exact ((((HB1.out.mono (by omega)).trans (HB7.out.mono (by omega))).setCell (p := ⟨w.heap.size, _, none⟩) (by simp only; omega) _).setCell (p := ⟨w.heap.size, _, none⟩) (by simp only; omega) _).setCell (p := ⟨w.heap.size, _, none⟩) (by simp only; omega) _
  · intro g' hg'
    have hl := HN.out g' hg'
    have e2 : g' ≠ w.heap.size := by omega
    rw [heap_set ⟨w.heap.size, 2, none⟩ e2, heap_set ⟨w.heap.size, 1, none⟩ e2, heap_set ⟨w.heap.size, 0, none⟩ e2]
    exact (HB7.out.block g' (by omega)).trans (HB1.out.block g' hl)

theorem fair_odd_no (n : Int) (w : World) (h : 1 ≤ n ∧ n ≤ 1500) : Calls Try.prog 74 #[.int .i64 n] w fun e w' => e = .returned (.bool false) ∧ Below w.heap.size w w' := by
  have h1 : decide (n < 1) = false := decide_eq_false (by omega)
  have h2 : decide (n > 1500) = false := decide_eq_false (by omega)
  have h3 : decide (1500 < n) = false := decide_eq_false (by omega)
  clear h
  go_enter Try.func74, Try.ntmps74
  go_wp2
  go_ret
  exact ⟨rfl, (by repeat (first | (with_reducible exact Below.refl _ _) | (with_reducible assumption) | (with_reducible refine bset ?_ ?_ _) | (with_reducible refine balloc ?_ _) | (with_reducible refine Below.drew ?_) | (with_reducible refine bdrewN ?_ _) | (with_reducible refine bnext ?_ (by with_reducible assumption)) | exact Nat.le_refl _ | (simp; done) | omega | (simp; omega)))⟩
theorem fair_odd_yes (n : Int) (w : World) (h : n < 1 ∨ 1500 < n) : Calls Try.prog 74 #[.int .i64 n] w fun e w' => e = .returned (.bool true) ∧ Below w.heap.size w w' := by
  by_cases h0 : n < 1
  · have h1 : decide (n < 1) = true := decide_eq_true h0
    clear h
    go_enter Try.func74, Try.ntmps74
    go_wp2
    go_ret
    exact ⟨rfl, (by repeat (first | (with_reducible exact Below.refl _ _) | (with_reducible assumption) | (with_reducible refine bset ?_ ?_ _) | (with_reducible refine balloc ?_ _) | (with_reducible refine Below.drew ?_) | (with_reducible refine bdrewN ?_ _) | (with_reducible refine bnext ?_ (by with_reducible assumption)) | exact Nat.le_refl _ | (simp; done) | omega | (simp; omega)))⟩
  · have h1 : decide (n < 1) = false := decide_eq_false h0
    have h2 : decide (n > 1500) = true := decide_eq_true (by omega)
    have h3 : decide (1500 < n) = true := decide_eq_true (by omega)
    clear h
    go_enter Try.func74, Try.ntmps74
    go_wp2
    go_ret
    exact ⟨rfl, (by repeat (first | (with_reducible exact Below.refl _ _) | (with_reducible assumption) | (with_reducible refine bset ?_ ?_ _) | (with_reducible refine balloc ?_ _) | (with_reducible refine Below.drew ?_) | (with_reducible refine bdrewN ?_ _) | (with_reducible refine bnext ?_ (by with_reducible assumption)) | exact Nat.le_refl _ | (simp; done) | omega | (simp; omega)))⟩

def QIdxPost (b : Bool) (w : World) (e : Ending) (w' : World) : Prop := (∃ n : Int, e = .returned (.int .i64 n) ∧ -1 ≤ n ∧ n ≤ 6 ∧ (0 ≤ n ↔ b = false)) ∧ Below w.heap.size w w'
theorem QIdxPost.mk {b : Bool} {w w' : World} {e : Ending} (n : Int) (h : e = .returned (.int .i64 n)) (h1 : -1 ≤ n) (h2 : n ≤ 6) (h3 : 0 ≤ n ↔ b = false) (hb : Below w.heap.size w w') : QIdxPost b w e w' := ⟨⟨n, h, h1, h2, h3⟩, hb⟩
set_option maxHeartbeats 1000000 in
theorem fair_index (l : List Int) (A : Option Addr) (c : Nat) (w : World) (hl : SlRep Rep.int w (· < w.heap.size) l A c) (hn : l.length ≤ 6) :
    Calls Try.prog 89 #[.slice A l.length c, .func (.func 74) #[] #[]] w (QIdxPost (l.all fr.qok) w) := by
  have HL := Lib.hid hl
  clear hl
  go_enter Try.func89, Try.ntmps89
  go_wp2
  go_loopw [5, 8] (fun _ i wr => ∃ k : Nat, k ≤ l.length ∧ i = .int .i64 k ∧ Hid (∀ j, j < k → fr.qok (l.getD j 0) = true) ∧ Below w.heap.size w wr) (fun _ i _ => l.length - (intOf i).toNat)
  case atStart => exact ⟨0, by omega, rfl, Lib.hid (fun j hj => by omega), Below.refl _ _⟩
  case round =>
    obtain ⟨k, hk, rfl, HA, hB⟩ := hrel
    rename World => wr
    by_cases hlt : k < l.length
    · obtain ⟨b, o, rfl, hb, hc1⟩ := int_at (HL.out.below hB) hlt
      have hbw : b < wr.heap.size := Nat.lt_of_lt_of_le hb hB.size
      have HI := Lib.hid (fr.qok_iff (l.getD k 0))
      have HN : Hid (fr.qok (l.getD k 0) = true → ∀ j, j < k + 1 → fr.qok (l.getD j 0) = true) := Lib.hid (fun h j hj => by
        rcases Nat.lt_or_ge j k with h' | h'
        · exact HA.out j h'
        · obtain rfl : j = k := by omega
          exact h)
      have HF : Hid (fr.qok (l.getD k 0) = false → l.all fr.qok = false) := Lib.hid (fun h => fr.all_no hlt h)
      clear HL HA
      generalize l.getD k 0 = r at *
      by_cases hr : 1 ≤ r ∧ r ≤ 1500
      · have HR := Lib.hid hr
        clear hr
        go_wp2_with (go_at_call 74; ((with_reducible refine (fair_odd_no r _ HR.out).mono ?_); rintro e w2 ⟨rfl, hb2⟩))
        go_roundw
        case rel => exact ⟨k + 1, by omega, by go_num, Lib.hid (HN.out (HI.out.2 HR.out)), bnext hB hb2⟩
        case measure => simp [intOf]; omega
      · have HR : Hid (r < 1 ∨ 1500 < r) := Lib.hid (by omega)
        have HR2 : Hid (fr.qok r = false) := Lib.hid (by cases e : fr.qok r with | false => rfl | true => exact absurd (HI.out.1 e) hr)
        clear hr
        go_wp2_with (go_at_call 74; ((with_reducible refine (fair_odd_yes r _ HR.out).mono ?_); rintro e w2 ⟨rfl, hb2⟩))
        go_ret
        exact QIdxPost.mk k rfl (by omega) (by omega) ⟨fun _ => HF.out HR2.out, fun _ => by omega⟩ (bnext hB hb2)
    · obtain rfl : k = l.length := by omega
      have HT : Hid (l.all fr.qok = true) := Lib.hid (fr.all_at HA.out)
      clear HA HL
      go_wp2
      go_ret
      exact QIdxPost.mk (-1) rfl (by omega) (by omega) ⟨fun h => by omega, fun h => by rw [HT.out] at h; cases h⟩ hB

set_option maxHeartbeats 400000 in
theorem fair_contains_yes (l : List Int) (A : Option Addr) (c : Nat) (w : World) (hl : SlRep Rep.int w (· < w.heap.size) l A c) (hn : l.length ≤ 6) (h : l.all fr.qok = false) :
    Calls Try.prog 73 #[.slice A l.length c, .func (.func 74) #[] #[]] w fun e w' => e = .returned (.bool true) ∧ Below w.heap.size w w' := by
  have HI := Lib.hid (fair_index l A c w hl hn)
  have HH := Lib.hid h
  clear hl h
  go_enter Try.func73, Try.ntmps73
  go_wp2_with (go_at_call 89; refine HI.out.mono ?_; rintro e w2 ⟨⟨n, rfl, h1, h2, h3⟩, hb2⟩; have h4 : 0 ≤ n := h3.2 HH.out; clear h3)
  go_ret
  exact ⟨rfl, hb2⟩
set_option maxHeartbeats 400000 in
theorem fair_contains_no (l : List Int) (A : Option Addr) (c : Nat) (w : World) (hl : SlRep Rep.int w (· < w.heap.size) l A c) (hn : l.length ≤ 6) (h : l.all fr.qok = true) :
    Calls Try.prog 73 #[.slice A l.length c, .func (.func 74) #[] #[]] w fun e w' => e = .returned (.bool false) ∧ Below w.heap.size w w' := by
  have HI := Lib.hid (fair_index l A c w hl hn)
  have HH := Lib.hid h
  clear hl h
  go_enter Try.func73, Try.ntmps73
  go_wp2_with (go_at_call 89; refine HI.out.mono ?_; rintro e w2 ⟨⟨n, rfl, h1, h2, h3⟩, hb2⟩; have h4 : n < 0 := Int.not_le.1 (fun h => by rw [HH.out] at h3; exact absurd (h3.1 h) (by simp)); clear h3)
  go_ret
  exact ⟨ret_bool (decide_eq_false (by omega)), hb2⟩
end Go.Proofs.Ytedbidblnjajdaa
