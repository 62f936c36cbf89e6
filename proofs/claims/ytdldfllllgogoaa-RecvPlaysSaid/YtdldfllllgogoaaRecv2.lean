/- Package recv: whether a place is among ranges (slices.IndexFunc, ContainsFunc). No condition. -/
import Derived.Test.YtdldfllllgogoaaRecv1
namespace Go.Proofs.Ytdldfllllgogoaa
open Go.RowKit
set_option linter.unusedSimpArgs false

open Classical in
noncomputable def rv.anyB (l : List Rng) (p : Int) : Bool := decide (had.cov l p)
theorem rv.anyB_iff {l : List Rng} {p : Int} : rv.anyB l p = true ↔ had.cov l p := by unfold rv.anyB; simp
theorem rv.any_at {l : List Rng} {p : Int} {k : Nat} (hk : k < l.length) (h : rv.inB (l.getD k Rng.z) p = true) : rv.anyB l p = true := by
  refine rv.anyB_iff.2 ⟨l.getD k Rng.z, ?_, rv.inB_iff.1 h⟩
  rw [List.getD_eq_getElem?_getD, List.getElem?_eq_getElem hk]
  exact List.getElem_mem hk
theorem rv.any_no {l : List Rng} {p : Int} (h : ∀ j, j < l.length → rv.inB (l.getD j Rng.z) p = false) : rv.anyB l p = false := by
  cases hb : rv.anyB l p
  · rfl
  exfalso
  obtain ⟨r, hr, hp⟩ := rv.anyB_iff.1 hb
  obtain ⟨j, hj, rfl⟩ := List.mem_iff_getElem.1 hr
  have := h j hj
  rw [List.getD_eq_getElem?_getD, List.getElem?_eq_getElem hj] at this
  have h2 := rv.inB_iff.2 hp
  simp only [Option.getD_some] at this
  rw [this] at h2
  cases h2
def IdxPost (b : Bool) (w : World) (e : Ending) (w' : World) : Prop := (∃ n : Int, e = .returned (.int .i64 n) ∧ -1 ≤ n ∧ n ≤ 1000 ∧ (0 ≤ n ↔ b = true)) ∧ Below w.heap.size w w'
theorem IdxPost.mk {b : Bool} {w w' : World} {e : Ending} (n : Int) (h : e = .returned (.int .i64 n)) (h1 : -1 ≤ n) (h2 : n ≤ 1000) (h3 : 0 ≤ n ↔ b = true) (hb : Below w.heap.size w w') : IdxPost b w e w' := ⟨⟨n, h, h1, h2, h3⟩, hb⟩
set_option maxHeartbeats 1000000 in
theorem recv_index (l : List Rng) (fr i : Nat) (A : Option Addr) (c Bf Bi : Nat) (w : World) (hl : SlRep Rng.rep w (· < w.heap.size) l A c) (hn : l.length ≤ 16) (hf : w.cell? ⟨Bf, 0, none⟩ = some (.int .i64 (fr : Int))) (hi : w.cell? ⟨Bi, 0, none⟩ = some (.int .i64 (i : Int))) (h1 : fr ≤ 2000000) (h2 : i ≤ 2000000) (h3 : Bf < w.heap.size) (h4 : Bi < w.heap.size) :
    Calls Try.prog 98 #[.slice A l.length c, .func (.func 96) #[] #[.pointer (some ⟨Bf, 0, none⟩), .pointer (some ⟨Bi, 0, none⟩)]] w (IdxPost (rv.anyB l ((fr + i : Nat) : Int)) w) := by
  have HL := Lib.hid hl
  have HFI := Lib.hid (And.intro hf hi)
  have HBL := Lib.hid (And.intro h3 h4)
  have H12 := Lib.hid (And.intro h1 h2)
  clear hl hf hi h3 h4 h1 h2
  obtain ⟨p, hp⟩ : ∃ p : Int, p = ((fr + i : Nat) : Int) := ⟨_, rfl⟩
  have HP := Lib.hid hp
  rw [← hp]
  clear hp
  go_enter Try.func98, Try.ntmps98
  go_wp2
  go_loopw [5, 8] (fun _ i wr => ∃ k : Nat, k ≤ l.length ∧ i = .int .i64 k ∧ Hid (∀ j, j < k → rv.inB (l.getD j Rng.z) p = false) ∧ Below w.heap.size w wr) (fun _ i _ => l.length - (intOf i).toNat)
  case atStart => exact ⟨0, by omega, rfl, Lib.hid (fun j hj => by omega), Below.refl _ _⟩
  case round =>
    obtain ⟨k, hk, rfl, HA, hB⟩ := hrel
    rename World => wr
    by_cases hlt : k < l.length
    · obtain ⟨g, o, rfl, _, hc1, hc2⟩ := Rng.cells_at Rng.z (HL.out.below hB) hlt
      have HN : Hid (rv.inB (l.getD k Rng.z) p = false → ∀ j, j < k + 1 → rv.inB (l.getD j Rng.z) p = false) := Lib.hid (fun h j hj => by
        rcases Nat.lt_or_ge j k with h' | h'
        · exact HA.out j h'
        · obtain rfl : j = k := by omega
          exact h)
      have HY : Hid (rv.inB (l.getD k Rng.z) p = true → rv.anyB l p = true) := Lib.hid (rv.any_at hlt)
      have HC := Lib.hid (fun r : Rng => by
        have h := recv_test r fr i Bf Bi wr ((hB.cell (p := ⟨Bf, 0, none⟩) HBL.out.1).trans HFI.out.1) ((hB.cell (p := ⟨Bi, 0, none⟩) HBL.out.2).trans HFI.out.2) H12.out.1 H12.out.2 (Nat.lt_of_lt_of_le HBL.out.1 hB.size) (Nat.lt_of_lt_of_le HBL.out.2 hB.size)
        rw [← HP.out] at h
        exact h)
      clear HL HA
      generalize l.getD k Rng.z = r at *
      cases hr : rv.inB r p with
      | true =>
        have HT := Lib.hid hr
        have HR := Lib.hid (HY.out hr)
        clear hr
        go_wp2_with (go_at_call 96; ((with_reducible refine (HC.out r).mono ?_); rintro e' w2 ⟨rfl, hb2⟩; rw [HT.out]))
        go_ret
        exact IdxPost.mk k rfl (by omega) (by omega) ⟨fun _ => HR.out, fun _ => by omega⟩ (bnext hB hb2)
      | false =>
        have HT := Lib.hid hr
        have HR := Lib.hid (HN.out hr)
        clear hr
        go_wp2_with (go_at_call 96; ((with_reducible refine (HC.out r).mono ?_); rintro e' w2 ⟨rfl, hb2⟩; rw [HT.out]))
        go_roundw
        case rel => exact ⟨k + 1, by omega, by go_num, Lib.hid HR.out, bnext hB hb2⟩
        case measure => simp [intOf]; omega
    · obtain rfl : k = l.length := by omega
      have HT : Hid (rv.anyB l p = false) := Lib.hid (rv.any_no HA.out)
      clear HA HL
      go_wp2
      go_ret
      exact IdxPost.mk (-1) rfl (by omega) (by omega) ⟨fun h => by omega, fun h => by rw [HT.out] at h; cases h⟩ hB

set_option maxHeartbeats 400000 in
theorem recv_contains (l : List Rng) (fr i : Nat) (A : Option Addr) (c Bf Bi : Nat) (w : World) (hl : SlRep Rng.rep w (· < w.heap.size) l A c) (hn : l.length ≤ 16) (hf : w.cell? ⟨Bf, 0, none⟩ = some (.int .i64 (fr : Int))) (hi : w.cell? ⟨Bi, 0, none⟩ = some (.int .i64 (i : Int))) (h1 : fr ≤ 2000000) (h2 : i ≤ 2000000) (h3 : Bf < w.heap.size) (h4 : Bi < w.heap.size) :
    Calls Try.prog 77 #[.slice A l.length c, .func (.func 96) #[] #[.pointer (some ⟨Bf, 0, none⟩), .pointer (some ⟨Bi, 0, none⟩)]] w fun e w' => e = .returned (.bool (rv.anyB l ((fr + i : Nat) : Int))) ∧ Below w.heap.size w w' := by
  have HI := Lib.hid (recv_index l fr i A c Bf Bi w hl hn hf hi h1 h2 h3 h4)
  clear hl hf hi h1 h2 h3 h4
  generalize rv.anyB l ((fr + i : Nat) : Int) = b at *
  go_enter Try.func77, Try.ntmps77
  go_wp2_with (go_at_call 98; refine HI.out.mono ?_; rintro e w2 ⟨⟨n, rfl, h1, h2, h3⟩, hb2⟩; have H3 := Lib.hid h3; clear h3)
  go_ret
  refine ⟨ret_bool ?_, hb2⟩
  cases b with
  | true => exact decide_eq_true (H3.out.2 rfl)
  | false => exact decide_eq_false (fun h => by have := H3.out.1 h; cases this)
end Go.Proofs.Ytdldfllllgogoaa
