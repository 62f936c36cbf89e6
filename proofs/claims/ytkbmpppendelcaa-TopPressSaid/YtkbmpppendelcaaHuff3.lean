/- Package huff: codes, Codes. No condition. -/
import Derived.Test.YtkbmpppendelcaaHuff2
import Derived.Test.YtkbmpppendelcaaMake
namespace Go.Proofs.Ytkbmpppendelcaa
open Go.RowKit
set_option linter.unusedSimpArgs false

/-- what codes answers -/
def CodPost (l : List Int) (w : World) (e : Ending) (w' : World) : Prop := ∃ g : Nat, e = .returned (.slice (some ⟨g, 0, none⟩) l.length l.length) ∧ OI w' w.heap.size g l.length l.length (hf.codes l) ∧ Below w.heap.size w w'

set_option maxRecDepth 100000 in
set_option maxHeartbeats 1000000 in
theorem huff_codes (l : List Int) (A : Option Addr) (c : Nat) (w : World) (hl : SlRep Rep.int w (· < w.heap.size) l A c) (hf : hf.fits l) :
    Calls Try.prog 26 #[.slice A l.length c] w (CodPost l w) := by
  have HL := Lib.hid hl
  have HF := Lib.hid hf
  have hn := hf.1
  clear hl hf
  have hmk := make_row (P := Try.prog) (i := Try.t3) (z := .int .i64 0) Try.underlying29 (by kernel_rfl) (by kernel_rfl) rfl rfl l.length (l.length : Int) rfl (by show 8 * _ ≤ _; omega) (by omega)
  obtain ⟨w1, hw1⟩ : ∃ w1, w1 = w.alloc (.cells (Array.replicate l.length (.int .i64 0)) 3) := ⟨_, rfl⟩
  have hB1 : Below w.heap.size w w1 := by rw [hw1]; exact (by repeat (first | (with_reducible exact Below.refl _ _) | (with_reducible assumption) | (with_reducible refine bset ?_ ?_ _) | (with_reducible refine balloc ?_ _) | (with_reducible refine Below.drew ?_) | (with_reducible refine bdrewN ?_ _) | (with_reducible refine bnext ?_ (by with_reducible assumption)) | exact Nat.le_refl _ | (simp; done) | omega | (simp; omega)))
  have HO1 : Hid (OI w1 w.heap.size w.heap.size l.length l.length (hf.filled l [] 0)) := Lib.hid (by
    have h := Own.lit w w.heap.size 3 1 l.length (List.replicate l.length (.int .i64 0)) (Nat.le_refl _) (by simp) (by unfold maxLen; omega)
    rw [List.toArray_replicate] at h
    rw [hw1]
    unfold OI
    rw [hf.filled_zero, List.map_replicate]
    exact h)
  have HORD := Lib.hid (huff_order l A c w1 (HL.out.next hB1) hn)
  have hs1 : Hid (w.heap.size < w1.heap.size) := Lib.hid (HO1.out.lt).2
  go_enter Try.func26, Try.ntmps26
  go_wp2_with (go_at_call 33; rw [← hw1]; refine HORD.out.mono ?_; rintro e w2 ⟨M, A', n, c', rfl, hM1, hM2, hM3, hM4⟩; have HM : Hid (M.Perm (hf.syms l) ∧ so.Srt (hf.len l) M ∧ Own w2 w1.heap.size 3 1 A' n c' (M.map intv) ∧ Below w1.heap.size w1 w2) := Lib.hid ⟨hM1, hM2, hM3, hM4⟩; clear hM1 hM2 hM3 hM4)
  clear hw1
  have hnM : n = M.length := by have := HM.out.2.2.1.len; simp at this; omega
  subst hnM
  have hMl : M.length ≤ 64 := by have := HM.out.1.length_eq; have := hf.syms_len l; omega
  go_loopw [4, 5, 14] (fun nx lg i wr => ∃ (k x : Nat) (y : Int), k ≤ M.length ∧ i = .int .i64 k ∧ nx = .int .i64 x ∧ lg = .int .i64 y ∧ Hid (hf.Run l M k x y ∧ OI wr w.heap.size w.heap.size l.length l.length (hf.filled l M k) ∧ Own wr w1.heap.size 3 1 A' M.length c' (M.map intv) ∧ Below w.heap.size w wr)) (fun _ _ i _ => M.length - (intOf i).toNat)
  case atStart =>
    obtain ⟨m1, m2, m3, m4⟩ := HM.out
    exact ⟨0, 0, 0, by omega, rfl, rfl, rfl, Lib.hid ⟨hf.Run.zero l M HF.out m1, by
      have h := Own.below HO1.out m4 (fun k hk => (Own.lt HO1.out k hk).2)
      have e : hf.filled l M 0 = hf.filled l [] 0 := by rw [hf.filled_zero, hf.filled_zero]
      rw [e]; exact h, m3, hB1.trans (m4.mono hB1.size)⟩⟩
  case round =>
    obtain ⟨k, x, y, hk, rfl, rfl, rfl, HJ⟩ := hrel
    rename World => wr
    obtain ⟨hR, hO, hM, hB⟩ := HJ.out
    by_cases hlt : k < M.length
    · obtain ⟨j, hj, hj0, hsj⟩ := hf.mem_syms.1 (HM.out.1.mem_iff.1 (List.getElem_mem hlt))
      have hMk : M[k]? = some (j : Int) := by rw [List.getElem?_eq_getElem hlt, hsj]
      obtain ⟨g2, rfl, hg2, _, hc1⟩ := Own.cell hM (j := k) (u := .int .i64 j) (by rw [List.getElem?_map, hMk]; rfl)
      obtain ⟨b, o, rfl, _, hc2⟩ := int_at (HL.out.below hB) hj
      have hlt' : (k : Int) < (M.length : Int) := by omega
      have hj' : (j : Int) < (l.length : Int) := by omega
      obtain ⟨r1, r2, r3⟩ := hR.step HF.out HM.out.2.1 HM.out.1 hMk
      have hx := hR.next_le HF.out HM.out.1
      have hlo := hR.lo
      have hup := hR.up _ hMk
      have hy40 := (hf.fits_len HF.out (HM.out.1.mem_iff.1 (List.mem_of_getElem? hMk))).2
      rw [hf.len_nat] at r1 r2 r3 hup hy40
      generalize l.getD j 0 = z at *
      generalize hx2 : x * 2 ^ (z - y).toNat = x2 at *
      have hne : g2 ≠ w.heap.size := by have := hs1.out; omega
      have hfr := hO.frozen j
      obtain ⟨u0, hu0⟩ : ∃ u0, (hf.filled l M k)[j]? = some u0 := ⟨_, List.getElem?_eq_getElem (by rw [hf.filled_len]; exact hj)⟩
      have hc3 := hO.at hu0
      have HW : Hid (wrap64 ((x : Int) * 2 ^ (z - y).toNat) = (x2 : Int)) := Lib.hid (by
        have e : (x : Int) * 2 ^ (z - y).toNat = ((x * 2 ^ (z - y).toNat : Nat) : Int) := by push_cast; rfl
        rw [e, hx2]; exact IntWalk.wrap64_in _ (by omega))
      have HN : Hid (hf.Run l M (k + 1) (x2 + 1) z ∧ OI (wr.setCell ⟨w.heap.size, j, none⟩ (.int .i64 x2)) w.heap.size w.heap.size l.length l.length (hf.filled l M (k + 1)) ∧ Own (wr.setCell ⟨w.heap.size, j, none⟩ (.int .i64 x2)) w1.heap.size 3 1 (some ⟨g2, 0, none⟩) M.length c' (M.map intv) ∧ Below w.heap.size w (wr.setCell ⟨w.heap.size, j, none⟩ (.int .i64 x2))) :=
        Lib.hid ⟨r3, by rw [hf.filled_succ hMk, r1]; exact hO.set j _, hM.setCell (p := ⟨w.heap.size, j, none⟩) (fun e => hne (by simpa [blkOf] using e)) _, bset hB (by simp) _⟩
      clear hO hM hR HJ hx2 r1 r3 hu0
      go_wp2
      go_roundw
      case rel => exact ⟨k + 1, x2 + 1, z, by omega, by go_num, by rw [HW.out, IntWalk.wrap64_in ((x2 : Int) + 1) (by omega)]; push_cast; rfl, rfl, by rw [HW.out]; exact HN⟩
      case measure => simp [intOf]; omega
    · have hkM : k = M.length := by omega
      subst hkM
      have HE : Hid (CodPost l w (.returned (.slice (some ⟨w.heap.size, 0, none⟩) l.length l.length)) wr) := Lib.hid ⟨_, rfl, by rw [← hf.filled_end HF.out HM.out.1]; exact hO, hB⟩
      clear hO hM hR HJ
      go_wp2
      go_ret
      exact HE.out

/-- what Codes answers -/
def CodesPost (l : List Int) (w : World) (e : Ending) (w' : World) : Prop := if hf.may l = true then ∃ g : Nat, e = .returned (.tuple #[.slice (some ⟨g, 0, none⟩) l.length l.length, .int .i64 0]) ∧ OI w' w.heap.size g l.length l.length (hf.codes l) ∧ Below w.heap.size w w' else e = .returned (.tuple #[.slice none 0 0, .int .i64 4]) ∧ Below w.heap.size w w'
end Go.Proofs.Ytkbmpppendelcaa
