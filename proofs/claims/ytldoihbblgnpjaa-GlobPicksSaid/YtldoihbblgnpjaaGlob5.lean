/- Package glob: a match by turns. No condition. -/
import Derived.Test.YtldoihbblgnpjaaGlob4
namespace Go.Proofs.Ytldoihbblgnpjaa
open Go.RowKit

theorem gl.cells_of {w : World} {A : Option Addr} {l : List gl.Item} (h : Cells w A (l.flatMap gl.item)) {i : Nat} (hi : i < l.length) : ∃ b o, A = some ⟨b, o, none⟩ ∧ w.cell? ⟨b, o + i * 257, none⟩ = some (.bool (l.getD i .run).isRun) ∧ ∀ x : UInt8, w.cell? ⟨b, o + i * 257 + 1 + x.toNat, none⟩ = some (.bool ((l.getD i .run).takes x)) := by
  have hy : l[i]? = some (l.getD i .run) := by rw [List.getD_eq_getElem?_getD, List.getElem?_eq_getElem hi]; rfl
  have hat := flatMap_at gl.item 257 gl.item_len l i _ hy
  rcases h with h | ⟨b, o, rfl, hc⟩
  · have := flatMap_len gl.item 257 gl.item_len l
    rw [h] at this
    simp at this
    omega
  · refine ⟨b, o, rfl, ?_, fun x => ?_⟩
    · have h1 := hat 0 (by decide)
      have := hc (i * 257 + 0) _ (h1.trans rfl)
      rwa [Nat.add_zero] at this
    · have hx := x.toNat_lt
      have h1 := hat (1 + x.toNat) (by omega)
      have h2 : (gl.item (l.getD i .run))[1 + x.toNat]? = some (.bool ((l.getD i .run).takes x)) := by
        unfold gl.item
        rw [gl.cells_at _ _ (by omega)]
        unfold gl.itemF
        simp
      have := hc (i * 257 + (1 + x.toNat)) _ (h1.trans h2)
      rwa [show o + (i * 257 + (1 + x.toNat)) = o + i * 257 + 1 + x.toNat by omega] at this
theorem gl.mu1 {N m f a i : Nat} (ha : a < N) : (N + 1 - f) * (m + N + 2) + (N - (a + 1)) + (m - (i + 1)) < (N + 1 - f) * (m + N + 2) + (N - a) + (m - i) := by omega
theorem gl.mu2 {N m f a i : Nat} (hf : f ≤ a) (ha : a < N) (hi : i < m) : (N + 1 - a) * (m + N + 2) + (N - a) + (m - (i + 1)) < (N + 1 - f) * (m + N + 2) + (N - a) + (m - i) := by
  have h := Nat.mul_le_mul_right (m + N + 2) (by omega : N + 1 - a ≤ N + 1 - f)
  omega
theorem gl.mu3 {N m f a i r : Nat} (hf : f ≤ a) (ha : a < N) : (N + 1 - (f + 1)) * (m + N + 2) + (N - (f + 1)) + (m - r) < (N + 1 - f) * (m + N + 2) + (N - a) + (m - i) := by
  have e : N + 1 - f = (N + 1 - (f + 1)) + 1 := by omega
  rw [e, Nat.succ_mul]
  omega

set_option maxRecDepth 100000 in
set_option maxHeartbeats 4000000 in
theorem glob_match (l : List gl.Item) (A : Option Addr) (c : Nat) (n : List UInt8) (w : World) (hl : Cells w A (l.flatMap gl.item)) (h40 : l.length ≤ 40) (hn : n.length ≤ 1000000) :
    Calls Try.prog 18 #[.slice A l.length c, .string (strOf n)] w fun e w' => e = .returned (.bool (gl.matches_ l n)) ∧ Below w.heap.size w w' := by
  have HL := Lib.hid hl
  clear hl
  go_enter Try.func18, Try.ntmps18
  go_wp2
  go_loopw [5, 6, 7, 8] (fun s5 s6 s7 s8 wr => ∃ (i a r f mm : Nat) (g : Bool) (ru : Int), s5 = .int .i64 i ∧ s6 = .int .i64 a ∧ s7 = .int .i64 ru ∧ s8 = .int .i64 f ∧ i ≤ l.length ∧ a ≤ n.length ∧ f ≤ a ∧ -1 ≤ ru ∧ ru ≤ 40 ∧ Hid (ru = (r : Int) - 1 ∧ (g = true ↔ 0 ≤ ru) ∧ gl.Turn l n i a g r f) ∧ wr = w.drewN mm) (fun s5 s6 _ s8 _ => (n.length + 1 - (intOf s8).toNat) * (l.length + n.length + 2) + (n.length - (intOf s6).toNat) + (l.length - (intOf s5).toNat))
  case atStart => exact ⟨0, 0, 0, 0, 0, false, -1, rfl, rfl, rfl, rfl, by omega, by omega, by omega, by omega, by omega, Lib.hid ⟨rfl, by simp, gl.Turn.start⟩, rfl⟩
  case round =>
    obtain ⟨i, a, r, f, mm, g, ru, rfl, rfl, rfl, rfl, hi, ha, hfa, hr1, hr2, HT, rfl⟩ := hrel
    by_cases hlt : a < n.length
    · obtain ⟨x, hx⟩ : ∃ x, x = n.getD a 0 := ⟨_, rfl⟩
      have hxi : ∀ h, n[a]'h = x := fun h => by rw [hx, List.getD_eq_getElem?_getD, List.getElem?_eq_getElem h]; rfl
      have HX := Lib.hid hx
      clear hx
      have hx0 := x.toNat_lt
      have hxb : (x.toNat : Int) < 256 := by omega
      have hlt' : (a : Int) < (n.length : Int) := by omega
      by_cases him : i < l.length
      · obtain ⟨b, o, rfl, hc0, hcx⟩ := gl.cells_of HL.out him
        have hc1 := hcx x
        clear hcx
        have him' : (i : Int) < (l.length : Int) := by omega
        obtain ⟨ir, hir⟩ : ∃ ir, ir = (l.getD i .run).isRun := ⟨_, rfl⟩
        rw [← hir] at hc0
        obtain ⟨tk, htk⟩ : ∃ tk, tk = (l.getD i .run).takes x := ⟨_, rfl⟩
        rw [← htk] at hc1
        have HIR := Lib.hid hir
        have HTK := Lib.hid htk
        clear hir htk
        cases ir with
        | true =>
          go_wp2
          go_roundw
          case rel => exact ⟨i + 1, a, i + 1, a, mm, true, i, by go_num, rfl, rfl, rfl, by omega, by omega, by omega, by omega, by omega, Lib.hid ⟨by omega, by simp, HT.out.2.2.star him HIR.out.symm⟩, rfl⟩
          case measure => simp only [intOf, Int.toNat_natCast]; exact gl.mu2 hfa hlt him
        | false =>
          cases tk with
          | true =>
            go_wp2
            go_quiet (fail)
            go_wp2
            go_roundw
            case rel => exact ⟨i + 1, a + 1, r, f, _, g, ru, by go_num, by go_num, rfl, rfl, by omega, by omega, by omega, by omega, by omega, Lib.hid ⟨HT.out.1, HT.out.2.1, HT.out.2.2.take him hlt HIR.out.symm (by rw [← HX.out]; exact HTK.out.symm)⟩, rfl⟩
            case measure => simp only [intOf, Int.toNat_natCast]; exact gl.mu1 hlt
          | false =>
            have HS : Hid (gl.Stuck l n i a) := Lib.hid ⟨hlt, fun _ => ⟨HIR.out.symm, by rw [← HX.out]; exact HTK.out.symm⟩⟩
            by_cases hru : 0 ≤ ru
            · have hgt : g = true := HT.out.2.1.2 hru
              subst hgt
              have HR1 : Hid (ru + 1 = (r : Int)) := Lib.hid (by have := HT.out.1; omega)
              have hd4 : decide (ru ≥ 0) = true := by simp [hru]
              have hd4' : decide (0 ≤ ru) = true := by simp [hru]
              go_wp2
              go_quiet (fail)
              go_wp2
              go_roundw
              case rel => exact ⟨r, f + 1, r, f + 1, _, true, ru, by rw [HR1.out], by go_num, rfl, by go_num, by have h1 := HT.out.2.2.seg.ri; omega, by omega, by omega, by omega, by omega, Lib.hid ⟨HT.out.1, by simp [hru], HT.out.2.2.back HS.out⟩, rfl⟩
              case measure =>
                have h1 : (ru + 1).toNat = r := by rw [HR1.out]; rfl
                have h2 : ((f : Int) + 1).toNat = f + 1 := by omega
                simp only [intOf, Int.toNat_natCast, h1, h2]
                exact gl.mu3 hfa hlt
            · have hgt : g = false := by
                cases g with
                | false => rfl
                | true => exact absurd (HT.out.2.1.1 rfl) hru
              subst hgt
              have hd4 : decide (ru ≥ 0) = false := by simp; omega
              have hd4' : decide (0 ≤ ru) = false := by simp; omega
              have HF : Hid (gl.matches_ l n = false) := Lib.hid (by
                cases e : gl.matches_ l n with
                | false => rfl
                | true => exact absurd ((gl.matches_iff l n).1 e) (HT.out.2.2.fail HS.out))
              clear hru
              go_wp2
              go_quiet (fail)
              go_wp2
              go_ret
              exact ⟨by rw [HF.out]; rfl, (by repeat (first | (with_reducible exact Below.refl _ _) | (with_reducible assumption) | (with_reducible refine bset ?_ ?_ _) | (with_reducible refine balloc ?_ _) | (with_reducible refine Below.drew ?_) | (with_reducible refine bdrewN ?_ _) | (with_reducible refine bnext ?_ (by with_reducible assumption)) | exact Nat.le_refl _ | (simp; done) | omega | (simp; omega)))⟩
      · have hmi : (l.length : Int) ≤ (i : Int) := by omega
        have hdi : decide (i < l.length) = false := decide_eq_false him
        have HS : Hid (gl.Stuck l n i a) := Lib.hid ⟨hlt, fun h => absurd h him⟩
        by_cases hru : 0 ≤ ru
        · have hgt : g = true := HT.out.2.1.2 hru
          subst hgt
          have HR1 : Hid (ru + 1 = (r : Int)) := Lib.hid (by have := HT.out.1; omega)
          have hd4 : decide (ru ≥ 0) = true := by simp [hru]
          have hd4' : decide (0 ≤ ru) = true := by simp [hru]
          go_wp2
          go_quiet (fail)
          go_wp2
          go_roundw
          case rel => exact ⟨r, f + 1, r, f + 1, _, true, ru, by rw [HR1.out], by go_num, rfl, by go_num, by have h1 := HT.out.2.2.seg.ri; omega, by omega, by omega, by omega, by omega, Lib.hid ⟨HT.out.1, by simp [hru], HT.out.2.2.back HS.out⟩, rfl⟩
          case measure =>
            have h1 : (ru + 1).toNat = r := by rw [HR1.out]; rfl
            have h2 : ((f : Int) + 1).toNat = f + 1 := by omega
            simp only [intOf, Int.toNat_natCast, h1, h2]
            exact gl.mu3 hfa hlt
        · have hgt : g = false := by
            cases g with
            | false => rfl
            | true => exact absurd (HT.out.2.1.1 rfl) hru
          subst hgt
          have hd4 : decide (ru ≥ 0) = false := by simp; omega
          have hd4' : decide (0 ≤ ru) = false := by simp; omega
          have HF : Hid (gl.matches_ l n = false) := Lib.hid (by
            cases e : gl.matches_ l n with
            | false => rfl
            | true => exact absurd ((gl.matches_iff l n).1 e) (HT.out.2.2.fail HS.out))
          clear hru
          go_wp2
          go_quiet (fail)
          go_wp2
          go_ret
          exact ⟨by rw [HF.out]; rfl, (by repeat (first | (with_reducible exact Below.refl _ _) | (with_reducible assumption) | (with_reducible refine bset ?_ ?_ _) | (with_reducible refine balloc ?_ _) | (with_reducible refine Below.drew ?_) | (with_reducible refine bdrewN ?_ _) | (with_reducible refine bnext ?_ (by with_reducible assumption)) | exact Nat.le_refl _ | (simp; done) | omega | (simp; omega)))⟩
    · obtain rfl : a = n.length := by omega
      have HE := Lib.hid (HT.out.2.2.done rfl)
      have HB : Hid (Below w.heap.size w (w.drewN mm)) := Lib.hid (by repeat (first | (with_reducible exact Below.refl _ _) | (with_reducible assumption) | (with_reducible refine bset ?_ ?_ _) | (with_reducible refine balloc ?_ _) | (with_reducible refine Below.drew ?_) | (with_reducible refine bdrewN ?_ _) | (with_reducible refine bnext ?_ (by with_reducible assumption)) | exact Nat.le_refl _ | (simp; done) | omega | (simp; omega)))
      clear hlt hfa hr1 hr2
      go_wp2
      go_loopw [5] (fun s5 wr => ∃ j : Nat, s5 = .int .i64 j ∧ j ≤ l.length ∧ Hid (gl.E l n 0 0 ↔ gl.E l n j n.length) ∧ wr = w.drewN mm) (fun s5 _ => l.length - (intOf s5).toNat)
      case atStart => exact ⟨i, rfl, hi, HE, rfl⟩
      case round =>
        obtain ⟨j, rfl, hj, HJ, rfl⟩ := hrel
        by_cases hjm : j < l.length
        · obtain ⟨b, o, rfl, hc0, hcx⟩ := gl.cells_of HL.out hjm
          clear hcx
          have hjm' : (j : Int) < (l.length : Int) := by omega
          have hne : ((j : Int) == (l.length : Int)) = false := by rw [beq_eq_false_iff_ne]; omega
          obtain ⟨ir, hir⟩ : ∃ ir, ir = (l.getD j .run).isRun := ⟨_, rfl⟩
          rw [← hir] at hc0
          have HIR := Lib.hid hir
          clear hir
          cases ir with
          | true =>
            go_wp2
            go_roundw
            case rel => exact ⟨j + 1, by go_num, by omega, Lib.hid (HJ.out.trans (gl.tail_run hjm HIR.out.symm)), by first | rfl | trivial⟩
            case measure => simp [intOf]; omega
          | false =>
            have HF : Hid (gl.matches_ l n = false) := Lib.hid (by
              cases e : gl.matches_ l n with
              | false => rfl
              | true => exact absurd (HJ.out.1 ((gl.matches_iff l n).1 e)) (gl.tail_no hjm HIR.out.symm))
            go_wp2
            go_ret
            exact ⟨by rw [HF.out]; rfl, HB.out⟩
        · obtain rfl : j = l.length := by omega
          have HF : Hid (gl.matches_ l n = true) := Lib.hid ((gl.matches_iff l n).2 (HJ.out.2 (gl.tail_end (Nat.le_refl _))))
          go_wp2
          go_ret
          exact ⟨by rw [HF.out]; rfl, HB.out⟩
end Go.Proofs.Ytldoihbblgnpjaa
