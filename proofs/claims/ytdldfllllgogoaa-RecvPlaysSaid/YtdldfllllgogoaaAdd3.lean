/- The library's Clone, Grow and Concat, of ranges. No condition. -/
import Derived.Test.YtdldfllllgogoaaRngs
import Derived.Test.YtdldfllllgogoaaSl
import Derived.Test.YtdldfllllgogoaaLists
import Derived.Lib.AppendZerosOnto
namespace Go.Proofs.Ytdldfllllgogoaa
open Go.RowKit

theorem clone_rng (l : List Rng) (A : Option Addr) (c : Nat) (w : World) (hl : SlRep Rng.rep w (· < w.heap.size) l A c) (hn : l.length ≤ 1048576) :
    Calls Try.prog 95 #[.slice A l.length c] w fun e w' => ∃ A' c', e = .returned (.slice A' l.length c') ∧ Own w' w.heap.size 78 2 A' l.length c' (l.flatMap Rng.cells) ∧ Below w.heap.size w w' := by
  have hc : ∀ w', Below w.heap.size w w' → Cells w' A (l.flatMap Rng.cells) := fun w' hb => (hl.next hb).cells_flat Rng.cells rfl (fun a cs h => Rng.rep_iff.1 h) (fun _ => rfl) (by decide)
  have hx : (l.flatMap Rng.cells).length = l.length * 2 := flatMap_len Rng.cells 2 (fun _ => rfl) l
  have h1 : ∀ u ∈ l.flatMap Rng.cells, u.oneCell' = true := Rng.one l
  clear hl
  generalize l.flatMap Rng.cells = xs at *
  generalize l.length = n at *
  cases A with
  | none =>
    obtain rfl := (hc w (bself w)).len_of_none
    obtain rfl : n = 0 := by simp at hx; omega
    have hq := Lib.run_eql_slice_nil (P := Try.prog) w 39 78 none 0 c 0 0 Try.underlying39
    simp only [Option.isNone] at hq
    go_enter Try.func95, Try.ntmps95
    go_wp2
    go_ret
    exact ⟨none, 0, rfl, Own.nil _ _ _ _, bself w⟩
  | some a =>
    have HC := Lib.hid hc
    have HX := Lib.hid hx
    have H1 := Lib.hid h1
    clear hc hx h1
    have hq := Lib.run_eql_slice_nil (P := Try.prog) w 39 78 (some a) n c 0 0 Try.underlying39
    simp only [Option.isNone] at hq
    go_enter Try.func95, Try.ntmps95
    go_wp2_with (at_builtin; refine wp_app _ rfl _ _ _ rfl elemRng w.heap.size _ 0 0 [] rfl (Own.lit w w.heap.size _ 2 0 [] (Nat.le_refl _) rfl (by decide)) _ n _ xs rfl HX.out (HC.out _ (balloc (bself w) _)) H1.out (by omega) (by unfold maxLen; omega) (by simp) ?_; intro A3 c3 w4 hO4 hg4; have HO4 := Lib.hid hO4; clear hO4)
    go_ret
    exact ⟨A3, c3, rfl, by simpa using HO4.out, Grew.step (balloc (bself w) _) hg4 (fun k hk => by cases hk; exact Nat.le_refl _)⟩

set_option maxRecDepth 100000 in
theorem grow_rng (n : Nat) (w : World) (hn : n ≤ 1048576) :
    Calls Try.prog 99 #[.slice none 0 0, .int .i64 n] w fun e w' => ∃ A' c', e = .returned (.slice A' 0 c') ∧ Own w' w.heap.size 78 2 A' 0 c' [] ∧ Below w.heap.size w w' := by
  by_cases h0 : n = 0
  · subst h0
    go_enter Try.func99, Try.ntmps99
    go_wp2
    go_ret
    exact ⟨none, 0, rfl, Own.nil _ _ _ _, bself w⟩
  · have hp : 0 < n := by omega
    clear h0
    obtain ⟨i0, z, hi, hz, hsize, hby, hzs⟩ := elemRng.info
    have hr := Lib.run_append_grow_zeros (P := Try.prog) w 39 3 39 78 i0 z .i64 .i64 elemRng.und Try.underlying3 hi hz none 0 0 [] (run_firstCells_none w.drew i0.size 0 0 0) n hp (by omega) (by omega) (by omega) (by rw [hby]; omega) (by rw [hby]; exact growslice_fits (by omega) (by omega))
    obtain ⟨G, hG⟩ : ∃ G, G = grownCap w (0 + n) 0 78 := ⟨_, rfl⟩
    have hG1 : 0 + n ≤ G := by rw [hG]; exact grownCap_ge w _ _ _
    have hG2 : G ≤ maxLen := by rw [hG]; exact grownCap_le_maxLen w _ _ _ (by unfold maxLen; omega)
    rw [← hG] at hr
    obtain ⟨cs, hcs0⟩ : ∃ cs, cs = (#[] ++ Builtin.zeroCells z.cells n ++ Builtin.zeroCells z.cells (G - (0 + n))) := ⟨_, rfl⟩
    have hcs : cs.size = G * 2 := by rw [hcs0]; simp [Builtin.zeroCells, hzs]; omega
    rw [show ([] : List Value).toArray = #[] from rfl, ← hcs0] at hr
    clear hcs0
    have HC := Lib.hid hcs
    have HG2 := Lib.hid hG2
    rw [Nat.zero_add] at hr hG1
    clear hcs hG hzs hi hz hsize hby
    have HR := Lib.hid hr
    clear hr
    go_enter Try.func99, Try.ntmps99
    go_wp2_with (at_builtin; refine wp_run _ rfl _ _ _ _ rfl rfl rfl HR.out ?_)
    go_ret
    refine ⟨some ⟨w.heap.size, 0, none⟩, G, by simp, ?_, (by repeat (first | (with_reducible exact Below.refl _ _) | (with_reducible assumption) | (with_reducible refine bset ?_ ?_ _) | (with_reducible refine balloc ?_ _) | (with_reducible refine Below.drew ?_) | (with_reducible refine bdrewN ?_ _) | (with_reducible refine bnext ?_ (by with_reducible assumption)) | exact Nat.le_refl _ | (simp; done) | omega | (simp; omega)))⟩
    have := Own.new w.drew w.heap.size 78 2 0 G [] cs.toList (Nat.le_refl _) rfl (by rw [Array.length_toList, HC.out]) (Nat.zero_le _) HG2.out (by simp)
    rw [Array.toArray_toList] at this
    exact this

set_option maxRecDepth 100000 in
set_option maxHeartbeats 2000000 in
theorem concat3_rng (l1 l2 l3 : List Rng) (A1 A2 A3 : Option Addr) (c1 c2 c3 B : Nat) (w : World) (hB : B < w.heap.size) (hx1 : w.cell? ⟨B, 0, none⟩ = some (.slice A1 l1.length c1)) (hx2 : w.cell? ⟨B, 1, none⟩ = some (.slice A2 l2.length c2)) (hx3 : w.cell? ⟨B, 2, none⟩ = some (.slice A3 l3.length c3))
    (h1 : SlRep Rng.rep w (· < w.heap.size) l1 A1 c1) (h2 : SlRep Rng.rep w (· < w.heap.size) l2 A2 c2) (h3 : SlRep Rng.rep w (· < w.heap.size) l3 A3 c3) (hn : l1.length + l2.length + l3.length ≤ 1048576) :
    Calls Try.prog 78 #[.slice (some ⟨B, 0, none⟩) 3 3] w fun e w' => ∃ A' c', e = .returned (.slice A' (l1 ++ l2 ++ l3).length c') ∧ Own w' w.heap.size 78 2 A' (l1 ++ l2 ++ l3).length c' ((l1 ++ l2 ++ l3).flatMap Rng.cells) ∧ Below w.heap.size w w' := by
  have H1 := Lib.hid h1
  have H2 := Lib.hid h2
  have H3 := Lib.hid h3
  have CL : Hid (∀ (l : List Rng) (A : Option Addr) (c : Nat) (W : World), SlRep Rng.rep w (· < w.heap.size) l A c → Below w.heap.size w W → Cells W A (l.flatMap Rng.cells)) := Lib.hid fun l A c W hl hW => (hl.next hW).cells_flat Rng.cells rfl (fun a cs h => Rng.rep_iff.1 h) (fun _ => rfl) (by decide)
  clear h1 h2 h3
  go_enter Try.func78, Try.ntmps78
  go_wp2
  go_loop [3, 11] (fun s i => (i = .int .i64 0 ∧ s = .int .i64 0) ∨ (i = .int .i64 1 ∧ s = .int .i64 l1.length) ∨ (i = .int .i64 2 ∧ s = .int .i64 ((l1.length : Int) + l2.length)) ∨ (i = .int .i64 3 ∧ s = .int .i64 ((l1.length : Int) + l2.length + l3.length))) (fun _ i => 3 - (intOf i).toNat)
  case atStart => exact .inl ⟨rfl, rfl⟩
  case round =>
    rcases hrel with ⟨rfl, rfl⟩ | ⟨rfl, rfl⟩ | ⟨rfl, rfl⟩ | ⟨rfl, rfl⟩
    · go_wp2
      go_round
      case rel => exact .inr (.inl ⟨rfl, rfl⟩)
      case measure => simp [intOf]
    · go_wp2
      go_round
      case rel => exact .inr (.inr (.inl ⟨rfl, rfl⟩))
      case measure => simp [intOf]
    · go_wp2
      go_round
      case rel => exact .inr (.inr (.inr ⟨rfl, rfl⟩))
      case measure => simp [intOf]
    · have HS : Hid (((l1.length : Int) + (l2.length : Int) + (l3.length : Int)) = ((l1.length + l2.length + l3.length : Nat) : Int)) := Lib.hid (by omega)
      have HG := Lib.hid (grow_rng (l1.length + l2.length + l3.length) w hn)
      go_wp2_with (go_at_call 99; go_loud (rw [HS.out]; refine HG.out.mono ?_; rintro e w1 ⟨A', c', rfl, ho, hb1⟩))
      have HO := Lib.hid ho
      clear ho HG HS
      have h1B : w1.cell? ⟨B, 0, none⟩ = some (.slice A1 l1.length c1) := (hb1.cell (p := ⟨B, 0, none⟩) hB).trans hx1
      have h2B : w1.cell? ⟨B, 1, none⟩ = some (.slice A2 l2.length c2) := (hb1.cell (p := ⟨B, 1, none⟩) hB).trans hx2
      have h3B : w1.cell? ⟨B, 2, none⟩ = some (.slice A3 l3.length c3) := (hb1.cell (p := ⟨B, 2, none⟩) hB).trans hx3
      have hsz := hb1.size
      have HX1 := Lib.hid h1B
      have HX2 := Lib.hid h2B
      have HX3 := Lib.hid h3B
      clear h1B h2B h3B hx1 hx2 hx3
      go_wp2
      go_loopw [6, 27] (fun out i wr => ∃ (k : Nat) (l : List Rng) (A' : Option Addr) (c' : Nat), k ≤ 3 ∧ i = .int .i64 k ∧ out = .slice A' l.length c' ∧ Hid (l = if k = 0 then [] else if k = 1 then l1 else if k = 2 then l1 ++ l2 else l1 ++ l2 ++ l3) ∧ Hid (Own wr w.heap.size 78 2 A' l.length c' (l.flatMap Rng.cells)) ∧ Below w.heap.size w wr ∧ Below B.succ w1 wr) (fun _ i _ => 3 - (intOf i).toNat)
      case atStart => exact ⟨0, [], A', c', by omega, rfl, rfl, Lib.hid rfl, HO, hb1, Below.refl _ _⟩
      case round =>
        obtain ⟨k, l, A2', c2', hk, rfl, rfl, HL, HO2, hB2, hB3⟩ := hrel
        rename World => wr
        have hszr := hB2.size
        have h1B : wr.cell? ⟨B, 0, none⟩ = some (.slice A1 l1.length c1) := (hB3.cell (p := ⟨B, 0, none⟩) (Nat.lt_succ_self _)).trans HX1.out
        have h2B : wr.cell? ⟨B, 1, none⟩ = some (.slice A2 l2.length c2) := (hB3.cell (p := ⟨B, 1, none⟩) (Nat.lt_succ_self _)).trans HX2.out
        have h3B : wr.cell? ⟨B, 2, none⟩ = some (.slice A3 l3.length c3) := (hB3.cell (p := ⟨B, 2, none⟩) (Nat.lt_succ_self _)).trans HX3.out
        have hBr : B < wr.heap.size := by omega
        by_cases k0 : k = 0
        · subst k0
          obtain rfl : l = [] := HL.out
          go_wp2_with (at_builtin; refine wp_app _ rfl _ _ _ rfl elemRng w.heap.size A2' _ c2' _ rfl HO2.out A1 l1.length c1 (l1.flatMap Rng.cells) rfl (flatMap_len Rng.cells 2 (fun _ => rfl) l1) (CL.out _ _ _ _ H1.out hB2) (Rng.one l1) (by simp; omega) (by unfold maxLen; simp; omega) (by omega) ?_; intro A3 c3 w3 hO3 hg3; have HO3 := Lib.hid hO3; clear hO3)
          go_roundw
          case rel => exact ⟨1, l1, A3, c3, by omega, rfl, by simp, Lib.hid rfl, Lib.hid (by simpa using HO3.out), Grew.step hB2 hg3 (fun x hx => (HO2.out.lt x hx).1), hB3.trans (hg3.below (by omega) (fun x hx => by have := (HO2.out.lt x hx).1; omega))⟩
          case measure => simp [intOf]
        · by_cases k1 : k = 1
          · subst k1
            obtain rfl : l = l1 := HL.out
            go_wp2_with (at_builtin; refine wp_app _ rfl _ _ _ rfl elemRng w.heap.size A2' _ c2' _ rfl HO2.out A2 l2.length c2 (l2.flatMap Rng.cells) rfl (flatMap_len Rng.cells 2 (fun _ => rfl) l2) (CL.out _ _ _ _ H2.out hB2) (Rng.one l2) (by omega) (by unfold maxLen; omega) (by omega) ?_; intro A3 c3 w3 hO3 hg3; have HO3 := Lib.hid hO3; clear hO3)
            go_roundw
            case rel => exact ⟨2, l ++ l2, A3, c3, by omega, rfl, by rw [List.length_append], Lib.hid rfl, Lib.hid (by rw [List.length_append, List.flatMap_append]; exact HO3.out), Grew.step hB2 hg3 (fun x hx => (HO2.out.lt x hx).1), hB3.trans (hg3.below (by omega) (fun x hx => by have := (HO2.out.lt x hx).1; omega))⟩
            case measure => simp [intOf]
          · by_cases k2 : k = 2
            · subst k2
              obtain rfl : l = l1 ++ l2 := HL.out
              have HLL : Hid ((l1 ++ l2).length = l1.length + l2.length) := Lib.hid (by simp)
              go_wp2_with (at_builtin; refine wp_app _ rfl _ _ _ rfl elemRng w.heap.size A2' (l1 ++ l2).length c2' _ rfl HO2.out A3 l3.length c3 (l3.flatMap Rng.cells) rfl (flatMap_len Rng.cells 2 (fun _ => rfl) l3) (CL.out _ _ _ _ H3.out hB2) (Rng.one l3) (by rw [HLL.out]; omega) (by rw [HLL.out]; unfold maxLen; omega) (by omega) ?_; intro A4 c4 w3 hO3 hg3; have HO3 := Lib.hid hO3; clear hO3)
              go_roundw
              case rel => exact ⟨3, l1 ++ l2 ++ l3, A4, c4, by omega, rfl, by simp [Nat.add_assoc], Lib.hid rfl, Lib.hid (by rw [show ((l1 ++ l2) ++ l3).length = (l1 ++ l2).length + l3.length from List.length_append, show ((l1 ++ l2) ++ l3).flatMap Rng.cells = (l1 ++ l2).flatMap Rng.cells ++ l3.flatMap Rng.cells from List.flatMap_append]; exact HO3.out), Grew.step hB2 hg3 (fun x hx => (HO2.out.lt x hx).1), hB3.trans (hg3.below (by omega) (fun x hx => by have := (HO2.out.lt x hx).1; omega))⟩
              case measure => simp [intOf]
            · obtain rfl : k = 3 := by omega
              obtain rfl : l = l1 ++ l2 ++ l3 := HL.out
              clear HL
              go_wp2
              go_ret
              exact ⟨A2', c2', rfl, HO2.out, hB2⟩
end Go.Proofs.Ytdldfllllgogoaa
