/- Package hole: merged. No condition. -/
import Derived.Test.YtdldfllllgogoaaAdd3
import Derived.Test.YtdldfllllgogoaaAddP
namespace Go.Proofs.Ytdldfllllgogoaa
open Go.RowKit

theorem had.take_more {l : List Rng} {k : Nat} (h : k < l.length) : l.take (k + 1) = l.take k ++ [l.getD k Rng.z] := by
  rw [List.take_add_one, List.getD_eq_getElem?_getD, List.getElem?_eq_getElem h]
  rfl

set_option maxRecDepth 100000 in
set_option maxHeartbeats 8000000 in
theorem hole_merged (done : Int) (l : List Rng) (r : Rng) (A : Option Addr) (c : Nat) (w : World) (hl : SlRep Rng.rep w (· < w.heap.size) l A c) (hn : l.length ≤ 16) :
    Calls Try.prog 94 #[.int .i64 done, .slice A l.length c, .agg #[.int .i64 r.lo, .int .i64 r.hi]] w fun e w' => ∃ A' c', e = .returned (.tuple #[.int .i64 (had.out done (had.mg l r)).1, .slice A' (had.out done (had.mg l r)).2.length c']) ∧
      SlRep Rng.rep w' (fun k => w.heap.size ≤ k ∧ k < w'.heap.size) (had.out done (had.mg l r)).2 A' c' ∧ Below w.heap.size w w' ∧ (had.out done (had.mg l r)).2.length ≤ 40 := by
  have HL := Lib.hid hl
  obtain ⟨r0, r1⟩ := r
  dsimp only
  clear hl
  go_enter Try.func94, Try.ntmps94
  go_wp2
  go_loopw [8, 9, 14] (fun ah be iv wr => ∃ (k : Nat) (s : had.St) (A1 A2 : Option Addr) (c1 c2 : Nat), iv = .int .i64 k ∧ k ≤ l.length ∧ ah = .slice A1 s.a.length c1 ∧ be = .slice A2 s.b.length c2 ∧ s.a.length ≤ k ∧ s.b.length ≤ k ∧ Hid (s = (l.take k).foldl had.step ⟨[], ⟨r0, r1⟩, []⟩) ∧
    wr.cell? ⟨w.heap.size, 0, none⟩ = some (.int .i64 s.r.lo) ∧ wr.cell? ⟨w.heap.size, 1, none⟩ = some (.int .i64 s.r.hi) ∧ wr.frozen? ⟨w.heap.size, 0, none⟩ = false ∧ wr.frozen? ⟨w.heap.size, 1, none⟩ = false ∧ w.heap.size < wr.heap.size ∧
    Hid (Own wr (w.heap.size + 1) 78 2 A1 s.a.length c1 (s.a.flatMap Rng.cells)) ∧ Hid (Own wr (w.heap.size + 1) 78 2 A2 s.b.length c2 (s.b.flatMap Rng.cells)) ∧ Hid (Two A1 A2) ∧ Below w.heap.size w wr) (fun _ _ iv _ => l.length - (intOf iv).toNat)
  case atStart => exact ⟨0, ⟨[], ⟨r0, r1⟩, []⟩, none, none, 0, 0, rfl, by omega, rfl, rfl, by simp, by simp, Lib.hid rfl, by simp [go_sem], by simp [go_sem], by simp [go_sem], by simp [go_sem], by simp, Lib.hid (Own.nil _ _ _ _), Lib.hid (Own.nil _ _ _ _), Lib.hid (Two.none_left _), (by repeat (first | (with_reducible exact Below.refl _ _) | (with_reducible assumption) | (with_reducible refine bset ?_ ?_ _) | (with_reducible refine balloc ?_ _) | (with_reducible refine Below.drew ?_) | (with_reducible refine bdrewN ?_ _) | (with_reducible refine bnext ?_ (by with_reducible assumption)) | exact Nat.le_refl _ | (simp; done) | omega | (simp; omega)))⟩
  case round =>
    obtain ⟨k, s, A1, A2, c1, c2, rfl, hk, rfl, rfl, hka, hkb, HS, d0, d1, f0, f1, hR, HO1, HO2, HT, hB⟩ := hrel
    rename World => wr
    by_cases hlt : k < l.length
    · obtain ⟨bb, oo, rfl, hbb, hc1, hc2⟩ := Rng.cells_at Rng.z (HL.out.below hB) hlt
      have hbw : bb < wr.heap.size := Nat.lt_of_lt_of_le hbb hB.size
      have hlti : (k : Int) < (l.length : Int) := by omega
      have HSN : Hid ((l.take (k + 1)).foldl had.step ⟨[], ⟨r0, r1⟩, []⟩ = had.step s (l.getD k Rng.z)) := Lib.hid (by rw [had.take_more hlt, List.foldl_append, HS.out]; rfl)
      clear HS
      have hl1 := HO1.out.lt
      have hl2 := HO2.out.lt
      have HL1 := Lib.hid hl1
      have HL2 := Lib.hid hl2
      clear hl1 hl2
      generalize l.getD k Rng.z = x at *
      obtain ⟨x0, x1⟩ := x
      obtain ⟨sa, sr, sb⟩ := s
      obtain ⟨q0, q1⟩ := sr
      dsimp only at *
      by_cases k1 : x1 < q0
      · have HST : Hid (had.step ⟨sa, ⟨q0, q1⟩, sb⟩ ⟨x0, x1⟩ = ⟨sa ++ [⟨x0, x1⟩], ⟨q0, q1⟩, sb⟩) := Lib.hid (by unfold had.step; rw [if_pos k1])
        go_wp2_with (first
          | (at_builtin; refine wp_app _ rfl _ _ _ rfl elemRng (w.heap.size + 1) A1 _ c1 _ rfl ((HO1.out.alloc _).alloc _) _ 1 1 [.int .i64 x0, .int .i64 x1] rfl rfl (Cells.newAt _ _ _ (by first | rfl | simp)) (by simp [Value.oneCell']) (by omega) (by unfold maxLen; omega) (by simp; omega) ?_; intro A3 c3 w3 ho3 hg3; have HO3 := Lib.hid ho3; clear ho3)
          | fail)
        have hbx : Below wr.heap.size wr ((wr.alloc (.cells #[.int .i64 x0, .int .i64 x1] 78)).alloc (.cells #[.int .i64 x0, .int .i64 x1] 78)) := (by repeat (first | (with_reducible exact Below.refl _ _) | (with_reducible assumption) | (with_reducible refine bset ?_ ?_ _) | (with_reducible refine balloc ?_ _) | (with_reducible refine Below.drew ?_) | (with_reducible refine bdrewN ?_ _) | (with_reducible refine bnext ?_ (by with_reducible assumption)) | exact Nat.le_refl _ | (simp; done) | omega | (simp; omega)))
        have hnA : ∀ q, blkOf A1 = some q → q ≠ w.heap.size := fun q hq e => by have := (HL1.out q hq).1; omega
        have e0 := (hg3.cell (b := w.heap.size) 0 (by simp; omega) hnA).trans ((hbx.cell (p := ⟨w.heap.size, 0, none⟩) hR).trans d0)
        have e1 := (hg3.cell (b := w.heap.size) 1 (by simp; omega) hnA).trans ((hbx.cell (p := ⟨w.heap.size, 1, none⟩) hR).trans d1)
        have e2 := (hg3.frozen (b := w.heap.size) 0 (by simp; omega) hnA).trans ((hbx.frozen (p := ⟨w.heap.size, 0, none⟩) hR).trans f0)
        have e3 := (hg3.frozen (b := w.heap.size) 1 (by simp; omega) hnA).trans ((hbx.frozen (p := ⟨w.heap.size, 1, none⟩) hR).trans f1)
        have e4 := hg3.grown.size
        simp only [World.size_alloc] at e4
        have e5 : Below w.heap.size w w3 := Grew.step (bnext hB hbx) hg3 (fun q hq => Nat.le_of_succ_le (HL1.out q hq).1)
        have e6 : Hid (Own w3 (w.heap.size + 1) 78 2 A2 sb.length _ (sb.flatMap Rng.cells)) := Lib.hid ((HO2.out.next hbx).kept' hg3 (fun q hq => HT.out.symm q hq))
        have e7 : Hid (Two A3 A2) := Lib.hid (HT.out.left (((Grew.refl wr A1).alloc _ |>.alloc _).trans hg3) (fun q hq => (HL2.out q hq).2))
        clear HL1 HL2 HO1 HO2 HT hg3
        go_roundw
        case rel => exact ⟨k + 1, ⟨sa ++ [⟨x0, x1⟩], ⟨q0, q1⟩, sb⟩, A3, A2, c3, c2, by go_num, by omega, by simp, rfl, by simp; omega, by simp only; omega, Lib.hid (by rw [HSN.out]; exact HST.out.symm), e0, e1, e2, e3, by omega, Lib.hid (by simpa [Rng.cells] using HO3.out), e6, e7, e5⟩
        case measure => simp [intOf]; omega
      · by_cases k2 : q1 < x0
        · have HST : Hid (had.step ⟨sa, ⟨q0, q1⟩, sb⟩ ⟨x0, x1⟩ = ⟨sa, ⟨q0, q1⟩, sb ++ [⟨x0, x1⟩]⟩) := Lib.hid (by unfold had.step; rw [if_neg k1, if_pos k2])
          go_wp2_with (first
            | (at_builtin; refine wp_app _ rfl _ _ _ rfl elemRng (w.heap.size + 1) A2 _ c2 _ rfl ((HO2.out.alloc _).alloc _) _ 1 1 [.int .i64 x0, .int .i64 x1] rfl rfl (Cells.newAt _ _ _ (by first | rfl | simp)) (by simp [Value.oneCell']) (by omega) (by unfold maxLen; omega) (by simp; omega) ?_; intro A3 c3 w3 ho3 hg3; have HO3 := Lib.hid ho3; clear ho3)
            | fail)
          have hbx : Below wr.heap.size wr ((wr.alloc (.cells #[.int .i64 x0, .int .i64 x1] 78)).alloc (.cells #[.int .i64 x0, .int .i64 x1] 78)) := (by repeat (first | (with_reducible exact Below.refl _ _) | (with_reducible assumption) | (with_reducible refine bset ?_ ?_ _) | (with_reducible refine balloc ?_ _) | (with_reducible refine Below.drew ?_) | (with_reducible refine bdrewN ?_ _) | (with_reducible refine bnext ?_ (by with_reducible assumption)) | exact Nat.le_refl _ | (simp; done) | omega | (simp; omega)))
          have hnA : ∀ q, blkOf A2 = some q → q ≠ w.heap.size := fun q hq e => by have := (HL2.out q hq).1; omega
          have e0 := (hg3.cell (b := w.heap.size) 0 (by simp; omega) hnA).trans ((hbx.cell (p := ⟨w.heap.size, 0, none⟩) hR).trans d0)
          have e1 := (hg3.cell (b := w.heap.size) 1 (by simp; omega) hnA).trans ((hbx.cell (p := ⟨w.heap.size, 1, none⟩) hR).trans d1)
          have e2 := (hg3.frozen (b := w.heap.size) 0 (by simp; omega) hnA).trans ((hbx.frozen (p := ⟨w.heap.size, 0, none⟩) hR).trans f0)
          have e3 := (hg3.frozen (b := w.heap.size) 1 (by simp; omega) hnA).trans ((hbx.frozen (p := ⟨w.heap.size, 1, none⟩) hR).trans f1)
          have e4 := hg3.grown.size
          simp only [World.size_alloc] at e4
          have e5 : Below w.heap.size w w3 := Grew.step (bnext hB hbx) hg3 (fun q hq => Nat.le_of_succ_le (HL2.out q hq).1)
          have e6 : Hid (Own w3 (w.heap.size + 1) 78 2 A1 sa.length _ (sa.flatMap Rng.cells)) := Lib.hid ((HO1.out.next hbx).kept' hg3 (fun q hq => HT.out q hq))
          have e7 : Hid (Two A1 A3) := Lib.hid ((HT.out.symm.left (((Grew.refl wr A2).alloc _ |>.alloc _).trans hg3) (fun q hq => (HL1.out q hq).2)).symm)
          clear HL1 HL2 HO1 HO2 HT hg3
          go_roundw
          case rel => exact ⟨k + 1, ⟨sa, ⟨q0, q1⟩, sb ++ [⟨x0, x1⟩]⟩, A1, A3, c1, c3, by go_num, by omega, rfl, by simp, by simp only; omega, by simp; omega, Lib.hid (by rw [HSN.out]; exact HST.out.symm), e0, e1, e2, e3, by omega, e6, Lib.hid (by simpa [Rng.cells] using HO3.out), e7, e5⟩
          case measure => simp [intOf]; omega
        · have HST0 : Hid (had.step ⟨sa, ⟨q0, q1⟩, sb⟩ ⟨x0, x1⟩ = ⟨sa, ⟨min q0 x0, max q1 x1⟩, sb⟩) := Lib.hid (by unfold had.step; rw [if_neg k1, if_neg k2])
          by_cases k3 : x0 < q0
          · have hmn : min q0 x0 = x0 := by omega
            by_cases k4 : q1 < x1
            · have hmx : max q1 x1 = x1 := by omega
              have HST : Hid (had.step ⟨sa, ⟨q0, q1⟩, sb⟩ ⟨x0, x1⟩ = ⟨sa, ⟨x0, x1⟩, sb⟩) := Lib.hid (by rw [HST0.out, hmn, hmx])
              clear hmn hmx HST0
              go_wp2_with fail
              have e5 : Below w.heap.size w (((wr.setCell ⟨w.heap.size, 0, none⟩ (.int .i64 x0)).setCell ⟨w.heap.size, 1, none⟩ (.int .i64 x1)).alloc (.cells #[.int .i64 x0, .int .i64 x1] 78)) := (by repeat (first | (with_reducible exact Below.refl _ _) | (with_reducible assumption) | (with_reducible refine bset ?_ ?_ _) | (with_reducible refine balloc ?_ _) | (with_reducible refine Below.drew ?_) | (with_reducible refine bdrewN ?_ _) | (with_reducible refine bnext ?_ (by with_reducible assumption)) | exact Nat.le_refl _ | (simp; done) | omega | (simp; omega)))
              have e6 : Hid (Own (((wr.setCell ⟨w.heap.size, 0, none⟩ (.int .i64 x0)).setCell ⟨w.heap.size, 1, none⟩ (.int .i64 x1)).alloc (.cells #[.int .i64 x0, .int .i64 x1] 78)) (w.heap.size + 1) 78 2 A1 sa.length c1 (sa.flatMap Rng.cells)) := Lib.hid (((HO1.out.setCell (p := ⟨w.heap.size, 0, none⟩) (fun e => by have := (HL1.out w.heap.size e).1; omega) _).setCell (p := ⟨w.heap.size, 1, none⟩) (fun e => by have := (HL1.out w.heap.size e).1; omega) _).alloc _)
              have e7 : Hid (Own (((wr.setCell ⟨w.heap.size, 0, none⟩ (.int .i64 x0)).setCell ⟨w.heap.size, 1, none⟩ (.int .i64 x1)).alloc (.cells #[.int .i64 x0, .int .i64 x1] 78)) (w.heap.size + 1) 78 2 A2 sb.length c2 (sb.flatMap Rng.cells)) := Lib.hid (((HO2.out.setCell (p := ⟨w.heap.size, 0, none⟩) (fun e => by have := (HL2.out w.heap.size e).1; omega) _).setCell (p := ⟨w.heap.size, 1, none⟩) (fun e => by have := (HL2.out w.heap.size e).1; omega) _).alloc _)
              clear HL1 HL2 HO1 HO2
              go_roundw
              case rel => exact ⟨k + 1, ⟨sa, ⟨x0, x1⟩, sb⟩, A1, A2, c1, c2, by go_num, by omega, rfl, rfl, by simp only; omega, by simp only; omega, Lib.hid (by rw [HSN.out]; exact HST.out.symm), by simp [go_sem, *], by simp [go_sem, *], by simp [go_sem, *], by simp [go_sem, *], by simp; omega, e6, e7, HT, e5⟩
              case measure => simp [intOf]; omega
            · have hmx : max q1 x1 = q1 := by omega
              have HST : Hid (had.step ⟨sa, ⟨q0, q1⟩, sb⟩ ⟨x0, x1⟩ = ⟨sa, ⟨x0, q1⟩, sb⟩) := Lib.hid (by rw [HST0.out, hmn, hmx])
              clear hmn hmx HST0
              go_wp2_with fail
              have e5 : Below w.heap.size w (((wr.setCell ⟨w.heap.size, 0, none⟩ (.int .i64 x0)).setCell ⟨w.heap.size, 1, none⟩ (.int .i64 q1)).alloc (.cells #[.int .i64 x0, .int .i64 x1] 78)) := (by repeat (first | (with_reducible exact Below.refl _ _) | (with_reducible assumption) | (with_reducible refine bset ?_ ?_ _) | (with_reducible refine balloc ?_ _) | (with_reducible refine Below.drew ?_) | (with_reducible refine bdrewN ?_ _) | (with_reducible refine bnext ?_ (by with_reducible assumption)) | exact Nat.le_refl _ | (simp; done) | omega | (simp; omega)))
              have e6 : Hid (Own (((wr.setCell ⟨w.heap.size, 0, none⟩ (.int .i64 x0)).setCell ⟨w.heap.size, 1, none⟩ (.int .i64 q1)).alloc (.cells #[.int .i64 x0, .int .i64 x1] 78)) (w.heap.size + 1) 78 2 A1 sa.length c1 (sa.flatMap Rng.cells)) := Lib.hid (((HO1.out.setCell (p := ⟨w.heap.size, 0, none⟩) (fun e => by have := (HL1.out w.heap.size e).1; omega) _).setCell (p := ⟨w.heap.size, 1, none⟩) (fun e => by have := (HL1.out w.heap.size e).1; omega) _).alloc _)
              have e7 : Hid (Own (((wr.setCell ⟨w.heap.size, 0, none⟩ (.int .i64 x0)).setCell ⟨w.heap.size, 1, none⟩ (.int .i64 q1)).alloc (.cells #[.int .i64 x0, .int .i64 x1] 78)) (w.heap.size + 1) 78 2 A2 sb.length c2 (sb.flatMap Rng.cells)) := Lib.hid (((HO2.out.setCell (p := ⟨w.heap.size, 0, none⟩) (fun e => by have := (HL2.out w.heap.size e).1; omega) _).setCell (p := ⟨w.heap.size, 1, none⟩) (fun e => by have := (HL2.out w.heap.size e).1; omega) _).alloc _)
              clear HL1 HL2 HO1 HO2
              go_roundw
              case rel => exact ⟨k + 1, ⟨sa, ⟨x0, q1⟩, sb⟩, A1, A2, c1, c2, by go_num, by omega, rfl, rfl, by simp only; omega, by simp only; omega, Lib.hid (by rw [HSN.out]; exact HST.out.symm), by simp [go_sem, *], by simp [go_sem, *], by simp [go_sem, *], by simp [go_sem, *], by simp; omega, e6, e7, HT, e5⟩
              case measure => simp [intOf]; omega
          · have hmn : min q0 x0 = q0 := by omega
            by_cases k4 : q1 < x1
            · have hmx : max q1 x1 = x1 := by omega
              have HST : Hid (had.step ⟨sa, ⟨q0, q1⟩, sb⟩ ⟨x0, x1⟩ = ⟨sa, ⟨q0, x1⟩, sb⟩) := Lib.hid (by rw [HST0.out, hmn, hmx])
              clear hmn hmx HST0
              go_wp2_with fail
              have e5 : Below w.heap.size w (((wr.setCell ⟨w.heap.size, 0, none⟩ (.int .i64 q0)).setCell ⟨w.heap.size, 1, none⟩ (.int .i64 x1)).alloc (.cells #[.int .i64 x0, .int .i64 x1] 78)) := (by repeat (first | (with_reducible exact Below.refl _ _) | (with_reducible assumption) | (with_reducible refine bset ?_ ?_ _) | (with_reducible refine balloc ?_ _) | (with_reducible refine Below.drew ?_) | (with_reducible refine bdrewN ?_ _) | (with_reducible refine bnext ?_ (by with_reducible assumption)) | exact Nat.le_refl _ | (simp; done) | omega | (simp; omega)))
              have e6 : Hid (Own (((wr.setCell ⟨w.heap.size, 0, none⟩ (.int .i64 q0)).setCell ⟨w.heap.size, 1, none⟩ (.int .i64 x1)).alloc (.cells #[.int .i64 x0, .int .i64 x1] 78)) (w.heap.size + 1) 78 2 A1 sa.length c1 (sa.flatMap Rng.cells)) := Lib.hid (((HO1.out.setCell (p := ⟨w.heap.size, 0, none⟩) (fun e => by have := (HL1.out w.heap.size e).1; omega) _).setCell (p := ⟨w.heap.size, 1, none⟩) (fun e => by have := (HL1.out w.heap.size e).1; omega) _).alloc _)
              have e7 : Hid (Own (((wr.setCell ⟨w.heap.size, 0, none⟩ (.int .i64 q0)).setCell ⟨w.heap.size, 1, none⟩ (.int .i64 x1)).alloc (.cells #[.int .i64 x0, .int .i64 x1] 78)) (w.heap.size + 1) 78 2 A2 sb.length c2 (sb.flatMap Rng.cells)) := Lib.hid (((HO2.out.setCell (p := ⟨w.heap.size, 0, none⟩) (fun e => by have := (HL2.out w.heap.size e).1; omega) _).setCell (p := ⟨w.heap.size, 1, none⟩) (fun e => by have := (HL2.out w.heap.size e).1; omega) _).alloc _)
              clear HL1 HL2 HO1 HO2
              go_roundw
              case rel => exact ⟨k + 1, ⟨sa, ⟨q0, x1⟩, sb⟩, A1, A2, c1, c2, by go_num, by omega, rfl, rfl, by simp only; omega, by simp only; omega, Lib.hid (by rw [HSN.out]; exact HST.out.symm), by simp [go_sem, *], by simp [go_sem, *], by simp [go_sem, *], by simp [go_sem, *], by simp; omega, e6, e7, HT, e5⟩
              case measure => simp [intOf]; omega
            · have hmx : max q1 x1 = q1 := by omega
              have HST : Hid (had.step ⟨sa, ⟨q0, q1⟩, sb⟩ ⟨x0, x1⟩ = ⟨sa, ⟨q0, q1⟩, sb⟩) := Lib.hid (by rw [HST0.out, hmn, hmx])
              clear hmn hmx HST0
              go_wp2_with fail
              have e5 : Below w.heap.size w (((wr.setCell ⟨w.heap.size, 0, none⟩ (.int .i64 q0)).setCell ⟨w.heap.size, 1, none⟩ (.int .i64 q1)).alloc (.cells #[.int .i64 x0, .int .i64 x1] 78)) := (by repeat (first | (with_reducible exact Below.refl _ _) | (with_reducible assumption) | (with_reducible refine bset ?_ ?_ _) | (with_reducible refine balloc ?_ _) | (with_reducible refine Below.drew ?_) | (with_reducible refine bdrewN ?_ _) | (with_reducible refine bnext ?_ (by with_reducible assumption)) | exact Nat.le_refl _ | (simp; done) | omega | (simp; omega)))
              have e6 : Hid (Own (((wr.setCell ⟨w.heap.size, 0, none⟩ (.int .i64 q0)).setCell ⟨w.heap.size, 1, none⟩ (.int .i64 q1)).alloc (.cells #[.int .i64 x0, .int .i64 x1] 78)) (w.heap.size + 1) 78 2 A1 sa.length c1 (sa.flatMap Rng.cells)) := Lib.hid (((HO1.out.setCell (p := ⟨w.heap.size, 0, none⟩) (fun e => by have := (HL1.out w.heap.size e).1; omega) _).setCell (p := ⟨w.heap.size, 1, none⟩) (fun e => by have := (HL1.out w.heap.size e).1; omega) _).alloc _)
              have e7 : Hid (Own (((wr.setCell ⟨w.heap.size, 0, none⟩ (.int .i64 q0)).setCell ⟨w.heap.size, 1, none⟩ (.int .i64 q1)).alloc (.cells #[.int .i64 x0, .int .i64 x1] 78)) (w.heap.size + 1) 78 2 A2 sb.length c2 (sb.flatMap Rng.cells)) := Lib.hid (((HO2.out.setCell (p := ⟨w.heap.size, 0, none⟩) (fun e => by have := (HL2.out w.heap.size e).1; omega) _).setCell (p := ⟨w.heap.size, 1, none⟩) (fun e => by have := (HL2.out w.heap.size e).1; omega) _).alloc _)
              clear HL1 HL2 HO1 HO2
              go_roundw
              case rel => exact ⟨k + 1, ⟨sa, ⟨q0, q1⟩, sb⟩, A1, A2, c1, c2, by go_num, by omega, rfl, rfl, by simp only; omega, by simp only; omega, Lib.hid (by rw [HSN.out]; exact HST.out.symm), by simp [go_sem, *], by simp [go_sem, *], by simp [go_sem, *], by simp [go_sem, *], by simp; omega, e6, e7, HT, e5⟩
              case measure => simp [intOf]; omega
    · obtain rfl : k = l.length := by omega
      have HSM : Hid (had.mg l ⟨r0, r1⟩ = s) := Lib.hid (by rw [HS.out, List.take_length]; rfl)
      clear HS
      obtain ⟨sa, sr, sb⟩ := s
      obtain ⟨q0, q1⟩ := sr
      dsimp only at *
      by_cases k1 : q0 ≤ done
      · have HOU0 : Hid (had.out done (had.mg l ⟨r0, r1⟩) = (max done q1, sb)) := Lib.hid (by rw [HSM.out]; unfold had.out; rw [if_pos k1])
        have HRB : Hid (SlRep Rng.rep wr (fun q => w.heap.size ≤ q ∧ q < wr.heap.size) sb A2 c2) := Lib.hid (HO2.out.rng.2.keep fun q hq => ⟨⟨by omega, hq.2⟩, rfl⟩)
        by_cases k2 : done < q1
        · have HOU : Hid (had.out done (had.mg l ⟨r0, r1⟩) = (q1, sb)) := Lib.hid (by rw [HOU0.out, show max done q1 = q1 by omega])
          go_wp2
          go_ret2
          exact ⟨A2, c2, by rw [HOU.out]; rfl, by rw [HOU.out]; exact HRB.out, hB, by rw [HOU.out]; simp only; omega⟩
        · have HOU : Hid (had.out done (had.mg l ⟨r0, r1⟩) = (done, sb)) := Lib.hid (by rw [HOU0.out, show max done q1 = done by omega])
          go_wp2
          go_ret2
          exact ⟨A2, c2, by rw [HOU.out]; rfl, by rw [HOU.out]; exact HRB.out, hB, by rw [HOU.out]; simp only; omega⟩
      · have HOU : Hid (had.out done (had.mg l ⟨r0, r1⟩) = (done, sa ++ [⟨q0, q1⟩] ++ sb)) := Lib.hid (by rw [HSM.out]; unfold had.out; rw [if_neg k1])
        have HCC := Lib.hid (concat3_rng sa [⟨q0, q1⟩] sb A1 (some ⟨wr.heap.size, 0, none⟩) A2 c1 1 c2 (wr.heap.size + 1) ((wr.alloc (.cells #[.int .i64 q0, .int .i64 q1] 78)).alloc (.cells #[.slice A1 sa.length c1, .slice (some ⟨wr.heap.size, 0, none⟩) 1 1, .slice A2 sb.length c2] 39)) (by simp) (by simp [go_sem]) (by simp [go_sem]) (by simp [go_sem])
          (((HO1.out.rng.2).keep (S' := (· < wr.heap.size)) fun q hq => ⟨hq.2, rfl⟩).next (by repeat (first | (with_reducible exact Below.refl _ _) | (with_reducible assumption) | (with_reducible refine bset ?_ ?_ _) | (with_reducible refine balloc ?_ _) | (with_reducible refine Below.drew ?_) | (with_reducible refine bdrewN ?_ _) | (with_reducible refine bnext ?_ (by with_reducible assumption)) | exact Nat.le_refl _ | (simp; done) | omega | (simp; omega))))
          ((Own.rng (l := [⟨q0, q1⟩]) (Own.lit wr wr.heap.size 78 2 1 [.int .i64 q0, .int .i64 q1] (Nat.le_refl _) rfl (by decide))).2.keep fun q hq => ⟨by have := hq.2; simp at this ⊢; omega, by rw [Below.heap_alloc _ _ q hq.2]⟩)
          (((HO2.out.rng.2).keep (S' := (· < wr.heap.size)) fun q hq => ⟨hq.2, rfl⟩).next (by repeat (first | (with_reducible exact Below.refl _ _) | (with_reducible assumption) | (with_reducible refine bset ?_ ?_ _) | (with_reducible refine balloc ?_ _) | (with_reducible refine Below.drew ?_) | (with_reducible refine bdrewN ?_ _) | (with_reducible refine bnext ?_ (by with_reducible assumption)) | exact Nat.le_refl _ | (simp; done) | omega | (simp; omega)))) (by simp; omega))
        have HLE : Hid ((sa ++ [(⟨q0, q1⟩ : Rng)] ++ sb).length ≤ 40) := Lib.hid (by simp; omega)
        go_wp2_with (first
          | (go_at_call 78; refine HCC.out.mono ?_; rintro e w3 ⟨A3, c3, rfl, ho3, hb3⟩)
          | fail)
        go_ret2
        exact ⟨A3, c3, by rw [HOU.out]; show Ending.returned (.tuple #[.int .i64 done, .slice A3 (sa.length + (sb.length + 1)) c3]) = _; simp, by rw [HOU.out]; exact ho3.rng.2.keep fun q hq => ⟨⟨by have := hq.1; simp at this; omega, hq.2⟩, rfl⟩, (by repeat (first | (with_reducible exact Below.refl _ _) | (with_reducible assumption) | (with_reducible refine bset ?_ ?_ _) | (with_reducible refine balloc ?_ _) | (with_reducible refine Below.drew ?_) | (with_reducible refine bdrewN ?_ _) | (with_reducible refine bnext ?_ (by with_reducible assumption)) | exact Nat.le_refl _ | (simp; done) | omega | (simp; omega))), by rw [HOU.out]; exact HLE.out⟩
end Go.Proofs.Ytdldfllllgogoaa
