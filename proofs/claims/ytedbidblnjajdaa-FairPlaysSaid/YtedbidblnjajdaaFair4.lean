/- Package fair: comes. No condition. -/
import Derived.Test.YtedbidblnjajdaaFair3
import Derived.Test.YtedbidblnjajdaaBytes
namespace Go.Proofs.Ytedbidblnjajdaa
open Go.RowKit

theorem fr.fed_come {nf : Nat} {s : fr.St} (h : fr.Inv nf s) {i : Nat} (W' : Nat → List Int) (he : s.t = [] ∨ True) (j : Nat) : fr.fedOf ⟨W', s.d, s.t ++ [i], s.f⟩ j = fr.fedOf s j := by
  unfold fr.fedOf
  cases hf : s.f with
  | false => simp
  | true =>
    have h1 := h.fed hf
    cases ht : s.t with
    | nil => exact absurd ht h1
    | cons a r => simp

set_option maxRecDepth 100000 in
set_option maxHeartbeats 8000000 in
theorem fair_comes (B0 base R G nf : Nat) (q : Nat → Int) (s : fr.St) (No : Nat → Prop) (w : World) (h : Ring w B0 base R G nf q s No) (hinv : fr.Inv nf s) (hN : ∀ g, No g → g < w.heap.size) (hnf : nf ≤ 6) (fl sz : Int) (hsz : 0 < sz) :
    Calls Try.prog 75 #[.pointer (some ⟨R, 0, none⟩), .agg #[.int .i64 fl, .int .i64 sz]] w fun e w' => e = .returned (.agg #[.int .i64 (fr.come nf s fl sz).2, .int .i64 0, .int .i64 0]) ∧ Ring w' B0 base R G nf q (fr.come nf s fl sz).1 No ∧ Below B0 w w' ∧ ∀ g, No g → w'.heap[g]? = w.heap[g]? := by
  have hr0 := h
  obtain ⟨A, c, At, ct, cG, hr⟩ := hr0
  obtain ⟨l1, l2, l3, l4, l5, l6⟩ := hr.lo
  have HG := Lib.hid h
  have HI := Lib.hid hinv
  have HN := Lib.hid hN
  have HRA := Lib.hid hr
  have hRw : R < w.heap.size := by omega
  have hGw : G < w.heap.size := by omega
  clear h hinv hN hr
  go_enter Try.func75, Try.ntmps75
  go_upto_region 1 with fail
  obtain ⟨w1, hw1⟩ : ∃ w1, w1 = (w.alloc (.cells #[.int .i64 fl, .int .i64 sz] 124)).alloc (.cells #[.int .i64 0, .int .i64 0, .int .i64 0] 74) := ⟨_, rfl⟩
  have hb1 : Below w.heap.size w w1 := by rw [hw1]; exact (by repeat (first | (with_reducible exact Below.refl _ _) | (with_reducible assumption) | (with_reducible refine bset ?_ ?_ _) | (with_reducible refine balloc ?_ _) | (with_reducible refine Below.drew ?_) | (with_reducible refine bdrewN ?_ _) | (with_reducible refine bnext ?_ (by with_reducible assumption)) | exact Nat.le_refl _ | (simp; done) | omega | (simp; omega)))
  have hz1 : w1.heap.size = w.heap.size + 2 := by rw [hw1]; simp
  have x0 : w1.cell? ⟨w.heap.size, 0, none⟩ = some (.int .i64 fl) := by rw [hw1]; simp [go_sem]
  have x1 : w1.cell? ⟨w.heap.size, 1, none⟩ = some (.int .i64 sz) := by rw [hw1]; simp [go_sem]
  have y0 : w1.cell? ⟨w.heap.size + 1, 0, none⟩ = some (.int .i64 0) := by rw [hw1]; simp [go_sem]
  have y1 : w1.cell? ⟨w.heap.size + 1, 1, none⟩ = some (.int .i64 0) := by rw [hw1]; simp [go_sem]
  have y2 : w1.cell? ⟨w.heap.size + 1, 2, none⟩ = some (.int .i64 0) := by rw [hw1]; simp [go_sem]
  have yf : ∀ o, w1.frozen? ⟨w.heap.size + 1, o, none⟩ = false := fun o => by rw [hw1]; simp [go_sem]
  rw [← hw1]
  clear hw1
  have HU := Lib.hid (And.intro y0 (And.intro y1 (And.intro y2 yf)))
  clear y0 y1 y2 yf
  have HR1 : Hid (RingAt w1 B0 base R G nf q s.w s.d (fr.fedOf s) s.t A c At ct cG (fun j => No j ∨ j = w.heap.size ∨ j = w.heap.size + 1)) := Lib.hid (HRA.out.keep (fun j hj _ => hb1.block j hj) hb1.size (fun j h => h.imp id (fun e => by omega)))
  have HNZ : Hid (∀ m w6, Below (w1.drewN m).heap.size (w1.drewN m) w6 → w6.cell? ⟨w.heap.size + 1, 0, none⟩ = some (.int .i64 0) ∧ w6.cell? ⟨w.heap.size + 1, 1, none⟩ = some (.int .i64 0) ∧ w6.cell? ⟨w.heap.size + 1, 2, none⟩ = some (.int .i64 0) ∧ (∀ o, w6.frozen? ⟨w.heap.size + 1, o, none⟩ = false) ∧ Below B0 w w6 ∧ (∀ g, g < w.heap.size → w6.heap[g]? = w.heap[g]?) ∧ Ring w6 B0 base R G nf q s (fun j => No j ∨ j = w.heap.size ∨ j = w.heap.size + 1)) := Lib.hid (fun m w6 hb => by
    have hsm : (w1.drewN m).heap.size = w1.heap.size := by simp
    have hbm : Below w1.heap.size w1 w6 := Below.trans (by exact (by repeat (first | (with_reducible exact Below.refl _ _) | (with_reducible assumption) | (with_reducible refine bset ?_ ?_ _) | (with_reducible refine balloc ?_ _) | (with_reducible refine Below.drew ?_) | (with_reducible refine bdrewN ?_ _) | (with_reducible refine bnext ?_ (by with_reducible assumption)) | exact Nat.le_refl _ | (simp; done) | omega | (simp; omega))) : Below w1.heap.size w1 (w1.drewN m)) (hb.mono (by omega))
    have hz := hbm.block (w.heap.size + 1) (by omega)
    exact ⟨(World.cell?_of_block (a := ⟨w.heap.size + 1, 0, none⟩) hz).trans HU.out.1, (World.cell?_of_block (a := ⟨w.heap.size + 1, 1, none⟩) hz).trans HU.out.2.1, (World.cell?_of_block (a := ⟨w.heap.size + 1, 2, none⟩) hz).trans HU.out.2.2.1, fun o => (World.frozen?_of_block (a := ⟨w.heap.size + 1, o, none⟩) hz).trans (HU.out.2.2.2 o), (hb1.mono (by omega)).trans (hbm.mono (by omega)), fun g hg => (hbm.block g (by omega)).trans (hb1.block g hg), ⟨_, _, _, _, _, HR1.out.next hbm⟩⟩)
  have k0 := HR1.out.r0
  have k1 := HR1.out.r1
  have kf := HR1.out.fr
  have kg := HR1.out.fg
  by_cases hc1 : fl < 0
  · have hd1 : decide (fl < 0) = true := by simp [hc1]
    have HX : Hid (fr.come nf s fl sz = (s, 2)) := Lib.hid (by unfold fr.come; rw [if_pos (.inl hc1)])
    go_quiet (fail)
    all_goals
      go_wp2_with fail
      refine (fair_no 2 _).mono ?_
      rintro e w6 ⟨rfl, h7⟩
      have hn7 := HNZ.out _ _ h7
      obtain ⟨v0, v1, v2, vf, hb6, hf6, hr6⟩ := hn7
      go_wp2
      refine bodyPost_ret (v := .agg #[.int .i64 2, .int .i64 0, .int .i64 0]) (by simp [results, Try.results75, go_sem, v0, v1, v2]) rfl ⟨by rw [HX.out], ?_, ?_, ?_⟩
      · rw [HX.out]
        exact hr6.keep (fun j hj hn => by have hjz : j ≠ w.heap.size + 1 := fun e => hn (.inr (.inr e)); rw [heap_set ⟨w.heap.size + 1, 2, none⟩ hjz, heap_set ⟨w.heap.size + 1, 1, none⟩ hjz, heap_set ⟨w.heap.size + 1, 0, none⟩ hjz]) (by simp) (fun j h => .inl (.inl h))
      · exact ((hb6.setCell (p := ⟨w.heap.size + 1, _, none⟩) (by simp only; omega) _).setCell (p := ⟨w.heap.size + 1, _, none⟩) (by simp only; omega) _).setCell (p := ⟨w.heap.size + 1, _, none⟩) (by simp only; omega) _
      · intro g' hg'
        have hl := HN.out g' hg'
        have e2 : g' ≠ w.heap.size + 1 := by omega
        rw [heap_set ⟨w.heap.size + 1, 2, none⟩ e2, heap_set ⟨w.heap.size + 1, 1, none⟩ e2, heap_set ⟨w.heap.size + 1, 0, none⟩ e2]
        exact hf6 g' hl

  · have hd1 : decide (fl < 0) = false := by simp; omega
    by_cases hc2 : (nf : Int) ≤ fl
    · have hd2 : decide (fl ≥ (nf : Int)) = true := by simp [hc2]
      have hd2' : decide ((nf : Int) ≤ fl) = true := by simp [hc2]
      have HX : Hid (fr.come nf s fl sz = (s, 2)) := Lib.hid (by unfold fr.come; rw [if_pos (.inr (.inl hc2))])
      go_quiet (fail)
      all_goals
        go_wp2_with fail
        refine (fair_no 2 _).mono ?_
        rintro e w6 ⟨rfl, h7⟩
        have hn7 := HNZ.out _ _ h7
        obtain ⟨v0, v1, v2, vf, hb6, hf6, hr6⟩ := hn7
        go_wp2
        refine bodyPost_ret (v := .agg #[.int .i64 2, .int .i64 0, .int .i64 0]) (by simp [results, Try.results75, go_sem, v0, v1, v2]) rfl ⟨by rw [HX.out], ?_, ?_, ?_⟩
        · rw [HX.out]
          exact hr6.keep (fun j hj hn => by have hjz : j ≠ w.heap.size + 1 := fun e => hn (.inr (.inr e)); rw [heap_set ⟨w.heap.size + 1, 2, none⟩ hjz, heap_set ⟨w.heap.size + 1, 1, none⟩ hjz, heap_set ⟨w.heap.size + 1, 0, none⟩ hjz]) (by simp) (fun j h => .inl (.inl h))
        · exact ((hb6.setCell (p := ⟨w.heap.size + 1, _, none⟩) (by simp only; omega) _).setCell (p := ⟨w.heap.size + 1, _, none⟩) (by simp only; omega) _).setCell (p := ⟨w.heap.size + 1, _, none⟩) (by simp only; omega) _
        · intro g' hg'
          have hl := HN.out g' hg'
          have e2 : g' ≠ w.heap.size + 1 := by omega
          rw [heap_set ⟨w.heap.size + 1, 2, none⟩ e2, heap_set ⟨w.heap.size + 1, 1, none⟩ e2, heap_set ⟨w.heap.size + 1, 0, none⟩ e2]
          exact hf6 g' hl

    · have hd2 : decide (fl ≥ (nf : Int)) = false := by simp; omega
      have hd2' : decide ((nf : Int) ≤ fl) = false := by simp; omega
      by_cases hc3 : 1500 < sz
      · have hd3 : decide (sz > 1500) = true := by simp [hc3]
        have hd3' : decide (1500 < sz) = true := by simp [hc3]
        have HX : Hid (fr.come nf s fl sz = (s, 2)) := Lib.hid (by unfold fr.come; rw [if_pos (.inr (.inr hc3))])
        go_quiet (fail)
        all_goals
          go_wp2_with fail
          refine (fair_no 2 _).mono ?_
          rintro e w6 ⟨rfl, h7⟩
          have hn7 := HNZ.out _ _ h7
          obtain ⟨v0, v1, v2, vf, hb6, hf6, hr6⟩ := hn7
          go_wp2
          refine bodyPost_ret (v := .agg #[.int .i64 2, .int .i64 0, .int .i64 0]) (by simp [results, Try.results75, go_sem, v0, v1, v2]) rfl ⟨by rw [HX.out], ?_, ?_, ?_⟩
          · rw [HX.out]
            exact hr6.keep (fun j hj hn => by have hjz : j ≠ w.heap.size + 1 := fun e => hn (.inr (.inr e)); rw [heap_set ⟨w.heap.size + 1, 2, none⟩ hjz, heap_set ⟨w.heap.size + 1, 1, none⟩ hjz, heap_set ⟨w.heap.size + 1, 0, none⟩ hjz]) (by simp) (fun j h => .inl (.inl h))
          · exact ((hb6.setCell (p := ⟨w.heap.size + 1, _, none⟩) (by simp only; omega) _).setCell (p := ⟨w.heap.size + 1, _, none⟩) (by simp only; omega) _).setCell (p := ⟨w.heap.size + 1, _, none⟩) (by simp only; omega) _
          · intro g' hg'
            have hl := HN.out g' hg'
            have e2 : g' ≠ w.heap.size + 1 := by omega
            rw [heap_set ⟨w.heap.size + 1, 2, none⟩ e2, heap_set ⟨w.heap.size + 1, 1, none⟩ e2, heap_set ⟨w.heap.size + 1, 0, none⟩ e2]
            exact hf6 g' hl

      · have hd3 : decide (sz > 1500) = false := by simp; omega
        have hd3' : decide (1500 < sz) = false := by simp; omega
        obtain ⟨i, hi0⟩ : ∃ i : Nat, fl = (i : Int) := ⟨fl.toNat, by omega⟩
        subst hi0
        have hi : i < nf := by omega
        have m1 := HR1.out.ws i hi
        have hsh := HI.out.short i
        have HX : Hid (fr.come nf s (i : Int) sz = if 40 ≤ (s.w i).length then (s, 9) else (⟨fr.upd s.w i (s.w i ++ [sz]), s.d, if (s.w i).length = 0 then s.t ++ [i] else s.t, s.f⟩, 0)) := Lib.hid (by unfold fr.come; rw [if_neg (by omega), Int.toNat_natCast])
        obtain ⟨L, hL⟩ : ∃ L, (s.w i).length = L := ⟨_, rfl⟩
        rw [hL] at m1 hsh HX
        have HL := Lib.hid hL
        clear hL
        go_quiet (fail)
        all_goals
          go_upto_region 3 with fail
          go_quiet (fail)
        all_goals
          go_upto_region 4 with fail
          generalize hwd : World.drewN _ _ = wd
          have hbd : Below w1.heap.size w1 wd := by rw [← hwd]; exact (by repeat (first | (with_reducible exact Below.refl _ _) | (with_reducible assumption) | (with_reducible refine bset ?_ ?_ _) | (with_reducible refine balloc ?_ _) | (with_reducible refine Below.drew ?_) | (with_reducible refine bdrewN ?_ _) | (with_reducible refine bnext ?_ (by with_reducible assumption)) | exact Nat.le_refl _ | (simp; done) | omega | (simp; omega)))
          have hsd : wd.heap.size = w1.heap.size := by rw [← hwd]; simp
          have HNW : Hid (∀ w6, Below wd.heap.size wd w6 → w6.cell? ⟨w.heap.size + 1, 0, none⟩ = some (.int .i64 0) ∧ w6.cell? ⟨w.heap.size + 1, 1, none⟩ = some (.int .i64 0) ∧ w6.cell? ⟨w.heap.size + 1, 2, none⟩ = some (.int .i64 0) ∧ (∀ o, w6.frozen? ⟨w.heap.size + 1, o, none⟩ = false) ∧ Below B0 w w6 ∧ (∀ g, g < w.heap.size → w6.heap[g]? = w.heap[g]?) ∧ Ring w6 B0 base R G nf q s (fun j => No j ∨ j = w.heap.size ∨ j = w.heap.size + 1)) := Lib.hid (fun w6 hb => HNZ.out 0 w6 (Below.trans (by rw [World.drewN_zero]; exact hbd) (by rw [World.drewN_zero, ← hsd]; exact hb)))
          have z0 := (hbd.cell (p := ⟨w.heap.size, 0, none⟩) (by simp only; omega)).trans x0
          have z1 := (hbd.cell (p := ⟨w.heap.size, 1, none⟩) (by simp only; omega)).trans x1
          have HR2 : Hid (RingAt wd B0 base R G nf q s.w s.d (fr.fedOf s) s.t A c At ct cG (fun j => No j ∨ j = w.heap.size ∨ j = w.heap.size + 1)) := Lib.hid (HR1.out.next hbd)
          have n0 := HR2.out.r0
          have n1 := HR2.out.r1
          have nfr := HR2.out.fr
          have nfg := HR2.out.fg
          have nm1 := HR2.out.ws i hi
          rw [HL.out] at nm1
          have HBD := Lib.hid hbd
          have HSD := Lib.hid hsd
          have HNS : Hid (∀ g, No g ∨ g = w.heap.size ∨ g = w.heap.size + 1 → g < wd.heap.size) := Lib.hid (fun g hg => by
            rcases hg with hg | hg | hg
            · have := HN.out g hg; omega
            · omega
            · omega)
          have HBD0 : Hid (Below B0 w wd) := Lib.hid ((hb1.mono (by omega)).trans (hbd.mono (by omega)))
          have HZD : Hid (wd.cell? ⟨w.heap.size + 1, 0, none⟩ = some (.int .i64 0) ∧ wd.cell? ⟨w.heap.size + 1, 1, none⟩ = some (.int .i64 0) ∧ wd.cell? ⟨w.heap.size + 1, 2, none⟩ = some (.int .i64 0) ∧ (∀ o, wd.frozen? ⟨w.heap.size + 1, o, none⟩ = false) ∧ (∀ g, g < w.heap.size → wd.heap[g]? = w.heap[g]?)) := Lib.hid (by
            obtain ⟨v0, v1, v2, vf, _, hf6, _⟩ := HNW.out wd (Below.refl _ _)
            exact ⟨v0, v1, v2, vf, hf6⟩)
          clear hwd hbd hsd k0 k1 kf kg m1 x0 x1
          by_cases hl40 : L = 40
          · have hb40 : ((L : Int) == 40) = true := by rw [beq_iff_eq]; omega
            go_wp2_with fail
            refine (fair_no 9 _).mono ?_
            rintro e w6 ⟨rfl, h7⟩
            obtain ⟨v0, v1, v2, vf, hb6, hf6, hr6⟩ := HNW.out _ h7
            go_wp2
            refine bodyPost_ret (v := .agg #[.int .i64 9, .int .i64 0, .int .i64 0]) (by simp [results, Try.results75, go_sem, v0, v1, v2]) rfl ⟨by rw [HX.out, if_pos (by omega)], ?_, ?_, ?_⟩
            · rw [HX.out, if_pos (by omega)]
              exact hr6.keep (fun j hj hn => by have hjz : j ≠ w.heap.size + 1 := fun e => hn (.inr (.inr e)); rw [heap_set ⟨w.heap.size + 1, 2, none⟩ hjz, heap_set ⟨w.heap.size + 1, 1, none⟩ hjz, heap_set ⟨w.heap.size + 1, 0, none⟩ hjz]) (by simp) (fun j h => .inl (.inl h))
            · exact ((hb6.setCell (p := ⟨w.heap.size + 1, _, none⟩) (by simp only; omega) _).setCell (p := ⟨w.heap.size + 1, _, none⟩) (by simp only; omega) _).setCell (p := ⟨w.heap.size + 1, _, none⟩) (by simp only; omega) _
            · intro g' hg'
              have hl := HN.out g' hg'
              have e2 : g' ≠ w.heap.size + 1 := by omega
              rw [heap_set ⟨w.heap.size + 1, 2, none⟩ e2, heap_set ⟨w.heap.size + 1, 1, none⟩ e2, heap_set ⟨w.heap.size + 1, 0, none⟩ e2]
              exact hf6 g' hl
          · have hb40 : ((L : Int) == 40) = false := by rw [beq_eq_false_iff_ne]; omega
            by_cases hl0 : L = 0
            · have hb0 : ((L : Int) == 0) = true := by rw [beq_iff_eq]; omega
              have HL0 := Lib.hid hl0
              clear hl0
              go_upto_region 8 with fail
              have HBW : Hid (∀ m o, Below wd.heap.size wd ((wd.drewN m).alloc o)) := Lib.hid fun m o => balloc (bdrewN (bself _) _) _
              have HOT : Hid (∀ m o, OwnF ((wd.drewN m).alloc o) base 3 At s.t.length ct (s.t.map fun i : Nat => (i : Int))) := Lib.hid fun m o => HR2.out.turn.next (HBW.out m o)
              have HNC : Hid (∀ m ty, Cells ((wd.drewN m).alloc (.cells #[.int .i64 (i : Int)] ty)) (some ⟨wd.heap.size, 0, none⟩) [.int .i64 (i : Int)]) := Lib.hid (fun m ty => Cells.newAt (wd.drewN m) ty [.int .i64 (i : Int)] rfl)
              have hRd : R < wd.heap.size := by have := HSD.out; omega
              have hRne : ∀ k, blkOf At = some k → k ≠ R := fun k hk e => HR2.out.turned.2 (e ▸ hk)
              have HRN := Lib.hid hRne
              have hba := HR2.out.lo.2.2.2.2.2
              have HBA : Hid (∀ m o, base ≤ ((wd.drewN m).alloc o).heap.size) := Lib.hid (fun m o => Nat.le_trans hba (HBW.out m o).size)
              have HKR : Hid (∀ m o A' w', Grew ((wd.drewN m).alloc o) w' At A' → w'.heap[R]? = wd.heap[R]?) := Lib.hid (fun m o A' w' hg => (hg.grown.block R (Nat.lt_of_lt_of_le hRd (HBW.out m o).size) (fun e => HRN.out R e.symm rfl)).trans ((HBW.out m o).block R hRd))
              have j0 : ∀ m o, ((wd.drewN m).alloc o).cell? ⟨R, 1, none⟩ = some (.slice At s.t.length ct) := fun m o => ((HBW.out m o).cell (p := ⟨R, 1, none⟩) hRd).trans n1
              have j1 : ∀ m o, ((wd.drewN m).alloc o).cell? ⟨w.heap.size, 0, none⟩ = some (.int .i64 (i : Int)) := fun m o => ((HBW.out m o).cell (p := ⟨w.heap.size, 0, none⟩) (by have := HSD.out; simp only; omega)).trans z0
              have htl : s.t.length ≤ 6 := by
                have h1 := nodup_short nf s.t HI.out.nodup (fun y hy => (HI.out.waits y hy).1)
                omega
              clear hRne hba
              go_region_law
                (first
                  | (refine step_appF _ (by rfl) _ _ _ (by rfl) fr.elemI base At s.t.length ct (s.t.map fun i : Nat => (i : Int)) (by rfl) (HOT.out _ _) (some ⟨wd.heap.size, 0, none⟩) 1 (i : Int) (by rfl) (HNC.out _ _) (by omega) (by unfold maxLen; omega) (HBA.out _ _) ?_; intro A6 c6 w6 h6 hg6; have hz6 := HKR.out _ _ _ _ hg6; have y1 := (World.cell?_of_block (a := ⟨R, 1, none⟩) hz6).trans n1; have yf := fun o => (World.frozen?_of_block (a := ⟨R, o, none⟩) hz6).trans (nfr o); have H6A := Lib.hid h6; have H6G := Lib.hid hg6; clear h6 hg6 hz6)
                  | fail)
              all_goals
                go_upto_region 9 with fail
                obtain ⟨we, hwe⟩ : ∃ we, we = w6.setCell ⟨R, 1, none⟩ (.slice A6 (s.t.length + 1) c6) := ⟨_, rfl⟩
                have hrt := ((HR2.out.next (HBW.out _ _)).turnTo (A' := A6) (n' := s.t.length + 1) (c' := c6) (T' := s.t ++ [i]) H6G.out (by have h0 := H6A.out; rw [List.map_append]; exact h0) (fun g hg => Nat.lt_of_lt_of_le (HNS.out g hg) (HBW.out _ _).size))
                have hbe : Below B0 wd we := by rw [hwe]; exact (((HBW.out _ _).mono (by have := HSD.out; omega)).trans (H6G.out.belowB (B0 := B0) (base := base) (fun k hk => (HRA.out.turn.lt k hk).1) (by omega) (Nat.le_trans (by omega) (HBA.out _ _)))).setCell (p := ⟨R, 1, none⟩) l1 _
                have hfe : ∀ g, No g ∨ g = w.heap.size ∨ g = w.heap.size + 1 → we.heap[g]? = wd.heap[g]? := fun g hg => by
                  have e1 : g ≠ R := fun e => HR2.out.off.1 (e ▸ hg)
                  rw [hwe, heap_set ⟨R, 1, none⟩ e1, H6G.out.grown.block g (Nat.lt_of_lt_of_le (HNS.out g hg) (HBW.out _ _).size) (fun e => HR2.out.turnNo g e.symm hg)]
                  exact (HBW.out _ _).block g (HNS.out g hg)
                rw [← hwe] at hrt
                rw [← hwe]
                have HRE := Lib.hid hrt
                have HFE := Lib.hid (And.intro hbe hfe)
                clear hwe hrt hbe hfe j0 j1 y1 yf n0 n1 nfr nfg nm1
                have ms := HRE.out.ws i hi
                rw [HL.out] at ms
                have fgE := HRE.out.fg
                have z1e : we.cell? ⟨w.heap.size, 1, none⟩ = some (.int .i64 sz) := (World.cell?_of_block (a := ⟨w.heap.size, 1, none⟩) (HFE.out.2 _ (.inr (.inl rfl)))).trans z1
                have HBX : Hid (∀ m o, Below we.heap.size we ((we.drewN m).alloc o)) := Lib.hid fun m o => balloc (bdrewN (bself _) _) _
                have HOW : Hid (∀ m o, OwnF ((we.drewN m).alloc o) base 3 (A i) L (c i) (s.w i)) := Lib.hid fun m o => by have h0 := (HRE.out.own i hi).next (HBX.out m o); rw [HL.out] at h0; exact h0
                have HNE : Hid (∀ m ty, Cells ((we.drewN m).alloc (.cells #[.int .i64 sz] ty)) (some ⟨we.heap.size, 0, none⟩) [.int .i64 sz]) := Lib.hid (fun m ty => Cells.newAt (we.drewN m) ty [.int .i64 sz] rfl)
                have hse := HFE.out.1.size
                have hGe : G < we.heap.size := by have := HSD.out; omega
                have HZE : Hid (w.heap.size + 1 < we.heap.size) := Lib.hid (by have := HSD.out; omega)
                have HAG : Hid (∀ k, blkOf (A i) = some k → k ≠ G ∧ k < w.heap.size ∧ base ≤ k) := Lib.hid (fun k hk => ⟨fun e => (HRA.out.owned hi).1 (e ▸ hk), ((HRA.out.own i hi).lt k hk).2, ((HRA.out.own i hi).lt k hk).1⟩)
                have HBY : Hid (∀ m o, base ≤ ((we.drewN m).alloc o).heap.size) := Lib.hid (fun m o => Nat.le_trans HRE.out.lo.2.2.2.2.2 (HBX.out m o).size)
                have HKG : Hid (∀ m o A' w', Grew ((we.drewN m).alloc o) w' (A i) A' → w'.heap[G]? = we.heap[G]? ∧ w'.heap[w.heap.size + 1]? = we.heap[w.heap.size + 1]?) := Lib.hid (fun m o A' w' hg => ⟨(hg.grown.block G (Nat.lt_of_lt_of_le hGe (HBX.out m o).size) (fun e => (HAG.out G e.symm).1 rfl)).trans ((HBX.out m o).block G hGe), (hg.grown.block (w.heap.size + 1) (Nat.lt_of_lt_of_le HZE.out (HBX.out m o).size) (fun e => by have := (HAG.out _ e.symm).2.1; omega)).trans ((HBX.out m o).block _ HZE.out)⟩)
                have i0 : ∀ m o, ((we.drewN m).alloc o).cell? ⟨G, i * 4 + 1, none⟩ = some (.slice (A i) L (c i)) := fun m o => ((HBX.out m o).cell (p := ⟨G, i * 4 + 1, none⟩) hGe).trans ms
                have i1 : ∀ m o, ((we.drewN m).alloc o).cell? ⟨w.heap.size, 1, none⟩ = some (.int .i64 sz) := fun m o => ((HBX.out m o).cell (p := ⟨w.heap.size, 1, none⟩) (by have := HZE.out; simp only; omega)).trans z1e
                have HUZ := Lib.hid (And.intro ((World.cell?_of_block (a := ⟨w.heap.size + 1, 0, none⟩) (HFE.out.2 _ (.inr (.inr rfl)))).trans HZD.out.1) (And.intro ((World.cell?_of_block (a := ⟨w.heap.size + 1, 1, none⟩) (HFE.out.2 _ (.inr (.inr rfl)))).trans HZD.out.2.1) (And.intro ((World.cell?_of_block (a := ⟨w.heap.size + 1, 2, none⟩) (HFE.out.2 _ (.inr (.inr rfl)))).trans HZD.out.2.2.1) (fun o => (World.frozen?_of_block (a := ⟨w.heap.size + 1, o, none⟩) (HFE.out.2 _ (.inr (.inr rfl)))).trans (HZD.out.2.2.2.1 o)))))
                clear hse
                go_region_law
                  (first
                    | (refine step_appF _ (by rfl) _ _ _ (by rfl) fr.elemI base (A i) L (c i) (s.w i) (by rfl) (HOW.out _ _) (some ⟨we.heap.size, 0, none⟩) 1 sz (by rfl) (HNE.out _ _) (by omega) (by unfold maxLen; omega) (HBY.out _ _) ?_; intro A7 c7 w7 h7 hg7; have hz7 := (HKG.out _ _ _ _ hg7).1; have hz8 := (HKG.out _ _ _ _ hg7).2; have b1 := (World.cell?_of_block (a := ⟨G, i * 4 + 1, none⟩) hz7).trans ms; have bf := fun o => (World.frozen?_of_block (a := ⟨G, o, none⟩) hz7).trans (fgE o); have q0 := (World.cell?_of_block (a := ⟨w.heap.size + 1, 0, none⟩) hz8).trans HUZ.out.1; have q1 := (World.cell?_of_block (a := ⟨w.heap.size + 1, 1, none⟩) hz8).trans HUZ.out.2.1; have q2 := (World.cell?_of_block (a := ⟨w.heap.size + 1, 2, none⟩) hz8).trans HUZ.out.2.2.1; have qf := fun o => (World.frozen?_of_block (a := ⟨w.heap.size + 1, o, none⟩) hz8).trans (HUZ.out.2.2.2 o); have H7A := Lib.hid h7; have H7G := Lib.hid hg7; clear h7 hg7 hz7 hz8)
                    | fail)
                all_goals
                  go_wp2
                  refine bodyPost_ret (v := .agg #[.int .i64 0, .int .i64 0, .int .i64 0]) (by simp [results, Try.results75, go_sem, q0, q1, q2]) rfl ⟨by rw [HX.out, if_neg (by omega)], ?_, ?_, ?_⟩
                  · rw [HX.out, if_neg (by omega)]
                    have hrw := ((HRE.out.next (HBX.out _ _)).waits (i := i) (A' := A7) (n' := L + 1) (c' := c7) (W' := s.w i ++ [sz]) hi H7G.out H7A.out (fun g hg => Nat.lt_of_lt_of_le (HNS.out g hg) (Nat.le_trans HFE.out.1.size (HBX.out _ _).size)))
                    refine Ring.keep (No := fun j => No j ∨ j = w.heap.size ∨ j = w.heap.size + 1) ⟨_, _, _, _, _, hrw.fedAs (fun j _ => by show fr.fedOf _ j = _; simp only; rw [if_pos HL0.out]; exact fr.fed_come HI.out _ (.inr trivial) j) rfl rfl (by simp only; rw [if_pos HL0.out])⟩ (fun j hj hn => by have hjz : j ≠ w.heap.size + 1 := fun e => hn (.inr (.inr e)); rw [heap_set ⟨w.heap.size + 1, 2, none⟩ hjz, heap_set ⟨w.heap.size + 1, 1, none⟩ hjz, heap_set ⟨w.heap.size + 1, 0, none⟩ hjz]) (by simp) (fun j h => .inl (.inl h))
                  · have hbq : Below B0 w we := (HBD0.out).trans HFE.out.1
                    exact ((((hbq.trans (((HBX.out _ _).mono (by have := HZE.out; omega)).trans (H7G.out.belowB (B0 := B0) (base := base) (fun k hk => (HAG.out k hk).2.2) (by omega) (Nat.le_trans (by omega) (HBY.out _ _))))).setCell (p := ⟨G, _, none⟩) l2 _).setCell (p := ⟨w.heap.size + 1, _, none⟩) (by simp only; omega) _).setCell (p := ⟨w.heap.size + 1, _, none⟩) (by simp only; omega) _).setCell (p := ⟨w.heap.size + 1, _, none⟩) (by simp only; omega) _
                  · intro g' hg'
                    have hl := HN.out g' hg'
                    have hle : g' < we.heap.size := by have := HZE.out; omega
                    have e2 : g' ≠ w.heap.size + 1 := by omega
                    have e1 : g' ≠ G := fun e => HRA.out.off.2 (e ▸ hg')
                    rw [heap_set ⟨w.heap.size + 1, 2, none⟩ e2, heap_set ⟨w.heap.size + 1, 1, none⟩ e2, heap_set ⟨w.heap.size + 1, 0, none⟩ e2, heap_set ⟨G, i * 4 + 1, none⟩ e1, H7G.out.grown.block g' (Nat.lt_of_lt_of_le hle (HBX.out _ _).size) (fun e => HRA.out.ownNo i hi g' e.symm hg')]
                    first
                      | rw [heap_drew, Below.heap_alloc we _ g' hle, HFE.out.2 g' (.inl hg')]
                      | rw [(HBX.out _ _).block g' hle, HFE.out.2 g' (.inl hg')]
                    exact HZD.out.2.2.2.2 g' hl
            · have hb0 : ((L : Int) == 0) = false := by rw [beq_eq_false_iff_ne]; omega
              have HL0 := Lib.hid hl0
              clear hl0
              go_upto_region 9 with fail
              obtain ⟨we, hwe⟩ : ∃ we, we = wd := ⟨_, rfl⟩
              have HRE : Hid (RingAt we B0 base R G nf q s.w s.d (fr.fedOf s) s.t A c At ct cG (fun j => No j ∨ j = w.heap.size ∨ j = w.heap.size + 1)) := Lib.hid (by rw [hwe]; exact HR2.out)
              have HFE : Hid (Below B0 wd we ∧ ∀ g, No g ∨ g = w.heap.size ∨ g = w.heap.size + 1 → we.heap[g]? = wd.heap[g]?) := Lib.hid (by rw [hwe]; exact ⟨Below.refl _ _, fun _ _ => rfl⟩)
              rw [← hwe]
              clear hwe n0 n1 nfr nfg nm1
              have ms := HRE.out.ws i hi
              rw [HL.out] at ms
              have fgE := HRE.out.fg
              have z1e : we.cell? ⟨w.heap.size, 1, none⟩ = some (.int .i64 sz) := (World.cell?_of_block (a := ⟨w.heap.size, 1, none⟩) (HFE.out.2 _ (.inr (.inl rfl)))).trans z1
              have HBX : Hid (∀ m o, Below we.heap.size we ((we.drewN m).alloc o)) := Lib.hid fun m o => balloc (bdrewN (bself _) _) _
              have HOW : Hid (∀ m o, OwnF ((we.drewN m).alloc o) base 3 (A i) L (c i) (s.w i)) := Lib.hid fun m o => by have h0 := (HRE.out.own i hi).next (HBX.out m o); rw [HL.out] at h0; exact h0
              have HNE : Hid (∀ m ty, Cells ((we.drewN m).alloc (.cells #[.int .i64 sz] ty)) (some ⟨we.heap.size, 0, none⟩) [.int .i64 sz]) := Lib.hid (fun m ty => Cells.newAt (we.drewN m) ty [.int .i64 sz] rfl)
              have hse := HFE.out.1.size
              have hGe : G < we.heap.size := by have := HSD.out; omega
              have HZE : Hid (w.heap.size + 1 < we.heap.size) := Lib.hid (by have := HSD.out; omega)
              have HAG : Hid (∀ k, blkOf (A i) = some k → k ≠ G ∧ k < w.heap.size ∧ base ≤ k) := Lib.hid (fun k hk => ⟨fun e => (HRA.out.owned hi).1 (e ▸ hk), ((HRA.out.own i hi).lt k hk).2, ((HRA.out.own i hi).lt k hk).1⟩)
              have HBY : Hid (∀ m o, base ≤ ((we.drewN m).alloc o).heap.size) := Lib.hid (fun m o => Nat.le_trans HRE.out.lo.2.2.2.2.2 (HBX.out m o).size)
              have HKG : Hid (∀ m o A' w', Grew ((we.drewN m).alloc o) w' (A i) A' → w'.heap[G]? = we.heap[G]? ∧ w'.heap[w.heap.size + 1]? = we.heap[w.heap.size + 1]?) := Lib.hid (fun m o A' w' hg => ⟨(hg.grown.block G (Nat.lt_of_lt_of_le hGe (HBX.out m o).size) (fun e => (HAG.out G e.symm).1 rfl)).trans ((HBX.out m o).block G hGe), (hg.grown.block (w.heap.size + 1) (Nat.lt_of_lt_of_le HZE.out (HBX.out m o).size) (fun e => by have := (HAG.out _ e.symm).2.1; omega)).trans ((HBX.out m o).block _ HZE.out)⟩)
              have i0 : ∀ m o, ((we.drewN m).alloc o).cell? ⟨G, i * 4 + 1, none⟩ = some (.slice (A i) L (c i)) := fun m o => ((HBX.out m o).cell (p := ⟨G, i * 4 + 1, none⟩) hGe).trans ms
              have i1 : ∀ m o, ((we.drewN m).alloc o).cell? ⟨w.heap.size, 1, none⟩ = some (.int .i64 sz) := fun m o => ((HBX.out m o).cell (p := ⟨w.heap.size, 1, none⟩) (by have := HZE.out; simp only; omega)).trans z1e
              have HUZ := Lib.hid (And.intro ((World.cell?_of_block (a := ⟨w.heap.size + 1, 0, none⟩) (HFE.out.2 _ (.inr (.inr rfl)))).trans HZD.out.1) (And.intro ((World.cell?_of_block (a := ⟨w.heap.size + 1, 1, none⟩) (HFE.out.2 _ (.inr (.inr rfl)))).trans HZD.out.2.1) (And.intro ((World.cell?_of_block (a := ⟨w.heap.size + 1, 2, none⟩) (HFE.out.2 _ (.inr (.inr rfl)))).trans HZD.out.2.2.1) (fun o => (World.frozen?_of_block (a := ⟨w.heap.size + 1, o, none⟩) (HFE.out.2 _ (.inr (.inr rfl)))).trans (HZD.out.2.2.2.1 o)))))
              clear hse
              go_region_law
                (first
                  | (refine step_appF _ (by rfl) _ _ _ (by rfl) fr.elemI base (A i) L (c i) (s.w i) (by rfl) (HOW.out _ _) (some ⟨we.heap.size, 0, none⟩) 1 sz (by rfl) (HNE.out _ _) (by omega) (by unfold maxLen; omega) (HBY.out _ _) ?_; intro A7 c7 w7 h7 hg7; have hz7 := (HKG.out _ _ _ _ hg7).1; have hz8 := (HKG.out _ _ _ _ hg7).2; have b1 := (World.cell?_of_block (a := ⟨G, i * 4 + 1, none⟩) hz7).trans ms; have bf := fun o => (World.frozen?_of_block (a := ⟨G, o, none⟩) hz7).trans (fgE o); have q0 := (World.cell?_of_block (a := ⟨w.heap.size + 1, 0, none⟩) hz8).trans HUZ.out.1; have q1 := (World.cell?_of_block (a := ⟨w.heap.size + 1, 1, none⟩) hz8).trans HUZ.out.2.1; have q2 := (World.cell?_of_block (a := ⟨w.heap.size + 1, 2, none⟩) hz8).trans HUZ.out.2.2.1; have qf := fun o => (World.frozen?_of_block (a := ⟨w.heap.size + 1, o, none⟩) hz8).trans (HUZ.out.2.2.2 o); have H7A := Lib.hid h7; have H7G := Lib.hid hg7; clear h7 hg7 hz7 hz8)
                  | fail)
              all_goals
                go_wp2
                refine bodyPost_ret (v := .agg #[.int .i64 0, .int .i64 0, .int .i64 0]) (by simp [results, Try.results75, go_sem, q0, q1, q2]) rfl ⟨by rw [HX.out, if_neg (by omega)], ?_, ?_, ?_⟩
                · rw [HX.out, if_neg (by omega)]
                  have hrw := ((HRE.out.next (HBX.out _ _)).waits (i := i) (A' := A7) (n' := L + 1) (c' := c7) (W' := s.w i ++ [sz]) hi H7G.out H7A.out (fun g hg => Nat.lt_of_lt_of_le (HNS.out g hg) (Nat.le_trans HFE.out.1.size (HBX.out _ _).size)))
                  refine Ring.keep (No := fun j => No j ∨ j = w.heap.size ∨ j = w.heap.size + 1) ⟨_, _, _, _, _, hrw.fedAs (fun j _ => by show fr.fedOf _ j = _; simp only; rw [if_neg HL0.out]; rfl) rfl rfl (by simp only; rw [if_neg HL0.out])⟩ (fun j hj hn => by have hjz : j ≠ w.heap.size + 1 := fun e => hn (.inr (.inr e)); rw [heap_set ⟨w.heap.size + 1, 2, none⟩ hjz, heap_set ⟨w.heap.size + 1, 1, none⟩ hjz, heap_set ⟨w.heap.size + 1, 0, none⟩ hjz]) (by simp) (fun j h => .inl (.inl h))
                · have hbq : Below B0 w we := (HBD0.out).trans HFE.out.1
                  exact ((((hbq.trans (((HBX.out _ _).mono (by have := HZE.out; omega)).trans (H7G.out.belowB (B0 := B0) (base := base) (fun k hk => (HAG.out k hk).2.2) (by omega) (Nat.le_trans (by omega) (HBY.out _ _))))).setCell (p := ⟨G, _, none⟩) l2 _).setCell (p := ⟨w.heap.size + 1, _, none⟩) (by simp only; omega) _).setCell (p := ⟨w.heap.size + 1, _, none⟩) (by simp only; omega) _).setCell (p := ⟨w.heap.size + 1, _, none⟩) (by simp only; omega) _
                · intro g' hg'
                  have hl := HN.out g' hg'
                  have hle : g' < we.heap.size := by have := HZE.out; omega
                  have e2 : g' ≠ w.heap.size + 1 := by omega
                  have e1 : g' ≠ G := fun e => HRA.out.off.2 (e ▸ hg')
                  rw [heap_set ⟨w.heap.size + 1, 2, none⟩ e2, heap_set ⟨w.heap.size + 1, 1, none⟩ e2, heap_set ⟨w.heap.size + 1, 0, none⟩ e2, heap_set ⟨G, i * 4 + 1, none⟩ e1, H7G.out.grown.block g' (Nat.lt_of_lt_of_le hle (HBX.out _ _).size) (fun e => HRA.out.ownNo i hi g' e.symm hg')]
                  first
                    | rw [heap_drew, Below.heap_alloc we _ g' hle, HFE.out.2 g' (.inl hg')]
                    | rw [(HBX.out _ _).block g' hle, HFE.out.2 g' (.inl hg')]
                  exact HZD.out.2.2.2.2 g' hl
end Go.Proofs.Ytedbidblnjajdaa
