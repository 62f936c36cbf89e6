/- Package fair: sends. No condition. -/
import Derived.Test.YtedbidblnjajdaaFair2
import Derived.Deep.LoopGhost
namespace Go.Proofs.Ytedbidblnjajdaa
open Go.RowKit

theorem fr.fed_at {s : fr.St} {i : Nat} {tl : List Nat} (ht : s.t = i :: tl) : fr.fedOf s i = s.f := by unfold fr.fedOf; rw [ht]; simp
theorem fr.fed_give {q : Nat → Int} {s : fr.St} {i : Nat} {tl : List Nat} (ht : s.t = i :: tl) (hf : s.f = false) (j : Nat) : fr.fedOf (fr.give q s i) j = fr.upd (fr.fedOf s) i true j := by
  obtain ⟨e1, e2, e3⟩ := fr.give_w q s i
  unfold fr.fedOf
  rw [e2, e3, ht]
  by_cases e : j = i
  · subst e; rw [fr.upd_same]; simp
  · rw [fr.upd_other _ _ e, hf]
    simp only [List.head?_cons, Option.some.injEq, Bool.false_and, Bool.true_and]
    exact decide_eq_false (fun e2 => e e2.symm)
theorem fr.fed_over {s : fr.St} {i : Nat} {tl : List Nat} (ht : s.t = i :: tl) (j : Nat) : fr.fedOf (fr.over s i tl) j = fr.upd (fr.fedOf s) i false j := by
  by_cases e : j = i
  · subst e; rw [fr.upd_same]; rfl
  · rw [fr.upd_other _ _ e]
    unfold fr.fedOf
    rw [ht]
    simp only [List.head?_cons, Option.some.injEq]
    rw [decide_eq_false (fun e2 : i = j => e e2.symm), Bool.and_false]
    rfl
theorem fr.give_d {q : Nat → Int} {s : fr.St} {i : Nat} (hf : s.f = false) : (fr.give q s i).d = fr.upd s.d i (s.d i + q i) := by unfold fr.give; rw [hf]; rfl

theorem Grew.off {w w' : World} {A B A' : Option Addr} (h : Grew w w' A A') (e : blkOf A = blkOf B) : Grew w w' B A' := ⟨e ▸ h.grown, e ▸ h.blk⟩
theorem Grew.belowB {w w' : World} {A A' : Option Addr} {B0 base : Nat} (h : Grew w w' A A') (hA : ∀ k, blkOf A = some k → base ≤ k) (hB : B0 ≤ base) (hs : B0 ≤ w.heap.size) : Below B0 w w' :=
  ⟨h.grown.os, h.grown.tape, h.grown.output, h.grown.size, fun k hk => h.grown.block k (by omega) (fun e => by have := hA k e.symm; omega)⟩
theorem nodup_short : ∀ (n : Nat) (l : List Nat), l.Nodup → (∀ x, x ∈ l → x < n) → l.length ≤ n
  | 0, l, _, h => by
    cases l with
    | nil => simp
    | cons x r => exact absurd (h x (by simp)) (by omega)
  | n + 1, l, hd, h => by
    have h1 := nodup_short n (l.erase n) (hd.erase n) (fun x hx => by
      have h2 := (hd.mem_erase_iff).1 hx
      have := h x h2.2
      have := h2.1
      omega)
    have h2 := List.length_erase (a := n) (l := l)
    split at h2 <;> omega

set_option maxRecDepth 100000 in
set_option maxHeartbeats 8000000 in
theorem fair_sends (B0 base R G nfl : Nat) (q : Nat → Int) (hq : ∀ i, i < nfl → 1 ≤ q i ∧ q i ≤ 1500) (s : fr.St) (No : Nat → Prop) (w : World) (h : Ring w B0 base R G nfl q s No) (hinv : fr.Inv nfl s) (hne : s.t ≠ []) (n0 : Nat) (hmu : fr.mu s < n0) (hN : ∀ g, No g → g < w.heap.size) (hnq : nfl ≤ 6) :
    Calls Try.prog 77 #[.pointer (some ⟨R, 0, none⟩)] w fun e w' => ∃ i tl, (fr.spin q n0 s).t = i :: tl ∧ e = .returned (.agg #[.int .i64 0, .int .i64 (i : Nat), .int .i64 (fr.first (fr.spin q n0 s) i)]) ∧ Ring w' B0 base R G nfl q (fr.sent (fr.spin q n0 s) i tl) No ∧ Below B0 w w' ∧ ∀ g, No g → w'.heap[g]? = w.heap[g]? := by
  have hr0 := h
  obtain ⟨A0, c0, At0, ct0, cG0, hr⟩ := hr0
  obtain ⟨l1, l2, l3, l4, l5, l6⟩ := hr.lo
  have k0 := hr.r0
  have k1 := hr.r1
  obtain ⟨i0, tl0, ht0⟩ : ∃ i tl, s.t = i :: tl := by
    cases hs : s.t with
    | nil => exact absurd hs hne
    | cons i tl => exact ⟨i, tl, rfl⟩
  rw [ht0, List.length_cons] at k1
  have HG := Lib.hid h
  have HI := Lib.hid hinv
  have HNE := Lib.hid hne
  have HMU := Lib.hid hmu
  have HN := Lib.hid hN
  have HQ := Lib.hid hq
  have hRw : R < w.heap.size := by omega
  have hGw : G < w.heap.size := by omega
  have hq0 : ((tl0.length : Int) + 1 == 0) = false := by rw [beq_eq_false_iff_ne]; omega
  clear h hinv hne hmu hN hq hr ht0
  obtain ⟨SF, hSF⟩ : ∃ SF, SF = fr.spin q n0 s := ⟨_, rfl⟩
  rw [← hSF]
  have HSF := Lib.hid hSF
  clear hSF
  go_enter Try.func77, Try.ntmps77
  go_wp2
  obtain ⟨w1, hw1⟩ : ∃ w1, w1 = w.alloc (.cells #[.int .i64 0, .int .i64 0, .int .i64 0] 74) := ⟨_, rfl⟩
  have hb1 : Below w.heap.size w w1 := by rw [hw1]; exact (by repeat (first | (with_reducible exact Below.refl _ _) | (with_reducible assumption) | (with_reducible refine bset ?_ ?_ _) | (with_reducible refine balloc ?_ _) | (with_reducible refine Below.drew ?_) | (with_reducible refine bdrewN ?_ _) | (with_reducible refine bnext ?_ (by with_reducible assumption)) | exact Nat.le_refl _ | (simp; done) | omega | (simp; omega)))
  have hz1 : w1.heap.size = w.heap.size + 1 := by rw [hw1]; simp
  have u0 : w1.cell? ⟨w.heap.size, 0, none⟩ = some (.int .i64 0) := by rw [hw1]; simp [go_sem]
  have u1 : w1.cell? ⟨w.heap.size, 1, none⟩ = some (.int .i64 0) := by rw [hw1]; simp [go_sem]
  have u2 : w1.cell? ⟨w.heap.size, 2, none⟩ = some (.int .i64 0) := by rw [hw1]; simp [go_sem]
  have uf : ∀ o, w1.frozen? ⟨w.heap.size, o, none⟩ = false := fun o => by rw [hw1]; simp [go_sem]
  rw [← hw1]
  clear hw1 k0 k1
  have HU := Lib.hid (And.intro u0 (And.intro u1 (And.intro u2 uf)))
  clear u0 u1 u2 uf
  have HG1 : Hid (Ring w1 B0 base R G nfl q s (fun j => No j ∨ j = w.heap.size)) := Lib.hid (HG.out.keep (fun j hj _ => hb1.block j hj) hb1.size (fun j h => h.imp id (fun e => by omega)))
  clear HG
  go_loopg [3, 4] n0 (fun n _ _ wr => ∃ s' : fr.St, Hid (Ring wr B0 base R G nfl q s' (fun j => No j ∨ j = w.heap.size) ∧ fr.Inv nfl s' ∧ s'.t ≠ [] ∧ fr.mu s' < n ∧ fr.spin q n s' = SF) ∧ Hid (Below B0 w1 wr ∧ ∀ g, (No g ∨ g = w.heap.size) → wr.heap[g]? = w1.heap[g]?))
  case atStart => exact ⟨s, Lib.hid ⟨HG1.out, HI.out, HNE.out, HMU.out, HSF.out.symm⟩, Lib.hid ⟨Below.refl _ _, fun _ _ => rfl⟩⟩
  case round =>
    obtain ⟨s', H1, H2⟩ := hrel
    obtain ⟨⟨A, c, At, ct, cG, hr⟩, hinv, hne, hmu, hsp⟩ := H1.out
    obtain ⟨i, tl, ht⟩ : ∃ i tl, s'.t = i :: tl := by
      cases hs : s'.t with
      | nil => exact absurd hs hne
      | cons i tl => exact ⟨i, tl, rfl⟩
    obtain ⟨m, rfl⟩ : ∃ m, gk = m + 1 := ⟨gk - 1, by omega⟩
    have hi := (hinv.waits i (by rw [ht]; simp)).1
    have hwi := (hinv.waits i (by rw [ht]; simp)).2
    have hod := hinv.owed i
    have hqi := HQ.out i hi
    obtain ⟨x, r, hw⟩ : ∃ x r, s'.w i = x :: r := by
      cases hs : s'.w i with
      | nil => exact absurd hs hwi
      | cons x r => exact ⟨x, r, rfl⟩
    have hfx : fr.first s' i = x := by unfold fr.first; rw [hw]; rfl
    have hfp := fr.first_pos hinv (i := i) (by rw [ht]; simp)
    rw [hfx] at hfp
    obtain ⟨_, _, _, _, _, l7⟩ := hr.lo
    have k0 := hr.r0
    have k1 := hr.r1
    have kf := hr.fr
    have kg := hr.fg
    have m0 := hr.qs i hi
    have m1 := hr.ws i hi
    have m2 := hr.ds i hi
    have m3 := hr.fs i hi
    rw [fr.fed_at ht] at m3
    have ho := hr.own i hi
    have hot := hr.turn
    rw [hw, List.length_cons] at m1 ho
    rw [ht, List.length_cons] at k1
    rw [ht, List.length_cons, List.map_cons] at hot
    obtain ⟨g, off, hA, hga, hgb, hgx⟩ := ho.cell (j := 0) (by simp)
    obtain ⟨gt, ot, hAt, hta, htb, htx⟩ := hot.cell (j := 0) (by simp)
    simp only [List.getD_cons_zero, Nat.add_zero] at hgx htx
    subst hAt
    have hcuT := fun V => run_cut_l (P := Try.prog) fr.elemI (some ⟨gt, ot, none⟩) (tl.length + 1) ct 1 (by omega) 1 rfl V
    rw [hA] at m1
    have hRG : R ≠ G := l3
    have hGR : G ≠ R := fun e => l3 e.symm
    have hii : (i : Int) < (nfl : Int) := by omega
    have hRr : R < wr.heap.size := by omega
    have hGr : G < wr.heap.size := by omega
    have HRA := Lib.hid hr
    have HIV := Lib.hid hinv
    have HW := Lib.hid hw
    have HT := Lib.hid ht
    have HFX := Lib.hid hfx
    have HMU2 := Lib.hid hmu
    have HSP := Lib.hid hsp
    have HAI := Lib.hid hA
    have HOT := Lib.hid hot
    clear hr hinv hne hmu hsp ht hw hfx hA ho hot hwi H1 HI HNE HMU HSF HG1
    generalize hdi : s'.d i = di at *
    have HDI := Lib.hid hdi
    clear hdi
    have hwr : IntKind.i64.wrap (di + q i) = di + q i := IntWalk.i64_in _ (by omega)
    obtain ⟨f0, HF⟩ : ∃ f0, Hid (f0 = s'.f) := ⟨_, Lib.hid rfl⟩
    rw [← HF.out] at m3
    obtain ⟨No', hNo'⟩ : ∃ No' : Nat → Prop, No' = fun j => No j ∨ j = w.heap.size := ⟨_, rfl⟩
    rw [← hNo'] at HRA
    have HNN := Lib.hid hNo'
    clear hNo'
    obtain ⟨SG, HSG⟩ : ∃ SG, Hid (SG = fr.give q s' i) := ⟨_, Lib.hid rfl⟩
    go_upto_if 28 with (fail)
    go_cut [3, 4] (fun s3 s4 wx => s3 = .int .i64 i ∧ s4 = .pointer (some ⟨G, i * 4, none⟩) ∧ Hid (RingAt wx B0 base R G nfl q SG.w SG.d (fr.fedOf SG) SG.t A c (some ⟨gt, ot, none⟩) ct cG No') ∧ Hid (Below B0 wr wx ∧ ∀ g, No' g → wx.heap[g]? = wr.heap[g]?))
    case first =>
      have hoff := HRA.out.off
      have HOFF := Lib.hid hoff
      clear hoff
      cases f0 with
      | false =>
        have HRB := Lib.hid ((HRA.out.fedTo hi true).debt hi (di + q i))
        go_upto_region 7 with fail
        go_region_law (fail)
        all_goals
          go_wp2_with fail
          go_meet
          refine ⟨rfl, rfl, Lib.hid ?_, Lib.hid ⟨?_, fun g' hg' => ?_⟩⟩
          · refine RingAt.keep (No := No') (HRB.out.fedAs (fun j _ => ?_) ?_ ?_ ?_) (fun j hj hn => by first | rfl | rw [heap_drew]) (by simp) (fun j h => .inl h)
            · rw [HSG.out]; exact fr.fed_give HT.out HF.out.symm j
            · rw [HSG.out, fr.give_d HF.out.symm, HDI.out]
            · rw [HSG.out]; exact (fr.give_w q s' i).1
            · rw [HSG.out]; exact (fr.give_w q s' i).2.1
          · first
              | exact ((((Below.refl B0 wr).setCell (p := ⟨G, _, none⟩) l2 _).setCell (p := ⟨G, _, none⟩) l2 _)).drew
              | exact ((((Below.refl B0 wr).setCell (p := ⟨G, _, none⟩) l2 _).setCell (p := ⟨G, _, none⟩) l2 _))
          · have e1 : g' ≠ G := fun e => HOFF.out.2 (e ▸ hg')
            first
              | rw [heap_drew, heap_set ⟨G, i * 4 + 2, none⟩ e1, heap_set ⟨G, i * 4 + 3, none⟩ e1]
              | rw [heap_set ⟨G, i * 4 + 2, none⟩ e1, heap_set ⟨G, i * 4 + 3, none⟩ e1]
      | true =>
        go_wp2_with fail
        go_meet
        have hsg : SG = s' := by rw [HSG.out]; unfold fr.give; rw [← HF.out]; rfl
        exact ⟨rfl, rfl, by rw [hsg]; exact HRA, Lib.hid ⟨Below.refl _ _, fun _ _ => rfl⟩⟩
    case rest =>
      obtain ⟨rfl, rfl, H5, H6⟩ := hcut
      have hgv := fr.inv_give HQ.out HIV.out HT.out
      have hgw := fr.give_w q s' i
      have hgd := fr.give_debt HQ.out HIV.out HT.out
      have hgf := fr.give_first q s' i i
      rw [HFX.out] at hgf
      rw [← HSG.out] at hgv hgw hgd hgf
      have HGV := Lib.hid hgv
      have HGW := Lib.hid hgw
      have HGF := Lib.hid hgf
      clear hgv hgw hgf
      obtain ⟨D, hD⟩ : ∃ D, D = SG.d i := ⟨_, rfl⟩
      rw [← hD] at hgd
      have hrc := H5.out
      rw [HGW.out.1, HGW.out.2.1] at hrc
      have n0r := hrc.r0
      have n1r := hrc.r1
      have nfr := hrc.fr
      have nfg := hrc.fg
      have n1 := hrc.ws i hi
      have n2 := hrc.ds i hi
      have n3 := hrc.fs i hi
      rw [← hD] at n2
      have no2 := hrc.own i hi
      rw [HW.out, List.length_cons] at n1 no2
      obtain ⟨g5, off5, hA5, _, _, hgx5⟩ := no2.cell (j := 0) (by simp)
      rw [HAI.out] at hA5
      cases hA5
      simp only [List.getD_cons_zero, Nat.add_zero] at hgx5
      rw [HAI.out] at n1
      rw [HT.out, List.length_cons] at n1r
      have HD := Lib.hid hD
      have hlo5 := hrc.lo.2.2.2.2.2
      clear hD hrc no2 k0 k1 kf kg m0 m1 m2 m3 hgx htx
      by_cases hxd : x ≤ D
      · have hx1 : decide (x ≤ D) = true := by simp [hxd]
        go_upto_region 8 with fail
        go_quiet (fail)
        all_goals
          go_upto_region 9 with fail
          generalize hwd : wc.drewN nq = wd
          have hbd : Below wc.heap.size wc wd := by rw [← hwd]; exact (by repeat (first | (with_reducible exact Below.refl _ _) | (with_reducible assumption) | (with_reducible refine bset ?_ ?_ _) | (with_reducible refine balloc ?_ _) | (with_reducible refine Below.drew ?_) | (with_reducible refine bdrewN ?_ _) | (with_reducible refine bnext ?_ (by with_reducible assumption)) | exact Nat.le_refl _ | (simp; done) | omega | (simp; omega)))
          have hsd : wd.heap.size = wc.heap.size := by rw [← hwd]; simp
          clear hwd
          have HRG : Hid (Ring wd B0 base R G nfl q SG No') := Lib.hid (Ring.keep ⟨_, _, _, _, _, H5.out⟩ (fun j hj _ => hbd.block j hj) hbd.size (fun _ h => .inl h))
          have hsz1 := H2.out.1.size
          have hsz2 := H6.out.1.size
          have HNW : Hid (∀ g, No' g → g < wd.heap.size) := Lib.hid (fun g hg => by
            rw [HNN.out] at hg
            rcases hg with hg | hg
            · have := HN.out g hg; omega
            · omega)
          have HGT : Hid (SG.t = i :: tl) := Lib.hid (HGW.out.2.1.trans HT.out)
          have HGL : Hid (fr.first SG i ≤ SG.d i) := Lib.hid (by rw [HGF.out, ← HD.out]; exact hxd)
          have HFI : Hid (SG.f = true) := Lib.hid HGW.out.2.2
          have HSFG : Hid (SF = SG) := Lib.hid (by
            have h1 := HGL.out
            rw [HSG.out] at h1
            rw [← HSP.out]
            unfold fr.spin
            rw [HT.out]
            simp only
            rw [if_pos h1, HSG.out])
          have hcall := fair_sent B0 base R G nfl q SG i tl No' wd HRG.out HGV.out HGT.out HFI.out HGL.out HNW.out hnq
          rw [HGF.out] at hcall
          go_wp2_with fail
          refine hcall.mono ?_
          rintro e w6 ⟨rfl, h7, h8, h9⟩
          have hz6 := (h9 w.heap.size (by rw [HNN.out]; exact .inr rfl)).trans ((hbd.block w.heap.size (by omega)).trans ((H6.out.2 w.heap.size (by rw [HNN.out]; exact .inr rfl)).trans (H2.out.2 w.heap.size (.inr rfl))))
          have v0 := (World.cell?_of_block (a := ⟨w.heap.size, 0, none⟩) hz6).trans HU.out.1
          have v1 := (World.cell?_of_block (a := ⟨w.heap.size, 1, none⟩) hz6).trans HU.out.2.1
          have v2 := (World.cell?_of_block (a := ⟨w.heap.size, 2, none⟩) hz6).trans HU.out.2.2.1
          have vf := fun o => (World.frozen?_of_block (a := ⟨w.heap.size, o, none⟩) hz6).trans (HU.out.2.2.2 o)
          go_wp2
          have hlt : ∀ g, No g → g < w.heap.size := HN.out
          refine bodyPost_ret (v := .agg #[.int .i64 0, .int .i64 i, .int .i64 x]) (by simp [results, Try.results77, go_sem, v0, v1, v2]) rfl ⟨i, tl, by rw [HSFG.out]; exact HGT.out, by rw [HSFG.out, HGF.out], ?_, ?_, ?_⟩
          · rw [HSFG.out]
            refine h7.keep (fun j hj hn => ?_) (by simp) (fun j h => .inl (by rw [HNN.out]; exact .inl h))
            have hjz : j ≠ w.heap.size := fun e => hn (by rw [HNN.out]; exact .inr e)
            rw [heap_set ⟨w.heap.size, 2, none⟩ hjz, heap_set ⟨w.heap.size, 1, none⟩ hjz, heap_set ⟨w.heap.size, 0, none⟩ hjz]
          · exact ((((((hb1.mono (by omega)).trans H2.out.1).trans (H6.out.1.trans (hbd.mono (by omega)))).trans h8).setCell (p := ⟨w.heap.size, _, none⟩) (by simp only; omega) _).setCell (p := ⟨w.heap.size, _, none⟩) (by simp only; omega) _).setCell (p := ⟨w.heap.size, _, none⟩) (by simp only; omega) _
          · intro g' hg'
            have hl := hlt g' hg'
            have e2 : g' ≠ w.heap.size := by omega
            have hn' : No' g' := by rw [HNN.out]; exact .inl hg'
            rw [heap_set ⟨w.heap.size, 2, none⟩ e2, heap_set ⟨w.heap.size, 1, none⟩ e2, heap_set ⟨w.heap.size, 0, none⟩ e2]
            exact (h9 g' hn').trans ((hbd.block g' (by omega)).trans ((H6.out.2 g' hn').trans ((H2.out.2 g' (.inl hg')).trans (hb1.block g' hl))))
      · have hx1 : decide (x ≤ D) = false := by simp [hxd]
        go_upto_region 8 with fail
        go_quiet (fail)
        all_goals
          go_upto_region 11 with fail
          generalize hwd : wc.drewN nq = wd
          have hbd : Below wc.heap.size wc wd := by rw [← hwd]; exact (by repeat (first | (with_reducible exact Below.refl _ _) | (with_reducible assumption) | (with_reducible refine bset ?_ ?_ _) | (with_reducible refine balloc ?_ _) | (with_reducible refine Below.drew ?_) | (with_reducible refine bdrewN ?_ _) | (with_reducible refine bnext ?_ (by with_reducible assumption)) | exact Nat.le_refl _ | (simp; done) | omega | (simp; omega)))
          have hsd : wd.heap.size = wc.heap.size := by rw [← hwd]; simp
          clear hwd n0r n1r nfr nfg n1 n2 n3 hgx5
          obtain ⟨we, hwe⟩ : ∃ we, we = wd.setCell ⟨G, i * 4 + 3, none⟩ (.bool false) := ⟨_, rfl⟩
          rw [← hwe]
          have hre := (H5.out.keep (fun j hj _ => hbd.block j hj) hbd.size (fun _ h => .inl h)).fedTo hi false
          rw [← hwe, HGW.out.1, HGW.out.2.1] at hre
          have hse : we.heap.size = wd.heap.size := by rw [hwe, World.size_setCell]
          have hbe : Below B0 wr we := by rw [hwe]; exact (H6.out.1.trans (hbd.mono (by omega))).setCell (p := ⟨G, _, none⟩) l2 _
          have hfe : ∀ g', No' g' → we.heap[g']? = wr.heap[g']? := fun g' hg' => by
            have e1 : g' ≠ G := fun e => H5.out.off.2 (e ▸ hg')
            have hlt : g' < wc.heap.size := by
              have hsz1 := H2.out.1.size
              have hsz2 := H6.out.1.size
              rw [HNN.out] at hg'
              rcases hg' with hg' | hg'
              · have := HN.out g' hg'; omega
              · omega
            rw [hwe, heap_set ⟨G, i * 4 + 3, none⟩ e1, hbd.block g' hlt]
            exact H6.out.2 g' hg'
          have HFE := Lib.hid (And.intro hbe hfe)
          have n1r := hre.r1
          have nfr := hre.fr
          have ho5 := hre.turn
          rw [HT.out, List.length_cons] at n1r ho5
          rw [List.map_cons] at ho5
          have HCB := Lib.hid ho5.cut_blk
          have HTL : Hid (∀ o, OwnF (we.alloc o) base 3 (cutA (some ⟨gt, ot, none⟩) ct 1 1) tl.length (ct - 1) (tl.map fun i : Nat => (i : Int))) := Lib.hid (fun o => ho5.tail.next ((Below.refl _ _).alloc (Nat.le_refl _) o))
          have HNC : Hid (∀ ty, Cells (we.alloc (.cells #[.int .i64 (i : Int)] ty)) (some ⟨we.heap.size, 0, none⟩) [.int .i64 (i : Int)]) := Lib.hid (fun ty => .inr ⟨_, 0, rfl, fun j u hu => by
            cases j with
            | zero => simp at hu; subst hu; simp [go_sem]
            | succ j => simp at hu⟩)
          have hRe : R < we.heap.size := by have := H2.out.1.size; have := H6.out.1.size; omega
          have htl : tl.length + 1 ≤ 6 := by
            have h1 := nodup_short nfl s'.t HIV.out.nodup (fun y hy => (HIV.out.waits y hy).1)
            rw [HT.out, List.length_cons] at h1
            omega
          have HRE := Lib.hid hre
          have HBA : Hid (∀ o, base ≤ (we.alloc o).heap.size) := Lib.hid (fun o => by have := hre.lo.2.2.2.2.2; rw [World.size_alloc]; omega)
          have HKR : Hid (∀ o A' w', Grew (we.alloc o) w' (cutA (some ⟨gt, ot, none⟩) ct 1 1) A' → w'.heap[R]? = we.heap[R]?) := Lib.hid (fun o A' w' hg => (hg.grown.block R (by rw [World.size_alloc]; omega) (fun e => (hre.turned.2 (by rw [← HCB.out]; exact e.symm)))).trans (Below.heap_alloc we o R hRe))
          have HSE := Lib.hid (And.intro hse hsd)
          clear hwe hre hbe hfe ho5 hse hsd
          go_wp2_with (first | (at_builtin; refine wp_appF _ rfl _ _ _ rfl fr.elemI base _ tl.length (ct - 1) (tl.map fun i : Nat => (i : Int)) rfl (HTL.out _) (some ⟨we.heap.size, 0, none⟩) 1 (i : Int) rfl (HNC.out _) (by omega) (by unfold maxLen; omega) (HBA.out _) ?_; intro A6 c6 w6 h6 hg6; have hz6 := HKR.out _ _ _ hg6; have y1 := (World.cell?_of_block (a := ⟨R, 1, none⟩) hz6).trans n1r; have yf := fun o => (World.frozen?_of_block (a := ⟨R, o, none⟩) hz6).trans (nfr o); have H6A := Lib.hid h6; have H6G := Lib.hid hg6; clear h6 hg6) | fail)
          have hnl : ¬ fr.first SG i ≤ SG.d i := by rw [HGF.out, ← HD.out]; omega
          have HNL := Lib.hid hnl
          have hoff := HRE.out.off
          have htn := HRE.out.turnNo
          have htb := fun k hk => (HRE.out.turn.lt k hk).1
          have hwe1 := HSE.out.1
          have hwe2 := HSE.out.2
          have hsz1 := H2.out.1.size
          have hsz2 := H6.out.1.size
          have hnoE : ∀ g', No' g' → g' < we.heap.size := fun g' hg' => by
            rw [HNN.out] at hg'
            rcases hg' with hg' | hg'
            · have := HN.out g' hg'; omega
            · omega
          have hr2 := (HRE.out.next ((Below.refl _ _).alloc (Nat.le_refl _) (.cells #[.int .i64 (i : Int)] 3))).turnTo (A' := A6) (n' := tl.length + 1) (c' := c6) (T' := tl ++ [i]) (H6G.out.off HCB.out) (by have h0 := H6A.out; rw [List.map_append]; exact h0) (fun g' hg' => by have := hnoE g' hg'; rw [World.size_alloc]; omega)
          have HR2 : Hid (Ring (w6.setCell ⟨R, 1, none⟩ (.slice A6 (tl.length + 1) c6)) B0 base R G nfl q (fr.over SG i tl) No') := Lib.hid ⟨_, _, _, _, _, hr2.fedAs (fun j _ => fr.fed_over (HGW.out.2.1.trans HT.out) j) rfl HGW.out.1 rfl⟩
          have hbb := (((HFE.out.1.alloc (by omega) (.cells #[.int .i64 (i : Int)] 3)).trans (H6G.out.belowB (B0 := B0) (base := base) (fun k hk => htb k (by rw [← HCB.out]; exact hk)) (by omega) (by rw [World.size_alloc]; omega))).setCell (p := ⟨R, 1, none⟩) l1 (.slice A6 (tl.length + 1) c6))
          have HB2 := Lib.hid (H2.out.1.trans hbb)
          have HF2 : Hid (∀ g', No' g' → (w6.setCell ⟨R, 1, none⟩ (.slice A6 (tl.length + 1) c6)).heap[g']? = w1.heap[g']?) := Lib.hid (fun g' hg' => by
            have hl := hnoE g' hg'
            have e1 : g' ≠ R := fun e => hoff.1 (e ▸ hg')
            rw [heap_set ⟨R, 1, none⟩ e1, H6G.out.grown.block g' (by rw [World.size_alloc]; omega) (fun e => htn g' (by rw [← HCB.out]; exact e.symm) hg'), Below.heap_alloc we _ g' hl, HFE.out.2 g' hg']
            exact H2.out.2 g' (by rw [HNN.out] at hg'; exact hg'))
          have HGI : Hid (fr.Inv nfl (fr.over SG i tl)) := Lib.hid (fr.inv_over HGV.out (HGW.out.2.1.trans HT.out) (by have := HNL.out; omega))
          have HMM : Hid (fr.mu (fr.over SG i tl) < m) := Lib.hid (by
            have h0 := fr.mu_over HQ.out HIV.out HT.out (by have h1 := HNL.out; rw [HSG.out] at h1; omega)
            rw [← HSG.out] at h0
            have := HMU2.out
            omega)
          have HSS : Hid (fr.spin q m (fr.over SG i tl) = SF) := Lib.hid (by
            have h1 := HNL.out
            rw [HSG.out] at h1
            rw [← HSP.out]
            conv => rhs; unfold fr.spin
            rw [HT.out]
            simp only
            rw [if_neg h1, HSG.out])
          clear hnl hoff htn htb hwe1 hwe2 hsz1 hsz2 hnoE hr2 hbb
          go_roundg m
          case measure => omega
          case rel =>
            rw [HNN.out] at HR2 HF2
            exact ⟨fr.over SG i tl, Lib.hid ⟨HR2.out, HGI.out, by unfold fr.over; simp, HMM.out, HSS.out⟩, Lib.hid ⟨HB2.out, HF2.out⟩⟩
end Go.Proofs.Ytedbidblnjajdaa
