/- Package frame: the reference of Feed; the walk of the law FrameFeeds. No condition. -/
import Derived.Test.YtedbidblnjajdaaFeed
import Derived.IntWalk
namespace Go.Proofs.Ytedbidblnjajdaa
open Go.RowKit

set_option maxRecDepth 100000 in
set_option maxHeartbeats 2000000 in
theorem ref_Fed_ok (held b : List UInt8) (A0 A1 : Option Addr) (c0 c1 : Nat) (w : World) (h0 : SlRep Rep.u8 w (· < w.heap.size) held A0 c0) (h1 : SlRep Rep.u8 w (· < w.heap.size) b A1 c1) (hn : held.length + b.length ≤ 1048576) (hs : held.length ≤ 1027) :
    Calls Try.prog 29 #[.slice A0 held.length c0, .slice A1 b.length c1] w (FeedRes (playTo feed.step ([], []) (held ++ b)) w) := by
  have H0 := Lib.hid h0
  have H1 := Lib.hid h1
  clear h0 h1
  have HLEN : Hid ((held ++ b).length = held.length + b.length) := Lib.hid (by simp)
  go_enter Try.func29, Try.ntmps29
  go_wp2
  go_loopw [7, 8, 9, 10] (fun out now i _ wr => ∃ (k : Nat) (l : List UInt8) (L : List (List UInt8)) (Aa Ao : Option Addr) (ca co : Nat) (xs : List Value), k ≤ held.length + b.length ∧ i = .int .i64 k ∧ now = .slice Aa l.length ca ∧ out = .slice Ao L.length co ∧ l.length + L.length * 4 ≤ k ∧ Hid (playTo feed.step (L, l) ((held ++ b).drop k) = playTo feed.step ([], []) (held ++ b)) ∧ Hid (Own wr w.heap.size 5 1 Aa l.length ca (l.map u8v) ∧ Two Aa Ao) ∧ Hid (Own wr w.heap.size 23 1 Ao L.length co xs ∧ RowsIn wr (Apart2 wr w.heap.size Ao Aa) L xs) ∧ Below w.heap.size w wr) (fun _ _ i _ _ => held.length + b.length - (intOf i).toNat)
  case atStart => exact ⟨0, [], [], none, none, 0, 0, [], by omega, rfl, rfl, rfl, by simp, Lib.hid rfl, Lib.hid ⟨Own.nil _ _ _ _, Two.none_left _⟩, Lib.hid ⟨Own.nil _ _ _ _, RowsIn.nil _ _⟩, bself w⟩
  case round =>
    obtain ⟨k, l, L, Aa, Ao, ca, co, xs, hk, rfl, rfl, rfl, hLl, HP, HA, HO2, hB⟩ := hrel
    rename World => wr
    have hszr := hB.size
    by_cases hlt : k < held.length + b.length
    · have hlti : (k : Int) < (held.length : Int) + (b.length : Int) := by omega
      have hkd : k < (held ++ b).length := by rw [HLEN.out]; exact hlt
      have HE := Lib.hid (fun s' => play_ok (s := (L, l)) (s' := s') (step := feed.step) (0 : UInt8) hkd)
      have HN := Lib.hid (fun e => play_no (s := (L, l)) (e := e) (step := feed.step) (0 : UInt8) hkd)
      by_cases hin : k < held.length
      · have hini : (k : Int) < (held.length : Int) := by omega
        obtain ⟨bb, oo, rfl, hbb, hc⟩ := u8_at (H0.out.below hB) hin
        have hbw : bb < wr.heap.size := by omega
        have HX : Hid ((held ++ b).getD k 0 = held.getD k 0) := Lib.hid (by rw [List.getD_eq_getElem?_getD, List.getElem?_append_left hin, List.getD_eq_getElem?_getD])
        rw [HX.out] at HE HN
        clear HX
        generalize held.getD k 0 = x at *
        have HV : Hid ((l ++ [x]).map u8v = l.map u8v ++ [.int .u8 (x.toNat : Int)]) := Lib.hid (by rw [List.map_append]; rfl)
        have HNL : Hid ((l ++ [x]).length = l.length + 1) := Lib.hid (by simp)
        have hst : feed.step (L, l) x = if (l ++ [x]).length < 4 then .ok (L, l ++ [x]) else if 1024 < feed.be ((l ++ [x]).take 4) then .error 1 else if (l ++ [x]).length = 4 + feed.be ((l ++ [x]).take 4) then .ok (L ++ [(l ++ [x]).drop 4], []) else .ok (L, l ++ [x]) := rfl
        have HST := Lib.hid hst
        clear hst
        have HB4 := Lib.hid (feed.be_four (l ++ [x]))
        by_cases h4 : l.length + 1 < 4
        · have h4i : (l.length : Int) + 1 < 4 := by omega
          have HR : Hid (playTo feed.step (L, l ++ [x]) ((held ++ b).drop (k + 1)) = playTo feed.step ([], []) (held ++ b)) := Lib.hid (by rw [← HP.out]; exact (HE.out _ (by rw [HST.out, if_pos (by rw [HNL.out]; exact h4)])).symm)
          clear HP HE HN HST HB4
          go_wp2_with (at_builtin; go_loud (refine wp_app _ rfl _ _ _ rfl elemU8 w.heap.size Aa _ ca _ rfl (HA.out.1.alloc _) _ 1 1 [_] rfl rfl (Cells.newAt _ _ _ rfl) (by simp [Value.oneCell']) (by omega) (by unfold maxLen; omega) (by simp; omega) ?_; intro A3 c3 w3 hO3 hg3; have HO3 := Lib.hid hO3; clear hO3; have hgw := (Grew.refl wr Aa).alloc (.cells #[.int .u8 (x.toNat : Int)] 5)))
          refine ⟨⟨k + 1, l ++ [x], L, A3, Ao, c3, co, xs, by omega, by go_num, by rw [HNL.out], rfl, by rw [HNL.out]; omega, HR, Lib.hid ⟨by rw [HNL.out, HV.out]; exact HO3.out, HA.out.2.left (hgw.trans hg3) (fun y hy => (HO2.out.1.lt y hy).2)⟩, Lib.hid ⟨HO2.out.1.kept' (hgw.trans hg3) HA.out.2.symm, HO2.out.2.keep (Apart2.second (hgw.trans hg3))⟩, Grew.step hB (hgw.trans hg3) (fun y hy => (HA.out.1.lt y hy).1)⟩, by simp [intOf]; omega⟩
        · have h4' : 4 ≤ l.length + 1 := by omega
          have h4i : (4 : Int) ≤ (l.length : Int) + 1 := by omega
          have hbe := HB4.out (by rw [HNL.out]; exact h4')
          obtain ⟨y0, hy0⟩ : ∃ y, ((l ++ [x]).getD 0 0).toNat = y := ⟨_, rfl⟩
          obtain ⟨y1, hy1⟩ : ∃ y, ((l ++ [x]).getD 1 0).toNat = y := ⟨_, rfl⟩
          obtain ⟨y2, hy2⟩ : ∃ y, ((l ++ [x]).getD 2 0).toNat = y := ⟨_, rfl⟩
          obtain ⟨y3, hy3⟩ : ∃ y, ((l ++ [x]).getD 3 0).toNat = y := ⟨_, rfl⟩
          have l0 : (y0 : Int) ≤ 255 := by have := ((l ++ [x]).getD 0 0).toNat_lt; omega
          have l1 : (y1 : Int) ≤ 255 := by have := ((l ++ [x]).getD 1 0).toNat_lt; omega
          have l2 : (y2 : Int) ≤ 255 := by have := ((l ++ [x]).getD 2 0).toNat_lt; omega
          have l3 : (y3 : Int) ≤ 255 := by have := ((l ++ [x]).getD 3 0).toNat_lt; omega
          rw [hy0, hy1, hy2, hy3] at hbe
          have HY0 := Lib.hid hy0
          have HY1 := Lib.hid hy1
          have HY2 := Lib.hid hy2
          have HY3 := Lib.hid hy3
          obtain ⟨n, hn0⟩ : ∃ n, n = feed.be ((l ++ [x]).take 4) := ⟨_, rfl⟩
          rw [← hn0] at hbe HST
          clear hy0 hy1 hy2 hy3 hn0 HB4
          by_cases hn1 : 1024 < n
          · have hbi : 1024 < (((y0 : Int) * 256 + y1) * 256 + y2) * 256 + y3 := by omega
            have HR : Hid (playTo feed.step ([], []) (held ++ b) = .error 1) := Lib.hid (by rw [← HP.out]; exact HN.out 1 (by rw [HST.out, if_neg (by rw [HNL.out]; omega), if_pos hn1]))
            have hw1 : IntKind.i64.wrap ((y0 : Int) * 256) = (y0 : Int) * 256 := IntWalk.i64_in _ (by omega)
            have hw2 : IntKind.i64.wrap ((y0 : Int) * 256 + y1) = (y0 : Int) * 256 + y1 := IntWalk.i64_in _ (by omega)
            have hw3 : IntKind.i64.wrap (((y0 : Int) * 256 + y1) * 256) = ((y0 : Int) * 256 + y1) * 256 := IntWalk.i64_in _ (by omega)
            have hw4 : IntKind.i64.wrap (((y0 : Int) * 256 + y1) * 256 + y2) = ((y0 : Int) * 256 + y1) * 256 + y2 := IntWalk.i64_in _ (by omega)
            have hw5 : IntKind.i64.wrap ((((y0 : Int) * 256 + y1) * 256 + y2) * 256) = (((y0 : Int) * 256 + y1) * 256 + y2) * 256 := IntWalk.i64_in _ (by omega)
            have hw6 : IntKind.i64.wrap ((((y0 : Int) * 256 + y1) * 256 + y2) * 256 + y3) = (((y0 : Int) * 256 + y1) * 256 + y2) * 256 + y3 := IntWalk.i64_in _ (by omega)
            clear HP HE HN HST hbe
            go_wp2_with (at_builtin; go_loud (refine wp_app _ rfl _ _ _ rfl elemU8 w.heap.size Aa _ ca _ rfl (HA.out.1.alloc _) _ 1 1 [_] rfl rfl (Cells.newAt _ _ _ rfl) (by simp [Value.oneCell']) (by omega) (by unfold maxLen; omega) (by simp; omega) ?_; intro A3 c3 w3 hO3 hg3; have HO3 := Lib.hid hO3; clear hO3; have hgw := (Grew.refl wr Aa).alloc (.cells #[.int .u8 (x.toNat : Int)] 5); have hRR := HO3.out; rw [← HV.out] at hRR; have HRR := Lib.hid hRR; have hTW : Two A3 Ao := HA.out.2.left (hgw.trans hg3) (fun y hy => (HO2.out.1.lt y hy).2); have HTW := Lib.hid hTW; clear hTW; have hcx := fun W => run_cut_l (P := Try.prog) elemU8 A3 (l.length + 1) c3 4 (by omega) 4 rfl W; obtain ⟨b3, o3, rfl, hb3, hcc⟩ := u8_cells hRR.u8.2 (by rw [HNL.out]; omega); have d0 := hcc 0 (by rw [HNL.out]; omega); have d1 := hcc 1 (by rw [HNL.out]; omega); have d2 := hcc 2 (by rw [HNL.out]; omega); have d3 := hcc 3 (by rw [HNL.out]; omega); clear hRR hcc; rw [HY0.out] at d0; rw [HY1.out] at d1; rw [HY2.out] at d2; rw [HY3.out] at d3; simp only [Nat.add_zero] at d0; have hb3w : b3 < w3.heap.size := hb3.2; clear hb3))
            go_quiet (fail)
            clear hw1 hw2 hw3 hw4 hw5 hw6 d0 d1 d2 d3
            go_wp2
            go_ret3
            exact FeedRes.no HR.out (bdrewN (Grew.step hB (hgw.trans hg3) (fun y hy => (HA.out.1.lt y hy).1)) _)
          · have hbi : (((y0 : Int) * 256 + y1) * 256 + y2) * 256 + y3 ≤ 1024 := by omega
            by_cases hful : l.length + 1 = 4 + n
            · have hq : (((l.length : Int) + 1) == 4 + ((((y0 : Int) * 256 + y1) * 256 + y2) * 256 + y3)) = true := by rw [beq_iff_eq]; omega
              have HR : Hid (playTo feed.step (L ++ [(l ++ [x]).drop 4], []) ((held ++ b).drop (k + 1)) = playTo feed.step ([], []) (held ++ b)) := Lib.hid (by rw [← HP.out]; exact (HE.out _ (by rw [HST.out, if_neg (by rw [HNL.out]; omega), if_neg hn1, if_pos (by rw [HNL.out]; exact hful)])).symm)
              have hw1 : IntKind.i64.wrap ((y0 : Int) * 256) = (y0 : Int) * 256 := IntWalk.i64_in _ (by omega)
              have hw2 : IntKind.i64.wrap ((y0 : Int) * 256 + y1) = (y0 : Int) * 256 + y1 := IntWalk.i64_in _ (by omega)
              have hw3 : IntKind.i64.wrap (((y0 : Int) * 256 + y1) * 256) = ((y0 : Int) * 256 + y1) * 256 := IntWalk.i64_in _ (by omega)
              have hw4 : IntKind.i64.wrap (((y0 : Int) * 256 + y1) * 256 + y2) = ((y0 : Int) * 256 + y1) * 256 + y2 := IntWalk.i64_in _ (by omega)
              have hw5 : IntKind.i64.wrap ((((y0 : Int) * 256 + y1) * 256 + y2) * 256) = (((y0 : Int) * 256 + y1) * 256 + y2) * 256 := IntWalk.i64_in _ (by omega)
              have hw6 : IntKind.i64.wrap ((((y0 : Int) * 256 + y1) * 256 + y2) * 256 + y3) = (((y0 : Int) * 256 + y1) * 256 + y2) * 256 + y3 := IntWalk.i64_in _ (by omega)
              have HFL := Lib.hid hful
              clear HP HE HN HST hbe hful
              go_wp2_with (at_builtin; go_loud (refine wp_app _ rfl _ _ _ rfl elemU8 w.heap.size Aa _ ca _ rfl (HA.out.1.alloc _) _ 1 1 [_] rfl rfl (Cells.newAt _ _ _ rfl) (by simp [Value.oneCell']) (by omega) (by unfold maxLen; omega) (by simp; omega) ?_; intro A3 c3 w3 hO3 hg3; have HO3 := Lib.hid hO3; clear hO3; have hgw := (Grew.refl wr Aa).alloc (.cells #[.int .u8 (x.toNat : Int)] 5); have hRR := HO3.out; rw [← HV.out] at hRR; have HRR := Lib.hid hRR; have hTW : Two A3 Ao := HA.out.2.left (hgw.trans hg3) (fun y hy => (HO2.out.1.lt y hy).2); have HTW := Lib.hid hTW; clear hTW; have hcx := fun W => run_cut_l (P := Try.prog) elemU8 A3 (l.length + 1) c3 4 (by omega) 4 rfl W; obtain ⟨b3, o3, rfl, hb3, hcc⟩ := u8_cells hRR.u8.2 (by rw [HNL.out]; omega); have d0 := hcc 0 (by rw [HNL.out]; omega); have d1 := hcc 1 (by rw [HNL.out]; omega); have d2 := hcc 2 (by rw [HNL.out]; omega); have d3 := hcc 3 (by rw [HNL.out]; omega); clear hRR hcc; rw [HY0.out] at d0; rw [HY1.out] at d1; rw [HY2.out] at d2; rw [HY3.out] at d3; simp only [Nat.add_zero] at d0; have hb3w : b3 < w3.heap.size := hb3.2; clear hb3))
              go_quiet (fail)
              clear hw1 hw2 hw3 hw4 hw5 hw6 d0 d1 d2 d3
              have hsz3 := (hgw.trans hg3).grown.size
              have HFL4 : Hid (((l ++ [x]).drop 4).length = l.length + 1 - 4) := Lib.hid (by rw [List.length_drop, HNL.out])
              have HFR : Hid (SlRep Rep.u8 w3 (Apart2 w3 w.heap.size Ao none) ((l ++ [x]).drop 4) (cutA (some ⟨b3, o3, none⟩) c3 4 1) (c3 - 4)) := Lib.hid ((HRR.out.u8.2.drop (f := 4) (by rw [HNL.out]; exact h4')).in_row (fun k hk hS => ⟨⟨hS.1, hS.2, fun e => HTW.out k (by rw [← cutA_blk (A := some ⟨b3, o3, none⟩) (c := c3) (f := 4) (size := 1) (fun a ha => by cases ha; rfl)]; exact hk) e⟩, by simp [blkOf]⟩))
              have HRO : Hid (RowsIn w3 (Apart2 w3 w.heap.size Ao none) L xs) := Lib.hid ((HO2.out.2.keep (Apart2.second (hgw.trans hg3))).keep (fun k hk => ⟨⟨hk.1, by simp [blkOf]⟩, rfl⟩))
              have HOW : Hid (Own w3 w.heap.size 23 1 Ao L.length co xs) := Lib.hid (HO2.out.1.kept' (hgw.trans hg3) HA.out.2.symm)
              have hB3 : Below w.heap.size w w3 := Grew.step hB (hgw.trans hg3) (fun y hy => (HA.out.1.lt y hy).1)
              have hsw3 := hB3.size
              clear HO3 hg3 HO2 HA
              generalize (l ++ [x]).drop 4 = fr at *
              generalize cutA (some ⟨b3, o3, none⟩) c3 4 1 = AF at *
              rename Nat => nq
              go_wp2_with (at_builtin; go_loud (refine wp_app _ rfl _ _ _ rfl elemLst w.heap.size Ao _ co _ rfl ((HOW.out.drewN _).alloc _) _ 1 1 [_] rfl rfl (Cells.newAt _ _ _ rfl) (by simp [Value.oneCell']) (by omega) (by unfold maxLen; omega) (by simp; omega) ?_; intro A4 c4 w4 hO4 hg4; have HO4 := Lib.hid hO4; clear hO4))
              have HRN : Hid (RowsIn w4 (Apart2 w4 w.heap.size A4 none) (L ++ [fr]) (xs ++ [.slice AF (l.length + 1 - 4) (c3 - 4)])) := Lib.hid (((HRO.out.snoc HFL4.out.symm HFR.out).keep (w' := (w3.drewN _).alloc _) (fun k hk => Apart2.next (w := w3) (balloc (bdrewN (bself w3) _) _) k hk)).keep (Apart2.first hg4))
              refine ⟨⟨k + 1, [], L ++ [fr], none, A4, 0, c4, _, by omega, by go_num, rfl, by simp, by simp; omega, HR, Lib.hid ⟨Own.nil _ _ _ _, Two.none_left _⟩, Lib.hid ⟨by rw [List.length_append]; exact HO4.out, HRN.out⟩, Grew.step (balloc (bdrewN hB3 _) _) hg4 (fun y hy => (HOW.out.lt y hy).1)⟩, by simp [intOf]; omega⟩
            · have hq : (((l.length : Int) + 1) == 4 + ((((y0 : Int) * 256 + y1) * 256 + y2) * 256 + y3)) = false := by rw [beq_eq_false_iff_ne]; omega
              have HR : Hid (playTo feed.step (L, l ++ [x]) ((held ++ b).drop (k + 1)) = playTo feed.step ([], []) (held ++ b)) := Lib.hid (by rw [← HP.out]; exact (HE.out _ (by rw [HST.out, if_neg (by rw [HNL.out]; omega), if_neg hn1, if_neg (by rw [HNL.out]; exact hful)])).symm)
              have hw1 : IntKind.i64.wrap ((y0 : Int) * 256) = (y0 : Int) * 256 := IntWalk.i64_in _ (by omega)
              have hw2 : IntKind.i64.wrap ((y0 : Int) * 256 + y1) = (y0 : Int) * 256 + y1 := IntWalk.i64_in _ (by omega)
              have hw3 : IntKind.i64.wrap (((y0 : Int) * 256 + y1) * 256) = ((y0 : Int) * 256 + y1) * 256 := IntWalk.i64_in _ (by omega)
              have hw4 : IntKind.i64.wrap (((y0 : Int) * 256 + y1) * 256 + y2) = ((y0 : Int) * 256 + y1) * 256 + y2 := IntWalk.i64_in _ (by omega)
              have hw5 : IntKind.i64.wrap ((((y0 : Int) * 256 + y1) * 256 + y2) * 256) = (((y0 : Int) * 256 + y1) * 256 + y2) * 256 := IntWalk.i64_in _ (by omega)
              have hw6 : IntKind.i64.wrap ((((y0 : Int) * 256 + y1) * 256 + y2) * 256 + y3) = (((y0 : Int) * 256 + y1) * 256 + y2) * 256 + y3 := IntWalk.i64_in _ (by omega)
              clear HP HE HN HST hbe hful
              go_wp2_with (at_builtin; go_loud (refine wp_app _ rfl _ _ _ rfl elemU8 w.heap.size Aa _ ca _ rfl (HA.out.1.alloc _) _ 1 1 [_] rfl rfl (Cells.newAt _ _ _ rfl) (by simp [Value.oneCell']) (by omega) (by unfold maxLen; omega) (by simp; omega) ?_; intro A3 c3 w3 hO3 hg3; have HO3 := Lib.hid hO3; clear hO3; have hgw := (Grew.refl wr Aa).alloc (.cells #[.int .u8 (x.toNat : Int)] 5); have hRR := HO3.out; rw [← HV.out] at hRR; have HRR := Lib.hid hRR; have hTW : Two A3 Ao := HA.out.2.left (hgw.trans hg3) (fun y hy => (HO2.out.1.lt y hy).2); have HTW := Lib.hid hTW; clear hTW; have hcx := fun W => run_cut_l (P := Try.prog) elemU8 A3 (l.length + 1) c3 4 (by omega) 4 rfl W; obtain ⟨b3, o3, rfl, hb3, hcc⟩ := u8_cells hRR.u8.2 (by rw [HNL.out]; omega); have d0 := hcc 0 (by rw [HNL.out]; omega); have d1 := hcc 1 (by rw [HNL.out]; omega); have d2 := hcc 2 (by rw [HNL.out]; omega); have d3 := hcc 3 (by rw [HNL.out]; omega); clear hRR hcc; rw [HY0.out] at d0; rw [HY1.out] at d1; rw [HY2.out] at d2; rw [HY3.out] at d3; simp only [Nat.add_zero] at d0; have hb3w : b3 < w3.heap.size := hb3.2; clear hb3))
              go_quiet (fail)
              clear hw1 hw2 hw3 hw4 hw5 hw6 d0 d1 d2 d3
              go_wp2
              refine ⟨⟨k + 1, l ++ [x], L, _, Ao, c3, co, xs, by omega, by go_num, by rw [HNL.out], rfl, by rw [HNL.out]; omega, HR, Lib.hid ⟨by rw [HNL.out, HV.out]; exact HO3.out, HA.out.2.left (hgw.trans hg3) (fun y hy => (HO2.out.1.lt y hy).2)⟩, Lib.hid ⟨(HO2.out.1.kept' (hgw.trans hg3) HA.out.2.symm).drewN _, HO2.out.2.keep (Apart2.second ((hgw.trans hg3).drewN _))⟩, bdrewN (Grew.step hB (hgw.trans hg3) (fun y hy => (HA.out.1.lt y hy).1)) _⟩, by simp [intOf]; omega⟩
      · have hini : (held.length : Int) ≤ (k : Int) := by omega
        obtain ⟨idx, hidx⟩ : ∃ idx : Nat, k = held.length + idx := ⟨k - held.length, by omega⟩
        obtain ⟨bb, oo, rfl, hbb, hc⟩ := u8_at (k := idx) (H1.out.below hB) (by omega)
        have hbw : bb < wr.heap.size := by omega
        have hie : ((k : Int) - (held.length : Int)) = (idx : Int) := by omega
        have hil : (idx : Int) < (b.length : Int) := by omega
        have HX : Hid ((held ++ b).getD k 0 = b.getD idx 0) := Lib.hid (by rw [List.getD_eq_getElem?_getD, List.getElem?_append_right (by omega), List.getD_eq_getElem?_getD, show k - held.length = idx by omega])
        rw [HX.out] at HE HN
        clear HX hidx hin
        generalize b.getD idx 0 = x at *
        have HV : Hid ((l ++ [x]).map u8v = l.map u8v ++ [.int .u8 (x.toNat : Int)]) := Lib.hid (by rw [List.map_append]; rfl)
        have HNL : Hid ((l ++ [x]).length = l.length + 1) := Lib.hid (by simp)
        have hst : feed.step (L, l) x = if (l ++ [x]).length < 4 then .ok (L, l ++ [x]) else if 1024 < feed.be ((l ++ [x]).take 4) then .error 1 else if (l ++ [x]).length = 4 + feed.be ((l ++ [x]).take 4) then .ok (L ++ [(l ++ [x]).drop 4], []) else .ok (L, l ++ [x]) := rfl
        have HST := Lib.hid hst
        clear hst
        have HB4 := Lib.hid (feed.be_four (l ++ [x]))
        by_cases h4 : l.length + 1 < 4
        · have h4i : (l.length : Int) + 1 < 4 := by omega
          have HR : Hid (playTo feed.step (L, l ++ [x]) ((held ++ b).drop (k + 1)) = playTo feed.step ([], []) (held ++ b)) := Lib.hid (by rw [← HP.out]; exact (HE.out _ (by rw [HST.out, if_pos (by rw [HNL.out]; exact h4)])).symm)
          clear HP HE HN HST HB4
          go_wp2_with (at_builtin; go_loud (refine wp_app _ rfl _ _ _ rfl elemU8 w.heap.size Aa _ ca _ rfl (HA.out.1.alloc _) _ 1 1 [_] rfl rfl (Cells.newAt _ _ _ rfl) (by simp [Value.oneCell']) (by omega) (by unfold maxLen; omega) (by simp; omega) ?_; intro A3 c3 w3 hO3 hg3; have HO3 := Lib.hid hO3; clear hO3; have hgw := (Grew.refl wr Aa).alloc (.cells #[.int .u8 (x.toNat : Int)] 5)))
          refine ⟨⟨k + 1, l ++ [x], L, A3, Ao, c3, co, xs, by omega, by go_num, by rw [HNL.out], rfl, by rw [HNL.out]; omega, HR, Lib.hid ⟨by rw [HNL.out, HV.out]; exact HO3.out, HA.out.2.left (hgw.trans hg3) (fun y hy => (HO2.out.1.lt y hy).2)⟩, Lib.hid ⟨HO2.out.1.kept' (hgw.trans hg3) HA.out.2.symm, HO2.out.2.keep (Apart2.second (hgw.trans hg3))⟩, Grew.step hB (hgw.trans hg3) (fun y hy => (HA.out.1.lt y hy).1)⟩, by simp [intOf]; omega⟩
        · have h4' : 4 ≤ l.length + 1 := by omega
          have h4i : (4 : Int) ≤ (l.length : Int) + 1 := by omega
          have hbe := HB4.out (by rw [HNL.out]; exact h4')
          obtain ⟨y0, hy0⟩ : ∃ y, ((l ++ [x]).getD 0 0).toNat = y := ⟨_, rfl⟩
          obtain ⟨y1, hy1⟩ : ∃ y, ((l ++ [x]).getD 1 0).toNat = y := ⟨_, rfl⟩
          obtain ⟨y2, hy2⟩ : ∃ y, ((l ++ [x]).getD 2 0).toNat = y := ⟨_, rfl⟩
          obtain ⟨y3, hy3⟩ : ∃ y, ((l ++ [x]).getD 3 0).toNat = y := ⟨_, rfl⟩
          have l0 : (y0 : Int) ≤ 255 := by have := ((l ++ [x]).getD 0 0).toNat_lt; omega
          have l1 : (y1 : Int) ≤ 255 := by have := ((l ++ [x]).getD 1 0).toNat_lt; omega
          have l2 : (y2 : Int) ≤ 255 := by have := ((l ++ [x]).getD 2 0).toNat_lt; omega
          have l3 : (y3 : Int) ≤ 255 := by have := ((l ++ [x]).getD 3 0).toNat_lt; omega
          rw [hy0, hy1, hy2, hy3] at hbe
          have HY0 := Lib.hid hy0
          have HY1 := Lib.hid hy1
          have HY2 := Lib.hid hy2
          have HY3 := Lib.hid hy3
          obtain ⟨n, hn0⟩ : ∃ n, n = feed.be ((l ++ [x]).take 4) := ⟨_, rfl⟩
          rw [← hn0] at hbe HST
          clear hy0 hy1 hy2 hy3 hn0 HB4
          by_cases hn1 : 1024 < n
          · have hbi : 1024 < (((y0 : Int) * 256 + y1) * 256 + y2) * 256 + y3 := by omega
            have HR : Hid (playTo feed.step ([], []) (held ++ b) = .error 1) := Lib.hid (by rw [← HP.out]; exact HN.out 1 (by rw [HST.out, if_neg (by rw [HNL.out]; omega), if_pos hn1]))
            have hw1 : IntKind.i64.wrap ((y0 : Int) * 256) = (y0 : Int) * 256 := IntWalk.i64_in _ (by omega)
            have hw2 : IntKind.i64.wrap ((y0 : Int) * 256 + y1) = (y0 : Int) * 256 + y1 := IntWalk.i64_in _ (by omega)
            have hw3 : IntKind.i64.wrap (((y0 : Int) * 256 + y1) * 256) = ((y0 : Int) * 256 + y1) * 256 := IntWalk.i64_in _ (by omega)
            have hw4 : IntKind.i64.wrap (((y0 : Int) * 256 + y1) * 256 + y2) = ((y0 : Int) * 256 + y1) * 256 + y2 := IntWalk.i64_in _ (by omega)
            have hw5 : IntKind.i64.wrap ((((y0 : Int) * 256 + y1) * 256 + y2) * 256) = (((y0 : Int) * 256 + y1) * 256 + y2) * 256 := IntWalk.i64_in _ (by omega)
            have hw6 : IntKind.i64.wrap ((((y0 : Int) * 256 + y1) * 256 + y2) * 256 + y3) = (((y0 : Int) * 256 + y1) * 256 + y2) * 256 + y3 := IntWalk.i64_in _ (by omega)
            clear HP HE HN HST hbe
            go_wp2_with (at_builtin; go_loud (refine wp_app _ rfl _ _ _ rfl elemU8 w.heap.size Aa _ ca _ rfl (HA.out.1.alloc _) _ 1 1 [_] rfl rfl (Cells.newAt _ _ _ rfl) (by simp [Value.oneCell']) (by omega) (by unfold maxLen; omega) (by simp; omega) ?_; intro A3 c3 w3 hO3 hg3; have HO3 := Lib.hid hO3; clear hO3; have hgw := (Grew.refl wr Aa).alloc (.cells #[.int .u8 (x.toNat : Int)] 5); have hRR := HO3.out; rw [← HV.out] at hRR; have HRR := Lib.hid hRR; have hTW : Two A3 Ao := HA.out.2.left (hgw.trans hg3) (fun y hy => (HO2.out.1.lt y hy).2); have HTW := Lib.hid hTW; clear hTW; have hcx := fun W => run_cut_l (P := Try.prog) elemU8 A3 (l.length + 1) c3 4 (by omega) 4 rfl W; obtain ⟨b3, o3, rfl, hb3, hcc⟩ := u8_cells hRR.u8.2 (by rw [HNL.out]; omega); have d0 := hcc 0 (by rw [HNL.out]; omega); have d1 := hcc 1 (by rw [HNL.out]; omega); have d2 := hcc 2 (by rw [HNL.out]; omega); have d3 := hcc 3 (by rw [HNL.out]; omega); clear hRR hcc; rw [HY0.out] at d0; rw [HY1.out] at d1; rw [HY2.out] at d2; rw [HY3.out] at d3; simp only [Nat.add_zero] at d0; have hb3w : b3 < w3.heap.size := hb3.2; clear hb3))
            go_quiet (fail)
            clear hw1 hw2 hw3 hw4 hw5 hw6 d0 d1 d2 d3
            go_wp2
            go_ret3
            exact FeedRes.no HR.out (bdrewN (Grew.step hB (hgw.trans hg3) (fun y hy => (HA.out.1.lt y hy).1)) _)
          · have hbi : (((y0 : Int) * 256 + y1) * 256 + y2) * 256 + y3 ≤ 1024 := by omega
            by_cases hful : l.length + 1 = 4 + n
            · have hq : (((l.length : Int) + 1) == 4 + ((((y0 : Int) * 256 + y1) * 256 + y2) * 256 + y3)) = true := by rw [beq_iff_eq]; omega
              have HR : Hid (playTo feed.step (L ++ [(l ++ [x]).drop 4], []) ((held ++ b).drop (k + 1)) = playTo feed.step ([], []) (held ++ b)) := Lib.hid (by rw [← HP.out]; exact (HE.out _ (by rw [HST.out, if_neg (by rw [HNL.out]; omega), if_neg hn1, if_pos (by rw [HNL.out]; exact hful)])).symm)
              have hw1 : IntKind.i64.wrap ((y0 : Int) * 256) = (y0 : Int) * 256 := IntWalk.i64_in _ (by omega)
              have hw2 : IntKind.i64.wrap ((y0 : Int) * 256 + y1) = (y0 : Int) * 256 + y1 := IntWalk.i64_in _ (by omega)
              have hw3 : IntKind.i64.wrap (((y0 : Int) * 256 + y1) * 256) = ((y0 : Int) * 256 + y1) * 256 := IntWalk.i64_in _ (by omega)
              have hw4 : IntKind.i64.wrap (((y0 : Int) * 256 + y1) * 256 + y2) = ((y0 : Int) * 256 + y1) * 256 + y2 := IntWalk.i64_in _ (by omega)
              have hw5 : IntKind.i64.wrap ((((y0 : Int) * 256 + y1) * 256 + y2) * 256) = (((y0 : Int) * 256 + y1) * 256 + y2) * 256 := IntWalk.i64_in _ (by omega)
              have hw6 : IntKind.i64.wrap ((((y0 : Int) * 256 + y1) * 256 + y2) * 256 + y3) = (((y0 : Int) * 256 + y1) * 256 + y2) * 256 + y3 := IntWalk.i64_in _ (by omega)
              have HFL := Lib.hid hful
              clear HP HE HN HST hbe hful
              go_wp2_with (at_builtin; go_loud (refine wp_app _ rfl _ _ _ rfl elemU8 w.heap.size Aa _ ca _ rfl (HA.out.1.alloc _) _ 1 1 [_] rfl rfl (Cells.newAt _ _ _ rfl) (by simp [Value.oneCell']) (by omega) (by unfold maxLen; omega) (by simp; omega) ?_; intro A3 c3 w3 hO3 hg3; have HO3 := Lib.hid hO3; clear hO3; have hgw := (Grew.refl wr Aa).alloc (.cells #[.int .u8 (x.toNat : Int)] 5); have hRR := HO3.out; rw [← HV.out] at hRR; have HRR := Lib.hid hRR; have hTW : Two A3 Ao := HA.out.2.left (hgw.trans hg3) (fun y hy => (HO2.out.1.lt y hy).2); have HTW := Lib.hid hTW; clear hTW; have hcx := fun W => run_cut_l (P := Try.prog) elemU8 A3 (l.length + 1) c3 4 (by omega) 4 rfl W; obtain ⟨b3, o3, rfl, hb3, hcc⟩ := u8_cells hRR.u8.2 (by rw [HNL.out]; omega); have d0 := hcc 0 (by rw [HNL.out]; omega); have d1 := hcc 1 (by rw [HNL.out]; omega); have d2 := hcc 2 (by rw [HNL.out]; omega); have d3 := hcc 3 (by rw [HNL.out]; omega); clear hRR hcc; rw [HY0.out] at d0; rw [HY1.out] at d1; rw [HY2.out] at d2; rw [HY3.out] at d3; simp only [Nat.add_zero] at d0; have hb3w : b3 < w3.heap.size := hb3.2; clear hb3))
              go_quiet (fail)
              clear hw1 hw2 hw3 hw4 hw5 hw6 d0 d1 d2 d3
              have hsz3 := (hgw.trans hg3).grown.size
              have HFL4 : Hid (((l ++ [x]).drop 4).length = l.length + 1 - 4) := Lib.hid (by rw [List.length_drop, HNL.out])
              have HFR : Hid (SlRep Rep.u8 w3 (Apart2 w3 w.heap.size Ao none) ((l ++ [x]).drop 4) (cutA (some ⟨b3, o3, none⟩) c3 4 1) (c3 - 4)) := Lib.hid ((HRR.out.u8.2.drop (f := 4) (by rw [HNL.out]; exact h4')).in_row (fun k hk hS => ⟨⟨hS.1, hS.2, fun e => HTW.out k (by rw [← cutA_blk (A := some ⟨b3, o3, none⟩) (c := c3) (f := 4) (size := 1) (fun a ha => by cases ha; rfl)]; exact hk) e⟩, by simp [blkOf]⟩))
              have HRO : Hid (RowsIn w3 (Apart2 w3 w.heap.size Ao none) L xs) := Lib.hid ((HO2.out.2.keep (Apart2.second (hgw.trans hg3))).keep (fun k hk => ⟨⟨hk.1, by simp [blkOf]⟩, rfl⟩))
              have HOW : Hid (Own w3 w.heap.size 23 1 Ao L.length co xs) := Lib.hid (HO2.out.1.kept' (hgw.trans hg3) HA.out.2.symm)
              have hB3 : Below w.heap.size w w3 := Grew.step hB (hgw.trans hg3) (fun y hy => (HA.out.1.lt y hy).1)
              have hsw3 := hB3.size
              clear HO3 hg3 HO2 HA
              generalize (l ++ [x]).drop 4 = fr at *
              generalize cutA (some ⟨b3, o3, none⟩) c3 4 1 = AF at *
              rename Nat => nq
              go_wp2_with (at_builtin; go_loud (refine wp_app _ rfl _ _ _ rfl elemLst w.heap.size Ao _ co _ rfl ((HOW.out.drewN _).alloc _) _ 1 1 [_] rfl rfl (Cells.newAt _ _ _ rfl) (by simp [Value.oneCell']) (by omega) (by unfold maxLen; omega) (by simp; omega) ?_; intro A4 c4 w4 hO4 hg4; have HO4 := Lib.hid hO4; clear hO4))
              have HRN : Hid (RowsIn w4 (Apart2 w4 w.heap.size A4 none) (L ++ [fr]) (xs ++ [.slice AF (l.length + 1 - 4) (c3 - 4)])) := Lib.hid (((HRO.out.snoc HFL4.out.symm HFR.out).keep (w' := (w3.drewN _).alloc _) (fun k hk => Apart2.next (w := w3) (balloc (bdrewN (bself w3) _) _) k hk)).keep (Apart2.first hg4))
              refine ⟨⟨k + 1, [], L ++ [fr], none, A4, 0, c4, _, by omega, by go_num, rfl, by simp, by simp; omega, HR, Lib.hid ⟨Own.nil _ _ _ _, Two.none_left _⟩, Lib.hid ⟨by rw [List.length_append]; exact HO4.out, HRN.out⟩, Grew.step (balloc (bdrewN hB3 _) _) hg4 (fun y hy => (HOW.out.lt y hy).1)⟩, by simp [intOf]; omega⟩
            · have hq : (((l.length : Int) + 1) == 4 + ((((y0 : Int) * 256 + y1) * 256 + y2) * 256 + y3)) = false := by rw [beq_eq_false_iff_ne]; omega
              have HR : Hid (playTo feed.step (L, l ++ [x]) ((held ++ b).drop (k + 1)) = playTo feed.step ([], []) (held ++ b)) := Lib.hid (by rw [← HP.out]; exact (HE.out _ (by rw [HST.out, if_neg (by rw [HNL.out]; omega), if_neg hn1, if_neg (by rw [HNL.out]; exact hful)])).symm)
              have hw1 : IntKind.i64.wrap ((y0 : Int) * 256) = (y0 : Int) * 256 := IntWalk.i64_in _ (by omega)
              have hw2 : IntKind.i64.wrap ((y0 : Int) * 256 + y1) = (y0 : Int) * 256 + y1 := IntWalk.i64_in _ (by omega)
              have hw3 : IntKind.i64.wrap (((y0 : Int) * 256 + y1) * 256) = ((y0 : Int) * 256 + y1) * 256 := IntWalk.i64_in _ (by omega)
              have hw4 : IntKind.i64.wrap (((y0 : Int) * 256 + y1) * 256 + y2) = ((y0 : Int) * 256 + y1) * 256 + y2 := IntWalk.i64_in _ (by omega)
              have hw5 : IntKind.i64.wrap ((((y0 : Int) * 256 + y1) * 256 + y2) * 256) = (((y0 : Int) * 256 + y1) * 256 + y2) * 256 := IntWalk.i64_in _ (by omega)
              have hw6 : IntKind.i64.wrap ((((y0 : Int) * 256 + y1) * 256 + y2) * 256 + y3) = (((y0 : Int) * 256 + y1) * 256 + y2) * 256 + y3 := IntWalk.i64_in _ (by omega)
              clear HP HE HN HST hbe hful
              go_wp2_with (at_builtin; go_loud (refine wp_app _ rfl _ _ _ rfl elemU8 w.heap.size Aa _ ca _ rfl (HA.out.1.alloc _) _ 1 1 [_] rfl rfl (Cells.newAt _ _ _ rfl) (by simp [Value.oneCell']) (by omega) (by unfold maxLen; omega) (by simp; omega) ?_; intro A3 c3 w3 hO3 hg3; have HO3 := Lib.hid hO3; clear hO3; have hgw := (Grew.refl wr Aa).alloc (.cells #[.int .u8 (x.toNat : Int)] 5); have hRR := HO3.out; rw [← HV.out] at hRR; have HRR := Lib.hid hRR; have hTW : Two A3 Ao := HA.out.2.left (hgw.trans hg3) (fun y hy => (HO2.out.1.lt y hy).2); have HTW := Lib.hid hTW; clear hTW; have hcx := fun W => run_cut_l (P := Try.prog) elemU8 A3 (l.length + 1) c3 4 (by omega) 4 rfl W; obtain ⟨b3, o3, rfl, hb3, hcc⟩ := u8_cells hRR.u8.2 (by rw [HNL.out]; omega); have d0 := hcc 0 (by rw [HNL.out]; omega); have d1 := hcc 1 (by rw [HNL.out]; omega); have d2 := hcc 2 (by rw [HNL.out]; omega); have d3 := hcc 3 (by rw [HNL.out]; omega); clear hRR hcc; rw [HY0.out] at d0; rw [HY1.out] at d1; rw [HY2.out] at d2; rw [HY3.out] at d3; simp only [Nat.add_zero] at d0; have hb3w : b3 < w3.heap.size := hb3.2; clear hb3))
              go_quiet (fail)
              clear hw1 hw2 hw3 hw4 hw5 hw6 d0 d1 d2 d3
              go_wp2
              refine ⟨⟨k + 1, l ++ [x], L, _, Ao, c3, co, xs, by omega, by go_num, by rw [HNL.out], rfl, by rw [HNL.out]; omega, HR, Lib.hid ⟨by rw [HNL.out, HV.out]; exact HO3.out, HA.out.2.left (hgw.trans hg3) (fun y hy => (HO2.out.1.lt y hy).2)⟩, Lib.hid ⟨(HO2.out.1.kept' (hgw.trans hg3) HA.out.2.symm).drewN _, HO2.out.2.keep (Apart2.second ((hgw.trans hg3).drewN _))⟩, bdrewN (Grew.step hB (hgw.trans hg3) (fun y hy => (HA.out.1.lt y hy).1)) _⟩, by simp [intOf]; omega⟩
    · obtain rfl : k = held.length + b.length := by omega
      have HR : Hid (playTo feed.step ([], []) (held ++ b) = .ok (L, l)) := Lib.hid (by rw [← HP.out, List.drop_eq_nil_of_le (by rw [HLEN.out]; exact Nat.le_refl _)]; rfl)
      clear HP
      go_wp2
      go_ret3
      exact FeedRes.yes HR.out rfl rfl (HO2.out.2.rep (fun y hy => ⟨hy.1.1, hy.1.2.1⟩) HO2.out.1).2 HA.out.1.u8.2 hB

set_option maxRecDepth 100000 in
set_option maxHeartbeats 400000 in
theorem frame_Feed_no (n c m c1 : Nat) (A A1 : Option Addr) (w : World) (hn : 1027 < n) (hn2 : n ≤ 140737488351232) :
    Calls Try.prog 28 #[.slice A n c, .slice A1 m c1] w fun e w' => e = .returned (.tuple #[.slice none 0 0, .slice none 0 0, .int .i64 10]) ∧ w = w' := by
  go_enter Try.func28, Try.ntmps28
  go_wp2
  go_ret3
  exact ⟨rfl, rfl⟩
set_option maxRecDepth 100000 in
set_option maxHeartbeats 400000 in
theorem ref_Fed_no (n c m c1 : Nat) (A A1 : Option Addr) (w : World) (hn : 1027 < n) (hn2 : n ≤ 140737488351232) :
    Calls Try.prog 29 #[.slice A n c, .slice A1 m c1] w fun e w' => e = .returned (.tuple #[.slice none 0 0, .slice none 0 0, .int .i64 10]) ∧ w = w' := by
  go_enter Try.func29, Try.ntmps29
  go_wp2
  go_ret3
  exact ⟨rfl, rfl⟩
theorem frame_Feed_res (held b : List UInt8) (A0 A1 : Option Addr) (c0 c1 : Nat) (w : World) (h0 : SlRep Rep.u8 w (· < w.heap.size) held A0 c0) (h1 : SlRep Rep.u8 w (· < w.heap.size) b A1 c1) (hn : held.length + b.length ≤ 1048576) :
    Calls Try.prog 28 #[.slice A0 held.length c0, .slice A1 b.length c1] w (FeedRes (feed.fed held b) w) := by
  by_cases h : 1027 < held.length
  · rw [show feed.fed held b = .error 10 from if_pos h]
    exact (frame_Feed_no _ c0 _ c1 A0 A1 w h (by omega)).mono fun e w' ⟨he, hw⟩ => by
      subst he; subst hw
      exact FeedRes.no rfl (Below.refl _ _)
  · rw [show feed.fed held b = playTo feed.step ([], []) (held ++ b) from if_neg h]
    exact frame_Feed_ok held b A0 A1 c0 c1 w h0 h1 hn (by omega)
theorem ref_Fed_res (held b : List UInt8) (A0 A1 : Option Addr) (c0 c1 : Nat) (w : World) (h0 : SlRep Rep.u8 w (· < w.heap.size) held A0 c0) (h1 : SlRep Rep.u8 w (· < w.heap.size) b A1 c1) (hn : held.length + b.length ≤ 1048576) :
    Calls Try.prog 29 #[.slice A0 held.length c0, .slice A1 b.length c1] w (FeedRes (feed.fed held b) w) := by
  by_cases h : 1027 < held.length
  · rw [show feed.fed held b = .error 10 from if_pos h]
    exact (ref_Fed_no _ c0 _ c1 A0 A1 w h (by omega)).mono fun e w' ⟨he, hw⟩ => by
      subst he; subst hw
      exact FeedRes.no rfl (Below.refl _ _)
  · rw [show feed.fed held b = playTo feed.step ([], []) (held ++ b) from if_neg h]
    exact ref_Fed_ok held b A0 A1 c0 c1 w h0 h1 hn (by omega)

set_option maxHeartbeats 1000000 in
theorem law_sameLists (L : List (List UInt8)) (A A' : Option Addr) (c c' : Nat) (w : World) (hl : SlRep (Rep.slice Rep.u8) w (· < w.heap.size) L A c) (hl' : SlRep (Rep.slice Rep.u8) w (· < w.heap.size) L A' c') :
    Calls Try.prog 30 #[.slice A L.length c, .slice A' L.length c'] w fun e w' => e = .returned (.bool true) ∧ Below w.heap.size w w' := by
  have hm : L.length ≤ 9223372036854775807 := by have := hl.1; have := hl.2.1; unfold maxLen at this; omega
  have HL := Lib.hid hl
  have HL' := Lib.hid hl'
  clear hl hl'
  go_enter Try.func30, Try.ntmps30
  go_wp2
  go_loopw [5] (fun i wr => ∃ k : Nat, k ≤ L.length ∧ i = .int .i64 k ∧ Below w.heap.size w wr) (fun i _ => L.length - (intOf i).toNat)
  case atStart => exact ⟨0, by omega, rfl, Below.refl _ _⟩
  case round =>
    obtain ⟨k, hk, rfl, hB⟩ := hrel
    rename World => wr
    have hsz := hB.size
    by_cases hlt : k < L.length
    · obtain ⟨b1, o1, A1, c1, rfl, hb1, hc1, hr1⟩ := list_at (HL.out.below hB) hlt
      obtain ⟨b2, o2, A2, c2, rfl, hb2, hc2, hr2⟩ := list_at (HL'.out.below hB) hlt
      have hlt' : (k : Int) < (L.length : Int) := by omega
      have hw1 : b1 < wr.heap.size := by omega
      have hw2 : b2 < wr.heap.size := by omega
      have hlen : (L.getD k []).length ≤ 9223372036854775807 := by have := hr1.1; have := hr1.2.1; unfold maxLen at this; omega
      have R1 := Lib.hid hr1
      have R2 := Lib.hid hr2
      clear hr1 hr2 HL HL'
      generalize L.getD k [] = l at *
      go_wp2_with fail
      go_quiet ((go_at_call 17; exact Calls.quiet_of (law_sameBytes_q l _ _ _ _ (· < w.heap.size) (· < w.heap.size) _ (R1.out.keep fun k hk => ⟨hk, rfl⟩) (R2.out.keep fun k hk => ⟨hk, rfl⟩) hlen)))
      go_wp2
      go_roundw
      case rel => exact ⟨k + 1, by omega, by go_num, bdrewN hB _⟩
      case measure => simp [intOf]; omega
    · go_wp2
      go_ret
      exact ⟨rfl, hB⟩

set_option maxHeartbeats 400000 in
theorem lawFrameFeeds_walk {w : World} (held : List UInt8) (A0 : Option Addr) (c0 : Nat) (h0 : SlRep Rep.u8 w (· < w.heap.size) held A0 c0) (_ : AllOk 1 AnyOk held) (b : List UInt8) (A1 : Option Addr) (c1 : Nat) (h1 : SlRep Rep.u8 w (· < w.heap.size) b A1 c1) (_ : AllOk 1 AnyOk b) (hbulk : (Rep.slice Rep.u8).bulk held + (Rep.slice Rep.u8).bulk b ≤ 1048576) :
    Calls Try.prog 8 #[.slice A0 held.length c0, .slice A1 b.length c1] w fun e w' => e = .returned (.bool true) ∧ Below w.heap.size w w' := by
  have hn : held.length + b.length ≤ 1048576 := by rw [bulk_u8, bulk_u8] at hbulk; omega
  clear hbulk
  have H0 := Lib.hid h0
  have H1 := Lib.hid h1
  clear h0 h1
  go_enter Try.func8, Try.ntmps8
  go_wp2_with fail
  refine (frame_Feed_res held b A0 A1 c0 c1 w H0.out H1.out hn).mono ?_
  rintro e w1 ⟨A2, c2, A3, c3, rfl, hx1, hx2, hb1⟩
  have X1 := Lib.hid hx1
  have X2 := Lib.hid hx2
  clear hx1 hx2
  go_wp2_with fail
  refine (ref_Fed_res held b A0 A1 c0 c1 w1 (H0.out.next hb1) (H1.out.next hb1) hn).mono ?_
  rintro e w2 ⟨A4, c4, A5, c5, rfl, hy1, hy2, hb2⟩
  have Y1 : Hid (SlRep (Rep.slice Rep.u8) w2 (· < w2.heap.size) (feedL (feed.fed held b)) A4 c4) := Lib.hid (hy1.keep fun k hk => ⟨hk.2, rfl⟩)
  have Y2 : Hid (SlRep Rep.u8 w2 (· < w2.heap.size) (feedR (feed.fed held b)) A5 c5) := Lib.hid (hy2.keep fun k hk => ⟨hk.2, rfl⟩)
  have Z1 : Hid (SlRep (Rep.slice Rep.u8) w2 (· < w2.heap.size) (feedL (feed.fed held b)) A2 c2) := Lib.hid (X1.out.keep fun k hk => ⟨Nat.lt_of_lt_of_le hk.2 hb2.size, hb2.block k hk.2⟩)
  have Z2 : Hid (SlRep Rep.u8 w2 (· < w2.heap.size) (feedR (feed.fed held b)) A3 c3) := Lib.hid (X2.out.keep fun k hk => ⟨Nat.lt_of_lt_of_le hk.2 hb2.size, hb2.block k hk.2⟩)
  have hm : (feedR (feed.fed held b)).length ≤ 9223372036854775807 := by have := hy2.1; have := hy2.2.1; unfold maxLen at this; omega
  clear hy1 hy2 X1 X2 H0 H1
  generalize feedL (feed.fed held b) = o at *
  generalize feedR (feed.fed held b) = q at *
  generalize exC (feed.fed held b) = er at *
  go_wp2_with (first
    | (go_at_call 30; refine (law_sameLists o _ _ _ _ _ Z1.out Y1.out).mono ?_; rintro e w3 ⟨rfl, hb3⟩)
    | (go_at_call 17; refine (law_sameBytes q _ _ _ _ (· < w2.heap.size) (· < w2.heap.size) _ (Z2.out.below hb3) (Y2.out.below hb3) hm).mono ?_; rintro e w4 ⟨rfl, hb4⟩))
  go_ret
  exact ⟨rfl, (by repeat (first | (with_reducible exact Below.refl _ _) | (with_reducible assumption) | (with_reducible refine bset ?_ ?_ _) | (with_reducible refine balloc ?_ _) | (with_reducible refine Below.drew ?_) | (with_reducible refine bdrewN ?_ _) | (with_reducible refine bnext ?_ (by with_reducible assumption)) | exact Nat.le_refl _ | (simp; done) | omega | (simp; omega)))⟩
end Go.Proofs.Ytedbidblnjajdaa
