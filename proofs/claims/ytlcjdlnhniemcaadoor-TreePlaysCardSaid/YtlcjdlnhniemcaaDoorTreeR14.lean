/- The reference of tree: bytes got. No condition. -/
import Derived.Test.YtlcjdlnhniemcaaDoorTreeR13
namespace Go.Proofs.YtlcjdlnhniemcaaDoor
open Go.RowKit
set_option linter.unusedSimpArgs false
set_option linter.unusedVariables false

set_option maxRecDepth 100000 in
set_option maxHeartbeats 8000000 in
theorem ref_Act_get {B Wb M : Nat} {W : List tr.Item} {g c0 : Nat} {ia : List ItA} (pl_ tl : List UInt8) (aa an : Int) (ad : List UInt8) (X : Option Addr) (xc : Nat) (w : World) (h : WdAt w B Wb M W g c0 ia) (hM : M ≤ 1000000) (hpl : pl_.length ≤ 140737488351232) (htl : tl.length ≤ 140737488351232) {names : List (List UInt8)} (hw : pa.walk [] pl_ = .ok names) {n : Nat} (hf : tr.find W true 8 names = .ok n) (hc : (tr.it W n).kind = 2) (haa : IntOk aa) (han : IntOk an) (hX : SlRep Rep.u8 w (· < w.heap.size) ad X xc) (had : ad.length ≤ 140737488351232) :
    Calls Tryd.prog 10 #[.pointer (some ⟨Wb, 0, none⟩), .agg #[.int .i64 4, .string (strOf pl_), .string (strOf tl), .int .i64 aa, .int .i64 an, .slice X ad.length xc]] w (RAct w B Wb (M + 1) g (tr.act W ⟨4, strOf pl_, strOf tl, aa, an, ad⟩)) := by
  have HX := RBx.new w 4 pl_ tl aa an X ad.length xc
  obtain ⟨w1, hw1⟩ : ∃ w1, w1 = ((w.alloc (.cells #[.int .i64 4, .string (strOf pl_), .string (strOf tl), .int .i64 aa, .int .i64 an, .slice X ad.length xc] 36)).alloc (.cells #[.int .i64 0, .int .i64 0, .int .i64 0, .slice none 0 0, .slice none 0 0] 31)) := ⟨_, rfl⟩
  rw [← hw1] at HX
  have HX := Lib.hid HX
  have H := Lib.hid h
  have hfew := h.few
  have hd' := HX.out.act.get
  have lh := HX.out.act.lt
  have HACT := Lib.hid (tr.act_on (W := W) (k := 4) (tl := tl) (at_ := aa) (count := an) (data := ad) (by decide) (fun e => absurd e.1 (by decide)) hw)
  have HNR : Hid (¬ WF Wb g (w.heap.size + 1)) := Lib.hid (fun e => by have := (h.lt e).2; omega)
  have HCS : Hid (∀ W' c, tr.act W ⟨4, strOf pl_, strOf tl, aa, an, ad⟩ = (W', tr.seen c) → ∀ w4 w5 w', Below w1.heap.size w1 w4 → ROut w4 w5 B Wb (M + 1) W' g → Stays w5 w' (fun k => k = w.heap.size + 1) → RAct w B Wb (M + 1) g (tr.act W ⟨4, strOf pl_, strOf tl, aa, an, ad⟩) (.returned (.agg #[.int .i64 c, .int .i64 0, .int .i64 0, .slice none 0 0, .slice none 0 0])) w') := Lib.hid (fun W' c he w4 w5 w' hb hT hs => by
    rw [he]
    exact RAct.plain (by omega) (tr.seen c) rfl rfl (hT.lift (HX.out.low.trans (hb.mono HX.out.low.size))) ((HX.out.seen.next hb).stays hT.stays HNR.out) hs)
  have HCE : Hid (∀ c, tr.act W ⟨4, strOf pl_, strOf tl, aa, an, ad⟩ = (W, tr.seen c) → ∀ w4 w', Below w1.heap.size w1 w4 → Stays w4 w' (fun k => k = w.heap.size + 1) → RAct w B Wb (M + 1) g (tr.act W ⟨4, strOf pl_, strOf tl, aa, an, ad⟩) (.returned (.agg #[.int .i64 c, .int .i64 0, .int .i64 0, .slice none 0 0, .slice none 0 0])) w') := Lib.hid (fun c he w4 w' hb hs =>
    HCS.out W c he w4 w4 w' hb (ROut.same (H.out.next (HX.out.low.trans (hb.mono HX.out.low.size))) (bself _) (Nat.le_succ M)) hs)
  have HCL := Lib.hid (fun w2 => ref_PathClean pl_ w2 hpl)
  rw [hw] at HCL
  have HCL : Hid (∀ w2, Calls Tryd.prog 20 #[.string (strOf pl_)] w2 fun e w' => Below w2.heap.size w2 w' ∧ ∃ A2 c2, e = .returned (.tuple #[.slice A2 names.length c2, .int .i64 0]) ∧ NmRep w' A2 c2 names) := Lib.hid (fun w2 => (HCL.out w2).mono fun e w' ⟨A2, c2, h1, h2, h3⟩ => ⟨h3, A2, c2, h1, (NmRep.of h2).2⟩)
  have HNM := Lib.hid (pa.walk_nms hw Nms.nil)
  have HLOW : Hid (∀ w2, Below w1.heap.size w1 w2 → Below w.heap.size w w2) := Lib.hid (fun w2 hb => HX.out.low.trans (hb.mono HX.out.low.size))
  have HFI := Lib.hid (fun fo w2 A2 c2 (hb : Below w1.heap.size w1 w2) (hn : NmRep w2 A2 c2 names) => ref_Find names A2 c2 fo w2 (h.next (HLOW.out w2 hb)) hM hn HNM.out)
  have HXD := Lib.hid (fun w2 (hb : Below w.heap.size w w2) => hX.next hb)
  clear h hX
  have HACT : Hid (tr.act W ⟨4, strOf pl_, strOf tl, aa, an, ad⟩ = tr.atN W n ⟨4, strOf pl_, strOf tl, aa, an, ad⟩) := Lib.hid (by rw [HACT.out, if_neg (by decide), if_neg (by decide), if_neg (by decide), if_neg (by decide), if_neg (by decide), hf])
  have HFI : Hid (∀ w2 A2 c2, Below w1.heap.size w1 w2 → NmRep w2 A2 c2 names → Calls Tryd.prog 22 #[.pointer (some ⟨Wb, 0, none⟩), .slice A2 names.length c2, .bool true] w2 fun e w' => Below w2.heap.size w2 w' ∧ e = .returned (.tuple #[.int .i64 (n : Int), .int .i64 0])) := Lib.hid (fun w2 A2 c2 hb hn => by
    have h := HFI.out true w2 A2 c2 hb hn
    rw [hf] at h
    exact h)
  have hlive := (tr.find_live H.out.inv hf).1
  have hnlt := hlive.lt
  have hnlt' : (n : Int) < (W.length : Int) := by omega
  have hc1 : ((tr.it W n).kind == 1) = false := by rw [hc]; rfl
  have HFD : Hid (tr.act W ⟨4, strOf pl_, strOf tl, aa, an, ad⟩ = (W.set n ((tr.it W n).wd (tr.fdo (tr.it W n).data ⟨4, strOf pl_, strOf tl, aa, an, ad⟩).1), (tr.fdo (tr.it W n).data ⟨4, strOf pl_, strOf tl, aa, an, ad⟩).2)) := Lib.hid (by rw [HACT.out]; unfold tr.atN; rw [if_neg (by simp), if_neg (by simp), if_neg (by rw [hc]; decide)])
  have hwd : ∀ c, (W.set n ((tr.it W n).wd (tr.it W n).data), c) = (W, (c : Seen)) := fun c => by
    have e : (tr.it W n).wd (tr.it W n).data = tr.it W n := rfl
    rw [e, show W.set n (tr.it W n) = W from by
      apply List.ext_getElem?
      intro i
      rw [List.getElem?_set]
      split
      · next e => subst e; rw [tr.it_at hnlt]
      · rfl]
  have HDL := Lib.hid (H.out.inv.data n hlive)
  by_cases hbad : ((4 : Int) ≠ 5 ∧ ¬ tr.fits aa) ∨ ((4 : Int) ≠ 3 ∧ ¬ tr.fits an)
  · have HE := Lib.hid (HCE.out 2 (by rw [HFD.out, tr.fdo_range hbad]; exact hwd _))
    by_cases h1 : tr.fits aa
    · have h2 : ¬ tr.fits an := by rcases hbad with h | h; exact absurd h1 h.2; exact h.2
      have HFT := Lib.hid (fun wx => ref_fits aa true (by simp [h1]) wx)
      have HFT2 := Lib.hid (fun wx => ref_fits an false (by simp [h2]) wx)
      by_cases he : aa = an
      · subst he; exact absurd h1 h2
      clear HACT HCS HCE HFD hwd hc hf h1 h2 hlive hbad
      go_enter Tryd.func10, Tryd.ntmps10
      go_upto_region 1 with (fail)
      rw [← hw1]
      clear hw1
      go_wp2_with (first
        | (go_at_call 20; ((with_reducible refine (HCL.out _).mono ?_); rintro e w2 ⟨hb2, A2, c2, rfl, hn2⟩; have HB2 := Lib.hid hb2; have HN2 := Lib.hid hn2; have hd2 := (HX.out.act.next hb2).get; have lh2 := (HX.out.act.next hb2).lt; have HZ2 := Lib.hid (HX.out.seen.next hb2); have zd2 := ref.z_get HZ2.out; have ze2 := HZ2.out.frozen; have lz2 := HZ2.out.lt; clear hb2 hn2))
        | (go_at_call 22; ((with_reducible refine (HFI.out w2 A2 c2 HB2.out HN2.out).mono ?_); rintro e w3 ⟨hb3, rfl⟩; have HB3 := Lib.hid (bnext HB2.out hb3); have hd3 := (HX.out.act.next HB3.out).get; have lh3 := (HX.out.act.next HB3.out).lt; have HZ3 := Lib.hid (HX.out.seen.next HB3.out); have zd3 := ref.z_get HZ3.out; have ze3 := HZ3.out.frozen; have lz3 := HZ3.out.lt; have hr3 := (H.out.next (HLOW.out _ HB3.out)).row; have hgl3 := ((H.out.next (HLOW.out _ HB3.out)).lt (.inr rfl)).2; have hWl3 := ((H.out.next (HLOW.out _ HB3.out)).lt (.inl rfl)).2; obtain ⟨A7, c7, i7, q0, q1, q2, q3, q4, q5, q6⟩ := (H.out.next (HLOW.out _ HB3.out)).at hnlt; clear hb3 i7 q6))
        | (go_at_call 25; ((with_reducible refine (HFT.out _).mono ?_); rintro e w4 ⟨rfl, rfl⟩))
        | (go_at_call 25; ((with_reducible refine (HFT2.out _).mono ?_); rintro e w4 ⟨rfl, rfl⟩))
        | fail)
      refine bodyPost_ret (v := .agg #[.int .i64 2, .int .i64 0, .int .i64 0, .slice none 0 0, .slice none 0 0]) (by simp [results, Tryd.results10, go_sem, *]) rfl (HE.out _ _ HB3.out ?_)
      exact Stays.fiveS _ _ _ _ _ _ _
    · have HFT := Lib.hid (fun wx => ref_fits aa false (by simp [h1]) wx)
      clear HACT HCS HCE HFD hwd hc hf h1 hlive hbad
      go_enter Tryd.func10, Tryd.ntmps10
      go_upto_region 1 with (fail)
      rw [← hw1]
      clear hw1
      go_wp2_with (first
        | (go_at_call 20; ((with_reducible refine (HCL.out _).mono ?_); rintro e w2 ⟨hb2, A2, c2, rfl, hn2⟩; have HB2 := Lib.hid hb2; have HN2 := Lib.hid hn2; have hd2 := (HX.out.act.next hb2).get; have lh2 := (HX.out.act.next hb2).lt; have HZ2 := Lib.hid (HX.out.seen.next hb2); have zd2 := ref.z_get HZ2.out; have ze2 := HZ2.out.frozen; have lz2 := HZ2.out.lt; clear hb2 hn2))
        | (go_at_call 22; ((with_reducible refine (HFI.out w2 A2 c2 HB2.out HN2.out).mono ?_); rintro e w3 ⟨hb3, rfl⟩; have HB3 := Lib.hid (bnext HB2.out hb3); have hd3 := (HX.out.act.next HB3.out).get; have lh3 := (HX.out.act.next HB3.out).lt; have HZ3 := Lib.hid (HX.out.seen.next HB3.out); have zd3 := ref.z_get HZ3.out; have ze3 := HZ3.out.frozen; have lz3 := HZ3.out.lt; have hr3 := (H.out.next (HLOW.out _ HB3.out)).row; have hgl3 := ((H.out.next (HLOW.out _ HB3.out)).lt (.inr rfl)).2; have hWl3 := ((H.out.next (HLOW.out _ HB3.out)).lt (.inl rfl)).2; obtain ⟨A7, c7, i7, q0, q1, q2, q3, q4, q5, q6⟩ := (H.out.next (HLOW.out _ HB3.out)).at hnlt; clear hb3 i7 q6))
        | (go_at_call 25; ((with_reducible refine (HFT.out _).mono ?_); rintro e w4 ⟨rfl, rfl⟩))
        | fail)
      refine bodyPost_ret (v := .agg #[.int .i64 2, .int .i64 0, .int .i64 0, .slice none 0 0, .slice none 0 0]) (by simp [results, Tryd.results10, go_sem, *]) rfl (HE.out _ _ HB3.out ?_)
      exact Stays.fiveS _ _ _ _ _ _ _
  · have h1 : tr.fits aa := Classical.byContradiction fun h => hbad (.inl ⟨by decide, h⟩)
    have h2 : tr.fits an := Classical.byContradiction fun h => hbad (.inr ⟨by decide, h⟩)
    have HFT := Lib.hid (fun wx => ref_fits aa true (by simp [h1]) wx)
    have HFT2 := Lib.hid (fun wx => ref_fits an true (by simp [h2]) wx)
    obtain ⟨p, rfl⟩ : ∃ p : Nat, aa = p := ⟨aa.toNat, by have := h1.1; omega⟩
    obtain ⟨q, rfl⟩ : ∃ q : Nat, an = q := ⟨an.toNat, by have := h2.1; omega⟩
    have hp : p ≤ 2048 := by have := h1.2; omega
    have hq : q ≤ 2048 := by have := h2.2; omega
    have HGET : Hid (tr.act W ⟨4, strOf pl_, strOf tl, p, q, ad⟩ = (W, ⟨0, 0, 0, tr.getD_ (tr.it W n).data p q, []⟩)) := Lib.hid (by
      have e : tr.fdo (tr.it W n).data ⟨4, strOf pl_, strOf tl, p, q, ad⟩ = ((tr.it W n).data, ⟨0, 0, 0, tr.getD_ (tr.it W n).data p q, []⟩) := by
        unfold tr.fdo
        rw [if_neg hbad, if_neg (by simp), if_pos rfl]
        rfl
      rw [HFD.out, e]
      exact hwd _)
    have hdl := HDL.out
    have hw1' : IntKind.i64.wrap ((p : Int) + (q : Int)) = (p : Int) + (q : Int) := IntWalk.i64_in _ (by omega)
    clear HACT HCS HCE HFD hwd hc hf h1 h2 hlive hbad
    go_enter Tryd.func10, Tryd.ntmps10
    go_upto_region 1 with (fail)
    rw [← hw1]
    clear hw1
    go_upto_region 85 with (first
      | (go_at_call 20; ((with_reducible refine (HCL.out _).mono ?_); rintro e w2 ⟨hb2, A2, c2, rfl, hn2⟩; have HB2 := Lib.hid hb2; have HN2 := Lib.hid hn2; have hd2 := (HX.out.act.next hb2).get; have lh2 := (HX.out.act.next hb2).lt; have HZ2 := Lib.hid (HX.out.seen.next hb2); have zd2 := ref.z_get HZ2.out; have ze2 := HZ2.out.frozen; have lz2 := HZ2.out.lt; clear hb2 hn2))
      | (go_at_call 22; ((with_reducible refine (HFI.out w2 A2 c2 HB2.out HN2.out).mono ?_); rintro e w3 ⟨hb3, rfl⟩; have HB3 := Lib.hid (bnext HB2.out hb3); have hd3 := (HX.out.act.next HB3.out).get; have lh3 := (HX.out.act.next HB3.out).lt; have HZ3 := Lib.hid (HX.out.seen.next HB3.out); have zd3 := ref.z_get HZ3.out; have ze3 := HZ3.out.frozen; have lz3 := HZ3.out.lt; have hr3 := (H.out.next (HLOW.out _ HB3.out)).row; have hgl3 := ((H.out.next (HLOW.out _ HB3.out)).lt (.inr rfl)).2; have hWl3 := ((H.out.next (HLOW.out _ HB3.out)).lt (.inl rfl)).2; obtain ⟨A7, c7, i7, q0, q1, q2, q3, q4, q5, q6⟩ := (H.out.next (HLOW.out _ HB3.out)).at hnlt; have HQ6 := Lib.hid q6; clear hb3 i7 q6))
      | (go_at_call 25; ((with_reducible refine (HFT.out _).mono ?_); rintro e w4 ⟨rfl, rfl⟩))
      | (go_at_call 25; ((with_reducible refine (HFT2.out _).mono ?_); rintro e w4 ⟨rfl, rfl⟩))
      | fail)
    have hbase : w1.heap.size ≤ w3.heap.size := HB3.out.size
    have HAC := Lib.hid (fun wx (hb : Below w3.heap.size w3 wx) => HX.out.act.next (HB3.out.trans (hb.mono HB3.out.size)))
    have HSE := Lib.hid (fun wx (hb : Below w3.heap.size w3 wx) => HX.out.seen.next (HB3.out.trans (hb.mono HB3.out.size)))
    have HWD := Lib.hid (fun wx (hb : Below w3.heap.size w3 wx) => H.out.next (HLOW.out wx (HB3.out.trans (hb.mono HB3.out.size))))
    clear hd' lh hd2 lh2 zd2 ze2 lz2 hd3 lh3 zd3 ze3 lz3 hr3 hgl3 hWl3 q0 q1 q2 q3 q4 q5 HQ6
    go_loopw [19, 20] (fun s19 s20 wr => ∃ (k : Nat) (Ab : Option Addr) (cb : Nat), k ≤ q ∧ (k = 0 ∨ p + k ≤ (tr.it W n).data.length) ∧ s20 = .int .i64 ((p : Int) + (k : Int)) ∧ s19 = .slice Ab k cb ∧ Hid (Below w3.heap.size w3 wr ∧ Own wr w3.heap.size 5 1 Ab k cb ((((tr.it W n).data.drop p).take k).map u8v))) (fun _ s20 _ => (tr.it W n).data.length - (intOf s20).toNat)
    case atStart => exact ⟨0, none, 0, by omega, .inl rfl, by simp, rfl, Lib.hid ⟨bself _, by rw [List.take_zero]; exact Own.nil _ _ _ _⟩⟩
    case round =>
      obtain ⟨k, Ab, cb, hk, hk2, rfl, rfl, HJ⟩ := hrel
      rename World => wr
      have hd4 := (HAC.out wr HJ.out.1).get
      have lh4 := (HAC.out wr HJ.out.1).lt
      have hws : w3.heap.size ≤ wr.heap.size := HJ.out.1.size
      obtain ⟨A9, c9, i9, q0, q1, q2, q3, q4, q5, q6⟩ := (HWD.out wr HJ.out.1).at hnlt
      have hgl := ((HWD.out wr HJ.out.1).lt (.inr rfl)).2
      have HO := Lib.hid HJ.out.2
      have HB := Lib.hid HJ.out.1
      clear HJ i9
      by_cases hlt : k < q ∧ p + k < (tr.it W n).data.length
      · obtain ⟨hlt1, hlt2⟩ := hlt
        have hlt1' : (p : Int) + (k : Int) < (p : Int) + (q : Int) := by omega
        have hlt1'' : (k : Int) < (q : Int) := by omega
        have hlt2' : (p : Int) + (k : Int) < ((tr.it W n).data.length : Int) := by omega
        have HGS := Lib.hid (tr.get_succ hlt2)
        obtain ⟨bx, ox, rfl, _, hcx⟩ := u8_at q6 hlt2
        have hix0 : 0 ≤ (p : Int) + (k : Int) := by omega
        have hixn : ((p : Int) + (k : Int)).toNat = p + k := by omega
        have hw4 : IntKind.i64.wrap ((p : Int) + (k : Int) + 1) = (p : Int) + (k : Int) + 1 := IntWalk.i64_in _ (by omega)
        generalize (tr.it W n).data.getD (p + k) 0 = y at *
        clear q6
        go_wp2_with (first
          | (at_builtin; refine wp_app _ rfl _ _ _ rfl elemU8 w3.heap.size Ab k cb _ rfl (HO.out.alloc _) _ 1 1 [u8v y] rfl rfl (Cells.newAt _ _ _ (by simp)) (by simp [Value.oneCell', u8v]) (by omega) (by unfold maxLen; omega) (by simp only [World.size_alloc]; omega) ?_; intro A6 c6 w6 hO6 hg6; have HO6 := Lib.hid hO6; have HG6 := Lib.hid hg6; clear hO6 hg6)
          | fail)
        go_roundw
        case rel =>
          refine ⟨k + 1, A6, c6, by omega, .inr (by omega), (by first | (congr 1; omega) | congr 1), rfl, Lib.hid ⟨(balloc HB.out _).trans (HG6.out.below (by simp only [World.size_alloc]; omega) (fun j hj => (HO.out.lt j hj).1)), ?_⟩⟩
          rw [HGS.out, List.map_append]
          exact HO6.out
        case measure => simp [intOf]; omega
      · have HEQ : Hid (((tr.it W n).data.drop p).take k = tr.getD_ (tr.it W n).data p q ∧ k = (tr.getD_ (tr.it W n).data p q).length) := Lib.hid (by
          unfold tr.getD_
          have e : min k ((tr.it W n).data.length - p) = min q ((tr.it W n).data.length - p) := by omega
          refine ⟨?_, ?_⟩
          · rw [List.take_eq_take_iff, List.length_drop]; exact e
          · rw [List.length_take, List.length_drop]; omega)
        rw [HEQ.out.1] at HO
        have HRES : Hid (∀ w', Stays wr w' (fun k => k = w.heap.size + 1) → RAct w B Wb (M + 1) g (tr.act W ⟨4, strOf pl_, strOf tl, p, q, ad⟩) (.returned (.agg #[.int .i64 0, .int .i64 0, .int .i64 0, .slice Ab k cb, .slice none 0 0])) w') := Lib.hid (fun w' hs => by
          rw [HGET.out]
          have hb1r : Below w1.heap.size w1 wr := HB3.out.trans (HB.out.mono HB3.out.size)
          have hr := HO.out.u8
          have h := RAct.rows (H.out.mono (Nat.le_succ M)) HX.out.low ⟨by omega, by have := HX.out.size; omega⟩ ⟨0, 0, 0, tr.getD_ (tr.it W n).data p q, []⟩ (A2 := none) (c2 := 0) hb1r (HX.out.seen.next hb1r) (hr.2.keep fun j hj => ⟨⟨Nat.le_trans hbase hj.1, hj.2⟩, rfl⟩) ⟨Nat.le_refl _, Nat.zero_le _, .inl rfl⟩ hs
          rw [← HEQ.out.2] at h
          exact h)
        have zd5 := ref.z_get (HSE.out wr HB.out)
        have ze5 := (HSE.out wr HB.out).frozen
        have lz5 := (HSE.out wr HB.out).lt
        have hend : ¬ (p : Int) + (k : Int) < (p : Int) + (q : Int) ∨ ((p : Int) + (k : Int) < (p : Int) + (q : Int) ∧ (k : Int) < (q : Int) ∧ ¬ (p : Int) + (k : Int) < ((tr.it W n).data.length : Int)) := by omega
        clear q6 HEQ hlt
        rcases hend with e1 | ⟨e1, e0, e2⟩
        · have e0 : ¬ (k : Int) < (q : Int) := by omega
          go_wp2
          refine bodyPost_ret (v := .agg #[.int .i64 0, .int .i64 0, .int .i64 0, .slice Ab k cb, .slice none 0 0]) (by simp [results, Tryd.results10, go_sem, *]) rfl (HRES.out _ ?_)
          exact Stays.fiveS _ _ _ _ _ _ _
        · go_wp2
          refine bodyPost_ret (v := .agg #[.int .i64 0, .int .i64 0, .int .i64 0, .slice Ab k cb, .slice none 0 0]) (by simp [results, Tryd.results10, go_sem, *]) rfl (HRES.out _ ?_)
          exact Stays.fiveS _ _ _ _ _ _ _
end Go.Proofs.YtlcjdlnhniemcaaDoor
