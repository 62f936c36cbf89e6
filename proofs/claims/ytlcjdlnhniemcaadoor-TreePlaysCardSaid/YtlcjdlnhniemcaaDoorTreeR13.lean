/- The reference of tree: a file cut. No condition. -/
import Derived.Test.YtlcjdlnhniemcaaDoorTreeR12
namespace Go.Proofs.YtlcjdlnhniemcaaDoor
open Go.RowKit
set_option linter.unusedSimpArgs false
set_option linter.unusedVariables false

theorem tr.cut_succ (D : List UInt8) (i : Nat) : tr.cutD D (i + 1) = tr.cutD D i ++ [D.getD i 0] := by
  have key : ∀ n k, (tr.cutD D n)[k]? = if k < n then some (D.getD k 0) else none := fun n k => by
    unfold tr.cutD tr.zeros
    rw [List.getElem?_take]
    by_cases h : k < n
    · rw [if_pos h, if_pos h, List.getD_eq_getElem?_getD]
      rcases Nat.lt_or_ge k D.length with h1 | h1
      · rw [List.getElem?_append_left h1, List.getElem?_eq_getElem h1]; rfl
      · rw [List.getElem?_append_right h1, List.getElem?_eq_none h1, List.getElem?_replicate, if_pos (by omega)]; rfl
    · rw [if_neg h, if_neg h]
  apply List.ext_getElem?
  intro k
  rw [key, List.getElem?_append, tr.cut_len, key]
  by_cases h1 : k < i
  · rw [if_pos (by omega), if_pos h1, if_pos h1]
  · rw [if_neg h1]
    by_cases h2 : k = i
    · subst h2
      rw [if_pos (by omega), Nat.sub_self]
      rfl
    · rw [if_neg (by omega), List.getElem?_eq_none (by simp; omega)]
theorem tr.cut_zero (D : List UInt8) : tr.cutD D 0 = [] := by unfold tr.cutD; rw [List.take_zero]
theorem tr.get_succ {D : List UInt8} {p k : Nat} (h : p + k < D.length) : (D.drop p).take (k + 1) = (D.drop p).take k ++ [D.getD (p + k) 0] := by
  rw [List.take_add_one, List.getElem?_drop, List.getElem?_eq_getElem h, List.getD_eq_getElem?_getD, List.getElem?_eq_getElem h]
  rfl
set_option maxRecDepth 100000 in
set_option maxHeartbeats 8000000 in
theorem ref_Act_cut {B Wb M : Nat} {W : List tr.Item} {g c0 : Nat} {ia : List ItA} (pl_ tl : List UInt8) (aa an : Int) (ad : List UInt8) (X : Option Addr) (xc : Nat) (w : World) (h : WdAt w B Wb M W g c0 ia) (hM : M ≤ 1000000) (hpl : pl_.length ≤ 140737488351232) (htl : tl.length ≤ 140737488351232) {names : List (List UInt8)} (hw : pa.walk [] pl_ = .ok names) {n : Nat} (hf : tr.find W true 8 names = .ok n) (hc : (tr.it W n).kind = 2) (haa : IntOk aa) (han : IntOk an) (hX : SlRep Rep.u8 w (· < w.heap.size) ad X xc) (had : ad.length ≤ 140737488351232) :
    Calls Tryd.prog 10 #[.pointer (some ⟨Wb, 0, none⟩), .agg #[.int .i64 5, .string (strOf pl_), .string (strOf tl), .int .i64 aa, .int .i64 an, .slice X ad.length xc]] w (RAct w B Wb (M + 1) g (tr.act W ⟨5, strOf pl_, strOf tl, aa, an, ad⟩)) := by
  have HX := RBx.new w 5 pl_ tl aa an X ad.length xc
  obtain ⟨w1, hw1⟩ : ∃ w1, w1 = ((w.alloc (.cells #[.int .i64 5, .string (strOf pl_), .string (strOf tl), .int .i64 aa, .int .i64 an, .slice X ad.length xc] 36)).alloc (.cells #[.int .i64 0, .int .i64 0, .int .i64 0, .slice none 0 0, .slice none 0 0] 31)) := ⟨_, rfl⟩
  rw [← hw1] at HX
  have HX := Lib.hid HX
  have H := Lib.hid h
  have hfew := h.few
  have hd' := HX.out.act.get
  have lh := HX.out.act.lt
  have HACT := Lib.hid (tr.act_on (W := W) (k := 5) (tl := tl) (at_ := aa) (count := an) (data := ad) (by decide) (fun e => absurd e.1 (by decide)) hw)
  have HNR : Hid (¬ WF Wb g (w.heap.size + 1)) := Lib.hid (fun e => by have := (h.lt e).2; omega)
  have HCS : Hid (∀ W' c, tr.act W ⟨5, strOf pl_, strOf tl, aa, an, ad⟩ = (W', tr.seen c) → ∀ w4 w5 w', Below w1.heap.size w1 w4 → ROut w4 w5 B Wb (M + 1) W' g → Stays w5 w' (fun k => k = w.heap.size + 1) → RAct w B Wb (M + 1) g (tr.act W ⟨5, strOf pl_, strOf tl, aa, an, ad⟩) (.returned (.agg #[.int .i64 c, .int .i64 0, .int .i64 0, .slice none 0 0, .slice none 0 0])) w') := Lib.hid (fun W' c he w4 w5 w' hb hT hs => by
    rw [he]
    exact RAct.plain (by omega) (tr.seen c) rfl rfl (hT.lift (HX.out.low.trans (hb.mono HX.out.low.size))) ((HX.out.seen.next hb).stays hT.stays HNR.out) hs)
  have HCE : Hid (∀ c, tr.act W ⟨5, strOf pl_, strOf tl, aa, an, ad⟩ = (W, tr.seen c) → ∀ w4 w', Below w1.heap.size w1 w4 → Stays w4 w' (fun k => k = w.heap.size + 1) → RAct w B Wb (M + 1) g (tr.act W ⟨5, strOf pl_, strOf tl, aa, an, ad⟩) (.returned (.agg #[.int .i64 c, .int .i64 0, .int .i64 0, .slice none 0 0, .slice none 0 0])) w') := Lib.hid (fun c he w4 w' hb hs =>
    HCS.out W c he w4 w4 w' hb (ROut.same (H.out.next (HX.out.low.trans (hb.mono HX.out.low.size))) (bself _) (Nat.le_succ M)) hs)
  have HCL := Lib.hid (fun w2 => ref_PathClean pl_ w2 hpl)
  rw [hw] at HCL
  have HCL : Hid (∀ w2, Calls Tryd.prog 20 #[.string (strOf pl_)] w2 fun e w' => Below w2.heap.size w2 w' ∧ ∃ A2 c2, e = .returned (.tuple #[.slice A2 names.length c2, .int .i64 0]) ∧ NmRep w' A2 c2 names) := Lib.hid (fun w2 => (HCL.out w2).mono fun e w' ⟨A2, c2, h1, h2, h3⟩ => ⟨h3, A2, c2, h1, (NmRep.of h2).2⟩)
  have HNM := Lib.hid (pa.walk_nms hw Nms.nil)
  have HLOW : Hid (∀ w2, Below w1.heap.size w1 w2 → Below w.heap.size w w2) := Lib.hid (fun w2 hb => HX.out.low.trans (hb.mono HX.out.low.size))
  have HFI := Lib.hid (fun fo w2 A2 c2 (hb : Below w1.heap.size w1 w2) (hn : NmRep w2 A2 c2 names) => ref_Find names A2 c2 fo w2 (h.next (HLOW.out w2 hb)) hM hn HNM.out)
  have HXD := Lib.hid (fun w2 (hb : Below w.heap.size w w2) => hX.next hb)
  clear h hX
  have HACT : Hid (tr.act W ⟨5, strOf pl_, strOf tl, aa, an, ad⟩ = tr.atN W n ⟨5, strOf pl_, strOf tl, aa, an, ad⟩) := Lib.hid (by rw [HACT.out, if_neg (by decide), if_neg (by decide), if_neg (by decide), if_neg (by decide), if_neg (by decide), hf])
  have HFI : Hid (∀ w2 A2 c2, Below w1.heap.size w1 w2 → NmRep w2 A2 c2 names → Calls Tryd.prog 22 #[.pointer (some ⟨Wb, 0, none⟩), .slice A2 names.length c2, .bool true] w2 fun e w' => Below w2.heap.size w2 w' ∧ e = .returned (.tuple #[.int .i64 (n : Int), .int .i64 0])) := Lib.hid (fun w2 A2 c2 hb hn => by
    have h := HFI.out true w2 A2 c2 hb hn
    rw [hf] at h
    exact h)
  have hlive := (tr.find_live H.out.inv hf).1
  have hnlt := hlive.lt
  have hnlt' : (n : Int) < (W.length : Int) := by omega
  have hc1 : ((tr.it W n).kind == 1) = false := by rw [hc]; rfl
  have HFD : Hid (tr.act W ⟨5, strOf pl_, strOf tl, aa, an, ad⟩ = (W.set n ((tr.it W n).wd (tr.fdo (tr.it W n).data ⟨5, strOf pl_, strOf tl, aa, an, ad⟩).1), (tr.fdo (tr.it W n).data ⟨5, strOf pl_, strOf tl, aa, an, ad⟩).2)) := Lib.hid (by rw [HACT.out]; unfold tr.atN; rw [if_neg (by simp), if_neg (by simp), if_neg (by rw [hc]; decide)])
  have hwd : ∀ c, (W.set n ((tr.it W n).wd (tr.it W n).data), c) = (W, (c : Seen)) := fun c => by
    have e : (tr.it W n).wd (tr.it W n).data = tr.it W n := rfl
    rw [e, show W.set n (tr.it W n) = W from by
      apply List.ext_getElem?
      intro i
      rw [List.getElem?_set]
      split
      · next e => subst e; rw [tr.it_at hnlt]
      · rfl]
  have HDL := Lib.hid (H.out.inv.data n hlive)
  by_cases h1 : tr.fits an
  rotate_left
  · have HE := Lib.hid (HCE.out 2 (by rw [HFD.out, tr.fdo_range (.inr ⟨(show (5 : Int) ≠ 3 by decide), h1⟩)]; exact hwd _))
    have HFT := Lib.hid (fun wx => ref_fits an false (by simp [h1]) wx)
    clear HACT HCS HCE HFD hwd hc hf h1 hlive
    go_enter Tryd.func10, Tryd.ntmps10
    go_upto_region 1 with (fail)
    rw [← hw1]
    clear hw1
    go_wp2_with (first
      | (go_at_call 20; ((with_reducible refine (HCL.out _).mono ?_); rintro e w2 ⟨hb2, A2, c2, rfl, hn2⟩; have HB2 := Lib.hid hb2; have HN2 := Lib.hid hn2; have hd2 := (HX.out.act.next hb2).get; have lh2 := (HX.out.act.next hb2).lt; have HZ2 := Lib.hid (HX.out.seen.next hb2); have zd2 := ref.z_get HZ2.out; have ze2 := HZ2.out.frozen; have lz2 := HZ2.out.lt; clear hb2 hn2))
      | (go_at_call 22; ((with_reducible refine (HFI.out w2 A2 c2 HB2.out HN2.out).mono ?_); rintro e w3 ⟨hb3, rfl⟩; have HB3 := Lib.hid (bnext HB2.out hb3); have hd3 := (HX.out.act.next HB3.out).get; have lh3 := (HX.out.act.next HB3.out).lt; have HZ3 := Lib.hid (HX.out.seen.next HB3.out); have zd3 := ref.z_get HZ3.out; have ze3 := HZ3.out.frozen; have lz3 := HZ3.out.lt; have hr3 := (H.out.next (HLOW.out _ HB3.out)).row; have hgl3 := ((H.out.next (HLOW.out _ HB3.out)).lt (.inr rfl)).2; have hWl3 := ((H.out.next (HLOW.out _ HB3.out)).lt (.inl rfl)).2; obtain ⟨A7, c7, i7, q0, q1, q2, q3, q4, q5, q6⟩ := (H.out.next (HLOW.out _ HB3.out)).at hnlt; clear hb3 i7 q6))
      | (go_at_call 25; ((with_reducible refine (HFT.out _).mono ?_); rintro e w4 ⟨rfl, rfl⟩))
      | fail)
    refine bodyPost_ret (v := .agg #[.int .i64 2, .int .i64 0, .int .i64 0, .slice none 0 0, .slice none 0 0]) (by simp [results, Tryd.results10, go_sem, *]) rfl (HE.out _ _ HB3.out ?_)
    exact Stays.fiveS _ _ _ _ _ _ _
  · have HFT := Lib.hid (fun wx => ref_fits an true (by simp [h1]) wx)
    obtain ⟨q, rfl⟩ : ∃ q : Nat, an = q := ⟨an.toNat, by have := h1.1; omega⟩
    have hq : q ≤ 2048 := by have := h1.2; omega
    have HCUT : Hid (tr.fdo (tr.it W n).data ⟨5, strOf pl_, strOf tl, aa, q, ad⟩ = (tr.cutD (tr.it W n).data q, ⟨0, 0, ((tr.cutD (tr.it W n).data q).length : Int), [], []⟩)) := Lib.hid (by
      unfold tr.fdo
      rw [if_neg (fun h => by rcases h with h | h; exact h.1 rfl; exact h.2 h1), if_neg (by simp), if_neg (by simp)]
      rfl)
    have HFIN : Hid (∀ w5 w' base A' c', Below w1.heap.size w1 w5 → w1.heap.size ≤ base → Own w5 base 5 1 A' q c' ((tr.cutD (tr.it W n).data q).map u8v) → Stays (w5.setCell ⟨g, n * 6 + 3, none⟩ (.slice A' q c')) w' (fun k => k = w.heap.size + 1) → RAct w B Wb (M + 1) g (tr.act W ⟨5, strOf pl_, strOf tl, aa, q, ad⟩) (.returned (.agg #[.int .i64 0, .int .i64 0, .int .i64 (q : Int), .slice none 0 0, .slice none 0 0])) w') := Lib.hid (fun w5 w' base A' c' hb hba ho hs => by
      have hlen := tr.cut_len (tr.it W n).data q
      have hsz := HX.out.size
      have hg := (H.out.lt (.inr rfl)).2
      have hW := (H.out.lt (.inl rfl)).2
      have hlo := H.out.lo
      obtain ⟨g', c', ia', r1, r2, r3⟩ := (H.out.next (HLOW.out w5 hb)).bytes hlive (D := tr.cutD (tr.it W n).data q) (by omega) (by rw [hlen]; exact ho) ⟨by omega, by omega, by omega⟩
      rw [hlen] at r1 r2
      have hT : ROut w5 (w5.setCell ⟨g, n * 6 + 3, none⟩ (.slice A' q _)) B Wb (M + 1) (W.set n ((tr.it W n).wd (tr.cutD (tr.it W n).data q))) g := ⟨g', c', ia', r1.mono (Nat.le_succ M), r2, r3⟩
      rw [HFD.out, HCUT.out, hlen]
      exact RAct.plain (by omega) ⟨0, 0, (q : Int), [], []⟩ rfl rfl (hT.lift (HLOW.out w5 hb)) ((HX.out.seen.next hb).stays hT.stays HNR.out) hs)
    have hdl := HDL.out
    clear HACT HCS HCE HFD hwd hc hf h1 HCUT
    go_enter Tryd.func10, Tryd.ntmps10
    go_upto_region 1 with (fail)
    rw [← hw1]
    clear hw1
    go_upto_region 60 with (first
      | (go_at_call 20; ((with_reducible refine (HCL.out _).mono ?_); rintro e w2 ⟨hb2, A2, c2, rfl, hn2⟩; have HB2 := Lib.hid hb2; have HN2 := Lib.hid hn2; have hd2 := (HX.out.act.next hb2).get; have lh2 := (HX.out.act.next hb2).lt; have HZ2 := Lib.hid (HX.out.seen.next hb2); have zd2 := ref.z_get HZ2.out; have ze2 := HZ2.out.frozen; have lz2 := HZ2.out.lt; clear hb2 hn2))
      | (go_at_call 22; ((with_reducible refine (HFI.out w2 A2 c2 HB2.out HN2.out).mono ?_); rintro e w3 ⟨hb3, rfl⟩; have HB3 := Lib.hid (bnext HB2.out hb3); have hd3 := (HX.out.act.next HB3.out).get; have lh3 := (HX.out.act.next HB3.out).lt; have HZ3 := Lib.hid (HX.out.seen.next HB3.out); have zd3 := ref.z_get HZ3.out; have ze3 := HZ3.out.frozen; have lz3 := HZ3.out.lt; have hr3 := (H.out.next (HLOW.out _ HB3.out)).row; have hgl3 := ((H.out.next (HLOW.out _ HB3.out)).lt (.inr rfl)).2; have hWl3 := ((H.out.next (HLOW.out _ HB3.out)).lt (.inl rfl)).2; obtain ⟨A7, c7, i7, q0, q1, q2, q3, q4, q5, q6⟩ := (H.out.next (HLOW.out _ HB3.out)).at hnlt; have HQ6 := Lib.hid q6; clear hb3 i7 q6))
      | (go_at_call 25; ((with_reducible refine (HFT.out _).mono ?_); rintro e w4 ⟨rfl, rfl⟩))
      | fail)
    have hbase : w1.heap.size ≤ w3.heap.size := HB3.out.size
    have HAC := Lib.hid (fun wx (hb : Below w3.heap.size w3 wx) => HX.out.act.next (HB3.out.trans (hb.mono HB3.out.size)))
    have HSE := Lib.hid (fun wx (hb : Below w3.heap.size w3 wx) => HX.out.seen.next (HB3.out.trans (hb.mono HB3.out.size)))
    have HWD := Lib.hid (fun wx (hb : Below w3.heap.size w3 wx) => H.out.next (HLOW.out wx (HB3.out.trans (hb.mono HB3.out.size))))
    clear hd' lh hd2 lh2 zd2 ze2 lz2 hd3 lh3 zd3 ze3 lz3 hr3 hgl3 hWl3 q0 q1 q2 q3 q4 q5 HQ6
    go_loopw [21, 22] (fun s21 s22 wr => ∃ (i : Nat) (Ab : Option Addr) (cb : Nat), i ≤ q ∧ s22 = .int .i64 (i : Int) ∧ s21 = .slice Ab i cb ∧ Hid (Below w3.heap.size w3 wr ∧ Own wr w3.heap.size 5 1 Ab i cb ((tr.cutD (tr.it W n).data i).map u8v))) (fun _ s22 _ => q - (intOf s22).toNat)
    case atStart => exact ⟨0, none, 0, by omega, rfl, rfl, Lib.hid ⟨bself _, by rw [tr.cut_zero]; exact Own.nil _ _ _ _⟩⟩
    case round =>
      obtain ⟨i, Ab, cb, hi, rfl, rfl, HJ⟩ := hrel
      rename World => wr
      have hd4 := (HAC.out wr HJ.out.1).get
      have lh4 := (HAC.out wr HJ.out.1).lt
      have hws : w3.heap.size ≤ wr.heap.size := HJ.out.1.size
      obtain ⟨A9, c9, i9, q0, q1, q2, q3, q4, q5, q6⟩ := (HWD.out wr HJ.out.1).at hnlt
      have f3 := (HWD.out wr HJ.out.1).frozen (n * 6 + 3)
      have hgl := ((HWD.out wr HJ.out.1).lt (.inr rfl)).2
      have HO := Lib.hid HJ.out.2
      have HB := Lib.hid HJ.out.1
      clear HJ i9
      by_cases hlt : i < q
      · have hlt' : (i : Int) < (q : Int) := by omega
        have HCS2 := Lib.hid (tr.cut_succ (tr.it W n).data i)
        by_cases hin : i < (tr.it W n).data.length
        · have hin' : (i : Int) < ((tr.it W n).data.length : Int) := by omega
          obtain ⟨bx, ox, rfl, _, hcx⟩ := u8_at q6 hin
          generalize (tr.it W n).data.getD i 0 = y at *
          clear q6
          go_wp2_with (first
            | (at_builtin; refine wp_app _ rfl _ _ _ rfl elemU8 w3.heap.size Ab i cb _ rfl (HO.out.alloc _) _ 1 1 [u8v y] rfl rfl (Cells.newAt _ _ _ (by simp)) (by simp [Value.oneCell', u8v]) (by omega) (by unfold maxLen; omega) (by simp only [World.size_alloc]; omega) ?_; intro A6 c6 w6 hO6 hg6; have HO6 := Lib.hid hO6; have HG6 := Lib.hid hg6; clear hO6 hg6)
            | fail)
          go_roundw
          case rel =>
            refine ⟨i + 1, A6, c6, by omega, by go_num, rfl, Lib.hid ⟨(balloc HB.out _).trans (HG6.out.below (by simp only [World.size_alloc]; omega) (fun j hj => (HO.out.lt j hj).1)), ?_⟩⟩
            rw [HCS2.out, List.map_append]
            exact HO6.out
          case measure => simp [intOf]; omega
        · have hin' : ¬ (i : Int) < ((tr.it W n).data.length : Int) := by omega
          have HY : Hid ((tr.it W n).data.getD i 0 = 0) := Lib.hid (by rw [List.getD_eq_getElem?_getD, List.getElem?_eq_none (by omega)]; rfl)
          clear q6
          go_wp2_with (first
            | (at_builtin; refine wp_app _ rfl _ _ _ rfl elemU8 w3.heap.size Ab i cb _ rfl (HO.out.alloc _) _ 1 1 [.int .u8 0] rfl rfl (Cells.newAt _ _ _ (by simp)) (by simp [Value.oneCell']) (by omega) (by unfold maxLen; omega) (by simp only [World.size_alloc]; omega) ?_; intro A6 c6 w6 hO6 hg6; have HO6 := Lib.hid hO6; have HG6 := Lib.hid hg6; clear hO6 hg6)
            | fail)
          go_roundw
          case rel =>
            refine ⟨i + 1, A6, c6, by omega, by go_num, rfl, Lib.hid ⟨(balloc HB.out _).trans (HG6.out.below (by simp only [World.size_alloc]; omega) (fun j hj => (HO.out.lt j hj).1)), ?_⟩⟩
            rw [HCS2.out, HY.out, List.map_append]
            exact HO6.out
          case measure => simp [intOf]; omega
      · obtain rfl : i = q := by omega
        have zd5 := ref.z_get (HSE.out wr HB.out)
        have ze5 := (HSE.out wr HB.out).frozen
        have lz5 := (HSE.out wr HB.out).lt
        have hgR : g ≠ w.heap.size + 1 := fun e => HNR.out (.inr e.symm)
        have HE := Lib.hid (fun w' hs => HFIN.out wr w' w3.heap.size Ab cb (HB3.out.trans (HB.out.mono HB3.out.size)) hbase HO.out hs)
        clear q6
        go_wp2
        refine bodyPost_ret (v := .agg #[.int .i64 0, .int .i64 0, .int .i64 (i : Int), .slice none 0 0, .slice none 0 0]) (by simp [results, Tryd.results10, go_sem, *]) rfl (HE.out _ ?_)
        exact Stays.fiveS _ _ _ _ _ _ _
end Go.Proofs.YtlcjdlnhniemcaaDoor
