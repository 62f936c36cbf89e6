/- The reference of tree: acts that take a node out, or put it elsewhere. No condition. -/
import Derived.Test.YtlcjdlnhniemcaaDoorTreeR8
namespace Go.Proofs.YtlcjdlnhniemcaaDoor
open Go.RowKit
set_option linter.unusedSimpArgs false
set_option linter.unusedVariables false

theorem WdAt.frozen {w : World} {B Wb M : Nat} {W : List tr.Item} {g c : Nat} {ia : List ItA} (h : WdAt w B Wb M W g c ia) (j : Nat) : w.frozen? ⟨g, j, none⟩ = false := h.own.frozenAt j
/-- a node gone -/
theorem WdAt.gone {w : World} {B Wb M n : Nat} {W : List tr.Item} {g c : Nat} {ia : List ItA} (h : WdAt w B Wb M W g c ia) (h0 : 0 < n) (hn : tr.Live W n) (hk : ∀ i, tr.kid W n i = false) : ROut w (w.setCell ⟨g, n * 6 + 5, none⟩ (.bool true)) B Wb M (W.set n (tr.it W n).off) g := by
  obtain ⟨A, d, hi, _⟩ := h.at hn.lt
  have hs := Stays.set w g (n * 6 + 5) (.bool true)
  refine h.turn hn.lt (x := (tr.it W n).off) (A' := A) (c' := d) ?_ (h.inv.gone h0 hn _ rfl hk) hs (h.row_keep hi hs)
  have h2 := h.own.setAt (j := n * 6 + 5) (.bool true)
  rw [← flatMap_set1 (f := ItA.cells) (size := 6) (fun _ => rfl) ia n _ ⟨(tr.it W n).off, A, d⟩ 5 (.bool true) hi (by omega) rfl] at h2
  exact h2
/-- a node elsewhere -/
theorem WdAt.mv {w : World} {B Wb M n d : Nat} {W : List tr.Item} {g c : Nat} {ia : List ItA} {s : List UInt8} (h : WdAt w B Wb M W g c ia) (hn : tr.Live W n) (hI : tr.Inv (W.set n ((tr.it W n).mv d s))) : ROut w ((w.setCell ⟨g, n * 6 + 1, none⟩ (.int .i64 (d : Int))).setCell ⟨g, n * 6 + 2, none⟩ (.string (strOf s))) B Wb M (W.set n ((tr.it W n).mv d s)) g := by
  obtain ⟨A, q, hi, _⟩ := h.at hn.lt
  have hs := (Stays.set w g (n * 6 + 1) (.int .i64 (d : Int))).comp (Stays.set _ g (n * 6 + 2) (.string (strOf s)))
  refine h.turn hn.lt (x := (tr.it W n).mv d s) (A' := A) (c' := q) ?_ hI hs (h.row_keep hi hs)
  have h2 := (h.own.setAt (j := n * 6 + 1) (.int .i64 (d : Int))).setAt (j := n * 6 + 2) (.string (strOf s))
  have hl : n < ia.length := by rw [h.len]; exact hn.lt
  rw [← flatMap_set1 (f := ItA.cells) (size := 6) (fun _ => rfl) ia n _ ⟨⟨(tr.it W n).kind, (d : Int), (tr.it W n).name, (tr.it W n).data, (tr.it W n).to, (tr.it W n).gone⟩, A, q⟩ 1 (.int .i64 (d : Int)) hi (by omega) rfl] at h2
  rw [← flatMap_set1 (f := ItA.cells) (size := 6) (fun _ => rfl) _ n ⟨⟨(tr.it W n).kind, (d : Int), (tr.it W n).name, (tr.it W n).data, (tr.it W n).to, (tr.it W n).gone⟩, A, q⟩ ⟨(tr.it W n).mv d s, A, q⟩ 2 (.string (strOf s)) (by rw [List.getElem?_set_self hl]) (by omega) rfl, List.set_set] at h2
  exact h2
theorem tr.find_pos {W : List tr.Item} {L : List (List UInt8)} {n : Nat} (h0 : L ≠ []) (h : tr.find W false 8 L = .ok n) : 0 < n := by
  obtain ⟨d, _, _, hc⟩ := tr.find_place h0 h
  exact (tr.child_live hc).1
set_option maxRecDepth 100000 in
set_option maxHeartbeats 8000000 in
theorem ref_Act_rm {B Wb M : Nat} {W : List tr.Item} {g c0 : Nat} {ia : List ItA} (pl_ tl : List UInt8) (aa an : Int) (ad : List UInt8) (X : Option Addr) (xc : Nat) (w : World) (h : WdAt w B Wb M W g c0 ia) (hM : M ≤ 1000000) (hpl : pl_.length ≤ 140737488351232) (htl : tl.length ≤ 140737488351232) {names : List (List UInt8)} (hw : pa.walk [] pl_ = .ok names) :
    Calls Tryd.prog 10 #[.pointer (some ⟨Wb, 0, none⟩), .agg #[.int .i64 8, .string (strOf pl_), .string (strOf tl), .int .i64 aa, .int .i64 an, .slice X ad.length xc]] w (RAct w B Wb (M + 1) g (tr.act W ⟨8, strOf pl_, strOf tl, aa, an, ad⟩)) := by
  have HX := RBx.new w 8 pl_ tl aa an X ad.length xc
  obtain ⟨w1, hw1⟩ : ∃ w1, w1 = ((w.alloc (.cells #[.int .i64 8, .string (strOf pl_), .string (strOf tl), .int .i64 aa, .int .i64 an, .slice X ad.length xc] 36)).alloc (.cells #[.int .i64 0, .int .i64 0, .int .i64 0, .slice none 0 0, .slice none 0 0] 31)) := ⟨_, rfl⟩
  rw [← hw1] at HX
  have HX := Lib.hid HX
  have H := Lib.hid h
  have hfew := h.few
  have hd' := HX.out.act.get
  have lh := HX.out.act.lt
  have HACT := Lib.hid (tr.act_on (W := W) (k := 8) (tl := tl) (at_ := aa) (count := an) (data := ad) (by decide) (fun e => absurd e.1 (by decide)) hw)
  have HNR : Hid (¬ WF Wb g (w.heap.size + 1)) := Lib.hid (fun e => by have := (h.lt e).2; omega)
  have HCS : Hid (∀ W' c, tr.act W ⟨8, strOf pl_, strOf tl, aa, an, ad⟩ = (W', tr.seen c) → ∀ w4 w5 w', Below w1.heap.size w1 w4 → ROut w4 w5 B Wb (M + 1) W' g → Stays w5 w' (fun k => k = w.heap.size + 1) → RAct w B Wb (M + 1) g (tr.act W ⟨8, strOf pl_, strOf tl, aa, an, ad⟩) (.returned (.agg #[.int .i64 c, .int .i64 0, .int .i64 0, .slice none 0 0, .slice none 0 0])) w') := Lib.hid (fun W' c he w4 w5 w' hb hT hs => by
    rw [he]
    exact RAct.plain (by omega) (tr.seen c) rfl rfl (hT.lift (HX.out.low.trans (hb.mono HX.out.low.size))) ((HX.out.seen.next hb).stays hT.stays HNR.out) hs)
  have HCE : Hid (∀ c, tr.act W ⟨8, strOf pl_, strOf tl, aa, an, ad⟩ = (W, tr.seen c) → ∀ w4 w', Below w1.heap.size w1 w4 → Stays w4 w' (fun k => k = w.heap.size + 1) → RAct w B Wb (M + 1) g (tr.act W ⟨8, strOf pl_, strOf tl, aa, an, ad⟩) (.returned (.agg #[.int .i64 c, .int .i64 0, .int .i64 0, .slice none 0 0, .slice none 0 0])) w') := Lib.hid (fun c he w4 w' hb hs =>
    HCS.out W c he w4 w4 w' hb (ROut.same (H.out.next (HX.out.low.trans (hb.mono HX.out.low.size))) (bself _) (Nat.le_succ M)) hs)
  have HCL := Lib.hid (fun w2 => ref_PathClean pl_ w2 hpl)
  rw [hw] at HCL
  have HCL : Hid (∀ w2, Calls Tryd.prog 20 #[.string (strOf pl_)] w2 fun e w' => Below w2.heap.size w2 w' ∧ ∃ A2 c2, e = .returned (.tuple #[.slice A2 names.length c2, .int .i64 0]) ∧ NmRep w' A2 c2 names) := Lib.hid (fun w2 => (HCL.out w2).mono fun e w' ⟨A2, c2, h1, h2, h3⟩ => ⟨h3, A2, c2, h1, (NmRep.of h2).2⟩)
  have HNM := Lib.hid (pa.walk_nms hw Nms.nil)
  have HLOW : Hid (∀ w2, Below w1.heap.size w1 w2 → Below w.heap.size w w2) := Lib.hid (fun w2 hb => HX.out.low.trans (hb.mono HX.out.low.size))
  have HFI := Lib.hid (fun fo w2 A2 c2 (hb : Below w1.heap.size w1 w2) (hn : NmRep w2 A2 c2 names) => ref_Find names A2 c2 fo w2 (h.next (HLOW.out w2 hb)) hM hn HNM.out)
  clear h
  have HREM : Hid (tr.act W ⟨8, strOf pl_, strOf tl, aa, an, ad⟩ = ((tr.remove W names).1, tr.seen (tr.remove W names).2)) := Lib.hid (by rw [HACT.out, if_neg (by decide), if_neg (by decide), if_neg (by decide)]; exact if_pos rfl)
  by_cases h0 : names = []
  · have HE := Lib.hid (HCE.out 14 (by rw [HREM.out]; unfold tr.remove; rw [if_pos h0]))
    subst h0
    clear HACT HCS HREM
    go_enter Tryd.func10, Tryd.ntmps10
    go_upto_region 1 with (fail)
    rw [← hw1]
    clear hw1
    go_wp2_with (first
      | (go_at_call 20; ((with_reducible refine (HCL.out _).mono ?_); rintro e w2 ⟨hb2, A2, c2, rfl, hn2⟩; have HB2 := Lib.hid hb2; have HN2 := Lib.hid hn2; have hd2 := (HX.out.act.next hb2).get; have lh2 := (HX.out.act.next hb2).lt; have HZ2 := Lib.hid (HX.out.seen.next hb2); have zd2 := ref.z_get HZ2.out; have ze2 := HZ2.out.frozen; have lz2 := HZ2.out.lt; clear hb2 hn2))
      | fail)
    refine bodyPost_ret (v := .agg #[.int .i64 14, .int .i64 0, .int .i64 0, .slice none 0 0, .slice none 0 0]) (by simp [results, Tryd.results10, go_sem, *]) rfl (HE.out _ _ HB2.out ?_)
    exact Stays.fiveS _ _ _ _ _ _ _
  · have hpos : 0 < names.length := by rcases Nat.eq_zero_or_pos names.length with h | h; exact absurd (List.length_eq_zero_iff.1 h) h0; exact h
    have hne : ((names.length : Int) == 0) = false := beq_eq_false_iff_ne.2 (by omega)
    cases hf : tr.find W false 8 names with
    | error q =>
      have HE := Lib.hid (HCE.out q (by rw [HREM.out]; unfold tr.remove; rw [if_neg h0, hf]))
      have HFI : Hid (∀ w2 A2 c2, Below w1.heap.size w1 w2 → NmRep w2 A2 c2 names → Calls Tryd.prog 22 #[.pointer (some ⟨Wb, 0, none⟩), .slice A2 names.length c2, .bool false] w2 fun e w' => Below w2.heap.size w2 w' ∧ e = .returned (.tuple #[.int .i64 0, .int .i64 q])) := Lib.hid (fun w2 A2 c2 hb hn => by
        have h := HFI.out false w2 A2 c2 hb hn
        rw [hf] at h
        exact h)
      have hq : (q != 0) = true := by simpa using tr.find_err_ne hf
      clear HACT HCS HREM HCE h0 hf
      go_enter Tryd.func10, Tryd.ntmps10
      go_upto_region 1 with (fail)
      rw [← hw1]
      clear hw1
      go_wp2_with (first
        | (go_at_call 20; ((with_reducible refine (HCL.out _).mono ?_); rintro e w2 ⟨hb2, A2, c2, rfl, hn2⟩; have HB2 := Lib.hid hb2; have HN2 := Lib.hid hn2; have hd2 := (HX.out.act.next hb2).get; have lh2 := (HX.out.act.next hb2).lt; have HZ2 := Lib.hid (HX.out.seen.next hb2); have zd2 := ref.z_get HZ2.out; have ze2 := HZ2.out.frozen; have lz2 := HZ2.out.lt; clear hb2 hn2))
        | (go_at_call 22; ((with_reducible refine (HFI.out w2 A2 c2 HB2.out HN2.out).mono ?_); rintro e w3 ⟨hb3, rfl⟩; have HB3 := Lib.hid (bnext HB2.out hb3); have hd3 := (HX.out.act.next HB3.out).get; have lh3 := (HX.out.act.next HB3.out).lt; have HZ3 := Lib.hid (HX.out.seen.next HB3.out); have zd3 := ref.z_get HZ3.out; have ze3 := HZ3.out.frozen; have lz3 := HZ3.out.lt; have hr3 := (H.out.next (HLOW.out _ HB3.out)).row; have hgl3 := ((H.out.next (HLOW.out _ HB3.out)).lt (.inr rfl)).2; have hWl3 := ((H.out.next (HLOW.out _ HB3.out)).lt (.inl rfl)).2; clear hb3))
        | fail)
      refine bodyPost_ret (v := .agg #[.int .i64 q, .int .i64 0, .int .i64 0, .slice none 0 0, .slice none 0 0]) (by simp [results, Tryd.results10, go_sem, *]) rfl (HE.out _ _ HB3.out ?_)
      exact Stays.fiveS _ _ _ _ _ _ _
    | ok n =>
      have HFI : Hid (∀ w2 A2 c2, Below w1.heap.size w1 w2 → NmRep w2 A2 c2 names → Calls Tryd.prog 22 #[.pointer (some ⟨Wb, 0, none⟩), .slice A2 names.length c2, .bool false] w2 fun e w' => Below w2.heap.size w2 w' ∧ e = .returned (.tuple #[.int .i64 (n : Int), .int .i64 0])) := Lib.hid (fun w2 A2 c2 hb hn => by
        have h := HFI.out false w2 A2 c2 hb hn
        rw [hf] at h
        exact h)
      have hnl := (tr.find_live H.out.inv hf).1
      have hnpos := tr.find_pos h0 hf
      have hnlt := hnl.lt
      have hnlt' : (n : Int) < (W.length : Int) := by omega
      have HKD := Lib.hid (fun w2 (hb : Below w1.heap.size w1 w2) => ref_children n w2 (H.out.next (HLOW.out w2 hb)) hM)
      have hnlen := tr.names_len (W := W) (d := n)
      by_cases hkn : tr.kids W n = []
      · have HE := Lib.hid (HCS.out (W.set n (tr.it W n).off) 0 (by rw [HREM.out]; unfold tr.remove; rw [if_neg h0, hf]; simp only [hkn]; rfl))
        have hnok : ∀ i, tr.kid W n i = false := fun i => by
          cases e : tr.kid W n i with
          | false => rfl
          | true => have := tr.mem_kids.2 e; rw [hkn] at this; cases this
        have HGN : Hid (∀ w4, Below w1.heap.size w1 w4 → w4.cell? ⟨g, n * 6 + 5, none⟩ = some (.bool (tr.it W n).gone) ∧ w4.frozen? ⟨g, n * 6 + 5, none⟩ = false ∧ ROut w4 (w4.setCell ⟨g, n * 6 + 5, none⟩ (.bool true)) B Wb (M + 1) (W.set n (tr.it W n).off) g) := Lib.hid (fun w4 hb => by
          have h4 := H.out.next (HLOW.out w4 hb)
          obtain ⟨_, _, _, _, _, _, _, _, q5, _⟩ := h4.at hnlt
          obtain ⟨g', c', ia', r1, r2, r3⟩ := h4.gone hnpos hnl hnok
          exact ⟨q5, h4.frozen _, g', c', ia', r1.mono (Nat.le_succ M), r2, r3⟩)
        rw [hkn] at hnlen
        have hnl0 : (tr.namesIn W n).length = 0 := hnlen
        generalize (tr.sorted (tr.namesIn W n)).map pa.sv = ns at *
        generalize (tr.namesIn W n).length = q at *
        subst hnl0
        clear HACT HCS HREM HCE h0 hf hkn hnok hnl hnlen hnlt hnpos
        go_enter Tryd.func10, Tryd.ntmps10
        go_upto_region 1 with (fail)
        rw [← hw1]
        clear hw1
        go_wp2_with (first
          | (go_at_call 20; ((with_reducible refine (HCL.out _).mono ?_); rintro e w2 ⟨hb2, A2, c2, rfl, hn2⟩; have HB2 := Lib.hid hb2; have HN2 := Lib.hid hn2; have hd2 := (HX.out.act.next hb2).get; have lh2 := (HX.out.act.next hb2).lt; have HZ2 := Lib.hid (HX.out.seen.next hb2); have zd2 := ref.z_get HZ2.out; have ze2 := HZ2.out.frozen; have lz2 := HZ2.out.lt; clear hb2 hn2))
          | (go_at_call 22; ((with_reducible refine (HFI.out w2 A2 c2 HB2.out HN2.out).mono ?_); rintro e w3 ⟨hb3, rfl⟩; have HB3 := Lib.hid (bnext HB2.out hb3); have hd3 := (HX.out.act.next HB3.out).get; have lh3 := (HX.out.act.next HB3.out).lt; have HZ3 := Lib.hid (HX.out.seen.next HB3.out); have zd3 := ref.z_get HZ3.out; have ze3 := HZ3.out.frozen; have lz3 := HZ3.out.lt; have hr3 := (H.out.next (HLOW.out _ HB3.out)).row; have hgl3 := ((H.out.next (HLOW.out _ HB3.out)).lt (.inr rfl)).2; have hWl3 := ((H.out.next (HLOW.out _ HB3.out)).lt (.inl rfl)).2; clear hb3))
          | (go_at_call 23; ((with_reducible refine (HKD.out w3 HB3.out).mono ?_); rintro e w4 ⟨A4, c4, rfl, ho4, hb4⟩; have HB4 := Lib.hid (bnext HB3.out hb4); obtain ⟨g5, g6, g7⟩ := HGN.out _ HB4.out; have HG := Lib.hid g7; have hd4 := (HX.out.act.next HB4.out).get; have lh4 := (HX.out.act.next HB4.out).lt; have hgl4 := ((H.out.next (HLOW.out _ HB4.out)).lt (.inr rfl)).2; have hgR : g ≠ w.heap.size + 1 := fun e => HNR.out (.inr e.symm); have HZ4 := Lib.hid (HX.out.seen.next HB4.out); have zd4 := ref.z_get HZ4.out; have ze4 := HZ4.out.frozen; have lz4 := HZ4.out.lt; clear ho4 hb4 g7))
          | fail)
        refine bodyPost_ret (v := .agg #[.int .i64 0, .int .i64 0, .int .i64 0, .slice none 0 0, .slice none 0 0]) (by simp [results, Tryd.results10, go_sem, *]) rfl (HE.out _ _ _ HB4.out HG.out ?_)
        exact Stays.fiveS _ _ _ _ _ _ _
      · have HE := Lib.hid (HCE.out 16 (by rw [HREM.out]; unfold tr.remove; rw [if_neg h0, hf]; simp only [hkn, ne_eq, not_false_eq_true, if_true]))
        have hkp : 0 < (tr.namesIn W n).length := by rw [hnlen]; exact List.length_pos_iff.2 hkn
        generalize (tr.sorted (tr.namesIn W n)).map pa.sv = ns at *
        generalize (tr.namesIn W n).length = q at *
        have hkp' : (0 : Int) < (q : Int) := by omega
        clear HACT HCS HREM HCE h0 hf hkn hnl hnlen hnlt hnpos
        go_enter Tryd.func10, Tryd.ntmps10
        go_upto_region 1 with (fail)
        rw [← hw1]
        clear hw1
        go_wp2_with (first
          | (go_at_call 20; ((with_reducible refine (HCL.out _).mono ?_); rintro e w2 ⟨hb2, A2, c2, rfl, hn2⟩; have HB2 := Lib.hid hb2; have HN2 := Lib.hid hn2; have hd2 := (HX.out.act.next hb2).get; have lh2 := (HX.out.act.next hb2).lt; have HZ2 := Lib.hid (HX.out.seen.next hb2); have zd2 := ref.z_get HZ2.out; have ze2 := HZ2.out.frozen; have lz2 := HZ2.out.lt; clear hb2 hn2))
          | (go_at_call 22; ((with_reducible refine (HFI.out w2 A2 c2 HB2.out HN2.out).mono ?_); rintro e w3 ⟨hb3, rfl⟩; have HB3 := Lib.hid (bnext HB2.out hb3); have hd3 := (HX.out.act.next HB3.out).get; have lh3 := (HX.out.act.next HB3.out).lt; have HZ3 := Lib.hid (HX.out.seen.next HB3.out); have zd3 := ref.z_get HZ3.out; have ze3 := HZ3.out.frozen; have lz3 := HZ3.out.lt; have hr3 := (H.out.next (HLOW.out _ HB3.out)).row; have hgl3 := ((H.out.next (HLOW.out _ HB3.out)).lt (.inr rfl)).2; have hWl3 := ((H.out.next (HLOW.out _ HB3.out)).lt (.inl rfl)).2; clear hb3))
          | (go_at_call 23; ((with_reducible refine (HKD.out w3 HB3.out).mono ?_); rintro e w4 ⟨A4, c4, rfl, ho4, hb4⟩; have HB4 := Lib.hid (bnext HB3.out hb4); have HZ4 := Lib.hid (HX.out.seen.next HB4.out); have zd4 := ref.z_get HZ4.out; have ze4 := HZ4.out.frozen; have lz4 := HZ4.out.lt; clear ho4 hb4))
          | fail)
        refine bodyPost_ret (v := .agg #[.int .i64 16, .int .i64 0, .int .i64 0, .slice none 0 0, .slice none 0 0]) (by simp [results, Tryd.results10, go_sem, *]) rfl (HE.out _ _ HB4.out ?_)
        exact Stays.fiveS _ _ _ _ _ _ _
end Go.Proofs.YtlcjdlnhniemcaaDoor
