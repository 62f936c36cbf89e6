/- The reference of tree: bytes put into a file. No condition. -/
import Derived.Test.YtlcjdlnhniemcaaDoorTreeR11
namespace Go.Proofs.YtlcjdlnhniemcaaDoor
open Go.RowKit
set_option linter.unusedSimpArgs false
set_option linter.unusedVariables false

set_option maxRecDepth 100000 in
theorem ref_fits (n : Int) (b : Bool) (hb : b = decide (tr.fits n)) (w : World) : Calls Tryd.prog 25 #[.int .i64 n] w fun e w' => e = .returned (.bool b) ∧ w = w' := by
  subst hb
  by_cases h0 : 0 ≤ n
  · by_cases h1 : n ≤ 2048
    · have HE : Hid (decide (tr.fits n) = true) := Lib.hid (decide_eq_true ⟨h0, h1⟩)
      have h0' : decide (n ≥ 0) = true := by simp; omega
      have h1' : decide (n ≤ 2048) = true := by simp; omega
      go_enter Tryd.func25, Tryd.ntmps25
      go_wp2
      go_ret
      exact ⟨by rw [HE.out]; rfl, rfl⟩
    · have HE : Hid (decide (tr.fits n) = false) := Lib.hid (decide_eq_false fun h => by have := h.1; have := h.2; omega)
      have h0' : decide (n ≥ 0) = true := by simp; omega
      have h1' : decide (n ≤ 2048) = false := by simp; omega
      go_enter Tryd.func25, Tryd.ntmps25
      go_wp2
      go_ret
      exact ⟨by rw [HE.out]; rfl, rfl⟩
  · have HE : Hid (decide (tr.fits n) = false) := Lib.hid (decide_eq_false fun h => by have := h.1; have := h.2; omega)
    have h0' : decide (n ≥ 0) = false := by simp; omega
    have h0'' : decide (0 ≤ n) = false := by simp; omega
    go_enter Tryd.func25, Tryd.ntmps25
    go_wp2
    go_ret
    exact ⟨by rw [HE.out]; rfl, rfl⟩
/-- bytes written -/
theorem WdAt.bytes {w : World} {B Wb M n base : Nat} {W : List tr.Item} {g c : Nat} {ia : List ItA} (h : WdAt w B Wb M W g c ia) (hn : tr.Live W n) {D : List UInt8} (hD : D.length ≤ 2048) {A' : Option Addr} {c' : Nat} (ho : Own w base 5 1 A' D.length c' (D.map u8v)) (hb : B ≤ base ∧ Wb < base ∧ g < base) :
    ROut w (w.setCell ⟨g, n * 6 + 3, none⟩ (.slice A' D.length c')) B Wb M (W.set n ((tr.it W n).wd D)) g := by
  obtain ⟨A, q, hi, _⟩ := h.at hn.lt
  have hs := Stays.set w g (n * 6 + 3) (.slice A' D.length c')
  refine h.turn hn.lt (x := (tr.it W n).wd D) (A' := A') (c' := c') ?_ (h.inv.same hn hn rfl rfl rfl hD rfl) hs ?_
  · have h2 := h.own.setAt (j := n * 6 + 3) (.slice A' D.length c')
    rw [← flatMap_set1 (f := ItA.cells) (size := 6) (fun _ => rfl) ia n _ ⟨(tr.it W n).wd D, A', c'⟩ 3 (.slice A' D.length c') hi (by omega) rfl] at h2
    exact h2
  · exact (ho.stays hs fun k hk e => by have := (ho.lt k hk).1; omega).base_le hb.1
theorem tr.zeros_self {D : List UInt8} {n : Nat} (h : n ≤ D.length) : tr.zeros D n = D := by unfold tr.zeros; rw [show n - D.length = 0 by omega]; simp
theorem tr.zeros_succ {D : List UInt8} {m : Nat} (h : D.length ≤ m) : tr.zeros D (m + 1) = tr.zeros D m ++ [0] := by
  unfold tr.zeros
  rw [show m + 1 - D.length = (m - D.length) + 1 by omega, List.replicate_succ', ← List.append_assoc]
/-- so many bytes put -/
def tr.putTo (Z : List UInt8) (p : Nat) (x : List UInt8) (i : Nat) : List UInt8 := Z.take p ++ x.take i ++ Z.drop (p + i)
theorem tr.putTo_len {Z : List UInt8} {p : Nat} {x : List UInt8} {i : Nat} (h : p + x.length ≤ Z.length) (hi : i ≤ x.length) : (tr.putTo Z p x i).length = Z.length := by
  unfold tr.putTo
  rw [List.length_append, List.length_append, List.length_take, List.length_take, List.length_drop]
  omega
theorem tr.putTo_zero (Z : List UInt8) (p : Nat) (x : List UInt8) : tr.putTo Z p x 0 = Z := by
  unfold tr.putTo
  rw [List.take_zero, List.append_nil, Nat.add_zero, List.take_append_drop]
theorem tr.putTo_succ {Z : List UInt8} {p : Nat} {x : List UInt8} {i : Nat} (h : p + x.length ≤ Z.length) (hi : i < x.length) : tr.putTo Z p x (i + 1) = (tr.putTo Z p x i).set (p + i) (x.getD i 0) := by
  unfold tr.putTo
  have hz : p + i < Z.length := by omega
  rw [List.set_append_right _ _ (by rw [List.length_append, List.length_take, List.length_take]; omega), List.length_append, List.length_take, List.length_take, show p + i - (min p Z.length + min i x.length) = 0 by omega, List.drop_eq_getElem_cons hz, List.set_cons_zero]
  have e : x.take (i + 1) = x.take i ++ [x.getD i 0] := by
    rw [List.take_add_one, List.getElem?_eq_getElem hi, List.getD_eq_getElem?_getD, List.getElem?_eq_getElem hi]
    rfl
  rw [e]
  simp [Nat.add_assoc]
set_option maxRecDepth 100000 in
set_option maxHeartbeats 8000000 in
theorem ref_Act_put {B Wb M : Nat} {W : List tr.Item} {g c0 : Nat} {ia : List ItA} (pl_ tl : List UInt8) (aa an : Int) (ad : List UInt8) (X : Option Addr) (xc : Nat) (w : World) (h : WdAt w B Wb M W g c0 ia) (hM : M ≤ 1000000) (hpl : pl_.length ≤ 140737488351232) (htl : tl.length ≤ 140737488351232) {names : List (List UInt8)} (hw : pa.walk [] pl_ = .ok names) {n : Nat} (hf : tr.find W true 8 names = .ok n) (hc : (tr.it W n).kind = 2) (haa : IntOk aa) (han : IntOk an) (hX : SlRep Rep.u8 w (· < w.heap.size) ad X xc) (had : ad.length ≤ 140737488351232) :
    Calls Tryd.prog 10 #[.pointer (some ⟨Wb, 0, none⟩), .agg #[.int .i64 3, .string (strOf pl_), .string (strOf tl), .int .i64 aa, .int .i64 an, .slice X ad.length xc]] w (RAct w B Wb (M + 1) g (tr.act W ⟨3, strOf pl_, strOf tl, aa, an, ad⟩)) := by
  have HX := RBx.new w 3 pl_ tl aa an X ad.length xc
  obtain ⟨w1, hw1⟩ : ∃ w1, w1 = ((w.alloc (.cells #[.int .i64 3, .string (strOf pl_), .string (strOf tl), .int .i64 aa, .int .i64 an, .slice X ad.length xc] 36)).alloc (.cells #[.int .i64 0, .int .i64 0, .int .i64 0, .slice none 0 0, .slice none 0 0] 31)) := ⟨_, rfl⟩
  rw [← hw1] at HX
  have HX := Lib.hid HX
  have H := Lib.hid h
  have hfew := h.few
  have hd' := HX.out.act.get
  have lh := HX.out.act.lt
  have HACT := Lib.hid (tr.act_on (W := W) (k := 3) (tl := tl) (at_ := aa) (count := an) (data := ad) (by decide) (fun e => absurd e.1 (by decide)) hw)
  have HNR : Hid (¬ WF Wb g (w.heap.size + 1)) := Lib.hid (fun e => by have := (h.lt e).2; omega)
  have HCS : Hid (∀ W' c, tr.act W ⟨3, strOf pl_, strOf tl, aa, an, ad⟩ = (W', tr.seen c) → ∀ w4 w5 w', Below w1.heap.size w1 w4 → ROut w4 w5 B Wb (M + 1) W' g → Stays w5 w' (fun k => k = w.heap.size + 1) → RAct w B Wb (M + 1) g (tr.act W ⟨3, strOf pl_, strOf tl, aa, an, ad⟩) (.returned (.agg #[.int .i64 c, .int .i64 0, .int .i64 0, .slice none 0 0, .slice none 0 0])) w') := Lib.hid (fun W' c he w4 w5 w' hb hT hs => by
    rw [he]
    exact RAct.plain (by omega) (tr.seen c) rfl rfl (hT.lift (HX.out.low.trans (hb.mono HX.out.low.size))) ((HX.out.seen.next hb).stays hT.stays HNR.out) hs)
  have HCE : Hid (∀ c, tr.act W ⟨3, strOf pl_, strOf tl, aa, an, ad⟩ = (W, tr.seen c) → ∀ w4 w', Below w1.heap.size w1 w4 → Stays w4 w' (fun k => k = w.heap.size + 1) → RAct w B Wb (M + 1) g (tr.act W ⟨3, strOf pl_, strOf tl, aa, an, ad⟩) (.returned (.agg #[.int .i64 c, .int .i64 0, .int .i64 0, .slice none 0 0, .slice none 0 0])) w') := Lib.hid (fun c he w4 w' hb hs =>
    HCS.out W c he w4 w4 w' hb (ROut.same (H.out.next (HX.out.low.trans (hb.mono HX.out.low.size))) (bself _) (Nat.le_succ M)) hs)
  have HCL := Lib.hid (fun w2 => ref_PathClean pl_ w2 hpl)
  rw [hw] at HCL
  have HCL : Hid (∀ w2, Calls Tryd.prog 20 #[.string (strOf pl_)] w2 fun e w' => Below w2.heap.size w2 w' ∧ ∃ A2 c2, e = .returned (.tuple #[.slice A2 names.length c2, .int .i64 0]) ∧ NmRep w' A2 c2 names) := Lib.hid (fun w2 => (HCL.out w2).mono fun e w' ⟨A2, c2, h1, h2, h3⟩ => ⟨h3, A2, c2, h1, (NmRep.of h2).2⟩)
  have HNM := Lib.hid (pa.walk_nms hw Nms.nil)
  have HLOW : Hid (∀ w2, Below w1.heap.size w1 w2 → Below w.heap.size w w2) := Lib.hid (fun w2 hb => HX.out.low.trans (hb.mono HX.out.low.size))
  have HFI := Lib.hid (fun fo w2 A2 c2 (hb : Below w1.heap.size w1 w2) (hn : NmRep w2 A2 c2 names) => ref_Find names A2 c2 fo w2 (h.next (HLOW.out w2 hb)) hM hn HNM.out)
  have HXD := Lib.hid (fun w2 (hb : Below w.heap.size w w2) => hX.next hb)
  clear h hX
  have HACT : Hid (tr.act W ⟨3, strOf pl_, strOf tl, aa, an, ad⟩ = tr.atN W n ⟨3, strOf pl_, strOf tl, aa, an, ad⟩) := Lib.hid (by rw [HACT.out, if_neg (by decide), if_neg (by decide), if_neg (by decide), if_neg (by decide), if_neg (by decide), hf])
  have HFI : Hid (∀ w2 A2 c2, Below w1.heap.size w1 w2 → NmRep w2 A2 c2 names → Calls Tryd.prog 22 #[.pointer (some ⟨Wb, 0, none⟩), .slice A2 names.length c2, .bool true] w2 fun e w' => Below w2.heap.size w2 w' ∧ e = .returned (.tuple #[.int .i64 (n : Int), .int .i64 0])) := Lib.hid (fun w2 A2 c2 hb hn => by
    have h := HFI.out true w2 A2 c2 hb hn
    rw [hf] at h
    exact h)
  have hlive := (tr.find_live H.out.inv hf).1
  have hnlt := hlive.lt
  have hnlt' : (n : Int) < (W.length : Int) := by omega
  have hc1 : ((tr.it W n).kind == 1) = false := by rw [hc]; rfl
  have HFD : Hid (tr.act W ⟨3, strOf pl_, strOf tl, aa, an, ad⟩ = (W.set n ((tr.it W n).wd (tr.fdo (tr.it W n).data ⟨3, strOf pl_, strOf tl, aa, an, ad⟩).1), (tr.fdo (tr.it W n).data ⟨3, strOf pl_, strOf tl, aa, an, ad⟩).2)) := Lib.hid (by rw [HACT.out]; unfold tr.atN; rw [if_neg (by simp), if_neg (by simp), if_neg (by rw [hc]; decide)])
  have hwd : ∀ c, (W.set n ((tr.it W n).wd (tr.it W n).data), c) = (W, (c : Seen)) := fun c => by
    have e : (tr.it W n).wd (tr.it W n).data = tr.it W n := rfl
    rw [e, show W.set n (tr.it W n) = W from by
      apply List.ext_getElem?
      intro i
      rw [List.getElem?_set]
      split
      · next e => subst e; rw [tr.it_at hnlt]
      · rfl]
  have HDL := Lib.hid (H.out.inv.data n hlive)
  by_cases h1 : tr.fits aa
  rotate_left
  · have HE := Lib.hid (HCE.out 2 (by rw [HFD.out, tr.fdo_range (.inl ⟨(show (3 : Int) ≠ 5 by decide), h1⟩)]; exact hwd _))
    have HFT := Lib.hid (fun wx => ref_fits aa false (by simp [h1]) wx)
    clear HACT HCS HCE HFD hwd hc hf h1 hlive
    go_enter Tryd.func10, Tryd.ntmps10
    go_upto_region 1 with (fail)
    rw [← hw1]
    clear hw1
    go_wp2_with (first
      | (go_at_call 20; ((with_reducible refine (HCL.out _).mono ?_); rintro e w2 ⟨hb2, A2, c2, rfl, hn2⟩; have HB2 := Lib.hid hb2; have HN2 := Lib.hid hn2; have hd2 := (HX.out.act.next hb2).get; have lh2 := (HX.out.act.next hb2).lt; have HZ2 := Lib.hid (HX.out.seen.next hb2); have zd2 := ref.z_get HZ2.out; have ze2 := HZ2.out.frozen; have lz2 := HZ2.out.lt; clear hb2 hn2))
      | (go_at_call 22; ((with_reducible refine (HFI.out w2 A2 c2 HB2.out HN2.out).mono ?_); rintro e w3 ⟨hb3, rfl⟩; have HB3 := Lib.hid (bnext HB2.out hb3); have hd3 := (HX.out.act.next HB3.out).get; have lh3 := (HX.out.act.next HB3.out).lt; have HZ3 := Lib.hid (HX.out.seen.next HB3.out); have zd3 := ref.z_get HZ3.out; have ze3 := HZ3.out.frozen; have lz3 := HZ3.out.lt; have hr3 := (H.out.next (HLOW.out _ HB3.out)).row; have hgl3 := ((H.out.next (HLOW.out _ HB3.out)).lt (.inr rfl)).2; have hWl3 := ((H.out.next (HLOW.out _ HB3.out)).lt (.inl rfl)).2; obtain ⟨A7, c7, i7, q0, q1, q2, q3, q4, q5, q6⟩ := (H.out.next (HLOW.out _ HB3.out)).at hnlt; clear hb3 i7 q6))
      | (go_at_call 25; ((with_reducible refine (HFT.out _).mono ?_); rintro e w4 ⟨rfl, rfl⟩))
      | fail)
    refine bodyPost_ret (v := .agg #[.int .i64 2, .int .i64 0, .int .i64 0, .slice none 0 0, .slice none 0 0]) (by simp [results, Tryd.results10, go_sem, *]) rfl (HE.out _ _ HB3.out ?_)
    exact Stays.fiveS _ _ _ _ _ _ _
  · have HFT := Lib.hid (fun wx => ref_fits aa true (by simp [h1]) wx)
    obtain ⟨p, rfl⟩ : ∃ p : Nat, aa = p := ⟨aa.toNat, by have := h1.1; omega⟩
    have hp : p ≤ 2048 := by have := h1.2; omega
    have hbad : ¬ (((3 : Int) ≠ 5 ∧ ¬ tr.fits (p : Int)) ∨ ((3 : Int) ≠ 3 ∧ ¬ tr.fits an)) := fun h => by
      rcases h with h | h
      · exact h.2 h1
      · exact h.1 rfl
    have hw1' : IntKind.i64.wrap ((p : Int) + (ad.length : Int)) = (p : Int) + (ad.length : Int) := IntWalk.i64_in _ (by omega)
    by_cases hov : 2048 < p + ad.length
    · have HE := Lib.hid (HCE.out 11 (by
        have e : tr.fdo (tr.it W n).data ⟨3, strOf pl_, strOf tl, p, an, ad⟩ = ((tr.it W n).data, tr.seen 11) := by unfold tr.fdo; rw [if_neg hbad, if_pos rfl, if_pos (by show (2048 : Int) < (p : Int) + (ad.length : Int); omega)]
        rw [HFD.out, e]
        exact hwd _))
      have hov' : (2048 : Int) < (p : Int) + (ad.length : Int) := by omega
      clear HACT HCS HCE HFD hwd hc hf h1 hlive hbad hov
      go_enter Tryd.func10, Tryd.ntmps10
      go_upto_region 1 with (fail)
      rw [← hw1]
      clear hw1
      go_wp2_with (first
        | (go_at_call 20; ((with_reducible refine (HCL.out _).mono ?_); rintro e w2 ⟨hb2, A2, c2, rfl, hn2⟩; have HB2 := Lib.hid hb2; have HN2 := Lib.hid hn2; have hd2 := (HX.out.act.next hb2).get; have lh2 := (HX.out.act.next hb2).lt; have HZ2 := Lib.hid (HX.out.seen.next hb2); have zd2 := ref.z_get HZ2.out; have ze2 := HZ2.out.frozen; have lz2 := HZ2.out.lt; clear hb2 hn2))
        | (go_at_call 22; ((with_reducible refine (HFI.out w2 A2 c2 HB2.out HN2.out).mono ?_); rintro e w3 ⟨hb3, rfl⟩; have HB3 := Lib.hid (bnext HB2.out hb3); have hd3 := (HX.out.act.next HB3.out).get; have lh3 := (HX.out.act.next HB3.out).lt; have HZ3 := Lib.hid (HX.out.seen.next HB3.out); have zd3 := ref.z_get HZ3.out; have ze3 := HZ3.out.frozen; have lz3 := HZ3.out.lt; have hr3 := (H.out.next (HLOW.out _ HB3.out)).row; have hgl3 := ((H.out.next (HLOW.out _ HB3.out)).lt (.inr rfl)).2; have hWl3 := ((H.out.next (HLOW.out _ HB3.out)).lt (.inl rfl)).2; obtain ⟨A7, c7, i7, q0, q1, q2, q3, q4, q5, q6⟩ := (H.out.next (HLOW.out _ HB3.out)).at hnlt; clear hb3 i7 q6))
        | (go_at_call 25; ((with_reducible refine (HFT.out _).mono ?_); rintro e w4 ⟨rfl, rfl⟩))
        | fail)
      refine bodyPost_ret (v := .agg #[.int .i64 11, .int .i64 0, .int .i64 0, .slice none 0 0, .slice none 0 0]) (by simp [results, Tryd.results10, go_sem, *]) rfl (HE.out _ _ HB3.out ?_)
      exact Stays.fiveS _ _ _ _ _ _ _
    · have hov' : ¬ (2048 : Int) < (p : Int) + (ad.length : Int) := by omega
      have HPUT : Hid (tr.fdo (tr.it W n).data ⟨3, strOf pl_, strOf tl, p, an, ad⟩ = (tr.putD (tr.it W n).data p ad, ⟨0, 0, ((tr.putD (tr.it W n).data p ad).length : Int), [], []⟩)) := Lib.hid (by
        unfold tr.fdo
        rw [if_neg hbad, if_pos rfl, if_neg (by show ¬ (2048 : Int) < (p : Int) + (ad.length : Int); omega)]
        rfl)
      have HFIN : Hid (∀ w5 w' base A' c', Below w1.heap.size w1 w5 → w1.heap.size ≤ base → Own w5 base 5 1 A' (tr.putD (tr.it W n).data p ad).length c' ((tr.putD (tr.it W n).data p ad).map u8v) → Stays (w5.setCell ⟨g, n * 6 + 3, none⟩ (.slice A' (tr.putD (tr.it W n).data p ad).length c')) w' (fun k => k = w.heap.size + 1) → RAct w B Wb (M + 1) g (tr.act W ⟨3, strOf pl_, strOf tl, p, an, ad⟩) (.returned (.agg #[.int .i64 0, .int .i64 0, .int .i64 ((tr.putD (tr.it W n).data p ad).length : Int), .slice none 0 0, .slice none 0 0])) w') := Lib.hid (fun w5 w' base A' c' hb hba ho hs => by
        have hlen : (tr.putD (tr.it W n).data p ad).length ≤ 2048 := by
          unfold tr.putD
          have := HDL.out
          rw [List.length_append, List.length_append, List.length_take, List.length_drop, tr.zeros_len]
          omega
        have hsz := HX.out.size
        have hg := (H.out.lt (.inr rfl)).2
        have hW := (H.out.lt (.inl rfl)).2
        have hlo := H.out.lo
        obtain ⟨g', c', ia', r1, r2, r3⟩ := (H.out.next (HLOW.out w5 hb)).bytes hlive hlen ho ⟨by omega, by omega, by omega⟩
        have hT : ROut w5 (w5.setCell ⟨g, n * 6 + 3, none⟩ (.slice A' (tr.putD (tr.it W n).data p ad).length _)) B Wb (M + 1) (W.set n ((tr.it W n).wd (tr.putD (tr.it W n).data p ad))) g := ⟨g', c', ia', r1.mono (Nat.le_succ M), r2, r3⟩
        rw [HFD.out, HPUT.out]
        exact RAct.plain (by omega) ⟨0, 0, ((tr.putD (tr.it W n).data p ad).length : Int), [], []⟩ rfl rfl (hT.lift (HLOW.out w5 hb)) ((HX.out.seen.next hb).stays hT.stays HNR.out) hs)
      obtain ⟨nn, hnn⟩ : ∃ nn, nn = p + ad.length := ⟨_, rfl⟩
      have hnn' : (p : Int) + (ad.length : Int) = (nn : Int) := by omega
      have hn2 : nn ≤ 2048 := by omega
      have HNN := Lib.hid hnn
      have HPD : Hid (tr.putD (tr.it W n).data p ad = tr.putTo (tr.zeros (tr.it W n).data nn) p ad ad.length) := Lib.hid (by unfold tr.putD tr.putTo; rw [hnn, List.take_length])
      have hdl := HDL.out
      clear HACT HCS HCE HFD hwd hc hf h1 hbad hov HPUT hnn
      go_enter Tryd.func10, Tryd.ntmps10
      go_upto_region 1 with (fail)
      rw [← hw1]
      clear hw1
      go_upto_region 71 with (first
        | (go_at_call 20; ((with_reducible refine (HCL.out _).mono ?_); rintro e w2 ⟨hb2, A2, c2, rfl, hn2⟩; have HB2 := Lib.hid hb2; have HN2 := Lib.hid hn2; have hd2 := (HX.out.act.next hb2).get; have lh2 := (HX.out.act.next hb2).lt; have HZ2 := Lib.hid (HX.out.seen.next hb2); have zd2 := ref.z_get HZ2.out; have ze2 := HZ2.out.frozen; have lz2 := HZ2.out.lt; clear hb2 hn2))
        | (go_at_call 22; ((with_reducible refine (HFI.out w2 A2 c2 HB2.out HN2.out).mono ?_); rintro e w3 ⟨hb3, rfl⟩; have HB3 := Lib.hid (bnext HB2.out hb3); have hd3 := (HX.out.act.next HB3.out).get; have lh3 := (HX.out.act.next HB3.out).lt; have HZ3 := Lib.hid (HX.out.seen.next HB3.out); have zd3 := ref.z_get HZ3.out; have ze3 := HZ3.out.frozen; have lz3 := HZ3.out.lt; have hr3 := (H.out.next (HLOW.out _ HB3.out)).row; have hgl3 := ((H.out.next (HLOW.out _ HB3.out)).lt (.inr rfl)).2; have hWl3 := ((H.out.next (HLOW.out _ HB3.out)).lt (.inl rfl)).2; obtain ⟨A7, c7, i7, q0, q1, q2, q3, q4, q5, q6⟩ := (H.out.next (HLOW.out _ HB3.out)).at hnlt; have HQ6 := Lib.hid q6; clear hb3 i7 q6))
        | (go_at_call 25; ((with_reducible refine (HFT.out _).mono ?_); rintro e w4 ⟨rfl, rfl⟩))
        | fail)
      have HWS : Hid (w1.heap.size ≤ w3.heap.size) := Lib.hid HB3.out.size
      have HCE7 : Hid (Cells w3 A7 ((tr.it W n).data.map u8v)) := Lib.hid (SlRep.cells_u8 HQ6.out)
      go_upto_region 72 with (first
        | (at_builtin; refine wp_app _ rfl _ _ _ rfl elemU8 w3.heap.size none 0 0 [] rfl (Own.nil _ _ _ _) A7 (tr.it W n).data.length c7 ((tr.it W n).data.map u8v) rfl (by rw [List.length_map, Nat.mul_one]) HCE7.out (oneCell_u8 _) (by omega) (by unfold maxLen; omega) (Nat.le_refl _) ?_; intro A8 c8 w8 hO8 hg8; have HO8 : Hid (Own w8 w3.heap.size 5 1 A8 (tr.it W n).data.length c8 ((tr.it W n).data.map u8v)) := Lib.hid (by simpa using hO8); have HB8 : Hid (Below w3.heap.size w3 w8) := Lib.hid (hg8.below (Nat.le_refl _) (fun j hj => by cases hj)); clear hO8 hg8; rw [Nat.zero_add])
        | fail)
      have HAC := Lib.hid (fun wx (hb : Below w3.heap.size w3 wx) => HX.out.act.next (HB3.out.trans (hb.mono HB3.out.size)))
      have HSE := Lib.hid (fun wx (hb : Below w3.heap.size w3 wx) => HX.out.seen.next (HB3.out.trans (hb.mono HB3.out.size)))
      have HWD := Lib.hid (fun wx (hb : Below w3.heap.size w3 wx) => H.out.next (HLOW.out wx (HB3.out.trans (hb.mono HB3.out.size))))
      have HXW := Lib.hid (fun wx (hb : Below w3.heap.size w3 wx) => HXD.out wx (HLOW.out wx (HB3.out.trans (hb.mono HB3.out.size))))
      have hbase : w1.heap.size ≤ w3.heap.size := HWS.out
      clear hd' lh hd2 lh2 zd2 ze2 lz2 hd3 lh3 zd3 ze3 lz3 hr3 hgl3 hWl3 q0 q1 q2 q3 q4 q5
      go_loopw [16] (fun s16 wr => ∃ (m : Nat) (Ab : Option Addr) (cb : Nat), s16 = .slice Ab m cb ∧ (tr.it W n).data.length ≤ m ∧ m ≤ max (tr.it W n).data.length nn ∧ Hid (Below w3.heap.size w3 wr ∧ Own wr w3.heap.size 5 1 Ab m cb ((tr.zeros (tr.it W n).data m).map u8v))) (fun s16 _ => nn - (match s16 with | .slice _ m _ => m | _ => 0))
      case atStart => exact ⟨_, A8, c8, rfl, Nat.le_refl _, Nat.le_max_left _ _, Lib.hid ⟨HB8.out, by rw [tr.zeros_self (Nat.le_refl _)]; exact HO8.out⟩⟩
      case round =>
        obtain ⟨m, Ab, cb, rfl, hm1, hm2, HJ⟩ := hrel
        rename World => wr
        have hd4 := (HAC.out wr HJ.out.1).get
        have lh4 := (HAC.out wr HJ.out.1).lt
        have hws : w3.heap.size ≤ wr.heap.size := HJ.out.1.size
        by_cases hmn : m < nn
        · have hmn' : (m : Int) < (nn : Int) := by omega
          have HO := Lib.hid HJ.out.2
          have HB := Lib.hid HJ.out.1
          have HZS := Lib.hid (tr.zeros_succ (D := (tr.it W n).data) hm1)
          clear HJ
          go_wp2_with (first
            | (at_builtin; refine wp_app _ rfl _ _ _ rfl elemU8 w3.heap.size Ab m cb _ rfl (HO.out.alloc _) _ 1 1 [.int .u8 0] rfl rfl (Cells.newAt _ _ _ (by simp)) (by simp [Value.oneCell']) (by omega) (by unfold maxLen; omega) (by simp only [World.size_alloc]; omega) ?_; intro A6 c6 w6 hO6 hg6; have HO6 := Lib.hid hO6; have HG6 := Lib.hid hg6; clear hO6 hg6)
            | fail)
          go_roundw
          case rel =>
            refine ⟨m + 1, A6, c6, rfl, by omega, by omega, Lib.hid ⟨(balloc HB.out _).trans (HG6.out.below (by simp only [World.size_alloc]; omega) (fun j hj => (HO.out.lt j hj).1)), ?_⟩⟩
            rw [HZS.out, List.map_append]
            exact HO6.out
          case measure => simp; omega
        · have hmn' : ¬ (m : Int) < (nn : Int) := by omega
          have HZQ : Hid (tr.zeros (tr.it W n).data m = tr.zeros (tr.it W n).data nn ∧ m = (tr.zeros (tr.it W n).data nn).length) := Lib.hid (by
            rw [tr.zeros_len]
            rcases Nat.le_total nn (tr.it W n).data.length with h | h
            · have : m = (tr.it W n).data.length := by omega
              subst this
              exact ⟨by rw [tr.zeros_self (Nat.le_refl _), tr.zeros_self h], by omega⟩
            · have : m = nn := by omega
              subst this
              exact ⟨rfl, by omega⟩)
          obtain ⟨Z, hZ⟩ : ∃ Z, Z = tr.zeros (tr.it W n).data nn := ⟨_, rfl⟩
          rw [← hZ] at HPD HZQ
          have hzl : p + ad.length ≤ Z.length ∧ Z.length ≤ 2048 := by rw [hZ, tr.zeros_len, ← HNN.out]; omega
          have HO := Lib.hid HJ.out.2
          rw [HZQ.out.1] at HO
          obtain rfl : m = Z.length := HZQ.out.2
          have HB := Lib.hid HJ.out.1
          have hlz := tr.putTo_len (Z := Z) (p := p) (x := ad) (i := ad.length) hzl.1 (Nat.le_refl _)
          rw [HPD.out, hlz] at HFIN
          clear HJ HZQ hZ hm1 hm2 hlz HPD
          go_wp2
          go_loopw [280] (fun s280 wq => ∃ i : Nat, i ≤ ad.length ∧ s280 = .int .i64 (i : Int) ∧ Hid (Below w3.heap.size w3 wq ∧ Own wq w3.heap.size 5 1 Ab Z.length cb ((tr.putTo Z p ad i).map u8v))) (fun s280 _ => ad.length - (intOf s280).toNat)
          case atStart => exact ⟨0, by omega, rfl, Lib.hid ⟨HB.out, by rw [tr.putTo_zero]; exact HO.out⟩⟩
          case round =>
            obtain ⟨i, hi, rfl, HK⟩ := hrel
            rename World => wq
            by_cases hlt : i < ad.length
            · have hlt' : (i : Int) < (ad.length : Int) := by omega
              obtain ⟨bx, ox, rfl, _, hcx⟩ := u8_at (HXW.out wq HK.out.1) hlt
              have hd5 := (HAC.out wq HK.out.1).get
              have lh5 := (HAC.out wq HK.out.1).lt
              have hll := tr.putTo_len (Z := Z) (p := p) (x := ad) (i := i) hzl.1 (Nat.le_of_lt hlt)
              obtain ⟨gb, rfl, hgb1, hgb2, hcb⟩ := HK.out.2.cell (j := p + i) (u := u8v ((tr.putTo Z p ad i).getD (p + i) 0)) (by rw [List.getElem?_map, List.getElem?_eq_getElem (by omega), List.getD_eq_getElem?_getD, List.getElem?_eq_getElem (by omega)]; rfl)
              have hfz := HK.out.2.frozenAt (p + i)
              have HOQ := Lib.hid HK.out.2
              have HBQ := Lib.hid HK.out.1
              have HPS := Lib.hid (tr.putTo_succ (Z := Z) (p := p) (x := ad) (i := i) hzl.1 hlt)
              have hw4 : IntKind.i64.wrap ((p : Int) + (i : Int)) = (p : Int) + (i : Int) := IntWalk.i64_in _ (by omega)
              have hix : (p : Int) + (i : Int) < (Z.length : Int) := by omega
              have hix0 : 0 ≤ (p : Int) + (i : Int) := by omega
              have hixn : ((p : Int) + (i : Int)).toNat = p + i := by omega
              have hwn : w.heap.size ≠ gb := by have := HX.out.size; omega
              generalize ad.getD i 0 = y at *
              clear HK hll
              go_wp2
              go_roundw
              case rel =>
                refine ⟨i + 1, by omega, by go_num, Lib.hid ⟨bset HBQ.out hgb1 _, ?_⟩⟩
                rw [HPS.out, List.map_set]
                exact HOQ.out.setAt _
              case measure => simp [intOf]; omega
            · obtain rfl : i = ad.length := by omega
              obtain ⟨_, _, _, q0, q1, q2, q3, q4, q5, _⟩ := (HWD.out wq HK.out.1).at hnlt
              have f3 := (HWD.out wq HK.out.1).frozen (n * 6 + 3)
              have hgl := ((HWD.out wq HK.out.1).lt (.inr rfl)).2
              have zd5 := ref.z_get (HSE.out wq HK.out.1)
              have ze5 := (HSE.out wq HK.out.1).frozen
              have lz5 := (HSE.out wq HK.out.1).lt
              have hgR : g ≠ w.heap.size + 1 := fun e => HNR.out (.inr e.symm)
              have HE := Lib.hid (fun w' hs => HFIN.out wq w' w3.heap.size Ab cb (HB3.out.trans (HK.out.1.mono HB3.out.size)) hbase HK.out.2 hs)
              clear HK
              go_wp2
              refine bodyPost_ret (v := .agg #[.int .i64 0, .int .i64 0, .int .i64 (Z.length : Int), .slice none 0 0, .slice none 0 0]) (by simp [results, Tryd.results10, go_sem, *]) rfl (HE.out _ ?_)
              exact Stays.fiveS _ _ _ _ _ _ _
end Go.Proofs.YtlcjdlnhniemcaaDoor
