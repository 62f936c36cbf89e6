/- The reference of tree: rename. No condition. -/
import Derived.Test.YtlcjdlnhniemcaaDoorTreeR9
import Derived.Test.YtlcjdlnhniemcaaDoorTree10
namespace Go.Proofs.YtlcjdlnhniemcaaDoor
open Go.RowKit
set_option linter.unusedSimpArgs false
set_option linter.unusedVariables false

open Classical in
noncomputable def tr.depth (W : List tr.Item) (i : Nat) : Nat := if h : ∃ l, tr.Path W i l then h.choose.length else 0
theorem tr.depth_of {W : List tr.Item} {i : Nat} {l : List (List UInt8)} (h : tr.Path W i l) : tr.depth W i = l.length := by
  have hx : ∃ l, tr.Path W i l := ⟨l, h⟩
  unfold tr.depth
  rw [dif_pos hx, hx.choose_spec.unique h]
noncomputable def tr.deepZ (W : List tr.Item) (z : Int) : Nat := if z < 0 then 0 else tr.depth W z.toNat + 1
/-- on the way up -/
def tr.Up (W : List tr.Item) (n d : Nat) (z : Int) : Prop := (z = -1 ∧ ¬ tr.On W n d) ∨ ∃ i : Nat, z = i ∧ tr.Live W i ∧ (tr.On W n d ↔ tr.On W n i)
theorem tr.Up.next {W : List tr.Item} {n d i : Nat} (hI : tr.Inv W) (hn : 0 < n) (hi : tr.Live W i) (h : tr.On W n d ↔ tr.On W n i) (hne : i ≠ n) : tr.Up W n d (tr.it W i).par ∧ tr.deepZ W (tr.it W i).par < tr.deepZ W (i : Int) := by
  have hi0 : tr.deepZ W (i : Int) = tr.depth W i + 1 := by unfold tr.deepZ; rw [if_neg (by omega), Int.toNat_natCast]
  rcases Nat.eq_zero_or_pos i with e | e
  · subst e
    refine ⟨.inl ⟨hI.root.2.2, fun ho => ?_⟩, ?_⟩
    · have := tr.on_root (h.1 ho)
      omega
    · rw [hi0, hI.root.2.2]
      unfold tr.deepZ
      rw [if_pos (by decide)]
      omega
  · obtain ⟨p, e1, e2, e3⟩ := hI.par i e hi
    refine ⟨.inr ⟨p, e1, e2, h.trans (tr.on_up e hi e1 hne)⟩, ?_⟩
    obtain ⟨l, hl⟩ := hI.path p e2
    rw [hi0, e1, tr.depth_of (.step e hi e1 hl)]
    unfold tr.deepZ
    rw [if_neg (by omega), Int.toNat_natCast, tr.depth_of hl, List.length_append, List.length_singleton]
    omega
set_option maxRecDepth 100000 in
set_option maxHeartbeats 8000000 in
theorem ref_Act_mv {B Wb M : Nat} {W : List tr.Item} {g c0 : Nat} {ia : List ItA} (pl_ tl : List UInt8) (aa an : Int) (ad : List UInt8) (X : Option Addr) (xc : Nat) (w : World) (h : WdAt w B Wb M W g c0 ia) (hM : M ≤ 1000000) (hpl : pl_.length ≤ 140737488351232) (htl : tl.length ≤ 140737488351232) {names : List (List UInt8)} (hw : pa.walk [] pl_ = .ok names) :
    Calls Tryd.prog 10 #[.pointer (some ⟨Wb, 0, none⟩), .agg #[.int .i64 9, .string (strOf pl_), .string (strOf tl), .int .i64 aa, .int .i64 an, .slice X ad.length xc]] w (RAct w B Wb (M + 1) g (tr.act W ⟨9, strOf pl_, strOf tl, aa, an, ad⟩)) := by
  have HX := RBx.new w 9 pl_ tl aa an X ad.length xc
  obtain ⟨w1, hw1⟩ : ∃ w1, w1 = ((w.alloc (.cells #[.int .i64 9, .string (strOf pl_), .string (strOf tl), .int .i64 aa, .int .i64 an, .slice X ad.length xc] 36)).alloc (.cells #[.int .i64 0, .int .i64 0, .int .i64 0, .slice none 0 0, .slice none 0 0] 31)) := ⟨_, rfl⟩
  rw [← hw1] at HX
  have HX := Lib.hid HX
  have H := Lib.hid h
  have hfew := h.few
  have hd' := HX.out.act.get
  have lh := HX.out.act.lt
  have HACT := Lib.hid (tr.act_on (W := W) (k := 9) (tl := tl) (at_ := aa) (count := an) (data := ad) (by decide) (fun e => absurd e.1 (by decide)) hw)
  have HNR : Hid (¬ WF Wb g (w.heap.size + 1)) := Lib.hid (fun e => by have := (h.lt e).2; omega)
  have HCS : Hid (∀ W' c, tr.act W ⟨9, strOf pl_, strOf tl, aa, an, ad⟩ = (W', tr.seen c) → ∀ w4 w5 w', Below w1.heap.size w1 w4 → ROut w4 w5 B Wb (M + 1) W' g → Stays w5 w' (fun k => k = w.heap.size + 1) → RAct w B Wb (M + 1) g (tr.act W ⟨9, strOf pl_, strOf tl, aa, an, ad⟩) (.returned (.agg #[.int .i64 c, .int .i64 0, .int .i64 0, .slice none 0 0, .slice none 0 0])) w') := Lib.hid (fun W' c he w4 w5 w' hb hT hs => by
    rw [he]
    exact RAct.plain (by omega) (tr.seen c) rfl rfl (hT.lift (HX.out.low.trans (hb.mono HX.out.low.size))) ((HX.out.seen.next hb).stays hT.stays HNR.out) hs)
  have HCE : Hid (∀ c, tr.act W ⟨9, strOf pl_, strOf tl, aa, an, ad⟩ = (W, tr.seen c) → ∀ w4 w', Below w1.heap.size w1 w4 → Stays w4 w' (fun k => k = w.heap.size + 1) → RAct w B Wb (M + 1) g (tr.act W ⟨9, strOf pl_, strOf tl, aa, an, ad⟩) (.returned (.agg #[.int .i64 c, .int .i64 0, .int .i64 0, .slice none 0 0, .slice none 0 0])) w') := Lib.hid (fun c he w4 w' hb hs =>
    HCS.out W c he w4 w4 w' hb (ROut.same (H.out.next (HX.out.low.trans (hb.mono HX.out.low.size))) (bself _) (Nat.le_succ M)) hs)
  have HCL := Lib.hid (fun w2 => ref_PathClean pl_ w2 hpl)
  rw [hw] at HCL
  have HCL : Hid (∀ w2, Calls Tryd.prog 20 #[.string (strOf pl_)] w2 fun e w' => Below w2.heap.size w2 w' ∧ ∃ A2 c2, e = .returned (.tuple #[.slice A2 names.length c2, .int .i64 0]) ∧ NmRep w' A2 c2 names) := Lib.hid (fun w2 => (HCL.out w2).mono fun e w' ⟨A2, c2, h1, h2, h3⟩ => ⟨h3, A2, c2, h1, (NmRep.of h2).2⟩)
  have HNM := Lib.hid (pa.walk_nms hw Nms.nil)
  have HLOW : Hid (∀ w2, Below w1.heap.size w1 w2 → Below w.heap.size w w2) := Lib.hid (fun w2 hb => HX.out.low.trans (hb.mono HX.out.low.size))
  have HFI := Lib.hid (fun fo w2 A2 c2 (hb : Below w1.heap.size w1 w2) (hn : NmRep w2 A2 c2 names) => ref_Find names A2 c2 fo w2 (h.next (HLOW.out w2 hb)) hM hn HNM.out)
  clear h
  have HREM : Hid (tr.act W ⟨9, strOf pl_, strOf tl, aa, an, ad⟩ = ((tr.rename W names tl).1, tr.seen (tr.rename W names tl).2)) := Lib.hid (by rw [HACT.out, if_neg (by decide), if_neg (by decide), if_neg (by decide), if_neg (by decide)]; exact if_pos rfl)
  have HC2 := Lib.hid (fun w2 => ref_PathClean tl w2 htl)
  by_cases h0 : names = []
  · have HE := Lib.hid (HCE.out 14 (by rw [HREM.out, h0, tr.rename_nil]))
    subst h0
    clear HACT HCS HREM
    go_enter Tryd.func10, Tryd.ntmps10
    go_upto_region 1 with (fail)
    rw [← hw1]
    clear hw1
    go_wp2_with (first
      | (go_at_call 20; ((with_reducible refine (HCL.out _).mono ?_); rintro e w2 ⟨hb2, A2, c2, rfl, hn2⟩; have HB2 := Lib.hid hb2; have HN2 := Lib.hid hn2; have hd2 := (HX.out.act.next hb2).get; have lh2 := (HX.out.act.next hb2).lt; have HZ2 := Lib.hid (HX.out.seen.next hb2); have zd2 := ref.z_get HZ2.out; have ze2 := HZ2.out.frozen; have lz2 := HZ2.out.lt; clear hb2 hn2))
      | fail)
    refine bodyPost_ret (v := .agg #[.int .i64 14, .int .i64 0, .int .i64 0, .slice none 0 0, .slice none 0 0]) (by simp [results, Tryd.results10, go_sem, *]) rfl (HE.out _ _ HB2.out ?_)
    exact Stays.fiveS _ _ _ _ _ _ _
  · have hpos : 0 < names.length := by rcases Nat.eq_zero_or_pos names.length with h | h; exact absurd (List.length_eq_zero_iff.1 h) h0; exact h
    have hne : ((names.length : Int) == 0) = false := beq_eq_false_iff_ne.2 (by omega)
    cases hf : tr.find W false 8 names with
    | error q =>
      have HE := Lib.hid (HCE.out q (by rw [HREM.out, tr.rename_find h0 hf]))
      have HFI : Hid (∀ w2 A2 c2, Below w1.heap.size w1 w2 → NmRep w2 A2 c2 names → Calls Tryd.prog 22 #[.pointer (some ⟨Wb, 0, none⟩), .slice A2 names.length c2, .bool false] w2 fun e w' => Below w2.heap.size w2 w' ∧ e = .returned (.tuple #[.int .i64 0, .int .i64 q])) := Lib.hid (fun w2 A2 c2 hb hn => by
        have h := HFI.out false w2 A2 c2 hb hn
        rw [hf] at h
        exact h)
      have hq : (q != 0) = true := by simpa using tr.find_err_ne hf
      clear HACT HCS HREM HCE h0 hf
      go_enter Tryd.func10, Tryd.ntmps10
      go_upto_region 1 with (fail)
      rw [← hw1]
      clear hw1
      go_wp2_with (first
        | (go_at_call 20; ((with_reducible refine (HCL.out _).mono ?_); rintro e w2 ⟨hb2, A2, c2, rfl, hn2⟩; have HB2 := Lib.hid hb2; have HN2 := Lib.hid hn2; have hd2 := (HX.out.act.next hb2).get; have lh2 := (HX.out.act.next hb2).lt; have HZ2 := Lib.hid (HX.out.seen.next hb2); have zd2 := ref.z_get HZ2.out; have ze2 := HZ2.out.frozen; have lz2 := HZ2.out.lt; clear hb2 hn2))
        | (go_at_call 22; ((with_reducible refine (HFI.out w2 A2 c2 HB2.out HN2.out).mono ?_); rintro e w3 ⟨hb3, rfl⟩; have HB3 := Lib.hid (bnext HB2.out hb3); have hd3 := (HX.out.act.next HB3.out).get; have lh3 := (HX.out.act.next HB3.out).lt; have HZ3 := Lib.hid (HX.out.seen.next HB3.out); have zd3 := ref.z_get HZ3.out; have ze3 := HZ3.out.frozen; have lz3 := HZ3.out.lt; have hr3 := (H.out.next (HLOW.out _ HB3.out)).row; have hgl3 := ((H.out.next (HLOW.out _ HB3.out)).lt (.inr rfl)).2; have hWl3 := ((H.out.next (HLOW.out _ HB3.out)).lt (.inl rfl)).2; clear hb3))
        | fail)
      refine bodyPost_ret (v := .agg #[.int .i64 q, .int .i64 0, .int .i64 0, .slice none 0 0, .slice none 0 0]) (by simp [results, Tryd.results10, go_sem, *]) rfl (HE.out _ _ HB3.out ?_)
      exact Stays.fiveS _ _ _ _ _ _ _
    | ok n =>
      have HFI : Hid (∀ w2 A2 c2, Below w1.heap.size w1 w2 → NmRep w2 A2 c2 names → Calls Tryd.prog 22 #[.pointer (some ⟨Wb, 0, none⟩), .slice A2 names.length c2, .bool false] w2 fun e w' => Below w2.heap.size w2 w' ∧ e = .returned (.tuple #[.int .i64 (n : Int), .int .i64 0])) := Lib.hid (fun w2 A2 c2 hb hn => by
        have h := HFI.out false w2 A2 c2 hb hn
        rw [hf] at h
        exact h)
      have hnl := (tr.find_live H.out.inv hf).1
      have hnpos := tr.find_pos h0 hf
      have hnlt := hnl.lt
      have hnlt' : (n : Int) < (W.length : Int) := by omega
      cases hw2 : pa.walk [] tl with
      | error q =>
        have HE := Lib.hid (HCE.out q (by rw [HREM.out, tr.rename_walk h0 hf hw2]))
        rw [hw2] at HC2
        have HC2 : Hid (∀ w2, Calls Tryd.prog 20 #[.string (strOf tl)] w2 fun e w' => Below w2.heap.size w2 w' ∧ ∃ A2 c2, e = .returned (.tuple #[.slice A2 0 c2, .int .i64 q]) ∧ True) := Lib.hid (fun w2 => (HC2.out w2).mono fun e w' ⟨A2, c2, h1, _, h3⟩ => ⟨h3, A2, c2, h1, trivial⟩)
        have hq : (q != 0) = true := by simpa using pa.walk_err hw2
        clear HACT HCS HREM HCE h0 hf hw2 hnl hnlt hnpos
        go_enter Tryd.func10, Tryd.ntmps10
        go_upto_region 1 with (fail)
        rw [← hw1]
        clear hw1
        go_wp2_with (first
          | (go_at_call 20; ((with_reducible refine (HCL.out _).mono ?_); rintro e w2 ⟨hb2, A2, c2, rfl, hn2⟩; have HB2 := Lib.hid hb2; have HN2 := Lib.hid hn2; have hd2 := (HX.out.act.next hb2).get; have lh2 := (HX.out.act.next hb2).lt; have HZ2 := Lib.hid (HX.out.seen.next hb2); have zd2 := ref.z_get HZ2.out; have ze2 := HZ2.out.frozen; have lz2 := HZ2.out.lt; clear hb2 hn2))
          | (go_at_call 20; ((with_reducible refine (HC2.out _).mono ?_); rintro e w4 ⟨hb4, A4, c4, rfl, hn4⟩; have HB4 := Lib.hid (bnext HB3.out hb4); have HN4 := Lib.hid hn4; have hd4 := (HX.out.act.next HB4.out).get; have lh4 := (HX.out.act.next HB4.out).lt; have HZ4 := Lib.hid (HX.out.seen.next HB4.out); have zd4 := ref.z_get HZ4.out; have ze4 := HZ4.out.frozen; have lz4 := HZ4.out.lt; clear hb4 hn4))
          | (go_at_call 22; ((with_reducible refine (HFI.out w2 A2 c2 HB2.out HN2.out).mono ?_); rintro e w3 ⟨hb3, rfl⟩; have HB3 := Lib.hid (bnext HB2.out hb3); have hd3 := (HX.out.act.next HB3.out).get; have lh3 := (HX.out.act.next HB3.out).lt; have HZ3 := Lib.hid (HX.out.seen.next HB3.out); have zd3 := ref.z_get HZ3.out; have ze3 := HZ3.out.frozen; have lz3 := HZ3.out.lt; have hr3 := (H.out.next (HLOW.out _ HB3.out)).row; have hgl3 := ((H.out.next (HLOW.out _ HB3.out)).lt (.inr rfl)).2; have hWl3 := ((H.out.next (HLOW.out _ HB3.out)).lt (.inl rfl)).2; clear hb3))
          | fail)
        refine bodyPost_ret (v := .agg #[.int .i64 q, .int .i64 0, .int .i64 0, .slice none 0 0, .slice none 0 0]) (by simp [results, Tryd.results10, go_sem, *]) rfl (HE.out _ _ HB4.out ?_)
        exact Stays.fiveS _ _ _ _ _ _ _
      | ok o =>
        rw [hw2] at HC2
        have HC2 : Hid (∀ w2, Calls Tryd.prog 20 #[.string (strOf tl)] w2 fun e w' => Below w2.heap.size w2 w' ∧ ∃ A2 c2, e = .returned (.tuple #[.slice A2 o.length c2, .int .i64 0]) ∧ NmRep w' A2 c2 o) := Lib.hid (fun w2 => (HC2.out w2).mono fun e w' ⟨A2, c2, h1, h2, h3⟩ => ⟨h3, A2, c2, h1, (NmRep.of h2).2⟩)
        have honm := pa.walk_nms hw2 Nms.nil
        have HSP := Lib.hid (fun w2 A2 c2 (hb : Below w1.heap.size w1 w2) (hn : NmRep w2 A2 c2 o) => ref_spot o A2 c2 w2 (H.out.next (HLOW.out w2 hb)) hM hn honm)
        cases hs2 : tr.spot W o with
        | error q =>
          have HE := Lib.hid (HCE.out q (by rw [HREM.out, tr.rename_spot h0 hf hw2 hs2]))
          rw [hs2] at HSP
          have hq : (q != 0) = true := by simpa using tr.spot_err_ne hs2
          clear HACT HCS HREM HCE h0 hf hw2 hnl hnlt hnpos hs2 honm
          go_enter Tryd.func10, Tryd.ntmps10
          go_upto_region 1 with (fail)
          rw [← hw1]
          clear hw1
          go_wp2_with (first
            | (go_at_call 20; ((with_reducible refine (HCL.out _).mono ?_); rintro e w2 ⟨hb2, A2, c2, rfl, hn2⟩; have HB2 := Lib.hid hb2; have HN2 := Lib.hid hn2; have hd2 := (HX.out.act.next hb2).get; have lh2 := (HX.out.act.next hb2).lt; have HZ2 := Lib.hid (HX.out.seen.next hb2); have zd2 := ref.z_get HZ2.out; have ze2 := HZ2.out.frozen; have lz2 := HZ2.out.lt; clear hb2 hn2))
            | (go_at_call 20; ((with_reducible refine (HC2.out _).mono ?_); rintro e w4 ⟨hb4, A4, c4, rfl, hn4⟩; have HB4 := Lib.hid (bnext HB3.out hb4); have HN4 := Lib.hid hn4; have hd4 := (HX.out.act.next HB4.out).get; have lh4 := (HX.out.act.next HB4.out).lt; have HZ4 := Lib.hid (HX.out.seen.next HB4.out); have zd4 := ref.z_get HZ4.out; have ze4 := HZ4.out.frozen; have lz4 := HZ4.out.lt; clear hb4 hn4))
            | (go_at_call 22; ((with_reducible refine (HFI.out w2 A2 c2 HB2.out HN2.out).mono ?_); rintro e w3 ⟨hb3, rfl⟩; have HB3 := Lib.hid (bnext HB2.out hb3); have hd3 := (HX.out.act.next HB3.out).get; have lh3 := (HX.out.act.next HB3.out).lt; have HZ3 := Lib.hid (HX.out.seen.next HB3.out); have zd3 := ref.z_get HZ3.out; have ze3 := HZ3.out.frozen; have lz3 := HZ3.out.lt; have hr3 := (H.out.next (HLOW.out _ HB3.out)).row; have hgl3 := ((H.out.next (HLOW.out _ HB3.out)).lt (.inr rfl)).2; have hWl3 := ((H.out.next (HLOW.out _ HB3.out)).lt (.inl rfl)).2; clear hb3))
            | (go_at_call 24; ((with_reducible refine (HSP.out w4 A4 c4 HB4.out HN4.out).mono ?_); rintro e w5 ⟨hb5, rfl⟩; have HB5 := Lib.hid (bnext HB4.out hb5); have hd5 := (HX.out.act.next HB5.out).get; have lh5 := (HX.out.act.next HB5.out).lt; have HZ5 := Lib.hid (HX.out.seen.next HB5.out); have zd5 := ref.z_get HZ5.out; have ze5 := HZ5.out.frozen; have lz5 := HZ5.out.lt; have hr5 := (H.out.next (HLOW.out _ HB5.out)).row; have hgl5 := ((H.out.next (HLOW.out _ HB5.out)).lt (.inr rfl)).2; have hWl5 := ((H.out.next (HLOW.out _ HB5.out)).lt (.inl rfl)).2; clear hb5))
            | fail)
          refine bodyPost_ret (v := .agg #[.int .i64 q, .int .i64 0, .int .i64 0, .slice none 0 0, .slice none 0 0]) (by simp [results, Tryd.results10, go_sem, *]) rfl (HE.out _ _ HB5.out ?_)
          exact Stays.fiveS _ _ _ _ _ _ _
        | ok dn =>
          obtain ⟨d, s⟩ := dn
          rw [hs2] at HSP
          obtain ⟨s1, s2, s3, s4, s5⟩ := tr.spot_ok H.out.inv hs2
          have hsl : s.length ≤ 16 := by rw [s5]; exact honm.last
          have HIN : Hid (tr.On W n d → ∀ w4 w', Below w1.heap.size w1 w4 → Stays w4 w' (fun k => k = w.heap.size + 1) → RAct w B Wb (M + 1) g (tr.act W ⟨9, strOf pl_, strOf tl, aa, an, ad⟩) (.returned (.agg #[.int .i64 4, .int .i64 0, .int .i64 0, .slice none 0 0, .slice none 0 0])) w') := Lib.hid (fun ho => HCE.out 4 (by rw [HREM.out, tr.rename_in h0 hf hw2 hs2 ho]))
          have HMV : Hid (¬ tr.On W n d → ∀ w4, Below w1.heap.size w1 w4 → ROut w4 ((w4.setCell ⟨g, n * 6 + 1, none⟩ (.int .i64 (d : Int))).setCell ⟨g, n * 6 + 2, none⟩ (.string (strOf s))) B Wb (M + 1) (W.set n ((tr.it W n).mv d s)) g) := Lib.hid (fun ho w4 hb => by
            obtain ⟨g', c', ia', r1, r2, r3⟩ := (H.out.next (HLOW.out w4 hb)).mv hnl (d := d) (s := s) (H.out.inv.mv hnpos hnl (x := (tr.it W n).mv d s) hnl rfl s2 s3 s4 ho rfl hsl rfl rfl)
            exact ⟨g', c', ia', r1.mono (Nat.le_succ M), r2, r3⟩)
          have HOK : Hid (¬ tr.On W n d → ∀ w4 w5 w', Below w1.heap.size w1 w4 → ROut w4 w5 B Wb (M + 1) (W.set n ((tr.it W n).mv d s)) g → Stays w5 w' (fun k => k = w.heap.size + 1) → RAct w B Wb (M + 1) g (tr.act W ⟨9, strOf pl_, strOf tl, aa, an, ad⟩) (.returned (.agg #[.int .i64 0, .int .i64 0, .int .i64 0, .slice none 0 0, .slice none 0 0])) w') := Lib.hid (fun ho => HCS.out _ 0 (by rw [HREM.out, tr.rename_ok h0 hf hw2 hs2 ho]))
          have HNP := Lib.hid hnpos
          have HUP0 : Hid (tr.Up W n d (d : Int)) := Lib.hid (.inr ⟨d, rfl, s2, Iff.rfl⟩)
          clear HACT HCS HREM HCE h0 hf hw2 hnpos hs2 honm s1 s2 s3 s4 s5 hsl hnl
          go_enter Tryd.func10, Tryd.ntmps10
          go_upto_region 1 with (fail)
          rw [← hw1]
          clear hw1
          go_upto_region 36 with (first
            | (go_at_call 20; ((with_reducible refine (HCL.out _).mono ?_); rintro e w2 ⟨hb2, A2, c2, rfl, hn2⟩; have HB2 := Lib.hid hb2; have HN2 := Lib.hid hn2; have hd2 := (HX.out.act.next hb2).get; have lh2 := (HX.out.act.next hb2).lt; have HZ2 := Lib.hid (HX.out.seen.next hb2); have zd2 := ref.z_get HZ2.out; have ze2 := HZ2.out.frozen; have lz2 := HZ2.out.lt; clear hb2 hn2))
            | (go_at_call 20; ((with_reducible refine (HC2.out _).mono ?_); rintro e w4 ⟨hb4, A4, c4, rfl, hn4⟩; have HB4 := Lib.hid (bnext HB3.out hb4); have HN4 := Lib.hid hn4; have hd4 := (HX.out.act.next HB4.out).get; have lh4 := (HX.out.act.next HB4.out).lt; have HZ4 := Lib.hid (HX.out.seen.next HB4.out); have zd4 := ref.z_get HZ4.out; have ze4 := HZ4.out.frozen; have lz4 := HZ4.out.lt; clear hb4 hn4))
            | (go_at_call 22; ((with_reducible refine (HFI.out w2 A2 c2 HB2.out HN2.out).mono ?_); rintro e w3 ⟨hb3, rfl⟩; have HB3 := Lib.hid (bnext HB2.out hb3); have hd3 := (HX.out.act.next HB3.out).get; have lh3 := (HX.out.act.next HB3.out).lt; have HZ3 := Lib.hid (HX.out.seen.next HB3.out); have zd3 := ref.z_get HZ3.out; have ze3 := HZ3.out.frozen; have lz3 := HZ3.out.lt; have hr3 := (H.out.next (HLOW.out _ HB3.out)).row; have hgl3 := ((H.out.next (HLOW.out _ HB3.out)).lt (.inr rfl)).2; have hWl3 := ((H.out.next (HLOW.out _ HB3.out)).lt (.inl rfl)).2; clear hb3))
            | (go_at_call 24; ((with_reducible refine (HSP.out w4 A4 c4 HB4.out HN4.out).mono ?_); rintro e w5 ⟨hb5, rfl⟩; have HB5 := Lib.hid (bnext HB4.out hb5); have hd5 := (HX.out.act.next HB5.out).get; have lh5 := (HX.out.act.next HB5.out).lt; have HZ5 := Lib.hid (HX.out.seen.next HB5.out); have zd5 := ref.z_get HZ5.out; have ze5 := HZ5.out.frozen; have lz5 := HZ5.out.lt; have hr5 := (H.out.next (HLOW.out _ HB5.out)).row; have hgl5 := ((H.out.next (HLOW.out _ HB5.out)).lt (.inr rfl)).2; have hWl5 := ((H.out.next (HLOW.out _ HB5.out)).lt (.inl rfl)).2; clear hb5))
            | fail)
          go_loopw [13] (fun s13 wr => ∃ z : Int, s13 = .int .i64 z ∧ w5 = wr ∧ Hid (tr.Up W n d z)) (fun s13 _ => tr.deepZ W (intOf s13))
          case atStart => exact ⟨_, rfl, rfl, HUP0⟩
          case round =>
            obtain ⟨z, rfl, rfl, HUP⟩ := hrel
            by_cases hz : z = -1
            · subst hz
              have hno : ¬ tr.On W n d := by
                rcases HUP.out with ⟨_, h⟩ | ⟨i, hi, _⟩
                · exact h
                · omega
              have HG := Lib.hid (HMV.out hno _ HB5.out)
              have HE := Lib.hid (HOK.out hno)
              obtain ⟨_, _, _, _, q1, q2, _, _, _, _⟩ := (H.out.next (HLOW.out _ HB5.out)).at hnlt
              have f1 := (H.out.next (HLOW.out _ HB5.out)).frozen (n * 6 + 1)
              have f2 := (H.out.next (HLOW.out _ HB5.out)).frozen (n * 6 + 2)
              have hgR : g ≠ w.heap.size + 1 := fun e => HNR.out (.inr e.symm)
              clear hno HMV HOK HIN HUP HUP0
              go_wp2
              refine bodyPost_ret (v := .agg #[.int .i64 0, .int .i64 0, .int .i64 0, .slice none 0 0, .slice none 0 0]) (by simp [results, Tryd.results10, go_sem, *]) rfl (HE.out _ _ _ HB5.out HG.out ?_)
              exact Stays.fiveS _ _ _ _ _ _ _
            · obtain ⟨i, rfl, u1, u2⟩ : ∃ i : Nat, z = i ∧ tr.Live W i ∧ (tr.On W n d ↔ tr.On W n i) := by
                rcases HUP.out with ⟨h, _⟩ | h
                · exact absurd h hz
                · exact h
              have hi0 : 0 ≤ (i : Int) := by omega
              by_cases hin : i = n
              · subst hin
                have HE := Lib.hid (HIN.out (u2.2 .here))
                clear HMV HOK HIN HUP HUP0 hz
                go_wp2
                refine bodyPost_ret (v := .agg #[.int .i64 4, .int .i64 0, .int .i64 0, .slice none 0 0, .slice none 0 0]) (by simp [results, Tryd.results10, go_sem, *]) rfl (HE.out _ _ HB5.out ?_)
                exact Stays.fiveS _ _ _ _ _ _ _
              · have hin' : ((i : Int) == (n : Int)) = false := beq_eq_false_iff_ne.2 (by omega)
                have hilt := u1.lt
                have hilt' : (i : Int) < (W.length : Int) := by omega
                obtain ⟨_, _, _, _, q1, _, _, _, _, _⟩ := (H.out.next (HLOW.out _ HB5.out)).at hilt
                have HNX := Lib.hid (tr.Up.next H.out.inv HNP.out u1 u2 hin)
                clear HMV HOK HIN HUP HUP0 hz hin u1 u2
                go_wp2
                go_roundw
                case rel => exact ⟨_, rfl, trivial, Lib.hid HNX.out.1⟩
                case measure => exact HNX.out.2
end Go.Proofs.YtlcjdlnhniemcaaDoor
