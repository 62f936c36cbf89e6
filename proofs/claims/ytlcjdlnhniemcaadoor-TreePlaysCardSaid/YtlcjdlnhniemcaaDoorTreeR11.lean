/- The reference of tree: an act at a directory; an act that only tells. No condition. -/
import Derived.Test.YtlcjdlnhniemcaaDoorTreeR10
namespace Go.Proofs.YtlcjdlnhniemcaaDoor
open Go.RowKit
set_option linter.unusedSimpArgs false
set_option linter.unusedVariables false

set_option maxRecDepth 100000 in
set_option maxHeartbeats 8000000 in
theorem ref_Act_tell {B Wb M : Nat} {W : List tr.Item} {g c0 : Nat} {ia : List ItA} (ak : Int) (hak : 3 ≤ ak ∧ ak ≤ 7) (pl_ tl : List UInt8) (aa an : Int) (ad : List UInt8) (X : Option Addr) (xc : Nat) (w : World) (h : WdAt w B Wb M W g c0 ia) (hM : M ≤ 1000000) (hpl : pl_.length ≤ 140737488351232) (htl : tl.length ≤ 140737488351232) {names : List (List UInt8)} (hw : pa.walk [] pl_ = .ok names)
    (hc : (∃ q, tr.find W true 8 names = .error q) ∨ ∃ n, tr.find W true 8 names = .ok n ∧ ((tr.it W n).kind = 1 ∨ ((tr.it W n).kind = 2 ∧ (ak = 6 ∨ ak = 7)))) :
    Calls Tryd.prog 10 #[.pointer (some ⟨Wb, 0, none⟩), .agg #[.int .i64 ak, .string (strOf pl_), .string (strOf tl), .int .i64 aa, .int .i64 an, .slice X ad.length xc]] w (RAct w B Wb (M + 1) g (tr.act W ⟨ak, strOf pl_, strOf tl, aa, an, ad⟩)) := by
  have HX := RBx.new w ak pl_ tl aa an X ad.length xc
  obtain ⟨w1, hw1⟩ : ∃ w1, w1 = ((w.alloc (.cells #[.int .i64 ak, .string (strOf pl_), .string (strOf tl), .int .i64 aa, .int .i64 an, .slice X ad.length xc] 36)).alloc (.cells #[.int .i64 0, .int .i64 0, .int .i64 0, .slice none 0 0, .slice none 0 0] 31)) := ⟨_, rfl⟩
  rw [← hw1] at HX
  have HX := Lib.hid HX
  have H := Lib.hid h
  have hfew := h.few
  have hd' := HX.out.act.get
  have lh := HX.out.act.lt
  have HACT := Lib.hid (tr.act_on (W := W) (k := ak) (tl := tl) (at_ := aa) (count := an) (data := ad) (by omega) (fun e => by omega) hw)
  have HNR : Hid (¬ WF Wb g (w.heap.size + 1)) := Lib.hid (fun e => by have := (h.lt e).2; omega)
  have HCS : Hid (∀ W' c, tr.act W ⟨ak, strOf pl_, strOf tl, aa, an, ad⟩ = (W', tr.seen c) → ∀ w4 w5 w', Below w1.heap.size w1 w4 → ROut w4 w5 B Wb (M + 1) W' g → Stays w5 w' (fun k => k = w.heap.size + 1) → RAct w B Wb (M + 1) g (tr.act W ⟨ak, strOf pl_, strOf tl, aa, an, ad⟩) (.returned (.agg #[.int .i64 c, .int .i64 0, .int .i64 0, .slice none 0 0, .slice none 0 0])) w') := Lib.hid (fun W' c he w4 w5 w' hb hT hs => by
    rw [he]
    exact RAct.plain (by omega) (tr.seen c) rfl rfl (hT.lift (HX.out.low.trans (hb.mono HX.out.low.size))) ((HX.out.seen.next hb).stays hT.stays HNR.out) hs)
  have HCE : Hid (∀ c, tr.act W ⟨ak, strOf pl_, strOf tl, aa, an, ad⟩ = (W, tr.seen c) → ∀ w4 w', Below w1.heap.size w1 w4 → Stays w4 w' (fun k => k = w.heap.size + 1) → RAct w B Wb (M + 1) g (tr.act W ⟨ak, strOf pl_, strOf tl, aa, an, ad⟩) (.returned (.agg #[.int .i64 c, .int .i64 0, .int .i64 0, .slice none 0 0, .slice none 0 0])) w') := Lib.hid (fun c he w4 w' hb hs =>
    HCS.out W c he w4 w4 w' hb (ROut.same (H.out.next (HX.out.low.trans (hb.mono HX.out.low.size))) (bself _) (Nat.le_succ M)) hs)
  have HCL := Lib.hid (fun w2 => ref_PathClean pl_ w2 hpl)
  rw [hw] at HCL
  have HCL : Hid (∀ w2, Calls Tryd.prog 20 #[.string (strOf pl_)] w2 fun e w' => Below w2.heap.size w2 w' ∧ ∃ A2 c2, e = .returned (.tuple #[.slice A2 names.length c2, .int .i64 0]) ∧ NmRep w' A2 c2 names) := Lib.hid (fun w2 => (HCL.out w2).mono fun e w' ⟨A2, c2, h1, h2, h3⟩ => ⟨h3, A2, c2, h1, (NmRep.of h2).2⟩)
  have HNM := Lib.hid (pa.walk_nms hw Nms.nil)
  have HLOW : Hid (∀ w2, Below w1.heap.size w1 w2 → Below w.heap.size w w2) := Lib.hid (fun w2 hb => HX.out.low.trans (hb.mono HX.out.low.size))
  have HFI := Lib.hid (fun fo w2 A2 c2 (hb : Below w1.heap.size w1 w2) (hn : NmRep w2 A2 c2 names) => ref_Find names A2 c2 fo w2 (h.next (HLOW.out w2 hb)) hM hn HNM.out)
  clear h
  have HACT : Hid (tr.act W ⟨ak, strOf pl_, strOf tl, aa, an, ad⟩ = match tr.find W true 8 names with
      | .error e => (W, tr.seen e)
      | .ok n => tr.atN W n ⟨ak, strOf pl_, strOf tl, aa, an, ad⟩) := Lib.hid (by rw [HACT.out, if_neg (by omega), if_neg (by omega), if_neg (by omega), if_neg (by omega), if_neg (by omega)]; rfl)
  have b1 : ¬ ak < 1 := by omega
  have b2 : ¬ 10 < ak := by omega
  have e1 : (ak == 1) = false := beq_eq_false_iff_ne.2 (by omega)
  have e2 : (ak == 2) = false := beq_eq_false_iff_ne.2 (by omega)
  have e8 : (ak == 8) = false := beq_eq_false_iff_ne.2 (by omega)
  have e9 : (ak == 9) = false := beq_eq_false_iff_ne.2 (by omega)
  have e10 : (ak == 10) = false := beq_eq_false_iff_ne.2 (by omega)
  have n8 : (ak != 8) = true := by simp; omega
  have n9 : (ak != 9) = true := by simp; omega
  rcases hc with ⟨q, hf⟩ | ⟨n, hf, hc⟩
  · have HE := Lib.hid (HCE.out q (by rw [HACT.out, hf]))
    have HFI : Hid (∀ w2 A2 c2, Below w1.heap.size w1 w2 → NmRep w2 A2 c2 names → Calls Tryd.prog 22 #[.pointer (some ⟨Wb, 0, none⟩), .slice A2 names.length c2, .bool true] w2 fun e w' => Below w2.heap.size w2 w' ∧ e = .returned (.tuple #[.int .i64 0, .int .i64 q])) := Lib.hid (fun w2 A2 c2 hb hn => by
      have h := HFI.out true w2 A2 c2 hb hn
      rw [hf] at h
      exact h)
    have hq : (q != 0) = true := by simpa using tr.find_err_ne hf
    clear HACT HCS HCE hf hak
    go_enter Tryd.func10, Tryd.ntmps10
    go_upto_region 1 with (fail)
    rw [← hw1]
    clear hw1
    go_wp2_with (first
      | (go_at_call 20; ((with_reducible refine (HCL.out _).mono ?_); rintro e w2 ⟨hb2, A2, c2, rfl, hn2⟩; have HB2 := Lib.hid hb2; have HN2 := Lib.hid hn2; have hd2 := (HX.out.act.next hb2).get; have lh2 := (HX.out.act.next hb2).lt; have HZ2 := Lib.hid (HX.out.seen.next hb2); have zd2 := ref.z_get HZ2.out; have ze2 := HZ2.out.frozen; have lz2 := HZ2.out.lt; clear hb2 hn2))
      | (go_at_call 22; ((with_reducible refine (HFI.out w2 A2 c2 HB2.out HN2.out).mono ?_); rintro e w3 ⟨hb3, rfl⟩; have HB3 := Lib.hid (bnext HB2.out hb3); have hd3 := (HX.out.act.next HB3.out).get; have lh3 := (HX.out.act.next HB3.out).lt; have HZ3 := Lib.hid (HX.out.seen.next HB3.out); have zd3 := ref.z_get HZ3.out; have ze3 := HZ3.out.frozen; have lz3 := HZ3.out.lt; have hr3 := (H.out.next (HLOW.out _ HB3.out)).row; have hgl3 := ((H.out.next (HLOW.out _ HB3.out)).lt (.inr rfl)).2; have hWl3 := ((H.out.next (HLOW.out _ HB3.out)).lt (.inl rfl)).2; clear hb3))
      | fail)
    refine bodyPost_ret (v := .agg #[.int .i64 q, .int .i64 0, .int .i64 0, .slice none 0 0, .slice none 0 0]) (by simp [results, Tryd.results10, go_sem, *]) rfl (HE.out _ _ HB3.out ?_)
    exact Stays.fiveS _ _ _ _ _ _ _
  · have HFI : Hid (∀ w2 A2 c2, Below w1.heap.size w1 w2 → NmRep w2 A2 c2 names → Calls Tryd.prog 22 #[.pointer (some ⟨Wb, 0, none⟩), .slice A2 names.length c2, .bool true] w2 fun e w' => Below w2.heap.size w2 w' ∧ e = .returned (.tuple #[.int .i64 (n : Int), .int .i64 0])) := Lib.hid (fun w2 A2 c2 hb hn => by
      have h := HFI.out true w2 A2 c2 hb hn
      rw [hf] at h
      exact h)
    have HACT : Hid (tr.act W ⟨ak, strOf pl_, strOf tl, aa, an, ad⟩ = tr.atN W n ⟨ak, strOf pl_, strOf tl, aa, an, ad⟩) := Lib.hid (by rw [HACT.out, hf])
    have hnlt := (tr.find_live H.out.inv hf).1.lt
    have hnlt' : (n : Int) < (W.length : Int) := by omega
    have HPL : Hid (∀ s : Seen, s.data = [] → s.names = [] → tr.act W ⟨ak, strOf pl_, strOf tl, aa, an, ad⟩ = (W, s) → ∀ w4 w', Below w1.heap.size w1 w4 → Stays w4 w' (fun k => k = w.heap.size + 1) → RAct w B Wb (M + 1) g (tr.act W ⟨ak, strOf pl_, strOf tl, aa, an, ad⟩) (.returned (.agg #[.int .i64 s.code, .int .i64 s.kind, .int .i64 s.size, .slice none 0 0, .slice none 0 0])) w') := Lib.hid (fun s h1 h2 he w4 w' hb hs => by
      rw [he]
      exact RAct.plain (by omega) s h1 h2 (ROut.same H.out (HLOW.out _ hb) (Nat.le_succ M)) (HX.out.seen.next hb) hs)
    have HKD := Lib.hid (fun w2 (hb : Below w1.heap.size w1 w2) => ref_children n w2 (H.out.next (HLOW.out w2 hb)) hM)
    have hnlen := tr.names_len (W := W) (d := n)
    rcases hc with hc | ⟨hc, h67⟩
    · have hc1 : ((tr.it W n).kind == 1) = true := by simpa using hc
      by_cases h7 : ak = 7
      · subst h7
        have HE : Hid (tr.act W ⟨7, strOf pl_, strOf tl, aa, an, ad⟩ = (W, ⟨0, 0, 0, [], (tr.sorted (tr.namesIn W n)).map strOf⟩)) := Lib.hid (by rw [HACT.out]; unfold tr.atN; rw [if_pos rfl, if_pos hc])
        have hsl := tr.sorted_len (tr.namesIn W n)
        have HNM2 : Hid (∀ A c w2 w', Below w1.heap.size w1 w2 → Own w2 w1.heap.size 9 1 A (tr.namesIn W n).length c ((tr.sorted (tr.namesIn W n)).map pa.sv) → Stays w2 w' (fun k => k = w.heap.size + 1) → RAct w B Wb (M + 1) g (tr.act W ⟨7, strOf pl_, strOf tl, aa, an, ad⟩) (.returned (.agg #[.int .i64 0, .int .i64 0, .int .i64 0, .slice none 0 0, .slice A (tr.namesIn W n).length c])) w') := Lib.hid (fun A c w2 w' hb ho hs => by
          rw [HE.out]
          have h2 : Own w2 w1.heap.size 9 1 A (tr.namesIn W n).length c (((tr.sorted (tr.namesIn W n)).map strOf).flatMap fun x => [Value.string x]) := by
            have e : ((tr.sorted (tr.namesIn W n)).map strOf).flatMap (fun x => [Value.string x]) = (tr.sorted (tr.namesIn W n)).map pa.sv := by
              rw [← List.map_eq_flatMap, List.map_map]
              rfl
            rw [e]
            exact ho
          obtain ⟨h3, h4⟩ := Own.flat (R := Rep.str) (fun x => [Value.string x]) rfl (fun _ _ => rfl) (by decide) h2
          have h := RAct.rows (H.out.mono (Nat.le_succ M)) HX.out.low ⟨by omega, by have := HX.out.size; omega⟩ ⟨0, 0, 0, [], (tr.sorted (tr.namesIn W n)).map strOf⟩ (A1 := none) (c1 := 0) hb (HX.out.seen.next hb) ⟨Nat.le_refl _, Nat.zero_le _, .inl rfl⟩ h4 hs
          rw [List.length_map, hsl] at h
          exact h)
        generalize (tr.sorted (tr.namesIn W n)).map pa.sv = ns at *
        generalize (tr.namesIn W n).length = nl at *
        clear HACT HCS HCE hf hc hsl hnlen hak HPL HE
        go_enter Tryd.func10, Tryd.ntmps10
        go_upto_region 1 with (fail)
        rw [← hw1]
        clear hw1
        go_wp2_with (first
          | (go_at_call 20; ((with_reducible refine (HCL.out _).mono ?_); rintro e w2 ⟨hb2, A2, c2, rfl, hn2⟩; have HB2 := Lib.hid hb2; have HN2 := Lib.hid hn2; have hd2 := (HX.out.act.next hb2).get; have lh2 := (HX.out.act.next hb2).lt; have HZ2 := Lib.hid (HX.out.seen.next hb2); have zd2 := ref.z_get HZ2.out; have ze2 := HZ2.out.frozen; have lz2 := HZ2.out.lt; clear hb2 hn2))
          | (go_at_call 22; ((with_reducible refine (HFI.out w2 A2 c2 HB2.out HN2.out).mono ?_); rintro e w3 ⟨hb3, rfl⟩; have HB3 := Lib.hid (bnext HB2.out hb3); have hd3 := (HX.out.act.next HB3.out).get; have lh3 := (HX.out.act.next HB3.out).lt; have HZ3 := Lib.hid (HX.out.seen.next HB3.out); have zd3 := ref.z_get HZ3.out; have ze3 := HZ3.out.frozen; have lz3 := HZ3.out.lt; have hr3 := (H.out.next (HLOW.out _ HB3.out)).row; have hgl3 := ((H.out.next (HLOW.out _ HB3.out)).lt (.inr rfl)).2; have hWl3 := ((H.out.next (HLOW.out _ HB3.out)).lt (.inl rfl)).2; obtain ⟨A7, c7, i7, q0, q1, q2, q3, q4, q5, q6⟩ := (H.out.next (HLOW.out _ HB3.out)).at hnlt; clear hb3 i7 q6))
          | (go_at_call 23; ((with_reducible refine (HKD.out w3 HB3.out).mono ?_); rintro e w4 ⟨A4, c4, rfl, ho4, hb4⟩; have HB4 := Lib.hid (bnext HB3.out hb4); have HO4 := Lib.hid (ho4.base_le (show w1.heap.size ≤ _ from HB3.out.size)); have HZ4 := Lib.hid (HX.out.seen.next HB4.out); have zd4 := ref.z_get HZ4.out; have ze4 := HZ4.out.frozen; have lz4 := HZ4.out.lt; clear ho4 hb4))
          | fail)
        refine bodyPost_ret (v := .agg #[.int .i64 0, .int .i64 0, .int .i64 0, .slice none 0 0, .slice A4 nl c4]) (by simp [results, Tryd.results10, go_sem, *]) rfl (HNM2.out _ _ _ _ HB4.out HO4.out ?_)
        exact Stays.fiveS _ _ _ _ _ _ _
      · have h7' : (ak == 7) = false := by simpa using h7
        by_cases h6 : ak = 6
        · subst h6
          have HE := Lib.hid (HPL.out ⟨0, 1, ((tr.kids W n).length : Int), [], []⟩ rfl rfl (by rw [HACT.out]; unfold tr.atN; rw [if_neg (by simp), if_pos rfl, if_pos hc]))
          rw [← hnlen] at HE
          generalize (tr.sorted (tr.namesIn W n)).map pa.sv = ns at *
          generalize (tr.namesIn W n).length = nl at *
          clear HACT HCS HCE hf hc hnlen hak HPL
          go_enter Tryd.func10, Tryd.ntmps10
          go_upto_region 1 with (fail)
          rw [← hw1]
          clear hw1
          go_wp2_with (first
            | (go_at_call 20; ((with_reducible refine (HCL.out _).mono ?_); rintro e w2 ⟨hb2, A2, c2, rfl, hn2⟩; have HB2 := Lib.hid hb2; have HN2 := Lib.hid hn2; have hd2 := (HX.out.act.next hb2).get; have lh2 := (HX.out.act.next hb2).lt; have HZ2 := Lib.hid (HX.out.seen.next hb2); have zd2 := ref.z_get HZ2.out; have ze2 := HZ2.out.frozen; have lz2 := HZ2.out.lt; clear hb2 hn2))
            | (go_at_call 22; ((with_reducible refine (HFI.out w2 A2 c2 HB2.out HN2.out).mono ?_); rintro e w3 ⟨hb3, rfl⟩; have HB3 := Lib.hid (bnext HB2.out hb3); have hd3 := (HX.out.act.next HB3.out).get; have lh3 := (HX.out.act.next HB3.out).lt; have HZ3 := Lib.hid (HX.out.seen.next HB3.out); have zd3 := ref.z_get HZ3.out; have ze3 := HZ3.out.frozen; have lz3 := HZ3.out.lt; have hr3 := (H.out.next (HLOW.out _ HB3.out)).row; have hgl3 := ((H.out.next (HLOW.out _ HB3.out)).lt (.inr rfl)).2; have hWl3 := ((H.out.next (HLOW.out _ HB3.out)).lt (.inl rfl)).2; obtain ⟨A7, c7, i7, q0, q1, q2, q3, q4, q5, q6⟩ := (H.out.next (HLOW.out _ HB3.out)).at hnlt; clear hb3 i7 q6))
            | (go_at_call 23; ((with_reducible refine (HKD.out w3 HB3.out).mono ?_); rintro e w4 ⟨A4, c4, rfl, ho4, hb4⟩; have HB4 := Lib.hid (bnext HB3.out hb4); have HO4 := Lib.hid (ho4.base_le (show w1.heap.size ≤ _ from HB3.out.size)); have HZ4 := Lib.hid (HX.out.seen.next HB4.out); have zd4 := ref.z_get HZ4.out; have ze4 := HZ4.out.frozen; have lz4 := HZ4.out.lt; clear ho4 hb4))
            | fail)
          refine bodyPost_ret (v := .agg #[.int .i64 0, .int .i64 1, .int .i64 (nl : Int), .slice none 0 0, .slice none 0 0]) (by simp [results, Tryd.results10, go_sem, *]) rfl (HE.out _ _ HB4.out ?_)
          exact Stays.fiveS _ _ _ _ _ _ _
        · have h6' : (ak == 6) = false := by simpa using h6
          have HE := Lib.hid (HCE.out 14 (by rw [HACT.out]; unfold tr.atN; rw [if_neg h7, if_neg h6, if_pos hc]))
          clear HACT HCS HCE hf hc hnlen hak HPL HKD
          go_enter Tryd.func10, Tryd.ntmps10
          go_upto_region 1 with (fail)
          rw [← hw1]
          clear hw1
          go_wp2_with (first
            | (go_at_call 20; ((with_reducible refine (HCL.out _).mono ?_); rintro e w2 ⟨hb2, A2, c2, rfl, hn2⟩; have HB2 := Lib.hid hb2; have HN2 := Lib.hid hn2; have hd2 := (HX.out.act.next hb2).get; have lh2 := (HX.out.act.next hb2).lt; have HZ2 := Lib.hid (HX.out.seen.next hb2); have zd2 := ref.z_get HZ2.out; have ze2 := HZ2.out.frozen; have lz2 := HZ2.out.lt; clear hb2 hn2))
            | (go_at_call 22; ((with_reducible refine (HFI.out w2 A2 c2 HB2.out HN2.out).mono ?_); rintro e w3 ⟨hb3, rfl⟩; have HB3 := Lib.hid (bnext HB2.out hb3); have hd3 := (HX.out.act.next HB3.out).get; have lh3 := (HX.out.act.next HB3.out).lt; have HZ3 := Lib.hid (HX.out.seen.next HB3.out); have zd3 := ref.z_get HZ3.out; have ze3 := HZ3.out.frozen; have lz3 := HZ3.out.lt; have hr3 := (H.out.next (HLOW.out _ HB3.out)).row; have hgl3 := ((H.out.next (HLOW.out _ HB3.out)).lt (.inr rfl)).2; have hWl3 := ((H.out.next (HLOW.out _ HB3.out)).lt (.inl rfl)).2; obtain ⟨A7, c7, i7, q0, q1, q2, q3, q4, q5, q6⟩ := (H.out.next (HLOW.out _ HB3.out)).at hnlt; clear hb3 i7 q6))
            | fail)
          refine bodyPost_ret (v := .agg #[.int .i64 14, .int .i64 0, .int .i64 0, .slice none 0 0, .slice none 0 0]) (by simp [results, Tryd.results10, go_sem, *]) rfl (HE.out _ _ HB3.out ?_)
          exact Stays.fiveS _ _ _ _ _ _ _
    · have hc1 : ((tr.it W n).kind == 1) = false := by rw [hc]; rfl
      have hk1 : (tr.it W n).kind ≠ 1 := by rw [hc]; decide
      rcases h67 with rfl | rfl
      · have HE := Lib.hid (HPL.out ⟨0, 2, ((tr.it W n).data.length : Int), [], []⟩ rfl rfl (by rw [HACT.out]; unfold tr.atN; rw [if_neg (by simp), if_pos rfl, if_neg hk1]))
        clear HACT HCS HCE hf hc hnlen hak HPL HKD hk1
        go_enter Tryd.func10, Tryd.ntmps10
        go_upto_region 1 with (fail)
        rw [← hw1]
        clear hw1
        go_wp2_with (first
          | (go_at_call 20; ((with_reducible refine (HCL.out _).mono ?_); rintro e w2 ⟨hb2, A2, c2, rfl, hn2⟩; have HB2 := Lib.hid hb2; have HN2 := Lib.hid hn2; have hd2 := (HX.out.act.next hb2).get; have lh2 := (HX.out.act.next hb2).lt; have HZ2 := Lib.hid (HX.out.seen.next hb2); have zd2 := ref.z_get HZ2.out; have ze2 := HZ2.out.frozen; have lz2 := HZ2.out.lt; clear hb2 hn2))
          | (go_at_call 22; ((with_reducible refine (HFI.out w2 A2 c2 HB2.out HN2.out).mono ?_); rintro e w3 ⟨hb3, rfl⟩; have HB3 := Lib.hid (bnext HB2.out hb3); have hd3 := (HX.out.act.next HB3.out).get; have lh3 := (HX.out.act.next HB3.out).lt; have HZ3 := Lib.hid (HX.out.seen.next HB3.out); have zd3 := ref.z_get HZ3.out; have ze3 := HZ3.out.frozen; have lz3 := HZ3.out.lt; have hr3 := (H.out.next (HLOW.out _ HB3.out)).row; have hgl3 := ((H.out.next (HLOW.out _ HB3.out)).lt (.inr rfl)).2; have hWl3 := ((H.out.next (HLOW.out _ HB3.out)).lt (.inl rfl)).2; obtain ⟨A7, c7, i7, q0, q1, q2, q3, q4, q5, q6⟩ := (H.out.next (HLOW.out _ HB3.out)).at hnlt; clear hb3 i7 q6))
          | fail)
        refine bodyPost_ret (v := .agg #[.int .i64 0, .int .i64 2, .int .i64 ((tr.it W n).data.length : Int), .slice none 0 0, .slice none 0 0]) (by simp [results, Tryd.results10, go_sem, *]) rfl (HE.out _ _ HB3.out ?_)
        exact Stays.fiveS _ _ _ _ _ _ _
      · have HE := Lib.hid (HCE.out 15 (by rw [HACT.out]; unfold tr.atN; rw [if_pos rfl, if_neg hk1]))
        clear HACT HCS HCE hf hc hnlen hak HPL HKD hk1
        go_enter Tryd.func10, Tryd.ntmps10
        go_upto_region 1 with (fail)
        rw [← hw1]
        clear hw1
        go_wp2_with (first
          | (go_at_call 20; ((with_reducible refine (HCL.out _).mono ?_); rintro e w2 ⟨hb2, A2, c2, rfl, hn2⟩; have HB2 := Lib.hid hb2; have HN2 := Lib.hid hn2; have hd2 := (HX.out.act.next hb2).get; have lh2 := (HX.out.act.next hb2).lt; have HZ2 := Lib.hid (HX.out.seen.next hb2); have zd2 := ref.z_get HZ2.out; have ze2 := HZ2.out.frozen; have lz2 := HZ2.out.lt; clear hb2 hn2))
          | (go_at_call 22; ((with_reducible refine (HFI.out w2 A2 c2 HB2.out HN2.out).mono ?_); rintro e w3 ⟨hb3, rfl⟩; have HB3 := Lib.hid (bnext HB2.out hb3); have hd3 := (HX.out.act.next HB3.out).get; have lh3 := (HX.out.act.next HB3.out).lt; have HZ3 := Lib.hid (HX.out.seen.next HB3.out); have zd3 := ref.z_get HZ3.out; have ze3 := HZ3.out.frozen; have lz3 := HZ3.out.lt; have hr3 := (H.out.next (HLOW.out _ HB3.out)).row; have hgl3 := ((H.out.next (HLOW.out _ HB3.out)).lt (.inr rfl)).2; have hWl3 := ((H.out.next (HLOW.out _ HB3.out)).lt (.inl rfl)).2; obtain ⟨A7, c7, i7, q0, q1, q2, q3, q4, q5, q6⟩ := (H.out.next (HLOW.out _ HB3.out)).at hnlt; clear hb3 i7 q6))
          | fail)
        refine bodyPost_ret (v := .agg #[.int .i64 15, .int .i64 0, .int .i64 0, .slice none 0 0, .slice none 0 0]) (by simp [results, Tryd.results10, go_sem, *]) rfl (HE.out _ _ HB3.out ?_)
        exact Stays.fiveS _ _ _ _ _ _ _
end Go.Proofs.YtlcjdlnhniemcaaDoor
