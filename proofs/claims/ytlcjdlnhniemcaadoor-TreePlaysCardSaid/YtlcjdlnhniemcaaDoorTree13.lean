/- Package tree: Do. No condition. -/
import Derived.Test.YtlcjdlnhniemcaaDoorTree12
namespace Go.Proofs.YtlcjdlnhniemcaaDoor
open Go.RowKit Go.Maps Go.MapKept
set_option linter.unusedSimpArgs false
set_option linter.unusedVariables false

section
variable {w w1 w2 w3 w' : World} {B Tb M M' R : Nat} {W W' : List tr.Item} {P : List NA} {X : Nat → Prop}
theorem TOut.lift (h : TOut w2 w3 B Tb W P W' M' X) (hb : Below w1.heap.size w1 w2) : TOut w1 w3 B Tb W P W' M' X := by
  obtain ⟨P', t1, t2, t3⟩ := h
  exact ⟨P', t1, (Stays.of_below hb _).comp t2, t3⟩
theorem TOut.then (h : TOut w1 w2 B Tb W P W' M' X) (hb : Below w2.heap.size w2 w3) : TOut w1 w3 B Tb W P W' M' X := by
  obtain ⟨P', t1, t2, t3⟩ := h
  exact ⟨P', t1.next hb, t2.comp (Stays.of_below hb _), t3⟩
theorem TOut.stays (h : TOut w1 w2 B Tb W P W' M' X) : Stays w1 w2 (TF Tb W P) := by
  obtain ⟨P', t1, t2, t3⟩ := h
  exact t2
theorem SnOut.lift (h : TAt w B Tb M W P) (hb : Below w.heap.size w w1) (hR : w.heap.size ≤ R ∧ R < w1.heap.size) {r : List tr.Item × Seen} {e : Ending} (hr : SnOut w1 B Tb W P M' r e w2) (hs : Stays w2 w' (fun k => k = R)) : SnOut w B Tb W P M' r e w' := by
  obtain ⟨cs, P', e1, e2, e3, e4, e5⟩ := hr
  have hnR : ∀ k, TF Tb r.1 P' k → k ≠ R := fun k hk e => by
    subst e
    rcases e5 _ hk with h2 | h2
    · have := (h.lt h2).2; omega
    · omega
  obtain ⟨A0, c0, A1, c1, r1, s1, s2⟩ := Seen.rep_iff.1 e2
  have far : ∀ k, (w1.heap.size ≤ k ∧ k < w2.heap.size ∧ ¬ TF Tb r.1 P' k) → ((w.heap.size ≤ k ∧ k < w'.heap.size ∧ ¬ TF Tb r.1 P' k) ∧ w'.heap[k]? = w2.heap[k]?) := fun k hk => ⟨⟨by omega, Nat.lt_of_lt_of_le hk.2.1 hs.size, hk.2.2⟩, hs.block k hk.2.1 (by omega)⟩
  refine ⟨cs, P', e1, Seen.rep_iff.2 ⟨A0, c0, A1, c1, r1, s1.keep far, s2.keep far⟩, e3.stays hs hnR, ((Stays.of_below hb _).comp e4).trans hs (fun k hk e => by omega), fun k hk => (e5 k hk).imp id fun h => by omega⟩
theorem SnOut.mono {r : List tr.Item × Seen} {e : Ending} (hr : SnOut w B Tb W P M r e w2) (hM : M ≤ M') : SnOut w B Tb W P M' r e w2 := by
  obtain ⟨cs, P', e1, e2, e3, e4, e5⟩ := hr
  exact ⟨cs, P', e1, e2, e3.mono hM, e4, e5⟩
end
theorem tr.str_list (l : List UInt8) : (strOf l).data.toList = l := by simp [strOf]
section
variable {W : List tr.Item} {k at_ count : Int} {pl tl data : List UInt8}
theorem tr.act_kind (h : k < 1 ∨ 10 < k) : tr.act W ⟨k, strOf pl, strOf tl, at_, count, data⟩ = (W, tr.seen 3) := if_pos h
theorem tr.act_size (h : ¬ (k < 1 ∨ 10 < k)) (h1 : k = 10 ∧ (tl.length = 0 ∨ 200 < tl.length)) : tr.act W ⟨k, strOf pl, strOf tl, at_, count, data⟩ = (W, tr.seen 1) := by
  unfold tr.act
  rw [if_neg h]
  simp only [strOf_size]
  exact if_pos h1
theorem tr.act_walk (h : ¬ (k < 1 ∨ 10 < k)) (h1 : ¬ (k = 10 ∧ (tl.length = 0 ∨ 200 < tl.length))) {c : Int} (h2 : pa.walk [] pl = .error c) : tr.act W ⟨k, strOf pl, strOf tl, at_, count, data⟩ = (W, tr.seen c) := by
  unfold tr.act
  rw [if_neg h]
  simp only [strOf_size, tr.str_list]
  rw [if_neg h1, h2]
theorem tr.act_on (h : ¬ (k < 1 ∨ 10 < k)) (h1 : ¬ (k = 10 ∧ (tl.length = 0 ∨ 200 < tl.length))) {names : List (List UInt8)} (h2 : pa.walk [] pl = .ok names) : tr.act W ⟨k, strOf pl, strOf tl, at_, count, data⟩ =
    if k = 1 then ((tr.add W names ⟨1, 0, [], [], [], false⟩).1, tr.seen (tr.add W names ⟨1, 0, [], [], [], false⟩).2)
    else if k = 2 then ((tr.add W names ⟨2, 0, [], [], [], false⟩).1, tr.seen (tr.add W names ⟨2, 0, [], [], [], false⟩).2)
    else if k = 10 then ((tr.add W names ⟨3, 0, [], [], tl, false⟩).1, tr.seen (tr.add W names ⟨3, 0, [], [], tl, false⟩).2)
    else if k = 8 then ((tr.remove W names).1, tr.seen (tr.remove W names).2)
    else if k = 9 then ((tr.rename W names tl).1, tr.seen (tr.rename W names tl).2)
    else match tr.find W true 8 names with
      | .error e => (W, tr.seen e)
      | .ok n => tr.atN W n ⟨k, strOf pl, strOf tl, at_, count, data⟩ := by
  unfold tr.act
  rw [if_neg h]
  simp only [strOf_size, tr.str_list]
  rw [if_neg h1, h2]
  rfl
end

set_option maxRecDepth 100000 in
set_option maxHeartbeats 8000000 in
theorem tree_Do {B Tb M : Nat} {W : List tr.Item} {P : List NA} (a : Act_) (X : Option Addr) (xc : Nat) (w : World) (h : TAt w B Tb M W P) (hM : M < maxLen) (hX : SlRep Rep.u8 w (· < w.heap.size) a.data X xc) (hXF : ∀ k, a.data ≠ [] → blkOf X = some k → ¬ TF Tb W P k) (hat : IntOk a.at_) (hct : IntOk a.count) (hd : a.data.length ≤ 140737488351232) (hpl : a.path.size ≤ 140737488351232) (htl : a.to.size ≤ 140737488351232) :
    Calls Tryd.prog 8 #[.pointer (some ⟨Tb, 0, none⟩), .agg #[.int .i64 a.kind, .string a.path, .string a.to, .int .i64 a.at_, .int .i64 a.count, .slice X a.data.length xc]] w (SnOut w B Tb W P (M + 1) (tr.act W a)) := by
  obtain ⟨ak, ap, ao, aa, an, ad⟩ := a
  simp only at hX hat hct hd hpl htl ⊢
  obtain ⟨pl_, rfl⟩ : ∃ l, ap = strOf l := ⟨_, strOf_of ap⟩
  obtain ⟨tl, rfl⟩ : ∃ l, ao = strOf l := ⟨_, strOf_of ao⟩
  rw [strOf_size] at hpl htl
  obtain ⟨w1, hw1⟩ : ∃ w1, w1 = (w.alloc (.cells #[.int .i64 ak, .string (strOf pl_), .string (strOf tl), .int .i64 aa, .int .i64 an, .slice X ad.length xc] 36)).alloc (.cells #[.int .i64 0, .int .i64 0, .int .i64 0, .slice none 0 0, .slice none 0 0] 31) := ⟨_, rfl⟩
  have hb1 : Below w.heap.size w w1 := by rw [hw1]; exact balloc (balloc (bself w) _) _
  have hz1 : w1.heap.size = w.heap.size + 1 + 1 := by rw [hw1]; simp
  have HH1 : Hid (BlkA w1 w.heap.size 36 #[.int .i64 ak, .string (strOf pl_), .string (strOf tl), .int .i64 aa, .int .i64 an, .slice X ad.length xc]) := Lib.hid (by rw [hw1]; exact (BlkA.new _ _ _).alloc _)
  have HZ1 : Hid (BlkA w1 (w.heap.size + 1) 31 #[.int .i64 0, .int .i64 0, .int .i64 0, .slice none 0 0, .slice none 0 0]) := Lib.hid (by
    rw [hw1]
    have h := BlkA.new (w.alloc (.cells #[.int .i64 ak, .string (strOf pl_), .string (strOf tl), .int .i64 aa, .int .i64 an, .slice X ad.length xc] 36)) 31 #[.int .i64 0, .int .i64 0, .int .i64 0, .slice none 0 0, .slice none 0 0]
    simpa using h)
  have H := Lib.hid h
  have H1 := Lib.hid (h.next hb1)
  have HB1 := Lib.hid hb1
  have HX1 := Lib.hid (hX.next hb1)
  have HR : Hid (w.heap.size ≤ w.heap.size + 1 ∧ w.heap.size + 1 < w1.heap.size) := Lib.hid ⟨by omega, by omega⟩
  have HZ := Lib.hid hz1
  have HZN : Hid (¬ TF Tb W P (w.heap.size + 1)) := Lib.hid (fun e => by have := (h.lt e).2; omega)
  have hd' := HH1.out.get
  have lh := HH1.out.lt
  have zd := HZ1.out.get
  have ze := HZ1.out.frozen
  have lz := HZ1.out.lt
  have HNO := Lib.hid (fun c wx => tree_no c wx)
  have HXF := Lib.hid hXF
  -- an answer of a code alone
  have HCODE : Hid (∀ W' c X, tr.act W ⟨ak, strOf pl_, strOf tl, aa, an, ad⟩ = (W', tr.seen c) → ∀ w4 w5 w6 w', Below w1.heap.size w1 w4 → TOut w4 w5 B Tb W P W' (M + 1) X → (∀ k, X k → w1.heap.size ≤ k) → Below w5.heap.size w5 w6 → Stays w6 w' (fun k => k = w.heap.size + 1) → SnOut w B Tb W P (M + 1) (tr.act W ⟨ak, strOf pl_, strOf tl, aa, an, ad⟩) (.returned (.agg #[.int .i64 c, .int .i64 0, .int .i64 0, .slice none 0 0, .slice none 0 0])) w') := Lib.hid (fun W' c X he w4 w5 w6 w' hb hT hXX hb6 hs => by
    rw [he]
    exact SnOut.plain (X := X) H.out HB1.out HR.out (tr.seen c) rfl rfl ((hT.lift hb).then hb6) (fun k hk => by have := hXX k hk; have := HZ.out; omega) hs)
  have HCS : Hid (∀ c, tr.act W ⟨ak, strOf pl_, strOf tl, aa, an, ad⟩ = (W, tr.seen c) → ∀ w4 w', Below w1.heap.size w1 w4 → Stays w4 w' (fun k => k = w.heap.size + 1) → SnOut w B Tb W P (M + 1) (tr.act W ⟨ak, strOf pl_, strOf tl, aa, an, ad⟩) (.returned (.agg #[.int .i64 c, .int .i64 0, .int .i64 0, .slice none 0 0, .slice none 0 0])) w') := Lib.hid (fun c he w4 w' hb hs =>
    HCODE.out W c (fun _ => False) he w1 w4 w4 w' (bself _) (TOut.same H1.out hb (Nat.le_succ M)) (fun k e => e.elim) (bself _) hs)
  have HCL := Lib.hid (fun w2 => path_Clean pl_ w2 hpl)
  clear h hX hb1 hz1 hXF
  have hmm := @run_makeMap Tryd.prog
  go_enter Tryd.func8, Tryd.ntmps8
  go_upto_region 1 with (fail)
  rw [← hw1]
  clear hw1
  by_cases hbad : ak < 1 ∨ 10 < ak
  · have HE := Lib.hid (HCS.out 3 (tr.act_kind hbad))
    have hc : ak < 1 ∨ (¬ ak < 1 ∧ 10 < ak) := by omega
    clear HCS HCODE hbad
    rcases hc with h1 | ⟨h1, h2⟩
    all_goals
      go_wp2_with (first
        | (go_at_call 13; ((with_reducible refine (HNO.out _ _).mono ?_); rintro e w4 ⟨rfl, hb4⟩; have z4 := HZ1.out.next hb4; have zd := z4.get; have ze := z4.frozen; have lz4 := z4.lt; have HB4 := Lib.hid hb4; clear hb4 z4))
        | fail)
      refine bodyPost_ret (v := .agg #[.int .i64 3, .int .i64 0, .int .i64 0, .slice none 0 0, .slice none 0 0]) (by simp [results, Tryd.results8, go_sem, *]) rfl (HE.out _ _ HB4.out ?_)
      exact Stays.fiveS _ _ _ _ _ _ _
  · have b1 : ¬ ak < 1 := by omega
    have b2 : ¬ 10 < ak := by omega
    by_cases hsz : ak = 10 ∧ (tl.length = 0 ∨ 200 < tl.length)
    · have HE := Lib.hid (HCS.out 1 (tr.act_size hbad hsz))
      obtain ⟨rfl, hsz⟩ := hsz
      have hc : tl.length = 0 ∨ (¬ tl.length = 0 ∧ 200 < tl.length) := by omega
      clear HCS HCODE hbad hsz
      rcases hc with h1 | ⟨h1, h2⟩
      · have h1' : ((tl.length : Int) == 0) = true := by simp [h1]
        have hs := strOf_size tl
        go_wp2_with (first
          | (go_at_call 13; ((with_reducible refine (HNO.out _ _).mono ?_); rintro e w4 ⟨rfl, hb4⟩; have z4 := HZ1.out.next hb4; have zd := z4.get; have ze := z4.frozen; have lz4 := z4.lt; have HB4 := Lib.hid hb4; clear hb4 z4))
          | fail)
        refine bodyPost_ret (v := .agg #[.int .i64 1, .int .i64 0, .int .i64 0, .slice none 0 0, .slice none 0 0]) (by simp [results, Tryd.results8, go_sem, *]) rfl (HE.out _ _ HB4.out ?_)
        exact Stays.fiveS _ _ _ _ _ _ _
      · have h1' : ((tl.length : Int) == 0) = false := beq_eq_false_iff_ne.2 (by omega)
        have hs := strOf_size tl
        go_wp2_with (first
          | (go_at_call 13; ((with_reducible refine (HNO.out _ _).mono ?_); rintro e w9 ⟨rfl, hb9⟩; have z9 := HZ1.out.next hb9; have zd9 := z9.get; have ze9 := z9.frozen; have lz9 := z9.lt; have HB9 := Lib.hid hb9; clear hb9 z9))
          | fail)
        refine bodyPost_ret (v := .agg #[.int .i64 1, .int .i64 0, .int .i64 0, .slice none 0 0, .slice none 0 0]) (by simp [results, Tryd.results8, go_sem, *]) rfl (HE.out _ _ HB9.out ?_)
        exact Stays.fiveS _ _ _ _ _ _ _
    · have hs := strOf_size tl
      have hsz' : ak = 10 → ((tl.length : Int) == 0) = false ∧ ¬ (200 : Int) < (tl.length : Int) := fun h => ⟨beq_eq_false_iff_ne.2 (fun e => hsz ⟨h, .inl (by omega)⟩), fun e => hsz ⟨h, .inr (by omega)⟩⟩
      go_upto_region 3 with (fail)
      go_cut [31] (fun s31 wx => s31 = .bool false ∧ w1 = wx)
      case first =>
        by_cases k10 : ak = 10
        · obtain ⟨q1, q2⟩ := hsz' k10
          subst k10
          clear hsz'
          go_wp2
          go_meet
          exact ⟨rfl, rfl⟩
        · have k10' : (ak == 10) = false := by simpa using k10
          clear hsz'
          go_wp2
          go_meet
          exact ⟨rfl, rfl⟩
      case rest =>
        obtain ⟨rfl, rfl⟩ := hcut
        clear hsz'
        cases hw : pa.walk [] pl_ with
        | error c =>
          have hq : (c != 0) = true := by simpa using pa.walk_err hw
          rw [hw] at HCL
          have HCL : Hid (∀ w2, Calls Tryd.prog 14 #[.string (strOf pl_)] w2 fun e w' => Below w2.heap.size w2 w' ∧ ∃ A2 c2, e = .returned (.tuple #[.slice A2 0 c2, .int .i64 c])) := Lib.hid (fun w2 => (HCL.out w2).mono fun e w' ⟨A2, c2, h1, _, h3⟩ => ⟨h3, A2, c2, h1⟩)
          have HE := Lib.hid (HCS.out c (tr.act_walk hbad hsz hw))
          clear HCS HCODE hbad hsz hw
          go_wp2_with (first
            | (go_at_call 14; ((with_reducible refine (HCL.out _).mono ?_); rintro e w2 ⟨hb2, A2, c2, rfl⟩; have HB2 := Lib.hid hb2; have HZ2 := Lib.hid (HZ1.out.next hb2); clear hb2))
            | (go_at_call 13; ((with_reducible refine (HNO.out _ _).mono ?_); rintro e w9 ⟨rfl, hb9⟩; have z9 := HZ2.out.next hb9; have zd9 := z9.get; have ze9 := z9.frozen; have lz9 := z9.lt; have HB9 := Lib.hid hb9; clear hb9 z9))
            | fail)
          refine bodyPost_ret (v := .agg #[.int .i64 c, .int .i64 0, .int .i64 0, .slice none 0 0, .slice none 0 0]) (by simp [results, Tryd.results8, go_sem, *]) rfl (HE.out _ _ (bnext HB2.out HB9.out) ?_)
          exact Stays.fiveS _ _ _ _ _ _ _
        | ok names =>
          rw [hw] at HCL
          have hnm := pa.walk_nms hw Nms.nil
          have HNM := Lib.hid hnm
          have HCL : Hid (∀ w2, Calls Tryd.prog 14 #[.string (strOf pl_)] w2 fun e w' => Below w2.heap.size w2 w' ∧ ∃ A2 c2, e = .returned (.tuple #[.slice A2 names.length c2, .int .i64 0]) ∧ NmRep w' A2 c2 names) := Lib.hid (fun w2 => (HCL.out w2).mono fun e w' ⟨A2, c2, h1, h2, h3⟩ => ⟨h3, A2, c2, h1, (NmRep.of h2).2⟩)
          have HACT := Lib.hid (tr.act_on (W := W) (at_ := aa) (count := an) (data := ad) hbad hsz hw)
          have hszz := hsz
          clear hsz hw
          -- behind Clean
          go_upto_region 8 with (first
            | (go_at_call 14; ((with_reducible refine (HCL.out _).mono ?_); rintro e w2 ⟨hb2, A2, c2, rfl, hn2⟩; have HB2 := Lib.hid hb2; have HN2 := Lib.hid hn2; have HZ2 := Lib.hid (HZ1.out.next hb2); have HH2 := Lib.hid (HH1.out.next hb2); clear hb2 hn2))
            | fail)
          have H2 := Lib.hid (H1.out.next HB2.out)
          have hd2 := HH2.out.get
          have lh2 := HH2.out.lt
          clear hd' lh zd ze lz
          by_cases k1 : ak = 1
          · subst k1
            obtain ⟨r, hr⟩ : ∃ r, r = tr.add W names ⟨1, 0, [], [], [], false⟩ := ⟨_, rfl⟩
            have HA : Hid (tr.act W ⟨1, strOf pl_, strOf tl, aa, an, ad⟩ = (r.1, tr.seen r.2)) := Lib.hid (by rw [HACT.out, hr]; exact if_pos rfl)
            have hsz2 : w.heap.size ≤ w2.heap.size := Nat.le_trans HB1.out.size HB2.out.size
            have hBw : B ≤ w2.heap.size := by have h1 := H.out.tlo; have h2 := H.out.top.lt; omega
            have hbw4 : Below w2.heap.size w2 ((w2.alloc (.map #[] 0)).alloc (.cells #[.map (some w2.heap.size)] 45)) := by exact (by repeat (first | (with_reducible exact Below.refl _ _) | (with_reducible assumption) | (with_reducible refine bset ?_ ?_ _) | (with_reducible refine balloc ?_ _) | (with_reducible refine Below.drew ?_) | (with_reducible refine bdrewN ?_ _) | (with_reducible refine bnext ?_ (by with_reducible assumption)) | exact Nat.le_refl _ | (simp; done) | omega | (simp; omega)))
            have HMK : Hid (Calls Tryd.prog 15 #[.pointer (some ⟨Tb, 0, none⟩), .slice A2 names.length c2, Value.iface 42 (.pointer (some ⟨w2.heap.size + 1, 0, none⟩))] ((w2.alloc (.map #[] 0)).alloc (.cells #[.map (some w2.heap.size)] 45)) fun e w' => e = .returned (.int .i64 r.2) ∧ TOut ((w2.alloc (.map #[] 0)).alloc (.cells #[.map (some w2.heap.size)] 45)) w' B Tb W P r.1 (M + 1) (fun k => NF ⟨1, 0, [], [], [], false⟩ ⟨w2.heap.size + 1, w2.heap.size, none, 0⟩ k)) := Lib.hid (by
              rw [hr]
              refine tree_make names A2 c2 ⟨1, 0, [], [], [], false⟩ ⟨w2.heap.size + 1, w2.heap.size, none, 0⟩ _ rfl _ (H2.out.next hbw4) (HN2.out.next hbw4) HNM.out hM (by decide) (Nat.zero_le _) (Nat.zero_le _) ?_ (fun k hk => ?_)
              · exact ⟨fun _ => ⟨by have h := BlkA.new (w2.alloc (.map #[] 0)) 45 #[.map (some w2.heap.size)]; simpa using h, by rw [← nmap_none]; exact ((MapV.made w2 Tryd.prog 9).alloc _).mono (Nat.zero_le _)⟩, fun e => absurd e (by decide), fun e => absurd e (by decide)⟩
              · have hge : w2.heap.size ≤ k := by rcases hk with rfl | ⟨_, rfl⟩ | ⟨e, _⟩ <;> first | exact Nat.le_succ _ | exact Nat.le_refl _ | exact absurd e (by decide)
                exact ⟨by omega, fun e => by have := (H.out.lt e).2; omega⟩)
            have HXX : Hid (∀ k, NF ⟨1, 0, [], [], [], false⟩ ⟨w2.heap.size + 1, w2.heap.size, none, 0⟩ k → w1.heap.size ≤ k) := Lib.hid (fun k hk => by
              have hge : w2.heap.size ≤ k := by rcases hk with rfl | ⟨_, rfl⟩ | ⟨e, _⟩ <;> first | exact Nat.le_succ _ | exact Nat.le_refl _ | exact absurd e (by decide)
              have := HB2.out.size
              omega)
            have HZ4 := Lib.hid (HZ2.out.next hbw4)
            have HB4 := Lib.hid (bnext HB2.out hbw4)
            obtain ⟨rl, rc⟩ := r
            simp only at HMK HA
            clear hr HACT HCS hbw4 hsz2 hBw
            go_wp2_with (first
              | (go_at_call 15; ((with_reducible refine HMK.out.mono ?_); rintro e w5 ⟨rfl, ht5⟩; have HT5 := Lib.hid ht5; have HZ5 := Lib.hid (HZ4.out.stays ht5.stays HZN.out); clear ht5))
              | (go_at_call 13; ((with_reducible refine (HNO.out _ _).mono ?_); rintro e w9 ⟨rfl, hb9⟩; have z9 := HZ5.out.next hb9; have zd9 := z9.get; have ze9 := z9.frozen; have lz9 := z9.lt; have HB9 := Lib.hid hb9; clear hb9 z9))
              | fail)
            refine bodyPost_ret (v := .agg #[.int .i64 rc, .int .i64 0, .int .i64 0, .slice none 0 0, .slice none 0 0]) (by simp [results, Tryd.results8, go_sem, *]) rfl (HCODE.out rl rc _ HA.out _ _ _ _ HB4.out HT5.out HXX.out HB9.out ?_)
            exact Stays.fiveS _ _ _ _ _ _ _
          by_cases k2 : ak = 2
          · subst k2
            obtain ⟨r, hr⟩ : ∃ r, r = tr.add W names ⟨2, 0, [], [], [], false⟩ := ⟨_, rfl⟩
            have HA : Hid (tr.act W ⟨2, strOf pl_, strOf tl, aa, an, ad⟩ = (r.1, tr.seen r.2)) := Lib.hid (by rw [HACT.out, hr]; rw [if_neg (by decide)]; exact if_pos rfl)
            have hsz2 : w.heap.size ≤ w2.heap.size := Nat.le_trans HB1.out.size HB2.out.size
            have hBw : B ≤ w2.heap.size := by have h1 := H.out.tlo; have h2 := H.out.top.lt; omega
            have hbw4 : Below w2.heap.size w2 (w2.alloc (.cells #[.slice none 0 0] 54)) := by exact (by repeat (first | (with_reducible exact Below.refl _ _) | (with_reducible assumption) | (with_reducible refine bset ?_ ?_ _) | (with_reducible refine balloc ?_ _) | (with_reducible refine Below.drew ?_) | (with_reducible refine bdrewN ?_ _) | (with_reducible refine bnext ?_ (by with_reducible assumption)) | exact Nat.le_refl _ | (simp; done) | omega | (simp; omega)))
            have HMK : Hid (Calls Tryd.prog 15 #[.pointer (some ⟨Tb, 0, none⟩), .slice A2 names.length c2, Value.iface 52 (.pointer (some ⟨w2.heap.size, 0, none⟩))] (w2.alloc (.cells #[.slice none 0 0] 54)) fun e w' => e = .returned (.int .i64 r.2) ∧ TOut (w2.alloc (.cells #[.slice none 0 0] 54)) w' B Tb W P r.1 (M + 1) (fun k => NF ⟨2, 0, [], [], [], false⟩ ⟨w2.heap.size, 0, none, 0⟩ k)) := Lib.hid (by
              rw [hr]
              refine tree_make names A2 c2 ⟨2, 0, [], [], [], false⟩ ⟨w2.heap.size, 0, none, 0⟩ _ rfl _ (H2.out.next hbw4) (HN2.out.next hbw4) HNM.out hM (by decide) (Nat.zero_le _) (Nat.zero_le _) ?_ (fun k hk => ?_)
              · exact ⟨fun e => absurd e (by decide), fun _ => ⟨BlkA.new _ _ _, Own.nil _ _ _ _⟩, fun e => absurd e (by decide)⟩
              · have hge : w2.heap.size ≤ k := by rcases hk with rfl | ⟨e, _⟩ | ⟨_, e⟩ <;> first | exact Nat.le_refl _ | exact absurd e (by decide) | (cases e)
                exact ⟨by omega, fun e => by have := (H.out.lt e).2; omega⟩)
            have HXX : Hid (∀ k, NF ⟨2, 0, [], [], [], false⟩ ⟨w2.heap.size, 0, none, 0⟩ k → w1.heap.size ≤ k) := Lib.hid (fun k hk => by
              have hge : w2.heap.size ≤ k := by rcases hk with rfl | ⟨e, _⟩ | ⟨_, e⟩ <;> first | exact Nat.le_refl _ | exact absurd e (by decide) | (cases e)
              have := HB2.out.size
              omega)
            have HZ4 := Lib.hid (HZ2.out.next hbw4)
            have HB4 := Lib.hid (bnext HB2.out hbw4)
            obtain ⟨rl, rc⟩ := r
            simp only at HMK HA
            clear hr HACT HCS hbw4 hsz2 hBw
            go_wp2_with (first
              | (go_at_call 15; ((with_reducible refine HMK.out.mono ?_); rintro e w5 ⟨rfl, ht5⟩; have HT5 := Lib.hid ht5; have HZ5 := Lib.hid (HZ4.out.stays ht5.stays HZN.out); clear ht5))
              | (go_at_call 13; ((with_reducible refine (HNO.out _ _).mono ?_); rintro e w9 ⟨rfl, hb9⟩; have z9 := HZ5.out.next hb9; have zd9 := z9.get; have ze9 := z9.frozen; have lz9 := z9.lt; have HB9 := Lib.hid hb9; clear hb9 z9))
              | fail)
            refine bodyPost_ret (v := .agg #[.int .i64 rc, .int .i64 0, .int .i64 0, .slice none 0 0, .slice none 0 0]) (by simp [results, Tryd.results8, go_sem, *]) rfl (HCODE.out rl rc _ HA.out _ _ _ _ HB4.out HT5.out HXX.out HB9.out ?_)
            exact Stays.fiveS _ _ _ _ _ _ _
          have e1 : (ak == 1) = false := by simpa using k1
          have e2 : (ak == 2) = false := by simpa using k2
          by_cases k10 : ak = 10
          · subst k10
            have htl2 : tl.length ≤ 200 := Nat.le_of_not_lt fun h => hszz ⟨rfl, .inr h⟩
            obtain ⟨r, hr⟩ : ∃ r, r = tr.add W names ⟨3, 0, [], [], tl, false⟩ := ⟨_, rfl⟩
            have HA : Hid (tr.act W ⟨10, strOf pl_, strOf tl, aa, an, ad⟩ = (r.1, tr.seen r.2)) := Lib.hid (by rw [HACT.out, hr]; rw [if_neg (by decide), if_neg (by decide)]; exact if_pos rfl)
            have hsz2 : w.heap.size ≤ w2.heap.size := Nat.le_trans HB1.out.size HB2.out.size
            have hBw : B ≤ w2.heap.size := by have h1 := H.out.tlo; have h2 := H.out.top.lt; omega
            have hbw4 : Below w2.heap.size w2 (w2.alloc (.cells #[.string (strOf tl)] 57)) := by exact (by repeat (first | (with_reducible exact Below.refl _ _) | (with_reducible assumption) | (with_reducible refine bset ?_ ?_ _) | (with_reducible refine balloc ?_ _) | (with_reducible refine Below.drew ?_) | (with_reducible refine bdrewN ?_ _) | (with_reducible refine bnext ?_ (by with_reducible assumption)) | exact Nat.le_refl _ | (simp; done) | omega | (simp; omega)))
            have HMK : Hid (Calls Tryd.prog 15 #[.pointer (some ⟨Tb, 0, none⟩), .slice A2 names.length c2, Value.iface 55 (.pointer (some ⟨w2.heap.size, 0, none⟩))] (w2.alloc (.cells #[.string (strOf tl)] 57)) fun e w' => e = .returned (.int .i64 r.2) ∧ TOut (w2.alloc (.cells #[.string (strOf tl)] 57)) w' B Tb W P r.1 (M + 1) (fun k => NF ⟨3, 0, [], [], tl, false⟩ ⟨w2.heap.size, 0, none, 0⟩ k)) := Lib.hid (by
              rw [hr]
              refine tree_make names A2 c2 ⟨3, 0, [], [], tl, false⟩ ⟨w2.heap.size, 0, none, 0⟩ _ rfl _ (H2.out.next hbw4) (HN2.out.next hbw4) HNM.out hM (.inr (.inr rfl)) (Nat.zero_le _) htl2 ?_ (fun k hk => ?_)
              · exact ⟨fun e => absurd (show (3 : Int) = _ from e) (by decide), fun e => absurd (show (3 : Int) = _ from e) (by decide), fun _ => BlkA.new _ _ _⟩
              · have hge : w2.heap.size ≤ k := by rcases hk with rfl | ⟨e, _⟩ | ⟨e, _⟩ <;> first | exact Nat.le_refl _ | exact absurd (show (3 : Int) = _ from e) (by decide)
                exact ⟨by omega, fun e => by have := (H.out.lt e).2; omega⟩)
            have HXX : Hid (∀ k, NF ⟨3, 0, [], [], tl, false⟩ ⟨w2.heap.size, 0, none, 0⟩ k → w1.heap.size ≤ k) := Lib.hid (fun k hk => by
              have hge : w2.heap.size ≤ k := by rcases hk with rfl | ⟨e, _⟩ | ⟨e, _⟩ <;> first | exact Nat.le_refl _ | exact absurd (show (3 : Int) = _ from e) (by decide)
              have := HB2.out.size
              omega)
            have HZ4 := Lib.hid (HZ2.out.next hbw4)
            have HB4 := Lib.hid (bnext HB2.out hbw4)
            obtain ⟨rl, rc⟩ := r
            simp only at HMK HA
            clear hr HACT HCS hbw4 hsz2 hBw
            go_wp2_with (first
              | (go_at_call 15; ((with_reducible refine HMK.out.mono ?_); rintro e w5 ⟨rfl, ht5⟩; have HT5 := Lib.hid ht5; have HZ5 := Lib.hid (HZ4.out.stays ht5.stays HZN.out); clear ht5))
              | (go_at_call 13; ((with_reducible refine (HNO.out _ _).mono ?_); rintro e w9 ⟨rfl, hb9⟩; have z9 := HZ5.out.next hb9; have zd9 := z9.get; have ze9 := z9.frozen; have lz9 := z9.lt; have HB9 := Lib.hid hb9; clear hb9 z9))
              | fail)
            refine bodyPost_ret (v := .agg #[.int .i64 rc, .int .i64 0, .int .i64 0, .slice none 0 0, .slice none 0 0]) (by simp [results, Tryd.results8, go_sem, *]) rfl (HCODE.out rl rc _ HA.out _ _ _ _ HB4.out HT5.out HXX.out HB9.out ?_)
            exact Stays.fiveS _ _ _ _ _ _ _
          have e10 : (ak == 10) = false := by simpa using k10
          by_cases k8 : ak = 8
          · subst k8
            obtain ⟨r, hr⟩ : ∃ r, r = tr.remove W names := ⟨_, rfl⟩
            have HA : Hid (tr.act W ⟨8, strOf pl_, strOf tl, aa, an, ad⟩ = (r.1, tr.seen r.2)) := Lib.hid (by rw [HACT.out, hr, if_neg (by decide), if_neg (by decide), if_neg (by decide)]; exact if_pos rfl)
            have HMK : Hid (Calls Tryd.prog 16 #[.pointer (some ⟨Tb, 0, none⟩), .slice A2 names.length c2] w2 fun e w' => e = .returned (.int .i64 r.2) ∧ TOut w2 w' B Tb W P r.1 (M + 1) (fun _ => False)) := Lib.hid (by
              rw [hr]
              refine (tree_remove names A2 c2 w2 H2.out HN2.out HNM.out).mono fun e w' h => ⟨h.1, ?_⟩
              obtain ⟨P', t1, t2, t3⟩ := h.2
              exact ⟨P', t1.mono (Nat.le_succ M), t2, t3⟩)
            obtain ⟨rl, rc⟩ := r
            simp only at HMK HA
            clear hr HACT HCS
            go_wp2_with (first
              | (go_at_call 16; ((with_reducible refine HMK.out.mono ?_); rintro e w5 ⟨rfl, ht5⟩; have HT5 := Lib.hid ht5; have HZ5 := Lib.hid (HZ2.out.stays ht5.stays HZN.out); clear ht5))
              | (go_at_call 13; ((with_reducible refine (HNO.out _ _).mono ?_); rintro e w9 ⟨rfl, hb9⟩; have z9 := HZ5.out.next hb9; have zd9 := z9.get; have ze9 := z9.frozen; have lz9 := z9.lt; have HB9 := Lib.hid hb9; clear hb9 z9))
              | fail)
            refine bodyPost_ret (v := .agg #[.int .i64 rc, .int .i64 0, .int .i64 0, .slice none 0 0, .slice none 0 0]) (by simp [results, Tryd.results8, go_sem, *]) rfl (HCODE.out rl rc _ HA.out _ _ _ _ HB2.out HT5.out (fun _ e => e.elim) HB9.out ?_)
            exact Stays.fiveS _ _ _ _ _ _ _
          have e8 : (ak == 8) = false := by simpa using k8
          by_cases k9 : ak = 9
          · subst k9
            obtain ⟨r, hr⟩ : ∃ r, r = tr.rename W names tl := ⟨_, rfl⟩
            have HA : Hid (tr.act W ⟨9, strOf pl_, strOf tl, aa, an, ad⟩ = (r.1, tr.seen r.2)) := Lib.hid (by rw [HACT.out, hr, if_neg (by decide), if_neg (by decide), if_neg (by decide), if_neg (by decide)]; exact if_pos rfl)
            have HMK : Hid (Calls Tryd.prog 17 #[.pointer (some ⟨Tb, 0, none⟩), .slice A2 names.length c2, .string (strOf tl)] w2 fun e w' => e = .returned (.int .i64 r.2) ∧ TOut w2 w' B Tb W P r.1 (M + 1) (fun _ => False)) := Lib.hid (by
              rw [hr]
              exact tree_rename names A2 c2 tl w2 H2.out HN2.out HNM.out htl hM)
            obtain ⟨rl, rc⟩ := r
            simp only at HMK HA
            clear hr HACT HCS
            go_wp2_with (first
              | (go_at_call 17; ((with_reducible refine HMK.out.mono ?_); rintro e w5 ⟨rfl, ht5⟩; have HT5 := Lib.hid ht5; have HZ5 := Lib.hid (HZ2.out.stays ht5.stays HZN.out); clear ht5))
              | (go_at_call 13; ((with_reducible refine (HNO.out _ _).mono ?_); rintro e w9 ⟨rfl, hb9⟩; have z9 := HZ5.out.next hb9; have zd9 := z9.get; have ze9 := z9.frozen; have lz9 := z9.lt; have HB9 := Lib.hid hb9; clear hb9 z9))
              | fail)
            refine bodyPost_ret (v := .agg #[.int .i64 rc, .int .i64 0, .int .i64 0, .slice none 0 0, .slice none 0 0]) (by simp [results, Tryd.results8, go_sem, *]) rfl (HCODE.out rl rc _ HA.out _ _ _ _ HB2.out HT5.out (fun _ e => e.elim) HB9.out ?_)
            exact Stays.fiveS _ _ _ _ _ _ _
          have e9 : (ak == 9) = false := by simpa using k9
          have HACT := HACT.out
          rw [if_neg k1, if_neg k2, if_neg k10, if_neg k8, if_neg k9] at HACT
          have HFI := tree_find names A2 c2 true w2 H2.out HN2.out HNM.out
          cases hf : tr.find W true 8 names with
          | error q =>
            rw [hf] at HFI HACT
            have HE := Lib.hid (HCS.out q HACT)
            have HC : Hid (Calls Tryd.prog 18 #[.pointer (some ⟨Tb, 0, none⟩), .slice A2 names.length c2, .bool true] w2 fun e w' => Below w2.heap.size w2 w' ∧ e = .returned (.tuple #[.nilIface, .int .i64 q])) := Lib.hid HFI
            have hq : (q != 0) = true := by simpa using tr.find_err_ne hf
            clear HFI HACT hf HCS HCODE
            go_wp2_with (first
              | (go_at_call 18; ((with_reducible refine HC.out.mono ?_); rintro e w3 ⟨hb3, rfl⟩; have HB3 := Lib.hid (bnext HB2.out hb3); have HZ3 := Lib.hid (HZ2.out.next hb3); clear hb3))
              | (go_at_call 13; ((with_reducible refine (HNO.out _ _).mono ?_); rintro e w9 ⟨rfl, hb9⟩; have z9 := HZ3.out.next hb9; have zd9 := z9.get; have ze9 := z9.frozen; have lz9 := z9.lt; have HB9 := Lib.hid hb9; clear hb9 z9))
              | fail)
            refine bodyPost_ret (v := .agg #[.int .i64 q, .int .i64 0, .int .i64 0, .slice none 0 0, .slice none 0 0]) (by simp [results, Tryd.results8, go_sem, *]) rfl (HE.out _ _ (bnext HB3.out HB9.out) ?_)
            exact Stays.fiveS _ _ _ _ _ _ _
          | ok n =>
            rw [hf] at HFI HACT
            simp only at HACT
            have HA := Lib.hid HACT
            have HC : Hid (Calls Tryd.prog 18 #[.pointer (some ⟨Tb, 0, none⟩), .slice A2 names.length c2, .bool true] w2 fun e w' => Below w2.heap.size w2 w' ∧ e = .returned (.tuple #[nv (tr.it W n).kind (pl P n).p, .int .i64 0])) := Lib.hid HFI
            obtain ⟨f1, f2⟩ := tr.find_live H.out.inv hf
            have hk12 : (tr.it W n).kind = 1 ∨ (tr.it W n).kind = 2 := by
              rcases H.out.inv.kind n f1 with h | h | h
              · exact .inl h
              · exact .inr h
              · exact absurd h (f2 rfl)
            have HAT : Hid (∀ w3, Below w1.heap.size w1 w3 → Calls Tryd.prog 19 #[nv (tr.it W n).kind (pl P n).p, .agg #[.int .i64 ak, .string (strOf pl_), .string (strOf tl), .int .i64 aa, .int .i64 an, .slice X ad.length xc]] w3 (SnOut w3 B Tb W P M (tr.act W ⟨ak, strOf pl_, strOf tl, aa, an, ad⟩))) := Lib.hid (fun w3 hb3 => by
              rw [HA.out]
              exact tree_at n ⟨ak, strOf pl_, strOf tl, aa, an, ad⟩ X xc w3 (H1.out.next hb3) f1 hk12 (by show ak = 3 ∨ ak = 4 ∨ ak = 5 ∨ ak = 6 ∨ ak = 7; omega) (HX1.out.next hb3) HXF.out hat hct hd)
            have HLF : Hid (∀ w3 w4 w' e, Below w1.heap.size w1 w3 → SnOut w3 B Tb W P M (tr.act W ⟨ak, strOf pl_, strOf tl, aa, an, ad⟩) e w4 → Stays w4 w' (fun k => k = w.heap.size + 1) → SnOut w B Tb W P (M + 1) (tr.act W ⟨ak, strOf pl_, strOf tl, aa, an, ad⟩) e w') := Lib.hid (fun w3 w4 w' e hb hr hs =>
              SnOut.lift H.out (HB1.out.trans (hb.mono HB1.out.size)) ⟨by omega, by have := hb.size; have := HZ.out; omega⟩ (hr.mono (Nat.le_succ M)) hs)
            generalize tr.act W ⟨ak, strOf pl_, strOf tl, aa, an, ad⟩ = r at *
            generalize nv (tr.it W n).kind (pl P n).p = v at *
            obtain ⟨rl, sc, sk, ss, sd, sn⟩ := r
            clear HFI HACT hf HCS HCODE HA f1 f2 hk12
            go_wp2_with (first
              | (go_at_call 18; ((with_reducible refine HC.out.mono ?_); rintro e w3 ⟨hb3, rfl⟩; have HB3 := Lib.hid (bnext HB2.out hb3); have HZ3 := Lib.hid (HZ2.out.next hb3); have HH3 := HH2.out.next hb3; have hd3 := HH3.get; have lh3 := HH3.lt; clear hb3 HH3))
              | (go_at_call 19; ((with_reducible refine (HAT.out _ HB3.out).mono ?_); rintro e w4 hr; have HRS := Lib.hid hr; obtain ⟨cs, P4, rfl, r1, r2, r3, r4⟩ := hr; obtain ⟨Y, yc, Z, zc, rfl, r5, r6⟩ := Seen.rep_iff.1 r1; have z4 := HZ3.out.stays r3 HZN.out; have zd4 := z4.get; have ze4 := z4.frozen; have lz4 := z4.lt; clear r1 r2 r3 r4 r5 r6 z4))
              | fail)
            refine bodyPost_ret (v := .agg #[.int .i64 sc, .int .i64 sk, .int .i64 ss, .slice Y sd.length yc, .slice Z sn.length zc]) (by simp [results, Tryd.results8, go_sem, *]) rfl (HLF.out _ _ _ _ HB3.out HRS.out ?_)
            exact Stays.fiveS _ _ _ _ _ _ _
end Go.Proofs.YtlcjdlnhniemcaaDoor
