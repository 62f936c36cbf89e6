/- Package tree: rename. No condition. -/
import Derived.Test.YtlcjdlnhniemcaaDoorMgG
namespace Go.Proofs.YtlcjdlnhniemcaaDoor
open Go.RowKit Go.Maps Go.MapKept
set_option linter.unusedSimpArgs false
set_option linter.unusedVariables false

theorem pa.walk_err {o : List (List UInt8)} {p : List UInt8} {c : Int} (h : pa.walk o p = .error c) : c ≠ 0 := by
  have hst : ∀ {ps : List (List UInt8)} {o : List (List UInt8)}, playTo pa.step o ps = .error c → c ≠ 0 := fun {ps} => by
    induction ps with
    | nil => intro o h; cases h
    | cons p ps ih =>
      intro o h
      rw [playTo_cons] at h
      cases e : pa.step o p with
      | ok o1 => rw [e] at h; exact ih h
      | error c' =>
        rw [e] at h
        cases h
        unfold pa.step at e
        split at e
        · cases e
        · split at e
          · cases e
          · split at e
            · cases e; decide
            · split at e
              · cases e; decide
              · cases e
  unfold pa.walk at h
  split at h
  · cases h; decide
  · exact hst h
section
variable {W : List tr.Item} {L : List (List UInt8)} {tp : List UInt8}
theorem tr.rename_nil : tr.rename W [] tp = (W, 14) := if_pos rfl
theorem tr.rename_find {q : Int} (h0 : L ≠ []) (h : tr.find W false 8 L = .error q) : tr.rename W L tp = (W, q) := by unfold tr.rename; rw [if_neg h0, h]
theorem tr.rename_walk {n : Nat} {q : Int} (h0 : L ≠ []) (h : tr.find W false 8 L = .ok n) (h1 : pa.walk [] tp = .error q) : tr.rename W L tp = (W, q) := by unfold tr.rename; rw [if_neg h0, h, h1]
theorem tr.rename_spot {n : Nat} {q : Int} {o : List (List UInt8)} (h0 : L ≠ []) (h : tr.find W false 8 L = .ok n) (h1 : pa.walk [] tp = .ok o) (h2 : tr.spot W o = .error q) : tr.rename W L tp = (W, q) := by unfold tr.rename; rw [if_neg h0, h, h1]; simp only [h2]
theorem tr.rename_in {n d : Nat} {s : List UInt8} {o : List (List UInt8)} (h0 : L ≠ []) (h : tr.find W false 8 L = .ok n) (h1 : pa.walk [] tp = .ok o) (h2 : tr.spot W o = .ok (d, s)) (h3 : tr.On W n d) : tr.rename W L tp = (W, 4) := by unfold tr.rename; rw [if_neg h0, h, h1]; simp only [h2]; exact if_pos h3
theorem tr.rename_ok {n d : Nat} {s : List UInt8} {o : List (List UInt8)} (h0 : L ≠ []) (h : tr.find W false 8 L = .ok n) (h1 : pa.walk [] tp = .ok o) (h2 : tr.spot W o = .ok (d, s)) (h3 : ¬ tr.On W n d) : tr.rename W L tp = (W.set n ((tr.it W n).mv d s), 0) := by unfold tr.rename; rw [if_neg h0, h, h1]; simp only [h2]; exact if_neg h3
end
theorem tr.deep (W : List tr.Item) : ∃ D, ∀ i l, tr.Live W i → tr.Path W i l → l.length ≤ D := by
  obtain ⟨D, h⟩ := tr.Path.bound W W.length
  exact ⟨D, fun i l hi hp => h i hi.lt l hp⟩

set_option maxRecDepth 100000 in
set_option maxHeartbeats 4000000 in
theorem tree_rename {B Tb M : Nat} {W : List tr.Item} {P : List NA} (L : List (List UInt8)) (A : Option Addr) (c : Nat) (tp : List UInt8) (w : World) (ht : TAt w B Tb M W P) (hl : NmRep w A c L) (hn : Nms L) (hto : tp.length ≤ 140737488351232) (hM : M < maxLen) :
    Calls Tryd.prog 17 #[.pointer (some ⟨Tb, 0, none⟩), .slice A L.length c, .string (strOf tp)] w fun e w' => e = .returned (.int .i64 (tr.rename W L tp).2) ∧ TOut w w' B Tb W P (tr.rename W L tp).1 (M + 1) (fun _ => False) := by
  obtain ⟨R, hR⟩ : ∃ R, R = tr.rename W L tp := ⟨_, rfl⟩
  rw [← hR]
  have HTS := Lib.hid (fun w' (hb : Below w.heap.size w w') => TOut.same (X := fun _ => False) ht hb (Nat.le_succ M))
  by_cases h0 : L = []
  · subst h0
    have HE : Hid (R = (W, 14)) := Lib.hid (hR.trans tr.rename_nil)
    clear hR ht hl hn
    go_enter Tryd.func17, Tryd.ntmps17
    go_wp2
    go_ret
    rw [HE.out]
    exact ⟨rfl, HTS.out _ (bself _)⟩
  · have hpos : 0 < L.length := by rcases Nat.eq_zero_or_pos L.length with h | h; exact absurd (List.length_eq_zero_iff.1 h) h0; exact h
    have hne : ((L.length : Int) == 0) = false := beq_eq_false_iff_ne.2 (by omega)
    have H := tree_find L A c false w ht hl hn
    cases hf : tr.find W false 8 L with
    | error q =>
      rw [hf] at H
      have HC := Lib.hid H
      have hq : (q != 0) = true := by simpa using tr.find_err_ne hf
      have HE : Hid (R = (W, q)) := Lib.hid (hR.trans (tr.rename_find h0 hf))
      clear H hf hR ht hl hn h0
      go_enter Tryd.func17, Tryd.ntmps17
      go_wp2_with (go_at_call 18; refine HC.out.mono ?_; rintro e w2 ⟨hb2, rfl⟩)
      go_ret
      rw [HE.out]
      exact ⟨rfl, HTS.out _ hb2⟩
    | ok n =>
      rw [hf] at H
      have HC : Hid (Calls Tryd.prog 18 #[.pointer (some ⟨Tb, 0, none⟩), .slice A L.length c, .bool false] w fun e w' => Below w.heap.size w w' ∧ e = .returned (.tuple #[nv (tr.it W n).kind (pl P n).p, .int .i64 0])) := Lib.hid H
      have HCL := Lib.hid (fun w2 => path_Clean tp w2 hto)
      obtain ⟨d0, hp, hdk0, hch⟩ := tr.place_of_find h0 hf
      obtain ⟨n0, nl, npar, nnm⟩ := tr.child_live hch
      obtain ⟨hd1, hd2⟩ := tr.place_live ht.inv hp
      have HT := Lib.hid ht
      have HL := Lib.hid hl
      have HN := Lib.hid hn
      clear H
      cases hw : pa.walk [] tp with
      | error q =>
        have hq : (q != 0) = true := by simpa using pa.walk_err hw
        rw [hw] at HCL
        have HE : Hid (R = (W, q)) := Lib.hid (hR.trans (tr.rename_walk h0 hf hw))
        have HCL : Hid (∀ w2, Calls Tryd.prog 14 #[.string (strOf tp)] w2 fun e w' => Below w2.heap.size w2 w' ∧ ∃ A2 c2, e = .returned (.tuple #[.slice A2 0 c2, .int .i64 q])) := Lib.hid (fun w2 => (HCL.out w2).mono fun e w' ⟨A2, c2, h1, _, h3⟩ => ⟨h3, A2, c2, h1⟩)
        generalize nv (tr.it W n).kind (pl P n).p = v at *
        clear hf hR ht hl hn h0 hw hch n0 nl npar nnm hp hdk0 hd1 hd2
        go_enter Tryd.func17, Tryd.ntmps17
        go_wp2_with (first
          | (go_at_call 18; ((with_reducible refine HC.out.mono ?_); rintro e w2 ⟨hb2, rfl⟩; have HB2 := Lib.hid hb2; clear hb2))
          | (go_at_call 14; ((with_reducible refine (HCL.out _).mono ?_); rintro e w3 ⟨hb3, A3, c3, rfl⟩; have HB3 : Hid (Below w.heap.size w w3) := Lib.hid (bnext HB2.out hb3); clear hb3))
          | fail)
        go_ret
        rw [HE.out]
        exact ⟨rfl, HTS.out _ HB3.out⟩
      | ok o =>
        rw [hw] at HCL
        have ho := pa.walk_nms hw Nms.nil
        have HCL : Hid (∀ w2, Calls Tryd.prog 14 #[.string (strOf tp)] w2 fun e w' => Below w2.heap.size w2 w' ∧ ∃ A2 c2, e = .returned (.tuple #[.slice A2 o.length c2, .int .i64 0]) ∧ NmRep w' A2 c2 o) := Lib.hid (fun w2 => (HCL.out w2).mono fun e w' ⟨A2, c2, h1, h2, h3⟩ => ⟨h3, A2, c2, h1, (NmRep.of h2).2⟩)
        have HFR := Lib.hid (fun w3 A3 c3 (hb : Below w.heap.size w w3) (h : NmRep w3 A3 c3 o) => tree_free o A3 c3 w3 (ht.next hb) h ho)
        cases hs : tr.spot W o with
        | error q =>
          have hq : (q != 0) = true := by simpa using tr.spot_err_ne hs
          rw [hs] at HFR
          have HE : Hid (R = (W, q)) := Lib.hid (hR.trans (tr.rename_spot h0 hf hw hs))
          generalize nv (tr.it W n).kind (pl P n).p = v at *
          clear hf hR ht hl hn h0 hw hch n0 nl npar nnm hp hdk0 hd1 hd2 hs ho
          go_enter Tryd.func17, Tryd.ntmps17
          go_wp2_with (first
            | (go_at_call 18; ((with_reducible refine HC.out.mono ?_); rintro e w2 ⟨hb2, rfl⟩; have HB2 := Lib.hid hb2; clear hb2))
            | (go_at_call 14; ((with_reducible refine (HCL.out _).mono ?_); rintro e w3 ⟨hb3, A3, c3, rfl, hn3⟩; have HB3 : Hid (Below w.heap.size w w3) := Lib.hid (bnext HB2.out hb3); have HN3 := Lib.hid hn3; clear hb3 hn3))
            | (go_at_call 27; ((with_reducible refine (HFR.out _ _ _ HB3.out HN3.out).mono ?_); rintro e w4 ⟨hb4, rfl⟩; have HB4 : Hid (Below w.heap.size w w4) := Lib.hid (bnext HB3.out hb4); clear hb4))
            | fail)
          go_ret
          rw [HE.out]
          exact ⟨rfl, HTS.out _ HB4.out⟩
        | ok dn =>
          obtain ⟨d, s⟩ := dn
          rw [hs] at HFR
          obtain ⟨s1, s2, s3, s4, s5⟩ := tr.spot_ok ht.inv hs
          obtain ⟨b, hb⟩ : ∃ b : Bool, b = true ↔ tr.On W n d := by
            by_cases h : tr.On W n d
            · exact ⟨true, by simp [h]⟩
            · exact ⟨false, by simp [h]⟩
          have HWI : Hid (∀ w2, Below w.heap.size w w2 → Calls Tryd.prog 29 #[nv (tr.it W n).kind (pl P n).p, .pointer (some ⟨(pl P d).p, 0, none⟩)] w2 fun e w' => WiRes w2 w' b e) := Lib.hid (fun w2 hb2 => by
            obtain ⟨D, hD⟩ := tr.deep W
            obtain ⟨l, hpl⟩ := ht.inv.path n nl
            exact tree_within ht.inv hD s2 s3 (D + 1) n l w2 (ht.next hb2) nl hpl (by omega) b hb)
          cases b with
          | true =>
            have HE : Hid (R = (W, 4)) := Lib.hid (hR.trans (tr.rename_in h0 hf hw hs (hb.1 rfl)))
            generalize nv (tr.it W n).kind (pl P n).p = v at *
            clear hf hR ht hl hn h0 hw hch n0 nl npar nnm hp hdk0 hd1 hd2 hs ho s1 s2 s3 s4 s5 hb
            go_enter Tryd.func17, Tryd.ntmps17
            go_wp2_with (first
              | (go_at_call 18; ((with_reducible refine HC.out.mono ?_); rintro e w2 ⟨hb2, rfl⟩; have HB2 := Lib.hid hb2; clear hb2))
              | (go_at_call 14; ((with_reducible refine (HCL.out _).mono ?_); rintro e w3 ⟨hb3, A3, c3, rfl, hn3⟩; have HB3 : Hid (Below w.heap.size w w3) := Lib.hid (bnext HB2.out hb3); have HN3 := Lib.hid hn3; clear hb3 hn3))
              | (go_at_call 27; ((with_reducible refine (HFR.out _ _ _ HB3.out HN3.out).mono ?_); rintro e w4 ⟨hb4, rfl⟩; have HB4 : Hid (Below w.heap.size w w4) := Lib.hid (bnext HB3.out hb4); clear hb4))
              | (go_at_call 29; ((with_reducible refine (HWI.out _ HB4.out).mono ?_); rintro e w5 ⟨rfl, hb5⟩; have HB5 : Hid (Below w.heap.size w w5) := Lib.hid (bnext HB4.out hb5); clear hb5))
              | fail)
            go_ret
            rw [HE.out]
            exact ⟨rfl, HTS.out _ HB5.out⟩
          | false =>
            have hon : ¬ tr.On W n d := fun h => by have := hb.2 h; cases this
            have HE : Hid (R = (W.set n ((tr.it W n).mv d s), 0)) := Lib.hid (hR.trans (tr.rename_ok h0 hf hw hs hon))
            have hsl : s.length ≤ 16 := by rw [s5]; exact ho.last
            have hkey0 : keyOf Tryd.prog 9 (.string (strOf (L.getLast?.getD []))) = some (.string (L.getLast?.getD [])) := keyN Tryd.underlying9 (by have := hn.last; unfold maxLen; omega)
            have hkey : keyOf Tryd.prog 9 (.string (strOf s)) = some (.string s) := keyN Tryd.underlying9 (by unfold maxLen; omega)
            have HPL : Hid (∀ w2, Below w.heap.size w w2 → Calls Tryd.prog 28 #[.pointer (some ⟨Tb, 0, none⟩), .slice A L.length c] w2 fun e w' => Below w2.heap.size w2 w' ∧ e = .returned (.tuple #[.pointer (some ⟨(pl P d0).p, 0, none⟩), .int .i64 0])) := Lib.hid (fun w2 hb => by
              have h := tree_place L A c w2 (ht.next hb) (hl.next hb) hn hpos
              rw [hp] at h
              exact h)
            have hqp : ∀ i j, tr.Live W i → (tr.it W i).kind = 1 → tr.Live W j → (pl P i).q ≠ (pl P j).p := fun i j hi hki hj e => by
              by_cases c : i = j
              · subst c
                exact ((ht.node i hi).1 hki).2.ne_cells ((ht.node i hi).1 hki).1 e
              · exact ht.apart i j hi hj c _ (.inr (.inl ⟨hki, rfl⟩)) (.inl e)
            have hqq : d0 ≠ d → (pl P d0).q ≠ (pl P d).q := fun hne e => ht.apart d0 d hd1 s2 hne _ (.inr (.inl ⟨hd2, rfl⟩)) (.inr (.inl ⟨s3, e⟩))
            have HDEL : Hid (∀ w5, Below w.heap.size w w5 → ∃ w6, (Builtin.delete_ #[43, 9] 0 #[.map (some (pl P d0).q), .string (strOf (L.getLast?.getD []))]).run Tryd.prog w5 = .ok (.tuple #[]) w6 ∧
                w6.cell? ⟨(pl P d).p, 0, none⟩ = some (.map (some (pl P d).q)) ∧ ∃ f, Hid (MapV w6 Tryd.prog 9 (pl P d).q M (nmap f)) ∧ Hid (∀ w7, MapV w7 Tryd.prog 9 (pl P d).q (M + 1) (mapPut (nmap f) (.string s) (nv (tr.it W n).kind (pl P n).p)) → w6.grownBy w7 (some (pl P d).q) → TOut w w7 B Tb W P (W.set n ((tr.it W n).mv d s)) (M + 1) (fun _ => False))) := Lib.hid (fun w5 hb => by
              have hm0 := ((ht.node d0 hd1).1 hd2).2.next hb
              obtain ⟨w6, hr, hm6, hg6⟩ := hm0.del (ty := 0) keyedS Tryd.underlying43 hkey0
              rw [nmap_del] at hm6
              have hmd := ((ht.node d s2).1 s3).2.next hb
              have hbd := ((ht.node d s2).1 s3).1.next hb
              have hfd : MapV w6 Tryd.prog 9 (pl P d).q M (nmap fun y => if d = d0 ∧ y = (tr.it W n).name then none else kidV W P d y) := by
                by_cases e : d = d0
                · subst e
                  rw [← nnm] at hm6
                  simpa using hm6
                · have h := hmd.kept hg6 (fun e2 => hqq (fun e3 => e e3.symm) (Option.some.inj e2))
                  simpa [e] using h
              refine ⟨w6, hr, (hbd.kept hg6 (fun e => hqp d0 d hd1 hd2 s2 (Option.some.inj e))).get 0, _, Lib.hid hfd, Lib.hid fun w7 hm7 hg7 => ?_⟩
              rw [nmap_put] at hm7
              have hS : Stays w w7 (fun k => k = (pl P d0).q ∨ k = (pl P d).q) := ((Stays.of_below hb _).comp ((Stays.grown hg6).mono fun _ _ h => .inl h)).comp ((Stays.grown hg7).mono fun _ _ h => .inr h)
              have hx : ((tr.it W n).mv d s).gone = false := nl
              have hmv := kidV_mv ht n0 nl (x := (tr.it W n).mv d s) hx rfl s4 rfl
              refine ⟨P, ht.mv n0 nl hx rfl s2 s3 s4 hon rfl hsl rfl rfl npar (Nat.le_succ M) hS fun i hi => ?_, hS.mono ?_, ?_⟩
              · rw [hmv i]
                by_cases e : i = d
                · subst e
                  refine (congrArg (fun g => MapV w7 Tryd.prog 9 (pl P i).q (M + 1) (nmap g)) (funext fun y => ?_)).mp hm7
                  show (if y = s then _ else _) = (if i = i ∧ y = s then _ else _)
                  have hpi : ((tr.it W n).par = (i : Int)) = (i = d0) := propext ⟨fun h => by rw [npar] at h; exact (Int.ofNat.inj h).symm, fun h => by rw [npar, h]⟩
                  simp only [hpi, eq_self, true_and]
                · obtain rfl : i = d0 := by rcases hi with h | h; exact h; exact absurd h e
                  have h := (hm6.kept hg7 (fun e2 => hqq e (Option.some.inj e2).symm)).mono (Nat.le_succ M)
                  refine (congrArg (fun g => MapV w7 Tryd.prog 9 (pl P i).q (M + 1) (nmap g)) (funext fun y => ?_)).mp h
                  show (if y = _ then _ else _) = (if i = d ∧ y = s then _ else _)
                  rw [if_neg (c := i = d ∧ y = s) (fun h => e h.1), ← nnm]
                  by_cases e3 : y = (tr.it W n).name
                  · rw [if_pos e3, if_pos ⟨npar, e3⟩]
                  · rw [if_neg e3, if_neg (fun h => e3 h.2)]
              · rintro k _ (rfl | rfl)
                · exact .inr ⟨d0, hd1, .inr (.inl ⟨hd2, rfl⟩)⟩
                · exact .inr ⟨d, s2, .inr (.inl ⟨s3, rfl⟩)⟩
              · rintro k (rfl | ⟨i, hi, hfi⟩)
                · exact .inl (.inl rfl)
                · rw [tr.live_set nl.lt] at hi
                  rw [tr.it_set nl.lt] at hfi
                  split at hfi
                  · next e => subst e; exact .inl (.inr ⟨i, nl, hfi⟩)
                  · next e => rw [if_neg e] at hi; exact .inl (.inr ⟨i, hi, hfi⟩))
            obtain ⟨bb, oo, rfl, hbb, hcl⟩ := hl.last hpos
            have hw1 : IntKind.i64.wrap ((L.length : Int) - 1) = (L.length : Int) - 1 := IntWalk.i64_in _ (by have := hn.1; omega)
            have hidx : ((L.length : Int) - 1).toNat = L.length - 1 := by omega
            have hge : 0 ≤ (L.length : Int) - 1 := by omega
            have hge1 : 1 ≤ (L.length : Int) := by omega
            have hlt : (L.length : Int) - 1 < (L.length : Int) := by omega
            obtain ⟨hm1, hm2, hm3⟩ := ht.dir hd1 hd2
            have HSS : Hid (∀ wx, Below w.heap.size w wx → wx.cell? ⟨(pl P d0).p, 0, none⟩ = some (.map (some (pl P d0).q)) ∧ wx.cell? ⟨bb, oo + (L.length - 1), none⟩ = some (.string (strOf (L.getLast?.getD [])))) := Lib.hid (fun wx hb => ⟨(hb.cell (p := ⟨(pl P d0).p, 0, none⟩) hm3).trans hm1, (hb.cell (p := ⟨bb, oo + (L.length - 1), none⟩) hbb).trans hcl⟩)
            generalize L.getLast?.getD [] = nm at *
            generalize nv (tr.it W n).kind (pl P n).p = v at *
            clear hf hR ht hl hn h0 hw hch n0 nl npar nnm hp hdk0 hd1 hd2 hs ho s1 s2 s3 s4 s5 hb hon hm2 hqp hqq hkey0
            go_enter Tryd.func17, Tryd.ntmps17
            go_upto_region 15 with (first
              | (go_at_call 18; ((with_reducible refine HC.out.mono ?_); rintro e w2 ⟨hb2, rfl⟩; have HB2 := Lib.hid hb2; clear hb2))
              | (go_at_call 14; ((with_reducible refine (HCL.out _).mono ?_); rintro e w3 ⟨hb3, A3, c3, rfl, hn3⟩; have HB3 : Hid (Below w.heap.size w w3) := Lib.hid (bnext HB2.out hb3); have HN3 := Lib.hid hn3; clear hb3 hn3))
              | (go_at_call 27; ((with_reducible refine (HFR.out _ _ _ HB3.out HN3.out).mono ?_); rintro e w4 ⟨hb4, rfl⟩; have HB4 : Hid (Below w.heap.size w w4) := Lib.hid (bnext HB3.out hb4); clear hb4))
              | (go_at_call 29; ((with_reducible refine (HWI.out _ HB4.out).mono ?_); rintro e w5 ⟨rfl, hb5⟩; have HB5 : Hid (Below w.heap.size w w5) := Lib.hid (bnext HB4.out hb5); clear hb5))
              | (go_at_call 28; ((with_reducible refine (HPL.out _ HB5.out).mono ?_); rintro e w8 ⟨hb8, rfl⟩; have HB8 : Hid (Below w.heap.size w w8) := Lib.hid (bnext HB5.out hb8); clear hb8))
              | fail)
            obtain ⟨w6, hdel, c6, f, HM6, HO6⟩ := HDEL.out w8.drew (Below.drew HB8.out)
            --<rm
            refine wp_region_tail [10] (fun wx => wx.cell? ⟨(pl P d0).p, 0, none⟩ = some (.map (some (pl P d0).q)) ∧ wx.cell? ⟨bb, oo + (L.length - 1), none⟩ = some (.string (strOf nm))) (by kernel_rfl) (HSS.out w8 HB8.out) ?_
            intro hHeld
            refine wpAnyT_pure (i := 0) (v := ?_) rfl (by kernel_rfl) (by kernel_rfl) (by kernel_rfl) (fun _ _ _ h => h) (.inl ⟨by kernel_rfl, ?_⟩) (fun _ => hHeld) ?_ (by decide)
            rotate_left
            · intro w9; go_simp; try with_reducible rfl
            try simp only [Act.put, List.getElem_toArray, List.getElem_cons_succ, List.getElem_cons_zero, List.setIfInBounds_toArray, List.set_cons_zero, List.set_cons_succ]
            refine wpAnyT_pure (i := 1) (v := ?_) rfl (by kernel_rfl) (by kernel_rfl) (by kernel_rfl) (fun _ _ _ h => h) (.inl ⟨by kernel_rfl, ?_⟩) (fun _ => hHeld) ?_ (by decide)
            rotate_left
            · intro w9; go_simp; try with_reducible rfl
            try simp only [Act.put, List.getElem_toArray, List.getElem_cons_succ, List.getElem_cons_zero, List.setIfInBounds_toArray, List.set_cons_zero, List.set_cons_succ]
            refine wpAnyT_pure (i := 2) (v := ?_) rfl (by kernel_rfl) (by kernel_rfl) (by kernel_rfl) (fun _ _ _ h => h) (.inl ⟨by kernel_rfl, ?_⟩) (fun _ => hHeld) ?_ (by decide)
            rotate_left
            · intro w9; go_simp; try with_reducible rfl
            try simp only [Act.put, List.getElem_toArray, List.getElem_cons_succ, List.getElem_cons_zero, List.setIfInBounds_toArray, List.set_cons_zero, List.set_cons_succ]
            refine wpAnyT_pure (i := 4) (v := ?_) rfl (by kernel_rfl) (by kernel_rfl) (by kernel_rfl) (fun _ _ _ h => h) (.inl ⟨by kernel_rfl, ?_⟩) (fun _ => hHeld) ?_ (by decide)
            rotate_left
            · intro w9; go_simp; try with_reducible rfl
            try simp only [Act.put, List.getElem_toArray, List.getElem_cons_succ, List.getElem_cons_zero, List.setIfInBounds_toArray, List.set_cons_zero, List.set_cons_succ]
            refine wpAnyT_pure (i := 5) (v := ?_) rfl (by kernel_rfl) (by kernel_rfl) (by kernel_rfl) (fun _ _ _ h => h) (.inl ⟨by kernel_rfl, ?_⟩) (fun _ => hHeld) ?_ (by decide)
            rotate_left
            · intro w9; go_simp; try with_reducible rfl
            try simp only [Act.put, List.getElem_toArray, List.getElem_cons_succ, List.getElem_cons_zero, List.setIfInBounds_toArray, List.set_cons_zero, List.set_cons_succ]
            refine wpAnyT_pure (i := 6) (v := ?_) rfl (by kernel_rfl) (by kernel_rfl) (by kernel_rfl) (fun _ _ _ h => h) (.inl ⟨by kernel_rfl, ?_⟩) (fun _ => hHeld) ?_ (by decide)
            rotate_left
            · intro w9; go_simp; try with_reducible rfl
            try simp only [Act.put, List.getElem_toArray, List.getElem_cons_succ, List.getElem_cons_zero, List.setIfInBounds_toArray, List.set_cons_zero, List.set_cons_succ]
            refine wpAnyT_pure (i := 7) (v := ?_) rfl (by kernel_rfl) (by kernel_rfl) (by kernel_rfl) (fun _ _ _ h => h) (.inl ⟨by kernel_rfl, ?_⟩) (fun _ => hHeld) ?_ (by decide)
            rotate_left
            · intro w9; go_simp; try with_reducible rfl
            try simp only [Act.put, List.getElem_toArray, List.getElem_cons_succ, List.getElem_cons_zero, List.setIfInBounds_toArray, List.set_cons_zero, List.set_cons_succ]
            refine wpAnyT_pure (i := 8) (v := ?_) rfl (by kernel_rfl) (by kernel_rfl) (by kernel_rfl) (fun _ _ _ h => h) (.inl ⟨by kernel_rfl, ?_⟩) (fun _ => hHeld) ?_ (by decide)
            rotate_left
            · intro w9; go_simp; try with_reducible rfl
            try simp only [Act.put, List.getElem_toArray, List.getElem_cons_succ, List.getElem_cons_zero, List.setIfInBounds_toArray, List.set_cons_zero, List.set_cons_succ]
            refine wpAnyT_take (i := 3) [10] (v := ?_) rfl (by kernel_rfl) (by kernel_rfl) (by kernel_rfl) (by kernel_rfl) (fun _ _ _ h => h) (.inl ⟨by kernel_rfl, ?_⟩) hHeld ?_
            rotate_left
            · intro w9 hS9; (try dsimp only at hS9); obtain ⟨q1, q2⟩ := hS9; go_simp; try with_reducible rfl
            try simp only [Act.put, List.getElem_toArray, List.getElem_cons_succ, List.getElem_cons_zero, List.setIfInBounds_toArray, List.set_cons_zero, List.set_cons_succ]
            refine wpAnyT_take (i := 9) [10] (v := ?_) rfl (by kernel_rfl) (by kernel_rfl) (by kernel_rfl) (by kernel_rfl) (fun _ _ _ h => h) (.inl ⟨by kernel_rfl, ?_⟩) hHeld ?_
            rotate_left
            · intro w9 hS9; (try dsimp only at hS9); obtain ⟨q1, q2⟩ := hS9; go_simp; try with_reducible rfl
            try simp only [Act.put, List.getElem_toArray, List.getElem_cons_succ, List.getElem_cons_zero, List.setIfInBounds_toArray, List.set_cons_zero, List.set_cons_succ]
            refine wpAnyT_next (i := 10) (by kernel_rfl) rfl ?_
            intro K hK
            go_simp
            refine hK.out _ _ (fun h => absurd ((by kernel_rfl : false = _).trans h) Bool.false_ne_true) ?_
            clear hK K
            try simp only [Act.put, List.getElem_toArray, List.getElem_cons_succ, List.getElem_cons_zero, List.setIfInBounds_toArray, List.set_cons_zero, List.set_cons_succ]
            refine wpAnyT_done (by kernel_rfl) ?_ _
            go_wp2_with (first
              | (at_mapUpdate; refine wp_mput _ rfl _ _ _ _ rfl keyedS Tryd.underlying43 rfl HM6.out hM (.string (strOf s)) v rfl rfl hkey ?_; intro w7 hm7 hg7; have HO7 := Lib.hid (HO6.out w7 hm7 hg7); clear hm7 hg7)
              | fail)
            go_ret
            rw [HE.out]
            exact ⟨rfl, HO7.out⟩
            --rm>
end Go.Proofs.YtlcjdlnhniemcaaDoor
