/- The reference of recv: ranges, walked. No condition. -/
import Derived.Test.YtdldfllllgogoaaRecvR2
namespace Go.Proofs.Ytdldfllllgogoaa
open Go.RowKit Go.Maps Go.WideShapes Go.ChangeMaps Go.MapKept
set_option linter.unusedSimpArgs false

theorem rv.cells_len (l : List Rng) : (l.flatMap Rng.cells).length = l.length * 2 := flatMap_len Rng.cells 2 (fun _ => rfl) l
theorem rv.set_last (o : List Rng) (x : Rng) (v : Int) : ((o ++ [x]).flatMap Rng.cells).set (o.length * 2 + 1) (.int .i64 v) = (o ++ [(⟨x.lo, v⟩ : Rng)]).flatMap Rng.cells := by
  rw [List.flatMap_append, List.flatMap_append, List.set_append_right _ _ (by rw [rv.cells_len]; omega), rv.cells_len, show o.length * 2 + 1 - o.length * 2 = 1 by omega]
  rfl
set_option maxRecDepth 100000 in
set_option maxHeartbeats 2000000 in
theorem ref_ranges (G Mb n : Nat) (room taken end_ d : Int) (known : Bool) (f : Int → Option Value) (K : Nat) (w : World) (h : IAt w G Mb n room taken end_ known f) (h0 : 0 ≤ taken) (h1 : taken ≤ d) (h2 : d ≤ 2000000) (hf : ∀ k, taken ≤ k → k < d → f k ≠ none) (hd : f d = none) (hr : room ≤ 4096) (hK : taken + room + 1 = d + K) :
    Calls Try.prog 45 #[.pointer (some ⟨G, 0, none⟩)] w fun e w' => ∃ A' c', e = .returned (.slice A' (rv.runs (rv.isP f) d K).length c') ∧ Own w' w.heap.size 78 2 A' (rv.runs (rv.isP f) d K).length c' ((rv.runs (rv.isP f) d K).flatMap Rng.cells) ∧ Below w.heap.size w w' := by
  have H := Lib.hid h
  have HLOW := Lib.hid (ref_Low G Mb n room taken end_ d known f w h h0 h1 (by omega) hf hd)
  have HKK := Lib.hid hK
  have hKb : K ≤ 4097 := by omega
  have hMG := h.map.lt
  clear h hf hd hK
  go_enter Try.func45, Try.ntmps45
  go_wp2_with (go_at_call 43; refine HLOW.out.mono ?_; rintro e w1 ⟨rfl, hb1⟩; have HB1 := Lib.hid hb1; clear hb1)
  go_loopw [4, 5] (fun out i wr => ∃ (k m c1 : Nat) (A1 : Option Addr), k ≤ K ∧ i = .int .i64 (d + (k : Int)) ∧ out = .slice A1 m c1 ∧ m ≤ k ∧ Hid (m = (rv.runs (rv.isP f) d k).length ∧ Own wr w1.heap.size 78 2 A1 m c1 ((rv.runs (rv.isP f) d k).flatMap Rng.cells) ∧ Below w1.heap.size w1 wr)) (fun _ i _ => (d + K - intOf i).toNat)
  case atStart => exact ⟨0, 0, 0, none, by omega, by simp, rfl, by omega, Lib.hid ⟨rfl, Own.nil _ _ _ _, Below.refl _ _⟩⟩
  case round =>
    obtain ⟨k, m, c1, A1, hk, rfl, rfl, hm, HJ⟩ := hrel
    rename World => wr
    have HW : Hid (Below w.heap.size w wr) := Lib.hid (HB1.out.trans (HJ.out.2.2.mono HB1.out.size))
    have HN := Lib.hid (H.out.next HW.out)
    have c0 := HN.out.blk.get 0
    have c1' := HN.out.blk.get 1
    have c2 := HN.out.blk.get 2
    simp only [List.getElem?_toArray, List.getElem?_cons_succ, List.getElem?_cons_zero] at c0 c1' c2
    obtain ⟨q, hq⟩ : ∃ q : Int, q = d + (k : Int) := ⟨_, rfl⟩
    obtain ⟨t, ht⟩ : ∃ t : Int, taken + room = t := ⟨_, rfl⟩
    have HT := Lib.hid ht
    have HQ := Lib.hid hq
    have hqb : 0 ≤ q ∧ q ≤ 3000000 := by omega
    have htb : -5000 ≤ t ∧ t ≤ 3000000 := by have := HKK.out; omega
    rw [← hq]
    by_cases hlt : k < K
    · have hlt' : q < t + 1 := by have := HKK.out; omega
      clear hq
      cases hp : f q with
      | none =>
        have HV : Hid (mapI f (.int .i64 q) = none) := Lib.hid (by rw [mapI_at]; exact hp)
        have HWF : Hid ((Lit.int .i64 q).wf = true) := Lib.hid (wf_i64 (by unfold IntOk; omega))
        clear hp
        go_wp2
        go_quiet (fail)
        go_wp2_with (at_lookup; refine wp_mlook_ok _ rfl _ _ _ rfl (Go.Maps.int_keyed Try.underlying3) Try.underlying68 (z := .int .u8 0) (by kernel_rfl) rfl (HN.out.map.drewN _) _ rfl (Go.Maps.keyOf_int_mk Try.underlying3 HWF.out) ?_; rw [HV.out])
        have hr0 := rv.runs_no (P := rv.isP f) (lo := d) (k := k) (by unfold rv.isP; rw [← HQ.out]; have := HV.out; rw [mapI_at] at this; rw [this]; rfl)
        exact ⟨⟨k + 1, m, c1, A1, by omega, by have := HQ.out; congr 1; omega, rfl, by omega, Lib.hid (by rw [hr0]; exact ⟨HJ.out.1, HJ.out.2.1.drewN _, bdrewN HJ.out.2.2 _⟩)⟩, by have := HQ.out; simp [intOf]; omega⟩
      | some u =>
        have HV : Hid (mapI f (.int .i64 q) = some u) := Lib.hid (by rw [mapI_at]; exact hp)
        have HWF : Hid ((Lit.int .i64 q).wf = true) := Lib.hid (wf_i64 (by unfold IntOk; omega))
        have hP : rv.isP f (d + (k : Int)) = true := by unfold rv.isP; rw [← HQ.out, hp]; rfl
        clear hp
        have hzz : w1.heap.size ≤ wr.heap.size := HJ.out.2.2.size
        rcases List.eq_nil_or_concat (rv.runs (rv.isP f) d k) with e | ⟨o, x, e⟩
        · have HS := Lib.hid (rv.runs_first hP e)
          have hm0 : m = 0 := by rw [HJ.out.1, e]; rfl
          subst hm0
          have HO : Hid (Own wr w1.heap.size 78 2 A1 0 c1 [] ∧ Below w1.heap.size w1 wr) := Lib.hid ⟨by have h := HJ.out.2.1; rw [e] at h; exact h, HJ.out.2.2⟩
          clear HJ e hP
          go_wp2
          go_quiet (fail)
          go_wp2_with (first
            | (at_lookup; refine wp_mlook_ok _ rfl _ _ _ rfl (Go.Maps.int_keyed Try.underlying3) Try.underlying68 (z := .int .u8 0) (by kernel_rfl) rfl (HN.out.map.drewN _) _ rfl (Go.Maps.keyOf_int_mk Try.underlying3 HWF.out) ?_; rw [HV.out])
            | (at_builtin; refine wp_app _ rfl _ _ _ rfl elemRng w1.heap.size A1 0 c1 [] rfl ((HO.out.1.drewN _).alloc _) _ 1 1 [.int .i64 q, .int .i64 (q + 1)] rfl rfl (Cells.newAt _ _ _ (by simp)) (by simp [Value.oneCell']) (by omega) (by unfold maxLen; omega) (by simp; omega) ?_; intro A4 c4 w4 hO4 hg4; have HX4 : Hid (Own w4 w1.heap.size 78 2 A4 1 c4 [.int .i64 q, .int .i64 (q + 1)] ∧ Below w1.heap.size w1 w4) := Lib.hid ⟨hO4, Grew.step (balloc (bdrewN HO.out.2 _) _) hg4 (fun g hg => (HO.out.1.lt g hg).1)⟩; clear hO4 hg4))
          exact ⟨⟨k + 1, 1, c4, A4, by omega, by have := HQ.out; congr 1; omega, rfl, by omega, Lib.hid (by rw [HS.out, ← HQ.out]; exact ⟨rfl, HX4.out.1, HX4.out.2⟩)⟩, by have := HQ.out; simp [intOf]; omega⟩
        · rw [List.concat_eq_append] at e
          have hm0 : m = o.length + 1 := by rw [HJ.out.1, e, List.length_append]; rfl
          subst hm0
          have hO := HJ.out.2.1
          rw [e] at hO
          obtain ⟨g, rfl, hg1, hg2, hcl⟩ := Own.cell hO (j := o.length * 2 + 1) (u := .int .i64 x.hi) (by rw [flatMap_at Rng.cells 2 (fun _ => rfl) (o ++ [x]) o.length x (by simp) 1 (by decide)]; rfl)
          have hfr := hO.frozenAt (o.length * 2 + 1)
          have HO : Hid (Own wr w1.heap.size 78 2 (some ⟨g, 0, none⟩) (o.length + 1) c1 ((o ++ [x]).flatMap Rng.cells) ∧ Below w1.heap.size w1 wr) := Lib.hid ⟨hO, HJ.out.2.2⟩
          have ho1 : (((o.length + 1 : Nat) : Int)) - 1 = (o.length : Int) := by omega
          by_cases hx : x.hi = q
          · have HS := Lib.hid (rv.runs_on hP e (by rw [hx]; exact HQ.out))
            rw [hx] at hcl
            have HX4 : Hid (∀ nq, Own ((wr.drewN nq).setCell ⟨g, o.length * 2 + 1, none⟩ (.int .i64 (q + 1))) w1.heap.size 78 2 (some ⟨g, 0, none⟩) (o.length + 1) c1 ((o ++ [(⟨x.lo, q + 1⟩ : Rng)]).flatMap Rng.cells) ∧ Below w1.heap.size w1 ((wr.drewN nq).setCell ⟨g, o.length * 2 + 1, none⟩ (.int .i64 (q + 1)))) := Lib.hid (fun nq => ⟨by
              have h := (hO.drewN nq).setAt (j := o.length * 2 + 1) (.int .i64 (q + 1))
              rw [rv.set_last] at h
              exact h, bset (bdrewN HO.out.2 nq) hg1 _⟩)
            clear HJ e hP hO
            go_wp2
            go_quiet (fail)
            go_wp2_with (at_lookup; refine wp_mlook_ok _ rfl _ _ _ rfl (Go.Maps.int_keyed Try.underlying3) Try.underlying68 (z := .int .u8 0) (by kernel_rfl) rfl (HN.out.map.drewN _) _ rfl (Go.Maps.keyOf_int_mk Try.underlying3 HWF.out) ?_; rw [HV.out])
            exact ⟨⟨k + 1, o.length + 1, c1, some ⟨g, 0, none⟩, by omega, by have := HQ.out; congr 1; omega, rfl, by omega, Lib.hid (by rw [HS.out, ← HQ.out]; exact ⟨by rw [List.length_append]; rfl, (HX4.out _).1, (HX4.out _).2⟩)⟩, by have := HQ.out; simp [intOf]; omega⟩
          · have HS := Lib.hid (rv.runs_new hP e (fun h => hx (by rw [h]; exact HQ.out.symm)))
            clear HJ e hP hO
            generalize x.hi = xh at *
            go_wp2
            go_quiet (fail)
            go_wp2_with (first
              | (at_lookup; refine wp_mlook_ok _ rfl _ _ _ rfl (Go.Maps.int_keyed Try.underlying3) Try.underlying68 (z := .int .u8 0) (by kernel_rfl) rfl (HN.out.map.drewN _) _ rfl (Go.Maps.keyOf_int_mk Try.underlying3 HWF.out) ?_; rw [HV.out])
              | (at_builtin; refine wp_app _ rfl _ _ _ rfl elemRng w1.heap.size (some ⟨g, 0, none⟩) (o.length + 1) c1 ((o ++ [x]).flatMap Rng.cells) rfl ((HO.out.1.drewN _).alloc _) _ 1 1 [.int .i64 q, .int .i64 (q + 1)] rfl rfl (Cells.newAt _ _ _ (by simp)) (by simp [Value.oneCell']) (by omega) (by unfold maxLen; omega) (by simp; omega) ?_; intro A4 c4 w4 hO4 hg4; have HX4 : Hid (Own w4 w1.heap.size 78 2 A4 (o.length + 1 + 1) c4 ((o ++ [x]).flatMap Rng.cells ++ [.int .i64 q, .int .i64 (q + 1)]) ∧ Below w1.heap.size w1 w4) := Lib.hid ⟨hO4, Grew.step (balloc (bdrewN HO.out.2 _) _) hg4 (fun g hg => (HO.out.1.lt g hg).1)⟩; clear hO4 hg4))
            exact ⟨⟨k + 1, o.length + 1 + 1, c4, A4, by omega, by have := HQ.out; congr 1; omega, rfl, by omega, Lib.hid (by
              rw [HS.out, ← HQ.out]
              refine ⟨by rw [List.length_append, List.length_append]; rfl, ?_, HX4.out.2⟩
              have h := HX4.out.1
              rw [List.flatMap_append (xs := o ++ [x])]
              exact h)⟩, by have := HQ.out; simp [intOf]; omega⟩
    · have hlt' : ¬ q < t + 1 := by have := HKK.out; omega
      obtain rfl : k = K := by omega
      have HE := Lib.hid HJ.out
      clear hq HJ
      go_wp2
      go_quiet (fail)
      go_wp2
      go_ret
      have hE := HE.out
      obtain ⟨e1, e2, e3⟩ := hE
      subst e1
      exact ⟨A1, c1, rfl, (e2.drewN _).base_le HB1.out.size, bdrewN (HB1.out.trans (e3.mono HB1.out.size)) _⟩
end Go.Proofs.Ytdldfllllgogoaa
