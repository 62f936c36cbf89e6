/- Texts in one: TreeR5, TreeR6. No condition. -/
import Derived.Test.YtlcjdlnhniemcaaDoorTreeR4
section
namespace Go.Proofs.YtlcjdlnhniemcaaDoor
open Go.RowKit
set_option linter.unusedSimpArgs false
set_option linter.unusedVariables false

def SpR (r : Except Int (Nat × List UInt8)) (e : Ending) : Prop := match r with
  | .ok x => e = .returned (.tuple #[.int .i64 (x.1 : Int), .string (strOf x.2), .int .i64 0])
  | .error c => e = .returned (.tuple #[.int .i64 0, .string ⟨#[]⟩, .int .i64 c])
set_option maxRecDepth 100000 in
set_option maxHeartbeats 2000000 in
theorem ref_spot {B Wb M : Nat} {W : List tr.Item} {g c0 : Nat} {ia : List ItA} (L : List (List UInt8)) (A : Option Addr) (c : Nat) (w : World) (h : WdAt w B Wb M W g c0 ia) (hM : M ≤ 1000000) (hl : NmRep w A c L) (hn : Nms L) :
    Calls Tryd.prog 24 #[.pointer (some ⟨Wb, 0, none⟩), .slice A L.length c] w fun e w' => Below w.heap.size w w' ∧ SpR (tr.spot W L) e := by
  obtain ⟨R, hR⟩ : ∃ R, R = tr.spot W L := ⟨_, rfl⟩
  rw [← hR]
  by_cases h0 : L = []
  · subst h0
    have HE : Hid (R = .error 8) := Lib.hid (hR.trans tr.spot_nil)
    clear hR h hl hn
    go_enter Tryd.func24, Tryd.ntmps24
    go_wp2
    go_ret3
    rw [HE.out]
    exact ⟨bself _, rfl⟩
  · have hpos : 0 < L.length := by rcases Nat.eq_zero_or_pos L.length with h | h; exact absurd (List.length_eq_zero_iff.1 h) h0; exact h
    have hne : ((L.length : Int) == 0) = false := beq_eq_false_iff_ne.2 (by omega)
    have hlen : L.dropLast.length = L.length - 1 := List.length_dropLast
    have hl' : NmRep w A c L.dropLast := by
      unfold NmRep
      rw [List.dropLast_eq_take, List.map_take]
      exact SlRep.take hl _
    have HF := ref_Find L.dropLast A c true w h hM hl' hn.front
    rw [hlen] at HF
    have hcc : L.length ≤ c := by have := hl.1; rw [List.length_map] at this; exact this
    obtain ⟨bb, oo, rfl, hbb, hcl⟩ := hl.last hpos
    have hsl := run_cut_h (P := Tryd.prog) pa.elemN (some ⟨bb, oo, none⟩) L.length c (L.length - 1) (by omega) ((L.length : Int) - 1) (by omega)
    have hw1 : IntKind.i64.wrap ((L.length : Int) - 1) = (L.length : Int) - 1 := IntWalk.i64_in _ (by have := hn.1; omega)
    have hidx : ((L.length : Int) - 1).toNat = L.length - 1 := by omega
    have hge : 0 ≤ (L.length : Int) - 1 := by omega
    have hge1 : 1 ≤ (L.length : Int) := by omega
    have hlt : (L.length : Int) - 1 < (L.length : Int) := by omega
    have H := Lib.hid h
    have hfew := h.few
    have hbel := fun w2 (hb : Below w.heap.size w w2) => (hb.cell (p := ⟨bb, oo + (L.length - 1), none⟩) hbb).trans hcl
    have HNC := Lib.hid hbel
    clear hbel hcl
    cases hf : tr.find W true 8 L.dropLast with
    | error q =>
      rw [hf] at HF
      have HC : Hid (Calls Tryd.prog 22 #[.pointer (some ⟨Wb, 0, none⟩), .slice (some ⟨bb, oo, none⟩) (L.length - 1) c, .bool true] w fun e w' => Below w.heap.size w w' ∧ e = .returned (.tuple #[.int .i64 0, .int .i64 q])) := Lib.hid HF
      have hq : (q != 0) = true := by simpa using tr.find_err_ne hf
      have HE : Hid (R = .error q) := Lib.hid (by rw [hR]; unfold tr.spot; rw [if_neg h0, hf])
      clear HF hf hR h hl hl' hn h0
      go_enter Tryd.func24, Tryd.ntmps24
      go_wp2_with (go_at_call 22; refine HC.out.mono ?_; rintro e w2 ⟨hb2, rfl⟩)
      go_ret3
      rw [HE.out]
      exact ⟨hb2, rfl⟩
    | ok d =>
      rw [hf] at HF
      have HC : Hid (Calls Tryd.prog 22 #[.pointer (some ⟨Wb, 0, none⟩), .slice (some ⟨bb, oo, none⟩) (L.length - 1) c, .bool true] w fun e w' => Below w.heap.size w w' ∧ e = .returned (.tuple #[.int .i64 (d : Int), .int .i64 0])) := Lib.hid HF
      have hdl := (tr.find_live h.inv hf).1.lt
      have hdl' : (d : Int) < (W.length : Int) := by omega
      have HIT := Lib.hid (fun w2 (hb : Below w.heap.size w w2) => (h.next hb).at hdl)
      by_cases hk1 : (tr.it W d).kind = 1
      · have hk1' : ((tr.it W d).kind != 1) = false := by simpa using hk1
        have HCH := Lib.hid (fun w2 (hb : Below w.heap.size w w2) => ref_child d (L.getLast?.getD []) w2 (h.next hb) hM)
        have hR2 : R = if (tr.child W d (L.getLast?.getD [])).isSome then .error 8 else .ok (d, L.getLast?.getD []) := by
          rw [hR]; unfold tr.spot; rw [if_neg h0, hf]; exact if_pos hk1
        cases hch : tr.child W d (L.getLast?.getD []) with
        | none =>
          have HE : Hid (R = .ok (d, L.getLast?.getD [])) := Lib.hid (by rw [hR2, hch]; rfl)
          have hci : tr.childI W d (L.getLast?.getD []) = -1 := by unfold tr.childI; rw [hch]
          rw [hci] at HCH
          generalize L.getLast?.getD [] = nm at *
          clear HF hf hR hR2 h hl hl' hn h0 hch hci hk1
          go_enter Tryd.func24, Tryd.ntmps24
          go_wp2_with (first
            | (go_at_call 22; refine HC.out.mono ?_; rintro e w2 ⟨hb2, rfl⟩; have HB2 := Lib.hid hb2; have hr2 := (H.out.next hb2).row; have hgl2 := ((H.out.next hb2).lt (.inr rfl)).2; have hWl2 := ((H.out.next hb2).lt (.inl rfl)).2; obtain ⟨_, _, _, p0, _, _, _, _, _, _⟩ := HIT.out _ hb2; have nc2 := HNC.out _ hb2; clear hb2)
            | (go_at_call 35; ((with_reducible refine (HCH.out _ HB2.out).mono ?_); rintro e w3 ⟨rfl, hb3⟩; have HB3 := Lib.hid (bnext HB2.out hb3); clear hb3))
            | fail)
          go_ret3
          rw [HE.out]
          exact ⟨HB3.out, rfl⟩
        | some n =>
          have HE : Hid (R = .error 8) := Lib.hid (by rw [hR2, hch]; rfl)
          have hci : tr.childI W d (L.getLast?.getD []) = (n : Int) := by unfold tr.childI; rw [hch]
          have hn0 : 0 ≤ (n : Int) := by omega
          rw [hci] at HCH
          generalize L.getLast?.getD [] = nm at *
          clear HF hf hR hR2 h hl hl' hn h0 hch hci hk1
          go_enter Tryd.func24, Tryd.ntmps24
          go_wp2_with (first
            | (go_at_call 22; refine HC.out.mono ?_; rintro e w2 ⟨hb2, rfl⟩; have HB2 := Lib.hid hb2; have hr2 := (H.out.next hb2).row; have hgl2 := ((H.out.next hb2).lt (.inr rfl)).2; have hWl2 := ((H.out.next hb2).lt (.inl rfl)).2; obtain ⟨_, _, _, p0, _, _, _, _, _, _⟩ := HIT.out _ hb2; have nc2 := HNC.out _ hb2; clear hb2)
            | (go_at_call 35; ((with_reducible refine (HCH.out _ HB2.out).mono ?_); rintro e w3 ⟨rfl, hb3⟩; have HB3 := Lib.hid (bnext HB2.out hb3); clear hb3))
            | fail)
          go_ret3
          rw [HE.out]
          exact ⟨HB3.out, rfl⟩
      · have HE : Hid (R = .error 15) := Lib.hid (by rw [hR]; unfold tr.spot; rw [if_neg h0, hf]; exact if_neg hk1)
        have hk1' : ((tr.it W d).kind != 1) = true := by simpa using hk1
        clear HF hf hR h hl hl' hn h0 hk1
        go_enter Tryd.func24, Tryd.ntmps24
        go_wp2_with (first
          | (go_at_call 22; refine HC.out.mono ?_; rintro e w2 ⟨hb2, rfl⟩; have HB2 := Lib.hid hb2; have hr2 := (H.out.next hb2).row; have hgl2 := ((H.out.next hb2).lt (.inr rfl)).2; have hWl2 := ((H.out.next hb2).lt (.inl rfl)).2; obtain ⟨_, _, _, p0, _, _, _, _, _, _⟩ := HIT.out _ hb2; have nc2 := HNC.out _ hb2; clear hb2)
          | fail)
        go_ret3
        rw [HE.out]
        exact ⟨HB2.out, rfl⟩
end Go.Proofs.YtlcjdlnhniemcaaDoor
end
section
namespace Go.Proofs.YtlcjdlnhniemcaaDoor
open Go.RowKit
set_option linter.unusedSimpArgs false
set_option linter.unusedVariables false

/-- the nodes behind an act -/
def ROut (w w' : World) (B Wb M : Nat) (W' : List tr.Item) (g : Nat) : Prop :=
  ∃ g' c' ia', WdAt w' B Wb M W' g' c' ia' ∧ Stays w w' (WF Wb g) ∧ ∀ k, WF Wb g' k → WF Wb g k ∨ w.heap.size ≤ k
theorem ROut.same {w w' : World} {B Wb M M' : Nat} {W : List tr.Item} {g c : Nat} {ia : List ItA} (h : WdAt w B Wb M W g c ia) (hb : Below w.heap.size w w') (hM : M ≤ M') : ROut w w' B Wb M' W g :=
  ⟨g, c, ia, (h.next hb).mono hM, Stays.of_below hb _, fun k hk => .inl hk⟩
theorem elemItem : ElemT Tryd.prog 67 66 6 80 := ElemT.of Tryd.underlying67 (z := .agg #[.int .i64 0, .int .i64 0, .string ⟨#[]⟩, .slice none 0 0, .string ⟨#[]⟩, .bool false]) (by kernel_rfl) rfl (by decide)
theorem tr.live_take {W : List tr.Item} {k : Nat} (hk : k < W.length) : tr.liveN (W.take (k + 1)) = tr.liveN (W.take k) + if (tr.it W k).gone then 0 else 1 := by
  rw [List.take_add_one, tr.it_at hk]
  exact tr.liveN_snoc _ _
theorem tr.live_le (W : List tr.Item) : tr.liveN W ≤ W.length := by unfold tr.liveN; exact List.length_filter_le _ _
/-- a node more, at the end of the row -/
theorem WdAt.push {w wa w8 : World} {B Wb M : Nat} {W : List tr.Item} {g c : Nat} {ia : List ItA} (h : WdAt w B Wb M W g c ia) {x : tr.Item} (hI : tr.Inv (W ++ [x])) (hd : x.data = []) (hb : Below w.heap.size w wa) {A8 : Option Addr} {c8 : Nat}
    (ho : Own w8 B 66 6 A8 (W.length + 1) c8 (ia.flatMap ItA.cells ++ ItA.cells ⟨x, none, 0⟩)) (hg : Grew wa w8 (some ⟨g, 0, none⟩) A8) :
    w8.frozen? ⟨Wb, 0, none⟩ = false ∧ Wb < w8.heap.size ∧ w8.cell? ⟨Wb, 0, none⟩ = some (.slice (some ⟨g, 0, none⟩) W.length c) ∧ ROut w (w8.setCell ⟨Wb, 0, none⟩ (.slice A8 (W.length + 1) c8)) B Wb (M + 1) (W ++ [x]) g := by
  have hbl := (h.blk.next hb).stays (Stays.grew hg) (fun e => h.ne (Option.some.inj e))
  refine ⟨hbl.frozen 0, hbl.lt, hbl.get 0, ?_⟩
  obtain ⟨g', rfl, hg1, hg2⟩ := Own.some ho (by rw [List.length_append]; show 0 < _ + 6; omega)
  have hgn : g' = g ∨ wa.heap.size ≤ g' := by
    rcases hg.blk with e | ⟨q, hq, e⟩
    · exact .inl (by simpa [blkOf] using e)
    · have e2 : g' = q := by simpa [blkOf] using e
      exact .inr (by omega)
  have hne : g' ≠ Wb := fun e => by
    rcases hgn with e2 | e2
    · exact h.ne (e2.symm.trans e)
    · have := h.blk.lt; have := hb.size; omega
  have hl : (W ++ [x]).length = W.length + 1 := by rw [List.length_append]; rfl
  have hS : Stays w (w8.setCell ⟨Wb, 0, none⟩ (.slice (some ⟨g', 0, none⟩) (W.length + 1) c8)) (WF Wb g) :=
    ((Stays.of_below hb _).comp ((Stays.grew hg).mono fun k _ e => .inr (Option.some.inj e).symm)).comp ((Stays.set w8 Wb 0 _).mono fun k _ e => .inl e)
  refine ⟨g', c8, ia ++ [⟨x, none, 0⟩], ⟨hI, by rw [List.map_append, h.eq]; rfl, by rw [hl]; exact hbl.set 0 _, ?_, fun y hy => ?_, h.lo, by rw [hl]; have := h.few; omega⟩, hS, fun k hk => ?_⟩
  · rw [hl, List.flatMap_append]
    have h2 : ([⟨x, none, 0⟩] : List ItA).flatMap ItA.cells = ItA.cells ⟨x, none, 0⟩ := by simp
    rw [h2]
    exact ho.setCell (fun e => hne (by simpa [blkOf] using e)) _
  · rcases List.mem_append.1 hy with hy | hy
    · exact (h.rows y hy).stays hS fun k hk e => e.elim (h.rowFar hy hk).1 (h.rowFar hy hk).2
    · simp only [List.mem_singleton] at hy
      subst hy
      show Own _ B 5 1 none x.data.length 0 (x.data.map u8v)
      rw [hd]
      exact Own.nil _ _ _ _
  · rcases hk with rfl | rfl
    · exact .inl (.inl rfl)
    · rcases hgn with e2 | e2
      · exact .inl (.inr e2)
      · exact .inr (by have := hb.size; omega)
set_option maxRecDepth 100000 in
set_option maxHeartbeats 4000000 in
theorem ref_add {B Wb M : Nat} {W : List tr.Item} {g c0 : Nat} {ia : List ItA} (L : List (List UInt8)) (A : Option Addr) (c : Nat) (kd : Int) (tg : List UInt8) (w : World) (h : WdAt w B Wb M W g c0 ia) (hM : M ≤ 1000000) (hl : NmRep w A c L) (hn : Nms L) (hkd : kd = 1 ∨ kd = 2 ∨ kd = 3) (htg : tg.length ≤ 200) :
    Calls Tryd.prog 21 #[.pointer (some ⟨Wb, 0, none⟩), .slice A L.length c, .agg #[.int .i64 kd, .int .i64 0, .string ⟨#[]⟩, .slice none 0 0, .string (strOf tg), .bool false]] w fun e w' => e = .returned (.int .i64 (tr.add W L ⟨kd, 0, [], [], tg, false⟩).2) ∧ ROut w w' B Wb (M + 1) (tr.add W L ⟨kd, 0, [], [], tg, false⟩).1 g := by
  obtain ⟨R, hR⟩ : ∃ R, R = tr.add W L ⟨kd, 0, [], [], tg, false⟩ := ⟨_, rfl⟩
  rw [← hR]
  obtain ⟨w1, hw1⟩ : ∃ w1, w1 = w.alloc (.cells #[.int .i64 kd, .int .i64 0, .string ⟨#[]⟩, .slice none 0 0, .string (strOf tg), .bool false] 66) := ⟨_, rfl⟩
  have hb1 : Below w.heap.size w w1 := by rw [hw1]; exact balloc (bself w) _
  have hz1 : w1.heap.size = w.heap.size + 1 := by rw [hw1]; simp
  have HX1 : Hid (BlkA w1 w.heap.size 66 #[.int .i64 kd, .int .i64 0, .string ⟨#[]⟩, .slice none 0 0, .string (strOf tg), .bool false]) := Lib.hid (by rw [hw1]; exact BlkA.new _ _ _)
  have HS := ref_spot L A c w1 (h.next hb1) hM (hl.next hb1) hn
  have H := Lib.hid h
  have HB1 := Lib.hid hb1
  have hfew := h.few
  have HTS := Lib.hid (fun w' (hb : Below w.heap.size w w') => ROut.same h hb (Nat.le_succ M))
  cases hs : tr.spot W L with
  | error q =>
    rw [hs] at HS
    have HC : Hid (Calls Tryd.prog 24 #[.pointer (some ⟨Wb, 0, none⟩), .slice A L.length c] w1 fun e w' => Below w1.heap.size w1 w' ∧ e = .returned (.tuple #[.int .i64 0, .string ⟨#[]⟩, .int .i64 q])) := Lib.hid HS
    have hq : (q != 0) = true := by simpa using tr.spot_err_ne hs
    have HE : Hid (R = (W, q)) := Lib.hid (by rw [hR]; unfold tr.add; rw [hs])
    clear HS hs hR h hl hn hb1 hz1
    go_enter Tryd.func21, Tryd.ntmps21
    go_upto_region 1 with (fail)
    rw [← hw1]
    clear hw1
    go_wp2_with (first
      | (go_at_call 24; ((with_reducible refine HC.out.mono ?_); rintro e w2 ⟨hb2, rfl⟩; have HB2 := Lib.hid (bnext HB1.out hb2); clear hb2))
      | fail)
    go_ret
    rw [HE.out]
    exact ⟨rfl, HTS.out _ HB2.out⟩
  | ok dn =>
    obtain ⟨d, nm⟩ := dn
    rw [hs] at HS
    have HC : Hid (Calls Tryd.prog 24 #[.pointer (some ⟨Wb, 0, none⟩), .slice A L.length c] w1 fun e w' => Below w1.heap.size w1 w' ∧ e = .returned (.tuple #[.int .i64 (d : Int), .string (strOf nm), .int .i64 0])) := Lib.hid HS
    obtain ⟨s1, s2, s3, s4, s5⟩ := tr.spot_ok h.inv hs
    have hnml : nm.length ≤ 16 := by rw [s5]; exact hn.last
    have HADD : Hid (R = if 40 ≤ tr.liveN W then (W, 9) else (W ++ [(⟨kd, 0, [], [], tg, false⟩ : tr.Item).put d nm], 0)) := Lib.hid (by rw [hR]; unfold tr.add; rw [hs])
    have HINV : Hid (¬ 40 ≤ tr.liveN W → tr.Inv (W ++ [(⟨kd, 0, [], [], tg, false⟩ : tr.Item).put d nm])) := Lib.hid (fun h40 => h.inv.snoc rfl rfl s2 s3 s4 hkd hnml (Nat.zero_le _) htg (by omega))
    clear HS hs hR hl hn hb1 s1 s2 s3 s4 s5 h
    go_enter Tryd.func21, Tryd.ntmps21
    go_upto_region 1 with (fail)
    rw [← hw1]
    clear hw1
    go_upto_region 5 with (first
      | (go_at_call 24; ((with_reducible refine HC.out.mono ?_); rintro e w2 ⟨hb2, rfl⟩; have HB2 := Lib.hid (bnext HB1.out hb2); have HX2 := Lib.hid (HX1.out.next hb2); clear hb2))
      | fail)
    have hr2 := (H.out.next HB2.out).row
    have hWl2 := ((H.out.next HB2.out).lt (.inl rfl)).2
    go_wp2
    have hwx : w.heap.size < w2.heap.size := HX2.out.lt
    go_loopw [10, 28] (fun s10 s28 wr => ∃ k : Nat, k ≤ W.length ∧ s28 = .int .i64 (k : Int) ∧ s10 = .int .i64 (tr.liveN (W.take k) : Int) ∧ Hid (Below w2.heap.size w2 wr)) (fun _ s28 _ => W.length - (intOf s28).toNat)
    case atStart => exact ⟨0, by omega, rfl, rfl, Lib.hid (bself _)⟩
    case round =>
      obtain ⟨k, hk, rfl, rfl, HJ⟩ := hrel
      rename World => wr
      by_cases hlt : k < W.length
      · have hlt' : (k : Int) < (W.length : Int) := by omega
        have HBR := Lib.hid (HB2.out.trans (HJ.out.mono HB2.out.size))
        obtain ⟨_, _, _, q0, q1, q2, q3, q4, q5, _⟩ := (H.out.next HBR.out).at hlt
        have hgl := ((H.out.next HBR.out).lt (.inr rfl)).2
        have HSC := Lib.hid (tr.live_take hlt)
        have hlv : tr.liveN (W.take k) ≤ k := by have := tr.live_le (W.take k); rw [List.length_take] at this; omega
        have hw2 : IntKind.i64.wrap ((tr.liveN (W.take k) : Int) + 1) = (tr.liveN (W.take k) : Int) + 1 := IntWalk.i64_in _ (by omega)
        generalize tr.liveN (W.take k) = lv at *
        cases hgn : (tr.it W k).gone with
        | true =>
          rw [hgn] at q5
          have HN : Hid (tr.liveN (W.take (k + 1)) = lv) := Lib.hid (by rw [HSC.out, hgn]; rfl)
          clear hgn HSC
          go_wp2
          go_roundw
          case rel => exact ⟨k + 1, by omega, by go_num, by rw [HN.out], Lib.hid (bnext HJ.out (by exact (by repeat (first | (with_reducible exact Below.refl _ _) | (with_reducible assumption) | (with_reducible refine bset ?_ ?_ _) | (with_reducible refine balloc ?_ _) | (with_reducible refine Below.drew ?_) | (with_reducible refine bdrewN ?_ _) | (with_reducible refine bnext ?_ (by with_reducible assumption)) | exact Nat.le_refl _ | (simp; done) | omega | (simp; omega)))))⟩
          case measure => simp [intOf]; omega
        | false =>
          rw [hgn] at q5
          have HN : Hid (tr.liveN (W.take (k + 1)) = lv + 1) := Lib.hid (by rw [HSC.out, hgn]; rfl)
          clear hgn HSC
          go_wp2
          go_roundw
          case rel => exact ⟨k + 1, by omega, by go_num, by rw [HN.out]; go_num, Lib.hid (bnext HJ.out (by exact (by repeat (first | (with_reducible exact Below.refl _ _) | (with_reducible assumption) | (with_reducible refine bset ?_ ?_ _) | (with_reducible refine balloc ?_ _) | (with_reducible refine Below.drew ?_) | (with_reducible refine bdrewN ?_ _) | (with_reducible refine bnext ?_ (by with_reducible assumption)) | exact Nat.le_refl _ | (simp; done) | omega | (simp; omega)))))⟩
          case measure => simp [intOf]; omega
      · obtain rfl : k = W.length := by omega
        rw [List.take_length]
        have HBR := Lib.hid (HB2.out.trans (HJ.out.mono HB2.out.size))
        have HXR := Lib.hid (HX2.out.next HJ.out)
        clear HJ
        by_cases h40 : 40 ≤ tr.liveN W
        · have HE : Hid (R = (W, 9)) := Lib.hid (by rw [HADD.out, if_pos h40])
          have h40' : (40 : Int) ≤ (tr.liveN W : Int) := by omega
          clear h40
          go_wp2
          go_ret
          rw [HE.out]
          exact ⟨rfl, HTS.out _ HBR.out⟩
        · have HE : Hid (R = (W ++ [(⟨kd, 0, [], [], tg, false⟩ : tr.Item).put d nm], 0)) := Lib.hid (by rw [HADD.out, if_neg h40])
          have h40' : ¬ (40 : Int) ≤ (tr.liveN W : Int) := by omega
          have xd := HXR.out.get
          have xf := HXR.out.frozen
          have xl := HXR.out.lt
          have HI := Lib.hid (HINV.out h40)
          clear h40
          go_upto_region 15 with (fail)
          generalize hw5 : World.setCell _ _ _ = w5
          have HX5 : Hid (BlkA w5 w.heap.size 66 #[.int .i64 kd, .int .i64 (d : Int), .string (strOf nm), .slice none 0 0, .string (strOf tg), .bool false]) := Lib.hid (by
            rw [← hw5]
            exact (HXR.out.set 1 _).set 2 _)
          have HB5 : Hid (Below w.heap.size w w5) := Lib.hid (by rw [← hw5]; exact bset (bset HBR.out (Nat.le_refl _) _) (Nat.le_refl _) _)
          clear hw5 xd xf xl
          have HSS : Hid (∀ wx, Below w5.heap.size w5 wx → wx.cell? ⟨Wb, 0, none⟩ = some (.slice (some ⟨g, 0, none⟩) W.length c0) ∧ BlkA wx w.heap.size 66 #[.int .i64 kd, .int .i64 (d : Int), .string (strOf nm), .slice none 0 0, .string (strOf tg), .bool false]) := Lib.hid (fun wx hb => ⟨(H.out.next (HB5.out.trans (hb.mono HB5.out.size))).row, HX5.out.next hb⟩)
          have HO5 : Hid (∀ wx, Below w5.heap.size w5 wx → Own wx B 66 6 (some ⟨g, 0, none⟩) W.length c0 (ia.flatMap ItA.cells)) := Lib.hid (fun wx hb => (H.out.next (HB5.out.trans (hb.mono HB5.out.size))).own)
          have hB5 : B ≤ w5.heap.size := by have h1 := H.out.lo; have h2 := H.out.blk.lt; have h3 := HB5.out.size; omega
          have HPU : Hid (∀ wa A8 c8 w8, Below w5.heap.size w5 wa → Own w8 B 66 6 A8 (W.length + 1) c8 (ia.flatMap ItA.cells ++ ItA.cells ⟨(⟨kd, 0, [], [], tg, false⟩ : tr.Item).put d nm, none, 0⟩) → Grew wa w8 (some ⟨g, 0, none⟩) A8 → w8.frozen? ⟨Wb, 0, none⟩ = false ∧ Wb < w8.heap.size ∧ w8.cell? ⟨Wb, 0, none⟩ = some (.slice (some ⟨g, 0, none⟩) W.length c0) ∧ ROut w (w8.setCell ⟨Wb, 0, none⟩ (.slice A8 (W.length + 1) c8)) B Wb (M + 1) (W ++ [(⟨kd, 0, [], [], tg, false⟩ : tr.Item).put d nm]) g) := Lib.hid (fun wa A8 c8 w8 hb ho hg => H.out.push HI.out rfl (HB5.out.trans (hb.mono HB5.out.size)) ho hg)
          --<ad
          refine wp_region_tail [7, 10] (fun wx => wx.cell? ⟨Wb, 0, none⟩ = some (.slice (some ⟨g, 0, none⟩) W.length c0) ∧ BlkA wx w.heap.size 66 #[.int .i64 kd, .int .i64 (d : Int), .string (strOf nm), .slice none 0 0, .string (strOf tg), .bool false]) (by kernel_rfl) (HSS.out w5 (bself _)) ?_
          intro hHeld
          refine wpAnyT_pure (i := 0) (v := ?_) rfl (by kernel_rfl) (by kernel_rfl) (by kernel_rfl) (fun _ _ _ h => h) (.inl ⟨by kernel_rfl, ?_⟩) (fun _ => hHeld) ?_ (by decide)
          rotate_left
          · intro w9; go_simp; try with_reducible rfl
          try simp only [Act.put, List.getElem_toArray, List.getElem_cons_succ, List.getElem_cons_zero, List.setIfInBounds_toArray, List.set_cons_zero, List.set_cons_succ]
          refine wpAnyT_pure (i := 1) (v := ?_) rfl (by kernel_rfl) (by kernel_rfl) (by kernel_rfl) (fun _ _ _ h => h) (.inl ⟨by kernel_rfl, ?_⟩) (fun _ => hHeld) ?_ (by decide)
          rotate_left
          · intro w9; go_simp; try with_reducible rfl
          try simp only [Act.put, List.getElem_toArray, List.getElem_cons_succ, List.getElem_cons_zero, List.setIfInBounds_toArray, List.set_cons_zero, List.set_cons_succ]
          refine wpAnyT_pure (i := 2) (v := ?_) rfl (by kernel_rfl) (by kernel_rfl) (by kernel_rfl) (fun _ _ _ h => h) (.inl ⟨by kernel_rfl, ?_⟩) (fun _ => hHeld) ?_ (by decide)
          rotate_left
          · intro w9; go_simp; try with_reducible rfl
          try simp only [Act.put, List.getElem_toArray, List.getElem_cons_succ, List.getElem_cons_zero, List.setIfInBounds_toArray, List.set_cons_zero, List.set_cons_succ]
          refine wpAnyT_pure (i := 3) (v := ?_) rfl (by kernel_rfl) (by kernel_rfl) (by kernel_rfl) (fun _ _ _ h => h) (.inl ⟨by kernel_rfl, ?_⟩) (fun _ => hHeld) ?_ (by decide)
          rotate_left
          · intro w9; go_simp; try with_reducible rfl
          try simp only [Act.put, List.getElem_toArray, List.getElem_cons_succ, List.getElem_cons_zero, List.setIfInBounds_toArray, List.set_cons_zero, List.set_cons_succ]
          refine wpAnyT_take (i := 4) [7, 8, 9, 10] (v := ?_) rfl (by kernel_rfl) (by kernel_rfl) (by kernel_rfl) (by kernel_rfl) (fun _ _ _ h => h) (.inl ⟨by kernel_rfl, ?_⟩) hHeld ?_
          rotate_left
          · intro w9 hS9; (try dsimp only at hS9); obtain ⟨q1, q2⟩ := hS9; have q3 := q2.get; have q4 := q2.lt; go_simp; try with_reducible rfl
          try simp only [Act.put, List.getElem_toArray, List.getElem_cons_succ, List.getElem_cons_zero, List.setIfInBounds_toArray, List.set_cons_zero, List.set_cons_succ]
          refine wpAnyT_take (i := 5) [6, 7, 8, 9, 10] (v := ?_) rfl (by kernel_rfl) (by kernel_rfl) (by kernel_rfl) (by kernel_rfl) (fun _ _ _ h => h) (.inl ⟨by kernel_rfl, ?_⟩) hHeld ?_
          rotate_left
          · intro w9 hS9; (try dsimp only at hS9); obtain ⟨q1, q2⟩ := hS9; have q3 := q2.get; have q4 := q2.lt; go_simp; try with_reducible rfl
          try simp only [Act.put, List.getElem_toArray, List.getElem_cons_succ, List.getElem_cons_zero, List.setIfInBounds_toArray, List.set_cons_zero, List.set_cons_succ]
          refine wpAnyT_next (i := 6) (by kernel_rfl) rfl ?_
          intro K hK
          go_simp
          refine hK.out _ _ (fun _ => (HSS.out _ (by exact (by repeat (first | (with_reducible exact Below.refl _ _) | (with_reducible assumption) | (with_reducible refine bset ?_ ?_ _) | (with_reducible refine balloc ?_ _) | (with_reducible refine Below.drew ?_) | (with_reducible refine bdrewN ?_ _) | (with_reducible refine bnext ?_ (by with_reducible assumption)) | exact Nat.le_refl _ | (simp; done) | omega | (simp; omega)))))) ?_
          clear hK K
          try simp only [Act.put, List.getElem_toArray, List.getElem_cons_succ, List.getElem_cons_zero, List.setIfInBounds_toArray, List.set_cons_zero, List.set_cons_succ]
          refine wpAnyT_next (i := 7) (by kernel_rfl) rfl ?_
          intro K hK
          refine step_app _ (by rfl) _ _ _ (by rfl) elemItem B (some ⟨g, 0, none⟩) W.length c0 _ (by rfl) (HO5.out _ (by exact (by repeat (first | (with_reducible exact Below.refl _ _) | (with_reducible assumption) | (with_reducible refine bset ?_ ?_ _) | (with_reducible refine balloc ?_ _) | (with_reducible refine Below.drew ?_) | (with_reducible refine bdrewN ?_ _) | (with_reducible refine bnext ?_ (by with_reducible assumption)) | exact Nat.le_refl _ | (simp; done) | omega | (simp; omega))))) _ 1 1 (ItA.cells ⟨(⟨kd, 0, [], [], tg, false⟩ : tr.Item).put d nm, none, 0⟩) (by rfl) rfl (Cells.newAt _ _ _ (by simp)) (by simp [ItA.cells, Value.oneCell']) (by omega) (by unfold maxLen; omega) (by first | (simp only [World.size_alloc]; omega) | (show B ≤ _; simp; omega)) ?_
          intro A8 c8 w8 hO8 hg8
          obtain ⟨f8, l8, r8, m8⟩ := HPU.out _ A8 c8 w8 (by exact (by repeat (first | (with_reducible exact Below.refl _ _) | (with_reducible assumption) | (with_reducible refine bset ?_ ?_ _) | (with_reducible refine balloc ?_ _) | (with_reducible refine Below.drew ?_) | (with_reducible refine bdrewN ?_ _) | (with_reducible refine bnext ?_ (by with_reducible assumption)) | exact Nat.le_refl _ | (simp; done) | omega | (simp; omega)))) hO8 hg8
          have HM8 := Lib.hid m8
          clear hO8 hg8 m8
          go_simp
          refine hK.out _ _ (fun h => absurd ((by kernel_rfl : false = _).trans h) Bool.false_ne_true) ?_
          clear hK K
          try simp only [Act.put, List.getElem_toArray, List.getElem_cons_succ, List.getElem_cons_zero, List.setIfInBounds_toArray, List.set_cons_zero, List.set_cons_succ]
          refine wpAnyT_pure (i := 8) (v := ?_) rfl (by kernel_rfl) (by kernel_rfl) (by kernel_rfl) (fun _ _ _ h => h) (.inl ⟨by kernel_rfl, ?_⟩) (fun h => absurd ((by kernel_rfl : false = _).trans h) Bool.false_ne_true) ?_ (by decide)
          rotate_left
          · intro w9; go_simp; try with_reducible rfl
          try simp only [Act.put, List.getElem_toArray, List.getElem_cons_succ, List.getElem_cons_zero, List.setIfInBounds_toArray, List.set_cons_zero, List.set_cons_succ]
          refine wpAnyT_pure (i := 9) (v := ?_) rfl (by kernel_rfl) (by kernel_rfl) (by kernel_rfl) (fun _ _ _ h => h) (.inl ⟨by kernel_rfl, ?_⟩) (fun h => absurd ((by kernel_rfl : false = _).trans h) Bool.false_ne_true) ?_ (by decide)
          rotate_left
          · intro w9; go_simp; try with_reducible rfl
          try simp only [Act.put, List.getElem_toArray, List.getElem_cons_succ, List.getElem_cons_zero, List.setIfInBounds_toArray, List.set_cons_zero, List.set_cons_succ]
          refine wpAnyT_next (i := 10) (by kernel_rfl) rfl ?_
          intro K hK
          go_simp
          refine hK.out _ _ (fun h => absurd ((by kernel_rfl : false = _).trans h) Bool.false_ne_true) ?_
          clear hK K
          refine wpAnyT_done (by kernel_rfl) ?_ _
          go_wp2
          go_ret
          rw [HE.out]
          exact ⟨rfl, HM8.out⟩
          --ad>
end Go.Proofs.YtlcjdlnhniemcaaDoor
end
