/- Package tree: what an act does to a file. No condition. -/
import Derived.Test.YtlcjdlnhniemcaaDoorTree6
namespace Go.Proofs.YtlcjdlnhniemcaaDoor
open Go.RowKit Go.Maps Go.MapKept
set_option linter.unusedSimpArgs false
set_option linter.unusedVariables false

set_option maxRecDepth 100000 in
theorem tree_no (c : Int) (w : World) : Calls Tryd.prog 13 #[.int .i64 c] w fun e w' => e = .returned (.agg #[.int .i64 c, .int .i64 0, .int .i64 0, .slice none 0 0, .slice none 0 0]) ∧ Below w.heap.size w w' := by
  go_enter Tryd.func13, Tryd.ntmps13
  go_wp2
  first
    | (go_ret; exact ⟨rfl, (by repeat (first | (with_reducible exact Below.refl _ _) | (with_reducible assumption) | (with_reducible refine bset ?_ ?_ _) | (with_reducible refine balloc ?_ _) | (with_reducible refine Below.drew ?_) | (with_reducible refine bdrewN ?_ _) | (with_reducible refine bnext ?_ (by with_reducible assumption)) | exact Nat.le_refl _ | (simp; done) | omega | (simp; omega)))⟩)
    | exact bodyPost_ret (v := .agg #[.int .i64 c, .int .i64 0, .int .i64 0, .slice none 0 0, .slice none 0 0]) (by first | (simp [results, Tryd.results13, go_sem]; done) | (simp [results, Tryd.results13, go_sem, *]; done)) rfl ⟨rfl, (by repeat (first | (with_reducible exact Below.refl _ _) | (with_reducible assumption) | (with_reducible refine bset ?_ ?_ _) | (with_reducible refine balloc ?_ _) | (with_reducible refine Below.drew ?_) | (with_reducible refine bdrewN ?_ _) | (with_reducible refine bnext ?_ (by with_reducible assumption)) | exact Nat.le_refl _ | (simp; done) | omega | (simp; omega)))⟩
set_option maxRecDepth 100000 in
theorem tree_in (n : Int) (b : Bool) (hb : b = decide (tr.fits n)) (w : World) : Calls Tryd.prog 46 #[.int .i64 n] w fun e w' => e = .returned (.bool b) ∧ w = w' := by
  subst hb
  by_cases h0 : 0 ≤ n
  · by_cases h1 : n ≤ 2048
    · have HE : Hid (decide (tr.fits n) = true) := Lib.hid (decide_eq_true ⟨h0, h1⟩)
      have h0' : decide (n ≥ 0) = true := by simp; omega
      have h1' : decide (n ≤ 2048) = true := by simp; omega
      go_enter Tryd.func46, Tryd.ntmps46
      go_wp2
      go_ret
      exact ⟨by rw [HE.out]; rfl, rfl⟩
    · have HE : Hid (decide (tr.fits n) = false) := Lib.hid (decide_eq_false fun h => by have := h.1; have := h.2; omega)
      have h0' : decide (n ≥ 0) = true := by simp; omega
      have h1' : decide (n ≤ 2048) = false := by simp; omega
      go_enter Tryd.func46, Tryd.ntmps46
      go_wp2
      go_ret
      exact ⟨by rw [HE.out]; rfl, rfl⟩
  · have HE : Hid (decide (tr.fits n) = false) := Lib.hid (decide_eq_false fun h => by have := h.1; have := h.2; omega)
    have h0' : decide (n ≥ 0) = false := by simp; omega
    have h0'' : decide (0 ≤ n) = false := by simp; omega
    go_enter Tryd.func46, Tryd.ntmps46
    go_wp2
    go_ret
    exact ⟨by rw [HE.out]; rfl, rfl⟩

/-- what an act on a file answers; the file behind it -/
def FDo (w : World) (B F : Nat) (A : Option Addr) (r : List UInt8 × Seen) (e : Ending) (w' : World) : Prop :=
  ∃ cs A' c', e = .returned (.agg cs.toArray) ∧ Seen.rep.rep w' (fun k => w.heap.size ≤ k ∧ k < w'.heap.size ∧ k ≠ F ∧ blkOf A' ≠ some k) r.2 cs ∧ FAt w' B F r.1 A' c' ∧ Stays w w' (fun k => k = F ∨ blkOf A = some k) ∧ ∀ k, blkOf A' = some k → blkOf A = some k ∨ w.heap.size ≤ k
theorem FOut.same {w w' : World} {B F : Nat} {A : Option Addr} {D : List UInt8} {c : Nat} (h : FAt w B F D A c) (hb : Below w.heap.size w w') : FOut w w' B F A D :=
  ⟨A, c, h.next hb, Stays.of_below hb _, fun k hk => .inl hk⟩
section
variable {w w1 w2 w' : World} {B F R : Nat} {A : Option Addr} {D : List UInt8} {c : Nat}
theorem FOut.apart (hF : FAt w B F D A c) (hb : Below w.heap.size w w1) (hR : w.heap.size ≤ R ∧ R < w1.heap.size) {A' : Option Addr} (hn : ∀ k, blkOf A' = some k → blkOf A = some k ∨ w1.heap.size ≤ k) : F ≠ R ∧ blkOf A' ≠ some R := by
  refine ⟨fun e => ?_, fun e => ?_⟩
  · have := hF.blk.lt; omega
  · rcases hn R e with h | h
    · have := (hF.own.lt R h).2; omega
    · omega
theorem FDo.plain (hF : FAt w B F D A c) (hb : Below w.heap.size w w1) (hR : w.heap.size ≤ R ∧ R < w1.heap.size) {r : List UInt8 × Seen} (hd : r.2.data = []) (hn : r.2.names = []) (h1 : FOut w1 w2 B F A r.1) (hs : Stays w2 w' (fun k => k = R)) :
    FDo w B F A r (.returned (.agg #[.int .i64 r.2.code, .int .i64 r.2.kind, .int .i64 r.2.size, .slice none 0 0, .slice none 0 0])) w' := by
  obtain ⟨A', c', f1, f2, f3⟩ := h1
  obtain ⟨n1, n2⟩ := FOut.apart hF hb hR f3
  refine ⟨[.int .i64 r.2.code, .int .i64 r.2.kind, .int .i64 r.2.size, .slice none 0 0, .slice none 0 0], A', c', rfl, Seen.rep_iff.2 ⟨none, 0, none, 0, by rw [hd, hn]; rfl, by rw [hd]; exact ⟨Nat.le_refl _, Nat.zero_le _, .inl rfl⟩, by rw [hn]; exact ⟨Nat.le_refl _, Nat.zero_le _, .inl rfl⟩⟩, ⟨f1.blk.stays hs n1, f1.own.stays hs (fun k hk e => n2 (e ▸ hk)), f1.lo⟩, ?_, fun k hk => (f3 k hk).imp id fun h => Nat.le_trans hb.size h⟩
  refine ((Stays.of_below hb _).comp f2).trans hs fun k hk e => ?_
  omega
theorem FDo.data (hF : FAt w B F D A c) (hb : Below w.heap.size w w1) (hR : w.heap.size ≤ R ∧ R < w1.heap.size) {x : List UInt8} {E : Option Addr} {ec : Nat} (hb2 : Below w1.heap.size w1 w2) (ho : Own w2 w1.heap.size 5 1 E x.length ec (x.map u8v)) (hs : Stays w2 w' (fun k => k = R)) :
    FDo w B F A (D, ⟨0, 0, 0, x, []⟩) (.returned (.agg #[.int .i64 0, .int .i64 0, .int .i64 0, .slice E x.length ec, .slice none 0 0])) w' := by
  obtain ⟨n1, n2⟩ := FOut.apart hF hb hR (A' := A) (fun k hk => .inl hk)
  have f1 := (hF.next hb).next hb2
  have ho' : Own w' w1.heap.size 5 1 E x.length ec (x.map u8v) := ho.stays hs fun k hk e => by have := (ho.lt k hk).1; omega
  have hFl := hF.blk.lt
  refine ⟨[.int .i64 0, .int .i64 0, .int .i64 0, .slice E x.length ec, .slice none 0 0], A, c, rfl, Seen.rep_iff.2 ⟨E, ec, none, 0, rfl, ?_, ⟨Nat.le_refl _, Nat.zero_le _, .inl rfl⟩⟩, ⟨f1.blk.stays hs n1, f1.own.stays hs (fun k hk e => n2 (e ▸ hk)), f1.lo⟩, ?_, fun k hk => .inl hk⟩
  · refine (Own.u8 ho').2.keep fun k hk => ⟨⟨by have := hb.size; omega, hk.2, by have := hb.size; omega, fun e => ?_⟩, rfl⟩
    have := (hF.own.lt k e).2
    have := hb.size
    omega
  · refine ((Stays.of_below hb _).comp (Stays.of_below hb2 _)).trans hs fun k hk e => ?_
    omega
end
theorem Stays.fiveS (w : World) (F : Nat) (v0 v1 v2 v3 v4 : Value) : Stays w (((((w.setCell ⟨F, 0, none⟩ v0).setCell ⟨F, 1, none⟩ v1).setCell ⟨F, 2, none⟩ v2).setCell ⟨F, 3, none⟩ v3).setCell ⟨F, 4, none⟩ v4) (fun k => k = F) :=
  ((((Stays.set w F 0 v0).comp (Stays.set _ F 1 v1)).comp (Stays.set _ F 2 v2)).comp (Stays.set _ F 3 v3)).comp (Stays.set _ F 4 v4)
theorem tr.fdo_range {d : List UInt8} {a : Act_} (h : (a.kind ≠ 5 ∧ ¬ tr.fits a.at_) ∨ (a.kind ≠ 3 ∧ ¬ tr.fits a.count)) : tr.fdo d a = (d, tr.seen 2) := if_pos h

set_option maxRecDepth 100000 in
set_option maxHeartbeats 4000000 in
theorem file_do (B F : Nat) (D : List UInt8) (A : Option Addr) (c : Nat) (a : Act_) (X : Option Addr) (xc : Nat) (w : World) (h : FAt w B F D A c) (hD : D.length ≤ 2048) (hk : a.kind = 3 ∨ a.kind = 4 ∨ a.kind = 5) (hX : SlRep Rep.u8 w (· < w.heap.size) a.data X xc) (hXF : ∀ k, a.data ≠ [] → blkOf X = some k → k ≠ F ∧ blkOf A ≠ some k) (hat : IntOk a.at_) (hct : IntOk a.count) (hd : a.data.length ≤ 140737488351232) :
    Calls Tryd.prog 33 #[.pointer (some ⟨F, 0, none⟩), .agg #[.int .i64 a.kind, .string a.path, .string a.to, .int .i64 a.at_, .int .i64 a.count, .slice X a.data.length xc]] w (FDo w B F A (tr.fdo D a)) := by
  obtain ⟨ak, ap, ao, aa, an, ad⟩ := a
  simp only at hX hat hct hd hk ⊢
  have hF := h.blk.lt
  obtain ⟨w1, hw1⟩ : ∃ w1, w1 = (w.alloc (.cells #[.int .i64 ak, .string ap, .string ao, .int .i64 aa, .int .i64 an, .slice X ad.length xc] 36)).alloc (.cells #[.int .i64 0, .int .i64 0, .int .i64 0, .slice none 0 0, .slice none 0 0] 31) := ⟨_, rfl⟩
  have hb1 : Below w.heap.size w w1 := by rw [hw1]; exact balloc (balloc (bself w) _) _
  have hz1 : w1.heap.size = w.heap.size + 1 + 1 := by rw [hw1]; simp
  have HH1 : Hid (BlkA w1 w.heap.size 36 #[.int .i64 ak, .string ap, .string ao, .int .i64 aa, .int .i64 an, .slice X ad.length xc]) := Lib.hid (by rw [hw1]; exact (BlkA.new _ _ _).alloc _)
  have HZ1 : Hid (BlkA w1 (w.heap.size + 1) 31 #[.int .i64 0, .int .i64 0, .int .i64 0, .slice none 0 0, .slice none 0 0]) := Lib.hid (by
    rw [hw1]
    have h := BlkA.new (w.alloc (.cells #[.int .i64 ak, .string ap, .string ao, .int .i64 aa, .int .i64 an, .slice X ad.length xc] 36)) 31 #[.int .i64 0, .int .i64 0, .int .i64 0, .slice none 0 0, .slice none 0 0]
    simpa using h)
  have H := Lib.hid h
  have H1 := Lib.hid (h.next hb1)
  have HB1 := Lib.hid hb1
  have HX1 := Lib.hid (hX.next hb1)
  have HR : Hid (w.heap.size ≤ w.heap.size + 1 ∧ w.heap.size + 1 < w1.heap.size) := Lib.hid ⟨by omega, by omega⟩
  have HZ := Lib.hid hz1
  have hd' := HH1.out.get
  have lh := HH1.out.lt
  have zd := HZ1.out.get
  have ze := HZ1.out.frozen
  have lz := HZ1.out.lt
  have fd := H1.out.cell
  have lf := H1.out.blk.lt
  have HNO := Lib.hid (fun c wx => tree_no c wx)
  have HKEEP : Hid (∀ wx, Stays w1 wx (fun k => k = F ∨ blkOf A = some k) → BlkA wx w.heap.size 36 #[.int .i64 ak, .string ap, .string ao, .int .i64 aa, .int .i64 an, .slice X ad.length xc] ∧ BlkA wx (w.heap.size + 1) 31 #[.int .i64 0, .int .i64 0, .int .i64 0, .slice none 0 0, .slice none 0 0] ∧ Cells wx X (ad.map u8v)) := Lib.hid (fun wx hs => by
    have far : ∀ k, w.heap.size ≤ k → ¬ (k = F ∨ blkOf A = some k) := fun k hk e => by
      rcases e with e | e
      · omega
      · have := (H.out.own.lt k e).2; omega
    refine ⟨HH1.out.stays hs (far _ (Nat.le_refl _)), HZ1.out.stays hs (far _ (by omega)), ?_⟩
    by_cases had : ad = []
    · exact .inl (by rw [had]; rfl)
    refine SlRep.cells_u8 ((SlRep.in_row HX1.out (S' := fun k => blkOf X = some k ∧ k < w1.heap.size) fun k h1 h2 => ⟨h1, h2⟩).keep (S' := fun _ => True) fun k hk => ⟨trivial, hs.block k hk.2 (fun e => ?_)⟩)
    obtain ⟨e1, e2⟩ := hXF k had hk.1
    rcases e with e | e
    · exact e1 e
    · exact e2 e)
  clear h hX hb1 hz1
  go_enter Tryd.func33, Tryd.ntmps33
  go_upto_region 1 with (fail)
  rw [← hw1]
  clear hw1
  by_cases hbad : (ak ≠ 5 ∧ ¬ tr.fits aa) ∨ (ak ≠ 3 ∧ ¬ tr.fits an)
  · have HFIN : Hid (∀ w2 w', Below w1.heap.size w1 w2 → Stays w2 w' (fun k => k = w.heap.size + 1) → FDo w B F A (tr.fdo D ⟨ak, ap, ao, aa, an, ad⟩) (.returned (.agg #[.int .i64 2, .int .i64 0, .int .i64 0, .slice none 0 0, .slice none 0 0])) w') := Lib.hid (fun w2 w' hb hs => by
      rw [tr.fdo_range hbad]
      exact FDo.plain H.out HB1.out HR.out (r := (D, tr.seen 2)) rfl rfl (FOut.same H1.out hb) hs)
    have HIA := Lib.hid (fun b (hb : b = decide (tr.fits aa)) wx => tree_in aa b hb wx)
    have HIN := Lib.hid (fun b (hb : b = decide (tr.fits an)) wx => tree_in an b hb wx)
    rcases hk with rfl | rfl | rfl
    · have h1 : ¬ tr.fits aa := by rcases hbad with h | h; exact h.2; exact absurd rfl h.1
      have HIA := Lib.hid (HIA.out false (by simp [h1]))
      clear HIN hbad
      go_wp2_with (first
        | (go_at_call 46; ((with_reducible refine (HIA.out _).mono ?_); rintro e w2 ⟨rfl, rfl⟩))
        | (go_at_call 13; ((with_reducible refine (HNO.out _ _).mono ?_); rintro e w4 ⟨rfl, hb4⟩; have z4 := HZ1.out.next hb4; have zd := z4.get; have ze := z4.frozen; have lz4 := z4.lt; have HB4 := Lib.hid hb4; clear hb4 z4))
        | fail)
      refine bodyPost_ret (v := .agg #[.int .i64 2, .int .i64 0, .int .i64 0, .slice none 0 0, .slice none 0 0]) (by simp [results, Tryd.results33, go_sem, *]) rfl (HFIN.out _ _ HB4.out ?_)
      exact Stays.fiveS _ _ _ _ _ _ _
    · by_cases h1 : tr.fits aa
      · have h2 : ¬ tr.fits an := by rcases hbad with h | h; exact absurd h1 h.2; exact h.2
        have HIA := Lib.hid (HIA.out true (by simp [h1]))
        have HIN := Lib.hid (HIN.out false (by simp [h2]))
        by_cases he : aa = an
        · subst he; exact absurd h1 h2
        clear hbad
        go_wp2_with (first
          | (go_at_call 46; first | ((with_reducible refine (HIA.out _).mono ?_); rintro e w2 ⟨rfl, rfl⟩) | ((with_reducible refine (HIN.out _).mono ?_); rintro e w2 ⟨rfl, rfl⟩))
          | (go_at_call 13; ((with_reducible refine (HNO.out _ _).mono ?_); rintro e w4 ⟨rfl, hb4⟩; have z4 := HZ1.out.next hb4; have zd := z4.get; have ze := z4.frozen; have lz4 := z4.lt; have HB4 := Lib.hid hb4; clear hb4 z4))
          | fail)
        refine bodyPost_ret (v := .agg #[.int .i64 2, .int .i64 0, .int .i64 0, .slice none 0 0, .slice none 0 0]) (by simp [results, Tryd.results33, go_sem, *]) rfl (HFIN.out _ _ HB4.out ?_)
        exact Stays.fiveS _ _ _ _ _ _ _
      · have HIA := Lib.hid (HIA.out false (by simp [h1]))
        clear HIN hbad
        go_wp2_with (first
          | (go_at_call 46; ((with_reducible refine (HIA.out _).mono ?_); rintro e w2 ⟨rfl, rfl⟩))
          | (go_at_call 13; ((with_reducible refine (HNO.out _ _).mono ?_); rintro e w4 ⟨rfl, hb4⟩; have z4 := HZ1.out.next hb4; have zd := z4.get; have ze := z4.frozen; have lz4 := z4.lt; have HB4 := Lib.hid hb4; clear hb4 z4))
          | fail)
        refine bodyPost_ret (v := .agg #[.int .i64 2, .int .i64 0, .int .i64 0, .slice none 0 0, .slice none 0 0]) (by simp [results, Tryd.results33, go_sem, *]) rfl (HFIN.out _ _ HB4.out ?_)
        exact Stays.fiveS _ _ _ _ _ _ _
    · have h2 : ¬ tr.fits an := by rcases hbad with h | h; exact absurd rfl h.1; exact h.2
      have HIN := Lib.hid (HIN.out false (by simp [h2]))
      clear HIA hbad
      go_wp2_with (first
        | (go_at_call 46; ((with_reducible refine (HIN.out _).mono ?_); rintro e w2 ⟨rfl, rfl⟩))
        | (go_at_call 13; ((with_reducible refine (HNO.out _ _).mono ?_); rintro e w4 ⟨rfl, hb4⟩; have z4 := HZ1.out.next hb4; have zd := z4.get; have ze := z4.frozen; have lz4 := z4.lt; have HB4 := Lib.hid hb4; clear hb4 z4))
        | fail)
      refine bodyPost_ret (v := .agg #[.int .i64 2, .int .i64 0, .int .i64 0, .slice none 0 0, .slice none 0 0]) (by simp [results, Tryd.results33, go_sem, *]) rfl (HFIN.out _ _ HB4.out ?_)
      exact Stays.fiveS _ _ _ _ _ _ _
  · rcases hk with rfl | rfl | rfl
    ·
      have h1 : tr.fits aa := Classical.byContradiction fun h => hbad (.inl ⟨by decide, h⟩)
      have HIA := Lib.hid (fun wx => tree_in aa true (by simp [h1]) wx)
      obtain ⟨p, rfl⟩ : ∃ p : Nat, aa = p := ⟨aa.toNat, by have := h1.1; omega⟩
      have hp : p ≤ 2048 := by have := h1.2; omega
      have hw1 : IntKind.i64.wrap ((p : Int) + (ad.length : Int)) = (p : Int) + (ad.length : Int) := IntWalk.i64_in _ (by omega)
      by_cases hov : 2048 < p + ad.length
      · have HFIN : Hid (∀ w2 w', Below w1.heap.size w1 w2 → Stays w2 w' (fun k => k = w.heap.size + 1) → FDo w B F A (tr.fdo D ⟨3, ap, ao, p, an, ad⟩) (.returned (.agg #[.int .i64 11, .int .i64 0, .int .i64 0, .slice none 0 0, .slice none 0 0])) w') := Lib.hid (fun w2 w' hb hs => by
          have e : tr.fdo D ⟨3, ap, ao, p, an, ad⟩ = (D, tr.seen 11) := by unfold tr.fdo; rw [if_neg hbad, if_pos rfl, if_pos (by show (2048 : Int) < (p : Int) + (ad.length : Int); omega)]
          rw [e]
          exact FDo.plain H.out HB1.out HR.out (r := (D, tr.seen 11)) rfl rfl (FOut.same H1.out hb) hs)
        have hov' : (p : Int) + (ad.length : Int) > 2048 := by omega
        clear hbad h1
        go_wp2_with (first
          | (go_at_call 46; ((with_reducible refine (HIA.out _).mono ?_); rintro e w2 ⟨rfl, rfl⟩))
          | (go_at_call 13; ((with_reducible refine (HNO.out _ _).mono ?_); rintro e w4 ⟨rfl, hb4⟩; have z4 := HZ1.out.next hb4; have zd := z4.get; have ze := z4.frozen; have lz4 := z4.lt; have HB4 := Lib.hid hb4; clear hb4 z4))
          | fail)
        refine bodyPost_ret (v := .agg #[.int .i64 11, .int .i64 0, .int .i64 0, .slice none 0 0, .slice none 0 0]) (by simp [results, Tryd.results33, go_sem, *]) rfl (HFIN.out _ _ HB4.out ?_)
        exact Stays.fiveS _ _ _ _ _ _ _
      · have hpl : p + ad.length ≤ 2048 := by omega
        have hov' : ¬ ((p : Int) + (ad.length : Int) > 2048) := by omega
        have hov2 : decide ((p : Int) + (ad.length : Int) > 2048) = false := decide_eq_false hov'
        have HPUT : Hid (tr.fdo D ⟨3, ap, ao, p, an, ad⟩ = (tr.putD D p ad, ⟨0, 0, ((tr.putD D p ad).length : Int), [], []⟩)) := Lib.hid (by
          unfold tr.fdo
          rw [if_neg hbad, if_pos rfl, if_neg (by show ¬ (2048 : Int) < (p : Int) + (ad.length : Int); omega)]
          rfl)
        obtain ⟨n, hn⟩ : ∃ n, n = p + ad.length := ⟨_, rfl⟩
        have hn' : (p : Int) + (ad.length : Int) = (n : Int) := by omega
        have HN := Lib.hid hn
        rw [hn'] at hw1 hov2
        have HLN : Hid (∀ m, m = (n : Int) → D.length < n → Calls Tryd.prog 47 #[.pointer (some ⟨F, 0, none⟩), .int .i64 m] w1 fun e w' => e = .returned (.tuple #[]) ∧ FOut w1 w' B F A (tr.zeros D n)) := Lib.hid (fun m hm hlt => by
          have h := file_long H1.out n (by omega) m hm
          rwa [show tr.cutD D n = tr.zeros D n by unfold tr.cutD; rw [List.take_of_length_le (by rw [tr.zeros_len]; omega)]] at h)
        have HSM : Hid (¬ D.length < n → FOut w1 w1 B F A (tr.zeros D n)) := Lib.hid (fun hge => by
          have e : tr.zeros D n = D := by unfold tr.zeros; rw [show n - D.length = 0 by omega]; simp
          rw [e]
          exact FOut.same H1.out (bself _))
        clear hbad h1 hn hov hov'
        go_upto_if 57 with (first
          | (go_at_call 46; ((with_reducible refine (HIA.out _).mono ?_); rintro e w2 ⟨rfl, rfl⟩))
          | fail)
        go_cut [] (fun wx => Hid (FOut w1 wx B F A (tr.zeros D n)))
        case first =>
          by_cases hg : D.length < n
          rotate_left
          · have hg' : ¬ (D.length : Int) < (n : Int) := by omega
            have HE := Lib.hid (HSM.out hg)
            clear hg
            go_wp2
            go_meet
            exact HE
          · have hg' : (D.length : Int) < (n : Int) := by omega
            have HLN := Lib.hid (HLN.out n rfl hg)
            go_wp2_with (first
              | (go_at_call 47; ((with_reducible refine HLN.out.mono ?_); rintro e w2 ⟨rfl, h2⟩; have H2 := Lib.hid h2; clear h2))
              | fail)
            go_meet
            exact H2
        case rest =>
          rename World => w3
          obtain ⟨A2, c2, f3, s3, n3⟩ := hcut.out
          clear hcut
          obtain ⟨Z, hZ⟩ : ∃ Z, Z = tr.zeros D n := ⟨_, rfl⟩
          rw [← hZ] at f3
          have hzl : p + ad.length ≤ Z.length ∧ Z.length ≤ 2048 := by rw [hZ, tr.zeros_len]; omega
          obtain ⟨k1, k2, k3⟩ := HKEEP.out w3 s3
          have hd3 := k1.get
          have lh3 := k1.lt
          have zd3 := k2.get
          have ze3 := k2.frozen
          have lz3 := k2.lt
          have fd3 := f3.cell
          have lf3 := f3.blk.lt
          have hcap := f3.own.cap
          have hcl := fun W => run_cut_l (P := Tryd.prog) elemU8 A2 Z.length c2 p (by omega) (p : Int) rfl W
          have hmn : ¬ ((Z.length : Int) < (p : Int)) := by omega
          have HOX : Hid (∀ m, Own (w3.drewN m) B 5 1 A2 Z.length c2 (Z.map u8v)) := Lib.hid (fun m => f3.own.drewN m)
          have HCX : Hid (∀ m, Cells (w3.drewN m) X (ad.map u8v)) := Lib.hid (fun m => k3)
          have HLE : Hid ((ad.map u8v).length = ad.length) := Lib.hid (by simp)
          have HCP : Hid (∀ m w7, Own w7 B 5 1 A2 Z.length c2 ((Z.map u8v).take p ++ ad.map u8v ++ (Z.map u8v).drop (p + (ad.map u8v).length)) → Grew (w3.drewN m) w7 A2 A2 → FOut w1 w7 B F A (tr.putD D p ad)) := Lib.hid (fun m w7 ho hg => by
            have e1 : (tr.putD D p ad).length = Z.length := by
              unfold tr.putD
              rw [← HN.out, ← hZ, List.length_append, List.length_append, List.length_take, List.length_drop, HN.out]
              omega
            have e2 : (Z.map u8v).take p ++ ad.map u8v ++ (Z.map u8v).drop (p + (ad.map u8v).length) = (tr.putD D p ad).map u8v := by
              unfold tr.putD
              rw [← HN.out, ← hZ, List.map_append, List.map_append, List.map_take, List.map_drop, HN.out, HLE.out]
            refine ⟨A2, c2, ⟨?_, ?_, f3.lo⟩, (s3.comp (Stays.of_below (bdrewN (bself w3) m) _)).trans (Stays.grew hg) (fun k hk e => ?_), n3⟩
            · rw [e1]; exact (f3.blk.drewN m).stays (Stays.grew hg) f3.apart
            · rw [e1, ← e2]; exact ho
            · rcases n3 k e with h | h
              · exact .inr h
              · omega)
          have HKP := HKEEP
          clear k1 k2 k3 f3 s3 n3 hZ
          go_upto_region 11 with (fail)
          go_region_law
            (first
              | (refine step_copy (by rfl) _ _ _ _ (by rfl) elemU8 B A2 Z.length c2 _ (HOX.out _) p _ _ ad.length xc X (by rfl) (by rfl) (by omega) (by rfl) (ad.map u8v) HLE.out (by omega) (HCX.out _) (oneCell_u8 _) ?_; intro w7 hO7 hg7)
              | fail)
          all_goals
            have HO := Lib.hid (HCP.out _ _ hO7 hg7)
            clear hO7 hg7 hd3 lh3 zd3 ze3 lz3 fd3 lf3
            obtain ⟨A4, c4, f4, s4, n4⟩ := HO.out
            obtain ⟨k1, k2, k3⟩ := HKP.out w7 s4
            have zd4 := k2.get
            have ze4 := k2.frozen
            have lz4 := k2.lt
            have fd4 := f4.cell
            have lf4 := f4.blk.lt
            have HFIN : Hid (∀ w', Stays w7 w' (fun k => k = w.heap.size + 1) → FDo w B F A (tr.fdo D ⟨3, ap, ao, p, an, ad⟩) (.returned (.agg #[.int .i64 0, .int .i64 0, .int .i64 ((tr.putD D p ad).length : Int), .slice none 0 0, .slice none 0 0])) w') := Lib.hid (fun w' hs => by
              rw [HPUT.out]
              exact FDo.plain H.out HB1.out HR.out (r := (tr.putD D p ad, ⟨0, 0, ((tr.putD D p ad).length : Int), [], []⟩)) rfl rfl HO.out hs)
            clear HO k1 k2 k3 f4 s4 n4 HCP HOX HCX hcl
            generalize (tr.putD D p ad).length = q at *
            go_wp2
            refine bodyPost_ret (v := .agg #[.int .i64 0, .int .i64 0, .int .i64 (q : Int), .slice none 0 0, .slice none 0 0]) (by simp [results, Tryd.results33, go_sem, *]) rfl (HFIN.out _ ?_)
            exact Stays.fiveS _ _ _ _ _ _ _
    · have h1 : tr.fits aa := Classical.byContradiction fun h => hbad (.inl ⟨by decide, h⟩)
      have h2 : tr.fits an := Classical.byContradiction fun h => hbad (.inr ⟨by decide, h⟩)
      have HIA := Lib.hid (fun wx => tree_in aa true (by simp [h1]) wx)
      have HIN := Lib.hid (fun wx => tree_in an true (by simp [h2]) wx)
      obtain ⟨p, rfl⟩ : ∃ p : Nat, aa = p := ⟨aa.toNat, by have := h1.1; omega⟩
      obtain ⟨q, rfl⟩ : ∃ q : Nat, an = q := ⟨an.toNat, by have := h2.1; omega⟩
      have hp : p ≤ 2048 := by have := h1.2; omega
      have hq : q ≤ 2048 := by have := h2.2; omega
      have HGET : Hid (tr.fdo D ⟨4, ap, ao, p, q, ad⟩ = (D, ⟨0, 0, 0, tr.getD_ D p q, []⟩)) := Lib.hid (by
        unfold tr.fdo
        rw [if_neg hbad, if_neg (by simp), if_pos rfl]
        rfl)
      clear hbad h1 h2
      go_upto_region 13 with (first
        | (go_at_call 46; first | ((with_reducible refine (HIA.out _).mono ?_); rintro e w2 ⟨rfl, rfl⟩) | ((with_reducible refine (HIN.out _).mono ?_); rintro e w2 ⟨rfl, rfl⟩))
        | fail)
      go_cut [6] (fun s6 wx => s6 = .int .i64 (min p D.length : Nat) ∧ Hid (Below w1.heap.size w1 wx))
      case first =>
        go_quiet (fail)
        go_wp2
        go_meet
        exact ⟨by congr 1; omega, Lib.hid (by repeat (first | (with_reducible exact Below.refl _ _) | (with_reducible assumption) | (with_reducible refine bset ?_ ?_ _) | (with_reducible refine balloc ?_ _) | (with_reducible refine Below.drew ?_) | (with_reducible refine bdrewN ?_ _) | (with_reducible refine bnext ?_ (by with_reducible assumption)) | exact Nat.le_refl _ | (simp; done) | omega | (simp; omega)))⟩
      case rest =>
        obtain ⟨rfl, HB3⟩ := hcut
        rename World => w3
        obtain ⟨m, hm⟩ : ∃ m, m = min p D.length := ⟨_, rfl⟩
        obtain ⟨k, hk⟩ : ∃ k, k = min (m + q) D.length - m := ⟨_, rfl⟩
        rw [← hm]
        have hml : m ≤ D.length ∧ m ≤ 2048 := by omega
        have hmk : m + k ≤ D.length := by omega
        have hx : tr.getD_ D p q = (D.drop m).take k := by
          unfold tr.getD_
          rcases Nat.le_total p D.length with h | h
          · have e1 : m = p := by omega
            subst e1
            rw [List.take_eq_take_iff, List.length_drop]
            omega
          · have e1 : m = D.length := by omega
            rw [e1, List.drop_length, List.drop_eq_nil_of_le h]
            simp
        have hxl : (tr.getD_ D p q).length = k := by rw [hx, List.length_take, List.length_drop]; omega
        have hmin : min ((m : Int) + (q : Int)) (D.length : Int) = (m : Int) + (k : Int) := by omega
        have hw1 : IntKind.i64.wrap ((m : Int) + (q : Int)) = (m : Int) + (q : Int) := IntWalk.i64_in _ (by omega)
        have hcap := H1.out.own.cap
        have hcl := fun W => run_cut_lh (P := Tryd.prog) elemU8 A D.length c m k (by omega) (m : Int) ((m : Int) + (k : Int)) rfl rfl W
        have HCL : Hid (∀ wx, Below w1.heap.size w1 wx → Calls Tryd.prog 48 #[.slice (cutA A c m 1) k (c - m)] wx fun e w' => ∃ A' c', e = .returned (.slice A' k c') ∧ Own w' wx.heap.size 5 1 A' k c' ((tr.getD_ D p q).map u8v) ∧ Below wx.heap.size wx w') := Lib.hid (fun wx hb => by
          have h := SlRep.cut ((Own.u8 (H1.out.own)).2) (f := m) (n := k) hmk
          rw [← hx] at h
          have h2 : SlRep Rep.u8 w1 (· < w1.heap.size) (tr.getD_ D p q) (cutA A c m 1) (c - m) := h.keep fun _ hk => ⟨hk.2, rfl⟩
          exact clone_u8 k _ _ _ _ (by rw [List.length_map]; exact hxl) (fun w' hb' => SlRep.cells_u8 (h2.next (bnext hb hb'))) (oneCell_u8 _) (by omega))
        have HSS : Hid (∀ wx, Below w1.heap.size w1 wx → wx.cell? ⟨F, 0, none⟩ = some (.slice A D.length c) ∧ wx.cell? ⟨w.heap.size, 4, none⟩ = some (.int .i64 (q : Int))) := Lib.hid (fun wx hb => ⟨(H1.out.next hb).cell, (HH1.out.next hb).get 4⟩)
        have HFIN : Hid (∀ E ec wx w', Below w1.heap.size w1 wx → Own wx w1.heap.size 5 1 E k ec ((tr.getD_ D p q).map u8v) → Stays wx w' (fun k => k = w.heap.size + 1) → FDo w B F A (tr.fdo D ⟨4, ap, ao, p, q, ad⟩) (.returned (.agg #[.int .i64 0, .int .i64 0, .int .i64 0, .slice E k ec, .slice none 0 0])) w') := Lib.hid (fun E ec wx w' hb ho hs => by
          rw [HGET.out]
          have h := FDo.data H.out HB1.out HR.out (x := tr.getD_ D p q) hb (by rw [hxl]; exact ho) hs
          rw [hxl] at h
          exact h)
        clear hm hk hx hxl
        have hb13 := HB3.out
        go_upto_region 14 with (fail)
        --<get
        refine wp_region_tail [18] (fun wx => wx.cell? ⟨F, 0, none⟩ = some (.slice A D.length c) ∧ wx.cell? ⟨w.heap.size, 4, none⟩ = some (.int .i64 (q : Int))) (by kernel_rfl) (HSS.out w3 HB3.out) ?_
        intro hHeld
        refine wpAnyT_pure (i := 0) (v := ?_) rfl (by kernel_rfl) (by kernel_rfl) (by kernel_rfl) (fun _ _ _ h => h) (.inl ⟨by kernel_rfl, ?_⟩) (fun _ => hHeld) ?_ (by decide)
        rotate_left
        · intro w9; go_simp; try with_reducible rfl
        try simp only [Act.put, List.getElem_toArray, List.getElem_cons_succ, List.getElem_cons_zero, List.setIfInBounds_toArray, List.set_cons_zero, List.set_cons_succ]
        refine wpAnyT_pure (i := 1) (v := ?_) rfl (by kernel_rfl) (by kernel_rfl) (by kernel_rfl) (fun _ _ _ h => h) (.inl ⟨by kernel_rfl, ?_⟩) (fun _ => hHeld) ?_ (by decide)
        rotate_left
        · intro w9; go_simp; try with_reducible rfl
        try simp only [Act.put, List.getElem_toArray, List.getElem_cons_succ, List.getElem_cons_zero, List.setIfInBounds_toArray, List.set_cons_zero, List.set_cons_succ]
        refine wpAnyT_pure (i := 2) (v := ?_) rfl (by kernel_rfl) (by kernel_rfl) (by kernel_rfl) (fun _ _ _ h => h) (.inl ⟨by kernel_rfl, ?_⟩) (fun _ => hHeld) ?_ (by decide)
        rotate_left
        · intro w9; go_simp; try with_reducible rfl
        try simp only [Act.put, List.getElem_toArray, List.getElem_cons_succ, List.getElem_cons_zero, List.setIfInBounds_toArray, List.set_cons_zero, List.set_cons_succ]
        refine wpAnyT_pure (i := 4) (v := ?_) rfl (by kernel_rfl) (by kernel_rfl) (by kernel_rfl) (fun _ _ _ h => h) (.inl ⟨by kernel_rfl, ?_⟩) (fun _ => hHeld) ?_ (by decide)
        rotate_left
        · intro w9; go_simp; try with_reducible rfl
        try simp only [Act.put, List.getElem_toArray, List.getElem_cons_succ, List.getElem_cons_zero, List.setIfInBounds_toArray, List.set_cons_zero, List.set_cons_succ]
        refine wpAnyT_pure (i := 5) (v := ?_) rfl (by kernel_rfl) (by kernel_rfl) (by kernel_rfl) (fun _ _ _ h => h) (.inl ⟨by kernel_rfl, ?_⟩) (fun _ => hHeld) ?_ (by decide)
        rotate_left
        · intro w9; go_simp; try with_reducible rfl
        try simp only [Act.put, List.getElem_toArray, List.getElem_cons_succ, List.getElem_cons_zero, List.setIfInBounds_toArray, List.set_cons_zero, List.set_cons_succ]
        refine wpAnyT_pure (i := 6) (v := ?_) rfl (by kernel_rfl) (by kernel_rfl) (by kernel_rfl) (fun _ _ _ h => h) (.inl ⟨by kernel_rfl, ?_⟩) (fun _ => hHeld) ?_ (by decide)
        rotate_left
        · intro w9; go_simp; try with_reducible rfl
        try simp only [Act.put, List.getElem_toArray, List.getElem_cons_succ, List.getElem_cons_zero, List.setIfInBounds_toArray, List.set_cons_zero, List.set_cons_succ]
        refine wpAnyT_pure (i := 9) (v := ?_) rfl (by kernel_rfl) (by kernel_rfl) (by kernel_rfl) (fun _ _ _ h => h) (.inl ⟨by kernel_rfl, ?_⟩) (fun _ => hHeld) ?_ (by decide)
        rotate_left
        · intro w9; go_simp; try with_reducible rfl
        try simp only [Act.put, List.getElem_toArray, List.getElem_cons_succ, List.getElem_cons_zero, List.setIfInBounds_toArray, List.set_cons_zero, List.set_cons_succ]
        refine wpAnyT_pure (i := 10) (v := ?_) rfl (by kernel_rfl) (by kernel_rfl) (by kernel_rfl) (fun _ _ _ h => h) (.inl ⟨by kernel_rfl, ?_⟩) (fun _ => hHeld) ?_ (by decide)
        rotate_left
        · intro w9; go_simp; try with_reducible rfl
        try simp only [Act.put, List.getElem_toArray, List.getElem_cons_succ, List.getElem_cons_zero, List.setIfInBounds_toArray, List.set_cons_zero, List.set_cons_succ]
        refine wpAnyT_pure (i := 11) (v := ?_) rfl (by kernel_rfl) (by kernel_rfl) (by kernel_rfl) (fun _ _ _ h => h) (.inl ⟨by kernel_rfl, ?_⟩) (fun _ => hHeld) ?_ (by decide)
        rotate_left
        · intro w9; go_simp; try with_reducible rfl
        try simp only [Act.put, List.getElem_toArray, List.getElem_cons_succ, List.getElem_cons_zero, List.setIfInBounds_toArray, List.set_cons_zero, List.set_cons_succ]
        refine wpAnyT_take (i := 3) [15, 16, 17, 18] (v := ?_) rfl (by kernel_rfl) (by kernel_rfl) (by kernel_rfl) (by kernel_rfl) (fun _ _ _ h => h) (.inl ⟨by kernel_rfl, ?_⟩) hHeld ?_
        rotate_left
        · intro w9 hS9; (try dsimp only at hS9); obtain ⟨q1, q2⟩ := hS9; go_simp; try with_reducible rfl
        try simp only [Act.put, List.getElem_toArray, List.getElem_cons_succ, List.getElem_cons_zero, List.setIfInBounds_toArray, List.set_cons_zero, List.set_cons_succ]
        refine wpAnyT_take (i := 7) [8, 14, 15, 16, 17, 18] (v := ?_) rfl (by kernel_rfl) (by kernel_rfl) (by kernel_rfl) (by kernel_rfl) (fun _ _ _ h => h) (.inl ⟨by kernel_rfl, ?_⟩) hHeld ?_
        rotate_left
        · intro w9 hS9; (try dsimp only at hS9); obtain ⟨q1, q2⟩ := hS9; go_simp; try with_reducible rfl
        try simp only [Act.put, List.getElem_toArray, List.getElem_cons_succ, List.getElem_cons_zero, List.setIfInBounds_toArray, List.set_cons_zero, List.set_cons_succ]
        refine wpAnyT_pure (i := 8) (v := ?_) rfl (by kernel_rfl) (by kernel_rfl) (by kernel_rfl) (fun _ _ _ h => h) (.inl ⟨by kernel_rfl, ?_⟩) (fun _ => hHeld) ?_ (by decide)
        rotate_left
        · intro w9; go_simp; try with_reducible rfl
        try simp only [Act.put, List.getElem_toArray, List.getElem_cons_succ, List.getElem_cons_zero, List.setIfInBounds_toArray, List.set_cons_zero, List.set_cons_succ]
        refine wpAnyT_take (i := 12) [13, 14, 15, 16, 17, 18] (v := ?_) rfl (by kernel_rfl) (by kernel_rfl) (by kernel_rfl) (by kernel_rfl) (fun _ _ _ h => h) (.inl ⟨by kernel_rfl, ?_⟩) hHeld ?_
        rotate_left
        · intro w9 hS9; (try dsimp only at hS9); obtain ⟨q1, q2⟩ := hS9; go_simp; try with_reducible rfl
        try simp only [Act.put, List.getElem_toArray, List.getElem_cons_succ, List.getElem_cons_zero, List.setIfInBounds_toArray, List.set_cons_zero, List.set_cons_succ]
        refine wpAnyT_pure (i := 13) (v := ?_) rfl (by kernel_rfl) (by kernel_rfl) (by kernel_rfl) (fun _ _ _ h => h) (.inl ⟨by kernel_rfl, ?_⟩) (fun _ => hHeld) ?_ (by decide)
        rotate_left
        · intro w9; go_simp; try with_reducible rfl
        try simp only [Act.put, List.getElem_toArray, List.getElem_cons_succ, List.getElem_cons_zero, List.setIfInBounds_toArray, List.set_cons_zero, List.set_cons_succ]
        refine wpAnyT_pure (i := 14) (v := ?_) rfl (by kernel_rfl) (by kernel_rfl) (by kernel_rfl) (fun _ _ _ h => h) (.inl ⟨by kernel_rfl, ?_⟩) (fun _ => hHeld) ?_ (by decide)
        rotate_left
        · intro w9; go_simp; try with_reducible rfl
        try simp only [Act.put, List.getElem_toArray, List.getElem_cons_succ, List.getElem_cons_zero, List.setIfInBounds_toArray, List.set_cons_zero, List.set_cons_succ]
        refine wpAnyT_pure (i := 15) (v := ?_) rfl (by kernel_rfl) (by kernel_rfl) (by kernel_rfl) (fun _ _ _ h => h) (.inl ⟨by kernel_rfl, ?_⟩) (fun _ => hHeld) ?_ (by decide)
        rotate_left
        · intro w9; go_simp; try with_reducible rfl
        try simp only [Act.put, List.getElem_toArray, List.getElem_cons_succ, List.getElem_cons_zero, List.setIfInBounds_toArray, List.set_cons_zero, List.set_cons_succ]
        refine wpAnyT_next (i := 16) (by kernel_rfl) rfl ?_
        intro K hK
        go_simp
        go_at_call 48
        refine (HCL.out _ (by exact (by repeat (first | (with_reducible exact Below.refl _ _) | (with_reducible assumption) | (with_reducible refine bset ?_ ?_ _) | (with_reducible refine balloc ?_ _) | (with_reducible refine Below.drew ?_) | (with_reducible refine bdrewN ?_ _) | (with_reducible refine bnext ?_ (by with_reducible assumption)) | exact Nat.le_refl _ | (simp; done) | omega | (simp; omega))))).mono ?_
        rintro e w6 ⟨E, ec, rfl, ho6, hb6⟩
        have HO6 := Lib.hid ho6
        have HB6 : Hid (Below w1.heap.size w1 w6) := Lib.hid (by refine bnext ?_ hb6; exact (by repeat (first | (with_reducible exact Below.refl _ _) | (with_reducible assumption) | (with_reducible refine bset ?_ ?_ _) | (with_reducible refine balloc ?_ _) | (with_reducible refine Below.drew ?_) | (with_reducible refine bdrewN ?_ _) | (with_reducible refine bnext ?_ (by with_reducible assumption)) | exact Nat.le_refl _ | (simp; done) | omega | (simp; omega))))
        have hs6 := HSS.out w6 HB6.out
        have z6 := HZ1.out.next HB6.out
        have zd6 := z6.get
        have ze6 := z6.frozen
        have lz6 := z6.lt
        clear ho6 hb6 z6
        go_simp
        have hHeld2 := hs6
        refine hK.out _ _ (fun _ => hHeld2) ?_
        clear hK K hHeld
        have hHeld := hHeld2
        clear hHeld2
        try simp only [Act.put, List.getElem_toArray, List.getElem_cons_succ, List.getElem_cons_zero, List.setIfInBounds_toArray, List.set_cons_zero, List.set_cons_succ]
        refine wpAnyT_pure (i := 17) (v := ?_) rfl (by kernel_rfl) (by kernel_rfl) (by kernel_rfl) (fun _ _ _ h => h) (.inl ⟨by kernel_rfl, ?_⟩) (fun _ => hHeld) ?_ (by decide)
        rotate_left
        · intro w9; go_simp; try with_reducible rfl
        try simp only [Act.put, List.getElem_toArray, List.getElem_cons_succ, List.getElem_cons_zero, List.setIfInBounds_toArray, List.set_cons_zero, List.set_cons_succ]
        refine wpAnyT_next (i := 18) (by kernel_rfl) rfl ?_
        intro K hK
        go_simp
        refine hK.out _ _ (fun h => absurd ((by kernel_rfl : false = _).trans h) Bool.false_ne_true) ?_
        clear hK K
        refine wpAnyT_done (by kernel_rfl) ?_ _
        go_wp2
        refine bodyPost_ret (v := .agg #[.int .i64 0, .int .i64 0, .int .i64 0, .slice E k ec, .slice none 0 0]) (by simp [results, Tryd.results33, go_sem, *]) rfl (HFIN.out _ _ _ _ HB6.out (HO6.out.base_le HB3.out.size) ?_)
        exact Stays.fiveS _ _ _ _ _ _ _
        --get>
    · have h2 : tr.fits an := Classical.byContradiction fun h => hbad (.inr ⟨by decide, h⟩)
      have HIN := Lib.hid (fun wx => tree_in an true (by simp [h2]) wx)
      obtain ⟨q, rfl⟩ : ∃ q : Nat, an = q := ⟨an.toNat, by have := h2.1; omega⟩
      have hq : q ≤ 2048 := by have := h2.2; omega
      have HCUT : Hid (tr.fdo D ⟨5, ap, ao, aa, q, ad⟩ = (tr.cutD D q, ⟨0, 0, ((tr.cutD D q).length : Int), [], []⟩)) := Lib.hid (by
        unfold tr.fdo
        rw [if_neg hbad, if_neg (by simp), if_neg (by simp)]
        rfl)
      have HLN := Lib.hid (file_long H1.out q hq (q : Int) rfl)
      clear hbad h2
      go_wp2_with (first
        | (go_at_call 46; ((with_reducible refine (HIN.out _).mono ?_); rintro e w2 ⟨rfl, rfl⟩))
        | (go_at_call 47; ((with_reducible refine HLN.out.mono ?_); rintro e w2 ⟨rfl, h2⟩; have HO := Lib.hid h2; clear h2; obtain ⟨A4, c4, f4, s4, n4⟩ := HO.out; obtain ⟨k1, k2, k3⟩ := HKEEP.out w2 s4; have zd4 := k2.get; have ze4 := k2.frozen; have lz4 := k2.lt; have fd4 := f4.cell; have lf4 := f4.blk.lt; clear k1 k2 k3 f4 s4 n4; rw [tr.cut_len] at fd4))
        | fail)
      have HFIN : Hid (∀ w', Stays w2 w' (fun k => k = w.heap.size + 1) → FDo w B F A (tr.fdo D ⟨5, ap, ao, aa, q, ad⟩) (.returned (.agg #[.int .i64 0, .int .i64 0, .int .i64 (q : Int), .slice none 0 0, .slice none 0 0])) w') := Lib.hid (fun w' hs => by
        rw [HCUT.out]
        have h := FDo.plain H.out HB1.out HR.out (r := (tr.cutD D q, ⟨0, 0, ((tr.cutD D q).length : Int), [], []⟩)) rfl rfl HO.out hs
        simp only [tr.cut_len] at h
        rw [tr.cut_len]
        exact h)
      refine bodyPost_ret (v := .agg #[.int .i64 0, .int .i64 0, .int .i64 (q : Int), .slice none 0 0, .slice none 0 0]) (by simp [results, Tryd.results33, go_sem, *]) rfl (HFIN.out _ ?_)
      exact Stays.fiveS _ _ _ _ _ _ _
end Go.Proofs.YtlcjdlnhniemcaaDoor
