/- Package seg: the reference of Decode. No condition. -/
import Derived.Test.YtedbidblnjajdaaSegD3
import Derived.Test.YtedbidblnjajdaaStr
import Derived.Deep.DeepCutAuto
namespace Go.Proofs.Ytedbidblnjajdaa
open Go.RowKit

theorem cell_other {W : World} {B j : Nat} {v : Value} {b o : Nat} (h : b ≠ B) : (W.setCell ⟨B, j, none⟩ v).cell? ⟨b, o, none⟩ = W.cell? ⟨b, o, none⟩ :=
  World.cell?_of_block (Below.heap_setCell W ⟨B, j, none⟩ v b h)
theorem SegAt.drewN {w : World} {g : Nat} {s : Segment} {A0 : Option Addr} {c0 : Nat} {A1 : Option Addr} {c1 : Nat} (h : SegAt w g s A0 c0 A1 c1) (n : Nat) : SegAt (w.drewN n) g s A0 c0 A1 c1 := h
theorem SegAt.nine {W : World} {G : Nat} (h : SegAt W G sg.noSeg none 0 none 0) (s : Segment) (hs0 : s.sacks = []) (hs1 : s.data = []) :
    SegAt (((((((((W.setCell ⟨G, 0, none⟩ (.int .i64 s.seq)).setCell ⟨G, 1, none⟩ (.int .i64 s.ack)).setCell ⟨G, 2, none⟩ (.int .i64 s.window)).setCell ⟨G, 3, none⟩ (.bool s.syn)).setCell ⟨G, 4, none⟩ (.bool s.fin)).setCell ⟨G, 5, none⟩ (.bool s.rst)).setCell ⟨G, 6, none⟩ (.bool s.acks)).setCell ⟨G, 7, none⟩ (.slice none 0 0)).setCell ⟨G, 8, none⟩ (.slice none 0 0)) G s none 0 none 0 := by
  obtain ⟨seq, ack, window, syn, fin, rst, acks, sacks, data⟩ := s
  dsimp only at hs0 hs1
  subst hs0
  subst hs1
  exact (((((((((h.put (s' := { sg.noSeg with seq := seq }) (A0' := none) (c0' := 0) (A1' := none) (c1' := 0) 0 _ (by decide) rfl).put (s' := { sg.noSeg with seq := seq, ack := ack }) (A0' := none) (c0' := 0) (A1' := none) (c1' := 0) 1 _ (by decide) rfl).put (s' := { sg.noSeg with seq := seq, ack := ack, window := window }) (A0' := none) (c0' := 0) (A1' := none) (c1' := 0) 2 _ (by decide) rfl).put
    (s' := { sg.noSeg with seq := seq, ack := ack, window := window, syn := syn }) (A0' := none) (c0' := 0) (A1' := none) (c1' := 0) 3 _ (by decide) rfl).put (s' := { sg.noSeg with seq := seq, ack := ack, window := window, syn := syn, fin := fin }) (A0' := none) (c0' := 0) (A1' := none) (c1' := 0) 4 _ (by decide) rfl).put (s' := { sg.noSeg with seq := seq, ack := ack, window := window, syn := syn, fin := fin, rst := rst }) (A0' := none) (c0' := 0) (A1' := none) (c1' := 0) 5 _ (by decide) rfl).put
    (s' := { sg.noSeg with seq := seq, ack := ack, window := window, syn := syn, fin := fin, rst := rst, acks := acks }) (A0' := none) (c0' := 0) (A1' := none) (c1' := 0) 6 _ (by decide) rfl).put (s' := { sg.noSeg with seq := seq, ack := ack, window := window, syn := syn, fin := fin, rst := rst, acks := acks }) (A0' := none) (c0' := 0) (A1' := none) (c1' := 0) 7 _ (by decide) rfl).put
    (s' := { sg.noSeg with seq := seq, ack := ack, window := window, syn := syn, fin := fin, rst := rst, acks := acks }) (A0' := none) (c0' := 0) (A1' := none) (c1' := 0) 8 _ (by decide) rfl)
theorem below_nine {W : World} {G : Nat} {v0 v1 v2 v3 v4 v5 v6 v7 v8 : Value} : Below G W (((((((((W.setCell ⟨G, 0, none⟩ v0).setCell ⟨G, 1, none⟩ v1).setCell ⟨G, 2, none⟩ v2).setCell ⟨G, 3, none⟩ v3).setCell ⟨G, 4, none⟩ v4).setCell ⟨G, 5, none⟩ v5).setCell ⟨G, 6, none⟩ v6).setCell ⟨G, 7, none⟩ v7).setCell ⟨G, 8, none⟩ v8) :=
  (((((((((Below.refl G W).setCell (p := ⟨G, 0, none⟩) (Nat.le_refl _) _).setCell (p := ⟨G, 1, none⟩) (Nat.le_refl _) _).setCell (p := ⟨G, 2, none⟩) (Nat.le_refl _) _).setCell (p := ⟨G, 3, none⟩) (Nat.le_refl _) _).setCell (p := ⟨G, 4, none⟩) (Nat.le_refl _) _).setCell (p := ⟨G, 5, none⟩) (Nat.le_refl _) _).setCell (p := ⟨G, 6, none⟩) (Nat.le_refl _) _).setCell (p := ⟨G, 7, none⟩) (Nat.le_refl _) _).setCell (p := ⟨G, 8, none⟩) (Nat.le_refl _) _
theorem frozen_other {W : World} {a : Addr} {v : Value} {b o : Nat} : (W.setCell a v).frozen? ⟨b, o, none⟩ = W.frozen? ⟨b, o, none⟩ := World.frozen?_setCell ..

set_option maxRecDepth 100000 in
set_option maxHeartbeats 4000000 in
theorem ref_Decoded_sum (b : List UInt8) (A : Option Addr) (c : Nat) (w : World) (hl : SlRep Rep.u8 w (· < w.heap.size) b A c) (hn : b.length ≤ 140737488351232) (h10 : 10 ≤ b.length) (hs : sg.sumOf (sg.blank b) ≠ sg.w16 b 8) :
    Calls Try.prog 34 #[.slice A b.length c] w (SegRes (.error 6) w) := by
  have HL := Lib.hid hl
  have h10' : ¬ ((b.length : Int) < 10) := by omega
  have h8' : (8 : Int) < (b.length : Int) := by omega
  have h9' : (9 : Int) < (b.length : Int) := by omega
  clear hl
  go_enter Try.func34, Try.ntmps34
  go_wp2_with (at_builtin; (refine wp_app _ rfl _ _ _ rfl elemU8 (w.heap.size + 1 + 1) none 0 0 [] rfl (Own.nil _ _ _ _) A b.length c (b.map u8v) rfl (by simp) ((HL.out.below (by repeat (first | (with_reducible exact Below.refl _ _) | (with_reducible assumption) | (with_reducible refine bset ?_ ?_ _) | (with_reducible refine balloc ?_ _) | (with_reducible refine Below.drew ?_) | (with_reducible refine bdrewN ?_ _) | (with_reducible refine bnext ?_ (by with_reducible assumption)) | exact Nat.le_refl _ | (simp; done) | omega | (simp; omega)))).cells_u8) (oneCell_u8 _) (by omega) (by unfold maxLen; omega) (by simp) ?_; intro A3 c3 w3 hO3 hg3; simp only [Nat.zero_add, List.nil_append] at hO3 ⊢; have hb3 := hg3.below (Nat.le_refl _) (fun k hk => by cases hk); obtain ⟨g, v8, v9, rfl, hg, z8, z9, hzf, hzl⟩ := blank_cells h10 hO3; have HO3 := Lib.hid hO3; clear hO3 hg3; have B3 : Below w.heap.size w w3 := (by repeat (first | (with_reducible exact Below.refl _ _) | (with_reducible assumption) | (with_reducible refine bset ?_ ?_ _) | (with_reducible refine balloc ?_ _) | (with_reducible refine Below.drew ?_) | (with_reducible refine bdrewN ?_ _) | (with_reducible refine bnext ?_ (by with_reducible assumption)) | exact Nat.le_refl _ | (simp; done) | omega | (simp; omega))); have ha3 : ∀ b o, b < w.heap.size → w3.cell? ⟨b, o, none⟩ = w.cell? ⟨b, o, none⟩ := fun b o h => B3.cell (p := ⟨b, o, none⟩) h; have hk3 : ∀ k, k < w.heap.size → k < w3.heap.size := fun _ h => Nat.lt_of_lt_of_le h B3.size; have hz3 := hb3.size; (try simp at hz3); have hl3_w0 : w.heap.size < w3.heap.size := Nat.lt_of_lt_of_le (by first | (simp; done) | (simp; omega) | omega) hb3.size; have hc3_w0 := fun o => hb3.cell (p := ⟨w.heap.size, o, none⟩) (by first | (simp; done) | (simp; omega) | omega); have hf3_w0 := fun o => hb3.frozen (p := ⟨w.heap.size, o, none⟩) (by first | (simp; done) | (simp; omega) | omega); (try simp [go_sem, *] at hc3_w0); (try simp [go_sem, *] at hf3_w0); have hl3_w1 : w.heap.size + 1 < w3.heap.size := Nat.lt_of_lt_of_le (by first | (simp; done) | (simp; omega) | omega) hb3.size; have hc3_w1 := fun o => hb3.cell (p := ⟨w.heap.size + 1, o, none⟩) (by first | (simp; done) | (simp; omega) | omega); have hf3_w1 := fun o => hb3.frozen (p := ⟨w.heap.size + 1, o, none⟩) (by first | (simp; done) | (simp; omega) | omega); (try simp [go_sem, *] at hc3_w1); (try simp [go_sem, *] at hf3_w1); clear hb3))
  have hg0 : w.heap.size ≠ g := by omega
  have hg1 : w.heap.size + 1 ≠ g := by omega
  have hb34 : Below (w.heap.size + 1 + 1) w3 ((w3.setCell ⟨g, 8, none⟩ (.int .u8 0)).setCell ⟨g, 9, none⟩ (.int .u8 0)) := ((Below.refl _ w3).setCell (p := ⟨g, 8, none⟩) (by show w.heap.size + 1 + 1 ≤ g; omega) _).setCell (p := ⟨g, 9, none⟩) (by show w.heap.size + 1 + 1 ≤ g; omega) _
  have hx4 : ((w3.setCell ⟨g, 8, none⟩ (.int .u8 0)).setCell ⟨g, 9, none⟩ (.int .u8 0)).cell? ⟨w.heap.size, 0, none⟩ = some (.slice A b.length c) := (hb34.cell (p := ⟨w.heap.size, 0, none⟩) (by show w.heap.size < _; omega)).trans (hc3_w0 0)
  have hR4 : SegAt ((w3.setCell ⟨g, 8, none⟩ (.int .u8 0)).setCell ⟨g, 9, none⟩ (.int .u8 0)) (w.heap.size + 1) sg.noSeg none 0 none 0 :=
    SegAt.below ⟨hl3_w1, hc3_w1 0, hc3_w1 1, hc3_w1 2, hc3_w1 3, hc3_w1 4, hc3_w1 5, hc3_w1 6, hc3_w1 7, hc3_w1 8⟩ hb34 (by omega)
  have hf4 := fun o => (hb34.frozen (p := ⟨w.heap.size + 1, o, none⟩) (by show w.heap.size + 1 < _; omega)).trans (hf3_w1 o)
  have hO4 := blank_own HO3.out
  have hB4 : Below w.heap.size w ((w3.setCell ⟨g, 8, none⟩ (.int .u8 0)).setCell ⟨g, 9, none⟩ (.int .u8 0)) := (B3.setCell (p := ⟨g, 8, none⟩) (by show w.heap.size ≤ g; omega) _).setCell (p := ⟨g, 9, none⟩) (by show w.heap.size ≤ g; omega) _
  have hz4 : w.heap.size + 1 + 1 ≤ ((w3.setCell ⟨g, 8, none⟩ (.int .u8 0)).setCell ⟨g, 9, none⟩ (.int .u8 0)).heap.size := by simpa [World.setCell] using hz3
  generalize (w3.setCell ⟨g, 8, none⟩ (.int .u8 0)).setCell ⟨g, 9, none⟩ (.int .u8 0) = w4 at *
  clear hc3_w0 hc3_w1 hf3_w0 hf3_w1 hl3_w0 hl3_w1 ha3 hk3 hz3 B3 z8 z9 hzf hzl HO3
  obtain ⟨f, HF, hf0, hf1⟩ : ∃ f : Int, Hid (65535 - f = sg.sumOf (sg.blank b)) ∧ 0 ≤ f ∧ f ≤ 65535 := ⟨foldOf (sumTo (sg.blank b) (sg.blank b).length), Lib.hid rfl, (foldOf_bd _ (sumTo_bd _ _).1).1, (foldOf_bd _ (sumTo_bd _ _).1).2⟩
  have HFD : Hid (∀ W : World, (∃ m, W = w4.drewN m) → Calls Try.prog 63 #[.slice (some ⟨g, 0, none⟩) b.length c3] W fun e w' => e = .returned (.int .i64 f) ∧ ∃ m, w' = W.drewN m) := Lib.hid (fun W ⟨m, hm⟩ => by
    subst hm
    have h := (ref_InetFold (sg.blank b) (some ⟨g, 0, none⟩) c3 _ (w4.drewN m) ((hO4.drewN m).u8.2) (by rw [blank_length]; exact hn)).mono (R' := fun e w' => e = .returned (.int .i64 f) ∧ ∃ k, w' = (w4.drewN m).drewN k) fun e w' ⟨h1, h2⟩ => ⟨by rw [h1]; have := HF.out; unfold sg.sumOf at this; congr 2; omega, 0, by rw [← h2]; rfl⟩
    rw [blank_length] at h
    exact h)
  obtain ⟨bb, oo, rfl, hbb, hc8⟩ := u8_at (HL.out.below hB4) (show 8 < b.length by omega)
  obtain ⟨b', o', he, _, hc9⟩ := u8_at (HL.out.below hB4) (show 9 < b.length by omega)
  simp only [Option.some.injEq, Addr.mk.injEq, and_true] at he
  obtain ⟨rfl, rfl⟩ := he
  change _ = some (Value.int .u8 (sg.byteAt b 8)) at hc8
  change _ = some (Value.int .u8 (sg.byteAt b 9)) at hc9
  have hx8 := sg.byteAt_bd b 8
  have hx9 := sg.byteAt_bd b 9
  have hv1 := IntWalk.i64_in (sg.byteAt b 8) (by omega)
  have hv2 := IntWalk.i64_in (sg.byteAt b 9) (by omega)
  have hv3 := IntWalk.i64_in (256 * sg.byteAt b 8) (by omega)
  have hv4 := IntWalk.i64_in (256 * sg.byteAt b 8 + sg.byteAt b 9) (by omega)
  have hv5 := IntWalk.i64_in (65535 - f) (by omega)
  have hq : (256 * sg.byteAt b 8 + sg.byteAt b 9 == 65535 - f) = false := by
    rw [beq_eq_false_iff_ne, HF.out]
    intro e
    apply hs
    rw [← e]
    show _ = sg.byteAt b 8 * 256 + sg.byteAt b 9
    omega
  clear hs
  generalize sg.byteAt b 8 = y8 at *
  generalize sg.byteAt b 9 = y9 at *
  clear HF
  go_wp2_with fail
  go_quiet ((go_at_call 63; exact Calls.quiet_of (HFD.out _ ⟨_, by first | rfl | (rw [World.drewN_drewN])⟩)))
  obtain ⟨r0, r1, r2, r3, r4, r5, r6, r7, r8, r9⟩ := hR4
  simp only [sg.noSeg, List.length_nil] at r1 r2 r3 r4 r5 r6 r7 r8 r9
  go_wp2
  (try simp only [Exit.inBlock, Exit.then])
  refine bodyPost_ret (v := .tuple #[.agg #[.int .i64 0, .int .i64 0, .int .i64 0, .bool false, .bool false, .bool false, .bool false, .slice none 0 0, .slice none 0 0], .int .i64 6]) (by simp [results, Try.results34, go_sem, r1, r2, r3, r4, r5, r6, r7, r8, r9]) rfl ?_
  exact SegRes.no rfl (by repeat (first | (with_reducible exact Below.refl _ _) | (with_reducible assumption) | (with_reducible refine bset ?_ ?_ _) | (with_reducible refine balloc ?_ _) | (with_reducible refine Below.drew ?_) | (with_reducible refine bdrewN ?_ _) | (with_reducible refine bnext ?_ (by with_reducible assumption)) | exact Nat.le_refl _ | (simp; done) | omega | (simp; omega)))

set_option maxRecDepth 100000 in
set_option maxHeartbeats 20000000 in
theorem ref_Decoded_long (b : List UInt8) (A : Option Addr) (c : Nat) (w : World) (hl : SlRep Rep.u8 w (· < w.heap.size) b A c) (hn : b.length ≤ 140737488351232) (h10 : 10 ≤ b.length) (hs : sg.sumOf (sg.blank b) = sg.w16 b 8) :
    Calls Try.prog 34 #[.slice A b.length c] w (SegRes (sg.dec b) w) := by
  have HSUM := Lib.hid hs
  have HL := Lib.hid hl
  have h10' : ¬ ((b.length : Int) < 10) := by omega
  have h8' : (8 : Int) < (b.length : Int) := by omega
  have h9' : (9 : Int) < (b.length : Int) := by omega
  clear hl
  go_enter Try.func34, Try.ntmps34
  go_wp2_with (at_builtin; (refine wp_app _ rfl _ _ _ rfl elemU8 (w.heap.size + 1 + 1) none 0 0 [] rfl (Own.nil _ _ _ _) A b.length c (b.map u8v) rfl (by simp) ((HL.out.below (by repeat (first | (with_reducible exact Below.refl _ _) | (with_reducible assumption) | (with_reducible refine bset ?_ ?_ _) | (with_reducible refine balloc ?_ _) | (with_reducible refine Below.drew ?_) | (with_reducible refine bdrewN ?_ _) | (with_reducible refine bnext ?_ (by with_reducible assumption)) | exact Nat.le_refl _ | (simp; done) | omega | (simp; omega)))).cells_u8) (oneCell_u8 _) (by omega) (by unfold maxLen; omega) (by simp) ?_; intro A3 c3 w3 hO3 hg3; simp only [Nat.zero_add, List.nil_append] at hO3 ⊢; have hb3 := hg3.below (Nat.le_refl _) (fun k hk => by cases hk); obtain ⟨g, v8, v9, rfl, hg, z8, z9, hzf, hzl⟩ := blank_cells h10 hO3; have HO3 := Lib.hid hO3; clear hO3 hg3; have B3 : Below w.heap.size w w3 := (by repeat (first | (with_reducible exact Below.refl _ _) | (with_reducible assumption) | (with_reducible refine bset ?_ ?_ _) | (with_reducible refine balloc ?_ _) | (with_reducible refine Below.drew ?_) | (with_reducible refine bdrewN ?_ _) | (with_reducible refine bnext ?_ (by with_reducible assumption)) | exact Nat.le_refl _ | (simp; done) | omega | (simp; omega))); have ha3 : ∀ b o, b < w.heap.size → w3.cell? ⟨b, o, none⟩ = w.cell? ⟨b, o, none⟩ := fun b o h => B3.cell (p := ⟨b, o, none⟩) h; have hk3 : ∀ k, k < w.heap.size → k < w3.heap.size := fun _ h => Nat.lt_of_lt_of_le h B3.size; have hz3 := hb3.size; (try simp at hz3); have hl3_w0 : w.heap.size < w3.heap.size := Nat.lt_of_lt_of_le (by first | (simp; done) | (simp; omega) | omega) hb3.size; have hc3_w0 := fun o => hb3.cell (p := ⟨w.heap.size, o, none⟩) (by first | (simp; done) | (simp; omega) | omega); have hf3_w0 := fun o => hb3.frozen (p := ⟨w.heap.size, o, none⟩) (by first | (simp; done) | (simp; omega) | omega); (try simp [go_sem, *] at hc3_w0); (try simp [go_sem, *] at hf3_w0); have hl3_w1 : w.heap.size + 1 < w3.heap.size := Nat.lt_of_lt_of_le (by first | (simp; done) | (simp; omega) | omega) hb3.size; have hc3_w1 := fun o => hb3.cell (p := ⟨w.heap.size + 1, o, none⟩) (by first | (simp; done) | (simp; omega) | omega); have hf3_w1 := fun o => hb3.frozen (p := ⟨w.heap.size + 1, o, none⟩) (by first | (simp; done) | (simp; omega) | omega); (try simp [go_sem, *] at hc3_w1); (try simp [go_sem, *] at hf3_w1); clear hb3))
  have hg0 : w.heap.size ≠ g := by omega
  have hg1 : w.heap.size + 1 ≠ g := by omega
  have hb34 : Below (w.heap.size + 1 + 1) w3 ((w3.setCell ⟨g, 8, none⟩ (.int .u8 0)).setCell ⟨g, 9, none⟩ (.int .u8 0)) := ((Below.refl _ w3).setCell (p := ⟨g, 8, none⟩) (by show w.heap.size + 1 + 1 ≤ g; omega) _).setCell (p := ⟨g, 9, none⟩) (by show w.heap.size + 1 + 1 ≤ g; omega) _
  have hx4 : ((w3.setCell ⟨g, 8, none⟩ (.int .u8 0)).setCell ⟨g, 9, none⟩ (.int .u8 0)).cell? ⟨w.heap.size, 0, none⟩ = some (.slice A b.length c) := (hb34.cell (p := ⟨w.heap.size, 0, none⟩) (by show w.heap.size < _; omega)).trans (hc3_w0 0)
  have hR4 : SegAt ((w3.setCell ⟨g, 8, none⟩ (.int .u8 0)).setCell ⟨g, 9, none⟩ (.int .u8 0)) (w.heap.size + 1) sg.noSeg none 0 none 0 :=
    SegAt.below ⟨hl3_w1, hc3_w1 0, hc3_w1 1, hc3_w1 2, hc3_w1 3, hc3_w1 4, hc3_w1 5, hc3_w1 6, hc3_w1 7, hc3_w1 8⟩ hb34 (by omega)
  have hf4 := fun o => (hb34.frozen (p := ⟨w.heap.size + 1, o, none⟩) (by show w.heap.size + 1 < _; omega)).trans (hf3_w1 o)
  have hO4 := blank_own HO3.out
  have hB4 : Below w.heap.size w ((w3.setCell ⟨g, 8, none⟩ (.int .u8 0)).setCell ⟨g, 9, none⟩ (.int .u8 0)) := (B3.setCell (p := ⟨g, 8, none⟩) (by show w.heap.size ≤ g; omega) _).setCell (p := ⟨g, 9, none⟩) (by show w.heap.size ≤ g; omega) _
  have hz4 : w.heap.size + 1 + 1 ≤ ((w3.setCell ⟨g, 8, none⟩ (.int .u8 0)).setCell ⟨g, 9, none⟩ (.int .u8 0)).heap.size := by simpa [World.setCell] using hz3
  generalize (w3.setCell ⟨g, 8, none⟩ (.int .u8 0)).setCell ⟨g, 9, none⟩ (.int .u8 0) = w4 at *
  clear hc3_w0 hc3_w1 hf3_w0 hf3_w1 hl3_w0 hl3_w1 ha3 hk3 hz3 B3 z8 z9 hzf hzl HO3
  obtain ⟨f, HF, hf0, hf1⟩ : ∃ f : Int, Hid (65535 - f = sg.sumOf (sg.blank b)) ∧ 0 ≤ f ∧ f ≤ 65535 := ⟨foldOf (sumTo (sg.blank b) (sg.blank b).length), Lib.hid rfl, (foldOf_bd _ (sumTo_bd _ _).1).1, (foldOf_bd _ (sumTo_bd _ _).1).2⟩
  have HFD : Hid (∀ W : World, (∃ m, W = w4.drewN m) → Calls Try.prog 63 #[.slice (some ⟨g, 0, none⟩) b.length c3] W fun e w' => e = .returned (.int .i64 f) ∧ ∃ m, w' = W.drewN m) := Lib.hid (fun W ⟨m, hm⟩ => by
    subst hm
    have h := (ref_InetFold (sg.blank b) (some ⟨g, 0, none⟩) c3 _ (w4.drewN m) ((hO4.drewN m).u8.2) (by rw [blank_length]; exact hn)).mono (R' := fun e w' => e = .returned (.int .i64 f) ∧ ∃ k, w' = (w4.drewN m).drewN k) fun e w' ⟨h1, h2⟩ => ⟨by rw [h1]; have := HF.out; unfold sg.sumOf at this; congr 2; omega, 0, by rw [← h2]; rfl⟩
    rw [blank_length] at h
    exact h)
  obtain ⟨bb, oo, rfl, hbb, hc8⟩ := u8_at (HL.out.below hB4) (show 8 < b.length by omega)
  obtain ⟨b', o', he, _, hc9⟩ := u8_at (HL.out.below hB4) (show 9 < b.length by omega)
  simp only [Option.some.injEq, Addr.mk.injEq, and_true] at he
  obtain ⟨rfl, rfl⟩ := he
  change _ = some (Value.int .u8 (sg.byteAt b 8)) at hc8
  change _ = some (Value.int .u8 (sg.byteAt b 9)) at hc9
  have hx8 := sg.byteAt_bd b 8
  have hx9 := sg.byteAt_bd b 9
  have hv1 := IntWalk.i64_in (sg.byteAt b 8) (by omega)
  have hv2 := IntWalk.i64_in (sg.byteAt b 9) (by omega)
  have hv3 := IntWalk.i64_in (256 * sg.byteAt b 8) (by omega)
  have hv4 := IntWalk.i64_in (256 * sg.byteAt b 8 + sg.byteAt b 9) (by omega)
  have hv5 := IntWalk.i64_in (65535 - f) (by omega)
  have hq : 256 * sg.byteAt b 8 + sg.byteAt b 9 = 65535 - f := by
    rw [HF.out, hs]
    show _ = sg.byteAt b 8 * 256 + sg.byteAt b 9
    omega
  rw [hq] at hv4
  have hbw : bb < w4.heap.size := Nat.lt_of_lt_of_le hbb hB4.size
  have HBB := Lib.hid hbb
  obtain ⟨b', o', he, _, hc6⟩ := u8_at (HL.out.below hB4) (show 6 < b.length by omega)
  simp only [Option.some.injEq, Addr.mk.injEq, and_true] at he
  obtain ⟨rfl, rfl⟩ := he
  change _ = some (Value.int .u8 (sg.byteAt b 6)) at hc6
  clear hs
  generalize sg.byteAt b 8 = y8 at *
  generalize sg.byteAt b 9 = y9 at *
  clear HF hbb
  go_wp2_with fail
  go_quiet ((go_at_call 63; exact Calls.quiet_of (HFD.out _ ⟨_, by first | rfl | (rw [World.drewN_drewN])⟩)))
  clear hc8 hc9 hv1 hv2 hv3 hv4 hv5 HFD hO4 hq
  have hHW := fun W (h : W.cell? ⟨w.heap.size, 0, none⟩ = some (.slice (some ⟨bb, oo, none⟩) b.length c)) (hB : Below w.heap.size w W) i j (hj : j = ((i : Nat) : Int)) hi => ref_word b (some ⟨bb, oo, none⟩) c w.heap.size _ W h (HL.out.below hB) i j hj hi hn
  have HW := Lib.hid hHW
  clear hHW
  have hx5 : (w4.drewN nq).cell? ⟨w.heap.size, 0, none⟩ = some (.slice (some ⟨bb, oo, none⟩) b.length c) := hx4
  have hc5 : (w4.drewN nq).cell? ⟨bb, oo + 6, none⟩ = some (.int .u8 (sg.byteAt b 6)) := hc6
  have hR5 : SegAt (w4.drewN nq) (w.heap.size + 1) sg.noSeg none 0 none 0 := hR4
  have hf5 : ∀ o, (w4.drewN nq).frozen? ⟨w.heap.size + 1, o, none⟩ = false := hf4
  have hB5 : Below w.heap.size w (w4.drewN nq) := bdrewN hB4 nq
  have hz5 : w.heap.size + 1 + 1 ≤ (w4.drewN nq).heap.size := hz4
  have hbw5 : bb < (w4.drewN nq).heap.size := hbw
  generalize w4.drewN nq = w5 at *
  clear hx4 hc6 hR4 hf4 hB4 hz4 hbw hb34
  have HR5 := Lib.hid hR5
  clear hR5
  have hx6 := sg.byteAt_bd b 6
  have h6' : (6 : Int) < (b.length : Int) := by omega
  have h7' : (7 : Int) < (b.length : Int) := by omega
  have HJ0 : Hid ((0 : Int) = ((0 : Nat) : Int) ∧ 0 + 1 < b.length) := Lib.hid ⟨by omega, by omega⟩
  have HJ2 : Hid ((2 : Int) = ((2 : Nat) : Int) ∧ 2 + 1 < b.length) := Lib.hid ⟨by omega, by omega⟩
  have HJ4 : Hid ((4 : Int) = ((4 : Nat) : Int) ∧ 4 + 1 < b.length) := Lib.hid ⟨by omega, by omega⟩
  have hal : ∀ M, SegAt ((w5.drewN M).alloc (.cells #[.int .i64 0, .int .i64 0, .int .i64 0, .bool false, .bool false, .bool false, .bool false, .slice none 0 0, .slice none 0 0] 50)) w5.heap.size sg.noSeg none 0 none 0 := fun M => segAt_alloc (w5.drewN M) sg.noSeg none none 0 0
  have a0 : ∀ M, ((w5.drewN M).alloc (.cells #[.int .i64 0, .int .i64 0, .int .i64 0, .bool false, .bool false, .bool false, .bool false, .slice none 0 0, .slice none 0 0] 50)).cell? ⟨w5.heap.size, 0, none⟩ = some (.int .i64 0) := fun M => (hal M).2.1
  have a1 : ∀ M, ((w5.drewN M).alloc (.cells #[.int .i64 0, .int .i64 0, .int .i64 0, .bool false, .bool false, .bool false, .bool false, .slice none 0 0, .slice none 0 0] 50)).cell? ⟨w5.heap.size, 1, none⟩ = some (.int .i64 0) := fun M => (hal M).2.2.1
  have a2 : ∀ M, ((w5.drewN M).alloc (.cells #[.int .i64 0, .int .i64 0, .int .i64 0, .bool false, .bool false, .bool false, .bool false, .slice none 0 0, .slice none 0 0] 50)).cell? ⟨w5.heap.size, 2, none⟩ = some (.int .i64 0) := fun M => (hal M).2.2.2.1
  have a3 : ∀ M, ((w5.drewN M).alloc (.cells #[.int .i64 0, .int .i64 0, .int .i64 0, .bool false, .bool false, .bool false, .bool false, .slice none 0 0, .slice none 0 0] 50)).cell? ⟨w5.heap.size, 3, none⟩ = some (.bool false) := fun M => (hal M).2.2.2.2.1
  have a4 : ∀ M, ((w5.drewN M).alloc (.cells #[.int .i64 0, .int .i64 0, .int .i64 0, .bool false, .bool false, .bool false, .bool false, .slice none 0 0, .slice none 0 0] 50)).cell? ⟨w5.heap.size, 4, none⟩ = some (.bool false) := fun M => (hal M).2.2.2.2.2.1
  have a5 : ∀ M, ((w5.drewN M).alloc (.cells #[.int .i64 0, .int .i64 0, .int .i64 0, .bool false, .bool false, .bool false, .bool false, .slice none 0 0, .slice none 0 0] 50)).cell? ⟨w5.heap.size, 5, none⟩ = some (.bool false) := fun M => (hal M).2.2.2.2.2.2.1
  have a6 : ∀ M, ((w5.drewN M).alloc (.cells #[.int .i64 0, .int .i64 0, .int .i64 0, .bool false, .bool false, .bool false, .bool false, .slice none 0 0, .slice none 0 0] 50)).cell? ⟨w5.heap.size, 6, none⟩ = some (.bool false) := fun M => (hal M).2.2.2.2.2.2.2.1
  have a7 : ∀ M, ((w5.drewN M).alloc (.cells #[.int .i64 0, .int .i64 0, .int .i64 0, .bool false, .bool false, .bool false, .bool false, .slice none 0 0, .slice none 0 0] 50)).cell? ⟨w5.heap.size, 7, none⟩ = some (.slice none 0 0) := fun M => (hal M).2.2.2.2.2.2.2.2.1
  have a8 : ∀ M, ((w5.drewN M).alloc (.cells #[.int .i64 0, .int .i64 0, .int .i64 0, .bool false, .bool false, .bool false, .bool false, .slice none 0 0, .slice none 0 0] 50)).cell? ⟨w5.heap.size, 8, none⟩ = some (.slice none 0 0) := fun M => (hal M).2.2.2.2.2.2.2.2.2
  have af : ∀ M o, ((w5.drewN M).alloc (.cells #[.int .i64 0, .int .i64 0, .int .i64 0, .bool false, .bool false, .bool false, .bool false, .slice none 0 0, .slice none 0 0] 50)).frozen? ⟨w5.heap.size, o, none⟩ = false := fun M o => by
    have := (Below.refl 0 w5)
    simp [World.alloc, World.frozen?, World.drewN]
  have HN1 : Hid (w.heap.size ≠ w5.heap.size) := Lib.hid (by omega)
  have HN2 : Hid (bb ≠ w5.heap.size) := Lib.hid (by omega)
  have HBZ : Hid (∀ M, Below w5.heap.size w5 ((w5.drewN M).alloc (.cells #[.int .i64 0, .int .i64 0, .int .i64 0, .bool false, .bool false, .bool false, .bool false, .slice none 0 0, .slice none 0 0] 50))) := Lib.hid (fun M => balloc (bdrewN (bself w5) M) _)
  have HA1 := Lib.hid (fun M => ((HBZ.out M).cell (p := ⟨w.heap.size, 0, none⟩) (by show w.heap.size < w5.heap.size; omega)).trans hx5)
  have HA2 := Lib.hid (fun M => ((HBZ.out M).cell (p := ⟨bb, oo + 6, none⟩) hbw5).trans hc5)
  have HAL := Lib.hid hal
  have HAF := Lib.hid af
  have HFIN : Hid (∀ W, Below w5.heap.size w5 W → SegAt W w5.heap.size sg.noSeg none 0 none 0 → (∀ o, W.frozen? ⟨w5.heap.size, o, none⟩ = false) →
      DecAt w (((((((((W.setCell ⟨w5.heap.size, 0, none⟩ (.int .i64 (sg.w16 b 0))).setCell ⟨w5.heap.size, 1, none⟩ (.int .i64 (sg.w16 b 2))).setCell ⟨w5.heap.size, 2, none⟩ (.int .i64 (sg.w16 b 4))).setCell ⟨w5.heap.size, 3, none⟩ (.bool (sg.flagAt b 1))).setCell ⟨w5.heap.size, 4, none⟩ (.bool (sg.flagAt b 2))).setCell ⟨w5.heap.size, 5, none⟩ (.bool (sg.flagAt b 4))).setCell ⟨w5.heap.size, 6, none⟩ (.bool (sg.flagAt b 8))).setCell ⟨w5.heap.size, 7, none⟩ (.slice none 0 0)).setCell ⟨w5.heap.size, 8, none⟩ (.slice none 0 0)) w5.heap.size (some ⟨bb, oo, none⟩) b.length c (sg.part2 b 0) none 0 none 0) := Lib.hid (fun W hb h hf =>
    have hbn := hb.trans (below_nine (G := w5.heap.size) (W := W))
    have hw5 : w.heap.size + 1 < w5.heap.size := by omega
    ⟨(hbn.cell (p := ⟨w.heap.size, 0, none⟩) (show w.heap.size < w5.heap.size by omega)).trans hx5, HR5.out.below hbn hw5, fun o => (hbn.frozen (p := ⟨w.heap.size + 1, o, none⟩) hw5).trans (hf5 o), h.nine (sg.part2 b 0) rfl rfl, fun o => by simp only [World.frozen?_setCell]; exact hf o, hw5, bnext hB5 hbn⟩)
  have u1 : IntKind.u8.wrap ((sg.byteAt b 6).tdiv 2) = sg.byteAt b 6 / 2 := by rw [Int.tdiv_eq_ediv_of_nonneg hx6.1]; exact IntWalk.u8_in _ (by omega)
  have u2 : IntKind.u8.wrap ((sg.byteAt b 6).tdiv 4) = sg.byteAt b 6 / 4 := by rw [Int.tdiv_eq_ediv_of_nonneg hx6.1]; exact IntWalk.u8_in _ (by omega)
  have u3 : IntKind.u8.wrap ((sg.byteAt b 6).tdiv 8) = sg.byteAt b 6 / 8 := by rw [Int.tdiv_eq_ediv_of_nonneg hx6.1]; exact IntWalk.u8_in _ (by omega)
  have t0 : ((sg.byteAt b 6).tmod 2 == 1) = sg.flagAt b 1 := by rw [Int.tmod_eq_emod_of_nonneg hx6.1]; simp [sg.flagAt]; try rfl
  have t1 : ((sg.byteAt b 6 / 2).tmod 2 == 1) = sg.flagAt b 2 := by rw [Int.tmod_eq_emod_of_nonneg (by omega)]; simp [sg.flagAt]; try rfl
  have t2 : ((sg.byteAt b 6 / 4).tmod 2 == 1) = sg.flagAt b 4 := by rw [Int.tmod_eq_emod_of_nonneg (by omega)]; simp [sg.flagAt]; try rfl
  have t3 : ((sg.byteAt b 6 / 8).tmod 2 == 1) = sg.flagAt b 8 := by rw [Int.tmod_eq_emod_of_nonneg (by omega)]; simp [sg.flagAt]; try rfl
  generalize sg.flagAt b 1 = F1 at *
  generalize sg.flagAt b 2 = F2 at *
  generalize sg.flagAt b 4 = F3 at *
  generalize sg.flagAt b 8 = F4 at *
  go_upto_region 9 with fail
  go_cut [6] (fun s6 wx => s6 = .pointer (some ⟨w5.heap.size, 0, none⟩) ∧ Hid (DecAt w wx w5.heap.size (some ⟨bb, oo, none⟩) b.length c (sg.part2 b 0) none 0 none 0) ∧ w5.heap.size < wx.heap.size)
  case first =>
    go_region_held3 (fun w' => w'.cell? ⟨w.heap.size, 0, none⟩ = some (.slice (some ⟨bb, oo, none⟩) b.length c) ∧ w'.cell? ⟨bb, oo + 6, none⟩ = some (.int .u8 (sg.byteAt b 6)))
      (first
        | go_keep
        | (refine ⟨?_, ?_⟩; (rw [cell_other HN1.out, cell_other HN1.out, cell_other HN1.out, cell_other HN1.out, cell_other HN1.out, cell_other HN1.out, cell_other HN1.out, cell_other HN1.out, cell_other HN1.out]; first | exact HA1.out _ | (simp only [World.cell?_drew, World.cell?_drewN]; exact HA1.out _)); (rw [cell_other HN2.out, cell_other HN2.out, cell_other HN2.out, cell_other HN2.out, cell_other HN2.out, cell_other HN2.out, cell_other HN2.out, cell_other HN2.out, cell_other HN2.out]; first | exact HA2.out _ | (simp only [World.cell?_drew, World.cell?_drewN]; exact HA2.out _)))
        | fail)
      (first
        | (go_at_call 65; (with_reducible refine (HW.out _ ?_ ?_ _ _ HJ0.out.1 HJ0.out.2).mono ?_); (first | assumption | (simp only [World.cell?_drew]; assumption) | exact HA1.out _ | (simp only [World.cell?_drew, World.cell?_drewN]; exact HA1.out _)); (exact (by repeat (first | (with_reducible exact Below.refl _ _) | (with_reducible assumption) | (with_reducible refine bset ?_ ?_ _) | (with_reducible refine balloc ?_ _) | (with_reducible refine Below.drew ?_) | (with_reducible refine bdrewN ?_ _) | (with_reducible refine bnext ?_ (by with_reducible assumption)) | exact Nat.le_refl _ | (simp; done) | omega | (simp; omega)))); rintro e w6 ⟨rfl, m1, rfl⟩)
        | (go_at_call 65; (with_reducible refine (HW.out _ ?_ ?_ _ _ HJ2.out.1 HJ2.out.2).mono ?_); (first | assumption | (simp only [World.cell?_drewN]; assumption) | exact HA1.out _ | (simp only [World.cell?_drew, World.cell?_drewN]; exact HA1.out _)); (exact (by repeat (first | (with_reducible exact Below.refl _ _) | (with_reducible assumption) | (with_reducible refine bset ?_ ?_ _) | (with_reducible refine balloc ?_ _) | (with_reducible refine Below.drew ?_) | (with_reducible refine bdrewN ?_ _) | (with_reducible refine bnext ?_ (by with_reducible assumption)) | exact Nat.le_refl _ | (simp; done) | omega | (simp; omega)))); rintro e w6 ⟨rfl, m3, rfl⟩)
        | (go_at_call 65; (with_reducible refine (HW.out _ ?_ ?_ _ _ HJ4.out.1 HJ4.out.2).mono ?_); (first | assumption | (simp only [World.cell?_drewN]; assumption) | exact HA1.out _ | (simp only [World.cell?_drew, World.cell?_drewN]; exact HA1.out _)); (exact (by repeat (first | (with_reducible exact Below.refl _ _) | (with_reducible assumption) | (with_reducible refine bset ?_ ?_ _) | (with_reducible refine balloc ?_ _) | (with_reducible refine Below.drew ?_) | (with_reducible refine bdrewN ?_ _) | (with_reducible refine bnext ?_ (by with_reducible assumption)) | exact Nat.le_refl _ | (simp; done) | omega | (simp; omega)))); rintro e w6 ⟨rfl, m5, rfl⟩)
        | fail)
    all_goals
      go_wp2_with fail
      go_meet
      refine ⟨rfl, Lib.hid (HFIN.out _ ?_ ?_ ?_), ?_⟩
      · first | exact HBZ.out _ | exact bdrewN (HBZ.out _) _ | exact balloc (bself w5) _ | exact bdrewN (balloc (bself w5) _) _
      · first | exact HAL.out _ | exact (HAL.out _).drewN _ | exact HAL.out 0 | exact (HAL.out 0).drewN _
      · intro o
        first | exact HAF.out _ o | exact HAF.out 0 o | (simp only [World.frozen?_drewN]; first | exact HAF.out _ o | exact HAF.out 0 o)
      · simp [World.setCell]
  case rest =>
    obtain ⟨rfl, HD, hzr⟩ := hcut
    rename World => wr
    have hGz := hz5
    clear a0 a1 a2 a3 a4 a5 a6 a7 a8 af hal HAL HAF HA1 HA2 HBZ HFIN t0 t1 t2 t3 u1 u2 u3 HN1 HN2 hc5 hx5 HR5 hf5 HJ0 HJ2 HJ4 hB5 hbw5 hx6
    generalize w5.heap.size = G at *
    obtain ⟨b', o', he, _, hc7⟩ := u8_at (HL.out.below HD.out.below) (show 7 < b.length by omega)
    simp only [Option.some.injEq, Addr.mk.injEq, and_true] at he
    obtain ⟨rfl, rfl⟩ := he
    change _ = some (Value.int .u8 ((sg.count b : Nat) : Int)) at hc7
    have hcb : sg.count b < 256 := (b.getD 7 0).toNat_lt
    have x0 := HD.out.box
    have hBw := HD.out.below
    by_cases hL : b.length < 10 + 4 * sg.count b
    · have HDX : Hid (sg.dec b = .error 4) := Lib.hid (by unfold sg.dec; rw [if_neg (by omega), if_neg (fun e => e HSUM.out), if_pos (.inr hL)])
      have hL' : (b.length : Int) < 10 + 4 * (sg.count b : Int) := by omega
      obtain ⟨_, r1, r2, r3, r4, r5, r6, r7, r8, r9⟩ := HD.out.res
      simp only [sg.noSeg, List.length_nil] at r1 r2 r3 r4 r5 r6 r7 r8 r9
      have rf := HD.out.rfz
      clear HSUM
      go_wp2_with fail
      (try simp only [Exit.inBlock, Exit.then])
      refine bodyPost_ret (v := .tuple #[.agg #[.int .i64 0, .int .i64 0, .int .i64 0, .bool false, .bool false, .bool false, .bool false, .slice none 0 0, .slice none 0 0], .int .i64 4]) (by simp [results, Try.results34, go_sem, r1, r2, r3, r4, r5, r6, r7, r8, r9]) rfl ?_
      exact SegRes.no HDX.out (by repeat (first | (with_reducible exact Below.refl _ _) | (with_reducible assumption) | (with_reducible refine bset ?_ ?_ _) | (with_reducible refine balloc ?_ _) | (with_reducible refine Below.drew ?_) | (with_reducible refine bdrewN ?_ _) | (with_reducible refine bnext ?_ (by with_reducible assumption)) | exact Nat.le_refl _ | (simp; done) | omega | (simp; omega)))
    · have hL' : ¬ ((b.length : Int) < 10 + 4 * (sg.count b : Int)) := by omega
      have HDE := Lib.hid (sg.dec_ref b h10 (by omega) HSUM.out)
      clear HSUM
      go_wp2_with fail
      have hl7 := Lib.hid hc7
      clear hc7 x0
      obtain ⟨nn, hnn⟩ : ∃ nn, nn = sg.count b := ⟨_, rfl⟩
      rw [← hnn] at hcb hL hL' ⊢
      have HNN := Lib.hid hnn
      clear hnn
      go_loopw [8] (fun i wq => ∃ (k : Nat) (A0 : Option Addr) (c0 : Nat), k ≤ nn ∧ i = .int .i64 k ∧ Hid (DecAt w wq G (some ⟨bb, oo, none⟩) b.length c (sg.part2 b k) A0 c0 none 0) ∧ G < wq.heap.size ∧ Hid (Own wq (G + 1) 64 2 A0 k c0 ((sg.rngs b k).flatMap Rng.cells))) (fun i _ => nn - (intOf i).toNat)
      case atStart => exact ⟨0, none, 0, by omega, rfl, HD, hzr, Lib.hid (Own.nil _ _ _ _)⟩
      case round =>
        obtain ⟨k, A0, c0, hk', rfl, HQ, hzq, HO⟩ := hrel
        rename World => wq
        clear HD hBw
        by_cases hlt : k < nn
        · have hlt' : (k : Int) < (nn : Int) := by omega
          have x0 := HQ.out.box
          have x1 := HQ.out.seg.2.2.2.2.2.2.2.2.1
          have x2 := HQ.out.sfz 7
          rw [show (sg.part2 b k).sacks.length = k from sg.rngs_length b k] at x1
          have HB := HQ.out.below
          have HW := Lib.hid (fun W (h : W.cell? ⟨w.heap.size, 0, none⟩ = some (.slice (some ⟨bb, oo, none⟩) b.length c)) (hB : Below w.heap.size w W) i j (hj : j = ((i : Nat) : Int)) hi => ref_word b (some ⟨bb, oo, none⟩) c w.heap.size _ W h (HL.out.below hB) i j hj hi hn)
          have hwr1 := IntWalk.i64_in (4 * (k : Int)) (by omega)
          have hwr2 := IntWalk.i64_in (10 + 4 * (k : Int)) (by omega)
          have hwr3 := IntWalk.i64_in (12 + 4 * (k : Int)) (by omega)
          have HJ1 : Hid (10 + 4 * (k : Int) = ((10 + 4 * k : Nat) : Int) ∧ 10 + 4 * k + 1 < b.length) := Lib.hid ⟨by omega, by omega⟩
          have HJ2 : Hid (12 + 4 * (k : Int) = ((10 + 4 * k + 2 : Nat) : Int) ∧ 10 + 4 * k + 2 + 1 < b.length) := Lib.hid ⟨by omega, by omega⟩
          have HOX := Lib.hid (fun m o => (HO.out.drewN m).alloc o)
          have HZX : Hid (∀ {m : Nat}, wq.heap.size = (wq.drewN m).heap.size) := Lib.hid rfl
          have HSX : Hid (∀ (m : Nat) (o : Obj), G + 1 ≤ ((wq.drewN m).alloc o).heap.size) := Lib.hid (fun m o => by simp; omega)
          have HV : Hid (∀ u ∈ [Value.int .i64 (sg.w16 b (10 + 4 * k)), .int .i64 (sg.w16 b (10 + 4 * k + 2))], u.oneCell' = true) := Lib.hid (by simp [Value.oneCell'])
          have HBX : ∀ (m : Nat) (o : Obj), Below wq.heap.size wq ((wq.drewN m).alloc o) := fun m o => balloc (bdrewN (bself wq) m) o
          have hGw := HQ.out.hG
          have HC7 := Lib.hid (fun m o => ((HBX m o).cell (p := ⟨G, 7, none⟩) hzq).trans x1)
          have HF7 := Lib.hid (fun m o => ((HBX m o).frozen (p := ⟨G, 7, none⟩) hzq).trans x2)
          have HC0 := Lib.hid (fun m o => ((HBX m o).cell (p := ⟨w.heap.size, 0, none⟩) (show w.heap.size < wq.heap.size by omega)).trans x0)
          have HSW : Hid (∀ (m : Nat) (o : Obj), w.heap.size < ((wq.drewN m).alloc o).heap.size) := Lib.hid (fun m o => Nat.lt_of_lt_of_le (show w.heap.size < wq.heap.size by omega) (HBX m o).size)
          have HNE : Hid (∀ x, blkOf A0 = some x → x ≠ G) := Lib.hid (fun x hx => by have := (HO.out.lt x hx).1; omega)
          have HNW : Hid (∀ x, blkOf A0 = some x → x ≠ w.heap.size) := Lib.hid (fun x hx => by have := (HO.out.lt x hx).1; omega)
          have hC7u := HC7.out
          clear HBX
          have HRG : Hid ((sg.rngs b (k + 1)).flatMap Rng.cells = (sg.rngs b k).flatMap Rng.cells ++ [.int .i64 (sg.w16 b (10 + 4 * k)), .int .i64 (sg.w16 b (10 + 4 * k + 2))]) := Lib.hid (by simp [sg.rngs, Rng.cells])
          go_wp2_with fail
          (try clear h10'); (try clear h8'); (try clear h9'); (try clear h6'); (try clear h7'); (try clear hL); (try clear hL'); (try clear hx8); (try clear hx9); (try clear hf0); (try clear hf1); (try clear hg); (try clear hg0); (try clear hg1); (try clear hbw); (try clear hzr); (try clear hGz); (try clear hGw); (try clear hn); (try clear h10); (try clear HL); (try clear HDE); (try clear HNN); (try clear HR5); (try clear HBB); (try clear hl7); (try clear HF); (try clear HSUM); (try clear hc8); (try clear hc9); (try clear HD)
          go_region_law
            (first
              | (go_simp; go_at_call 65; (first | (with_reducible refine (HW.out _ ?_ ?_ _ _ HJ1.out.1 HJ1.out.2).mono ?_) | (with_reducible refine (HW.out _ ?_ ?_ _ _ HJ2.out.1 HJ2.out.2).mono ?_)); (first | assumption | (simp only [World.cell?_drew, World.cell?_drewN]; assumption)); (exact (by repeat (first | (with_reducible exact Below.refl _ _) | (with_reducible assumption) | (with_reducible refine bset ?_ ?_ _) | (with_reducible refine balloc ?_ _) | (with_reducible refine Below.drew ?_) | (with_reducible refine bdrewN ?_ _) | (with_reducible refine bnext ?_ (by with_reducible assumption)) | exact Nat.le_refl _ | (simp; done) | omega | (simp; omega)))); rintro e w9 ⟨rfl, m1, rfl⟩)
              | ((refine step_app _ (by rfl) _ _ _ (by rfl) elemRng (G + 1) A0 k c0 _ (by rfl) (HOX.out _ _) (some ⟨wq.heap.size, 0, none⟩) 1 1 [.int .i64 (sg.w16 b (10 + 4 * k)), .int .i64 (sg.w16 b (10 + 4 * k + 2))] (by rfl) (by rfl) (Cells.newAt _ _ _ HZX.out) HV.out (by omega) (by unfold maxLen; omega) (HSX.out _ _) ?_; intro A11 c11 w11 hO11 hg11; have x5 := (hg11.cell (b := G) 7 (HSX.out _ _) HNE.out).trans (HC7.out _ _); have x6 := (hg11.frozen (b := G) 7 (HSX.out _ _) HNE.out).trans (HF7.out _ _); have x7 := (hg11.cell (b := w.heap.size) 0 (HSW.out _ _) HNW.out).trans (HC0.out _ _)))
              | fail)
          all_goals
            have hbq : Below (G + 1) wq w11 := Below.trans ((balloc (bdrewN (bself wq) _) _).mono (by omega)) (hg11.below (HSX.out _ _) (fun x hx => (HO.out.lt x hx).1))
            have HQ2 := Lib.hid ((HQ.out.next hbq (Nat.lt_succ_self _)).put (s' := sg.part2 b (k + 1)) (A0' := A11) (c0' := c11) (A1' := none) (c1' := 0) 7 (.slice A11 (k + 1) c11) (by decide) (by simp [segCells, sg.part2, sg.segOf, sg.rngs_length]))
            have hz11 : G < w11.heap.size := Nat.lt_of_lt_of_le hzq hbq.size
            have HO2 : Hid (Own (w11.setCell ⟨G, 7, none⟩ (.slice A11 (k + 1) c11)) (G + 1) 64 2 A11 (k + 1) c11 ((sg.rngs b (k + 1)).flatMap Rng.cells)) := Lib.hid (by rw [HRG.out]; exact hO11.setCell (fun e => absurd (hO11.lt _ e).1 (Nat.not_succ_le_self G)) _)
            clear hO11 hg11 hbq HQ HO HRG
            go_wp2
            go_roundw
            case rel => exact ⟨k + 1, A11, c11, by omega, by go_num, HQ2, by simpa [World.setCell] using hz11, HO2⟩
            case measure => simp [intOf]; omega
        · obtain rfl : k = nn := by omega
          have x0 := HQ.out.box
          have HB := HQ.out.below
          have hcut := run_cut_l (P := Try.prog) elemU8 (some ⟨bb, oo, none⟩) b.length c (10 + 4 * k) (by omega) (10 + 4 * (k : Int)) (by omega)
          have HR := Lib.hid (HL.out.drop (f := 10 + 4 * k) (by omega))
          have HCK := Lib.hid ((HR.out.below HB).cells_u8)
          have hlen : (sg.rngs b k).length = k := sg.rngs_length b k
          have hr0 := HO.out.rng.2
          obtain ⟨s, hs⟩ : ∃ s, s = sg.segOf b := ⟨_, rfl⟩
          have hsk : s.sacks = sg.rngs b k := by rw [hs, HNN.out]; rfl
          have hsd : s.data = b.drop (10 + 4 * k) := by rw [hs, HNN.out]; rfl
          have hQs : ∀ (W : World) (A12 : Option Addr) (c12 : Nat), DecAt w W G (some ⟨bb, oo, none⟩) b.length c (sg.part2 b k) A0 c0 none 0 → DecAt w (W.setCell ⟨G, 8, none⟩ (.slice A12 (b.length - (10 + 4 * k)) c12)) G (some ⟨bb, oo, none⟩) b.length c s A0 c0 A12 c12 := fun W A12 c12 h =>
            h.put 8 _ (by decide) (by simp [segCells, hsk, hsd, sg.part2, sg.rngs_length]; rw [hs]; simp)
          have hD : sg.dec b = if sg.fault s = 0 ∧ exL (sg.enc s) = b then .ok s else .error 4 := by rw [hs]; exact HDE.out
          have hk1 : s.sacks.length = k := by rw [hsk]; exact hlen
          have hk2 : s.data.length = b.length - (10 + 4 * k) := by rw [hsd]; simp
          have HEQ : Hid (∀ W : World, SegAt W G (sg.part2 b k) A0 c0 none 0 → W.cell? ⟨G, 0, none⟩ = some (.int .i64 s.seq) ∧ W.cell? ⟨G, 1, none⟩ = some (.int .i64 s.ack) ∧ W.cell? ⟨G, 2, none⟩ = some (.int .i64 s.window) ∧ W.cell? ⟨G, 3, none⟩ = some (.bool s.syn) ∧ W.cell? ⟨G, 4, none⟩ = some (.bool s.fin) ∧ W.cell? ⟨G, 5, none⟩ = some (.bool s.rst) ∧ W.cell? ⟨G, 6, none⟩ = some (.bool s.acks) ∧ W.cell? ⟨G, 7, none⟩ = some (.slice A0 k c0) ∧ W.cell? ⟨G, 8, none⟩ = some (.slice none 0 0)) := Lib.hid (fun W h => by
            obtain ⟨_, h0, h1, h2, h3, h4, h5, h6, h7, h8⟩ := h
            rw [show (sg.part2 b k).sacks.length = k from hlen] at h7
            rw [hs]
            exact ⟨h0, h1, h2, h3, h4, h5, h6, h7, h8⟩)
          have HR0 := Lib.hid hr0
          have HQS := Lib.hid hQs
          have HSK := Lib.hid hsk
          have HSD := Lib.hid hsd
          have HK1 := Lib.hid hk1
          have HK2 := Lib.hid hk2
          have hGw := HQ.out.hG
          have HDD := Lib.hid hD
          clear hQs hs hsk hsd hk1 hk2 hD hr0 hlen HDE HNN
          have HCP := Lib.hid hcut
          clear hcut
          have hcut := HCP.out
          have HLQ : Hid (G < wq.heap.size) := Lib.hid hzq
          have hE8 := HEQ.out _ HQ.out.seg
          have hF8 := HQ.out.sfz 8
          have HE8 := Lib.hid hE8.2.2.2.2.2.2.2.2
          clear hE8
          have hu8 : ∀ v, u8v v = u8v v := fun _ => rfl
          clear hu8
          go_wp2_with (at_builtin; (refine wp_app _ rfl _ _ _ rfl elemU8 wq.heap.size none 0 0 [] rfl (Own.nil _ _ _ _) (cutA (some ⟨bb, oo, none⟩) c (10 + 4 * k) 1) (b.length - (10 + 4 * k)) (c - (10 + 4 * k)) ((b.drop (10 + 4 * k)).map u8v) rfl (by simp) HCK.out (oneCell_u8 _) (by omega) (by unfold maxLen; omega) (Nat.le_refl _) ?_; intro A12 c12 w12 ho12 hg12; simp only [Nat.zero_add, List.nil_append] at ho12 ⊢; have hb12 := hg12.below (Nat.le_refl _) (fun k hk => by cases hk); have q8 := (hb12.cell (p := ⟨G, 8, none⟩) HLQ.out).trans HE8.out; have qf := (hb12.frozen (p := ⟨G, 8, none⟩) HLQ.out).trans hF8; obtain ⟨q0, q1, q2, q3, q4, q5, q6, q7, _⟩ := HEQ.out _ (HQ.out.next hb12 hzq).seg))
          have HO12 := Lib.hid ho12
          have hD12 := HQ.out.next hb12 hzq
          have HD13 := Lib.hid (HQS.out _ A12 c12 hD12)
          have hz12 : G < w12.heap.size := Nat.lt_of_lt_of_le hzq hb12.size
          have hzq12 := hb12.size
          have HX1 : Hid (SlRep Rng.rep (w12.setCell ⟨G, 8, none⟩ (.slice A12 (b.length - (10 + 4 * k)) c12)) (fun j => G + 1 ≤ j ∧ j < (w12.setCell ⟨G, 8, none⟩ (.slice A12 (b.length - (10 + 4 * k)) c12)).heap.size) s.sacks A0 c0) := Lib.hid (by
            rw [HSK.out]
            exact HR0.out.keep fun j hj => ⟨⟨hj.1, by simpa [World.setCell] using Nat.lt_of_lt_of_le hj.2 hzq12⟩, (Below.heap_setCell w12 ⟨G, 8, none⟩ _ j (by show j ≠ G; omega)).trans (hb12.block j hj.2)⟩)
          have HX2 : Hid (SlRep Rep.u8 (w12.setCell ⟨G, 8, none⟩ (.slice A12 (b.length - (10 + 4 * k)) c12)) (fun j => G + 1 ≤ j ∧ j < (w12.setCell ⟨G, 8, none⟩ (.slice A12 (b.length - (10 + 4 * k)) c12)).heap.size) s.data A12 c12) := Lib.hid (by
            rw [HSD.out]
            exact HO12.out.u8.2.keep fun j hj => ⟨⟨by omega, by simpa [World.setCell] using hj.2⟩, Below.heap_setCell w12 ⟨G, 8, none⟩ _ j (by show j ≠ G; omega)⟩)
          have hz13 : G < (w12.setCell ⟨G, 8, none⟩ (.slice A12 (b.length - (10 + 4 * k)) c12)).heap.size := by simpa [World.setCell] using hz12
          clear ho12 hD12 hb12
          have hF := ref_Encoded_res s A0 A12 c0 c12 _ (HX1.out.keep fun j hj => ⟨hj.2, rfl⟩) (HX2.out.keep fun j hj => ⟨hj.2, rfl⟩) (by rw [HK1.out]; omega) (by rw [HK2.out]; omega)
          unfold Segment.val at hF
          rw [HK1.out, HK2.out] at hF
          have HF := Lib.hid hF
          clear hF
          go_wp2_with fail
          refine HF.out.mono ?_
          rintro e w14 ⟨A15, c15, rfl, ho15, hb14⟩
          rw [sg.exC_enc]
          have hcs1 := run_string ho15.u8.2
          clear HF q0 q1 q2 q3 q4 q5 q6 q7 q8 qf ho15
          have hD14 := HD13.out.next hb14 hz13
          have hcs2 := run_string (HL.out.below hD14.below)
          have x0 := hD14.box
          obtain ⟨q0, q1, q2, q3, q4, q5, q6, q7, q8, q9⟩ := hD14.seg
          rw [HK1.out] at q8
          rw [HK2.out] at q9
          obtain ⟨_, r1, r2, r3, r4, r5, r6, r7, r8, r9⟩ := hD14.res
          simp only [sg.noSeg, List.length_nil] at r1 r2 r3 r4 r5 r6 r7 r8 r9
          have rf := hD14.rfz
          have hBw := hD14.below
          have HX3 : Hid (SlRep Rng.rep w14 (fun j => G + 1 ≤ j ∧ j < w14.heap.size) s.sacks A0 c0) := Lib.hid (HX1.out.keep fun j hj => ⟨⟨hj.1, Nat.lt_of_lt_of_le hj.2 hb14.size⟩, hb14.block j hj.2⟩)
          have HX4 : Hid (SlRep Rep.u8 w14 (fun j => G + 1 ≤ j ∧ j < w14.heap.size) s.data A12 c12) := Lib.hid (HX2.out.keep fun j hj => ⟨⟨hj.1, Nat.lt_of_lt_of_le hj.2 hb14.size⟩, hb14.block j hj.2⟩)
          have hne1 : ¬ (G = w.heap.size + 1) := by omega
          have hne2 : ¬ (w.heap.size + 1 = G) := by omega
          clear HX1 HX2 HD13 hD14 hb14
          obtain ⟨L, HLL⟩ : ∃ L, Hid (exL (sg.enc s) = L) := ⟨_, Lib.hid rfl⟩
          rw [HLL.out] at hcs1 ⊢
          by_cases hft : sg.fault s = 0
          · by_cases hlb : L = b
            · have HE : Hid (sg.dec b = .ok s) := Lib.hid (by rw [HDD.out, if_pos ⟨hft, by rw [HLL.out, hlb]⟩])
              rw [hft]
              subst hlb
              clear hft HDD HLL
              go_wp2_with fail
              (try simp only [Exit.inBlock, Exit.then])
              refine bodyPost_ret (v := .tuple #[.agg #[.int .i64 s.seq, .int .i64 s.ack, .int .i64 s.window, .bool s.syn, .bool s.fin, .bool s.rst, .bool s.acks, .slice A0 k c0, .slice A12 (L.length - (10 + 4 * k)) c12], .int .i64 0]) (by simp [results, Try.results34, go_sem, r1, r2, r3, r4, r5, r6, r7, r8, r9]) rfl ?_
              rw [HE.out]
              refine ⟨A0, c0, A12, c12, by simp only [segOr, exC, Segment.val, HK1.out, HK2.out], ?_, ?_, (by repeat (first | (with_reducible exact Below.refl _ _) | (with_reducible assumption) | (with_reducible refine bset ?_ ?_ _) | (with_reducible refine balloc ?_ _) | (with_reducible refine Below.drew ?_) | (with_reducible refine bdrewN ?_ _) | (with_reducible refine bnext ?_ (by with_reducible assumption)) | exact Nat.le_refl _ | (simp; done) | omega | (simp; omega)))⟩
              · exact HX3.out.keep fun j hj => ⟨⟨by omega, by simpa [World.setCell] using hj.2⟩, by rw [Below.heap_setCell _ _ _ j (by show j ≠ w.heap.size + 1; omega), Below.heap_setCell _ _ _ j (by show j ≠ w.heap.size + 1; omega), Below.heap_setCell _ _ _ j (by show j ≠ w.heap.size + 1; omega), Below.heap_setCell _ _ _ j (by show j ≠ w.heap.size + 1; omega), Below.heap_setCell _ _ _ j (by show j ≠ w.heap.size + 1; omega), Below.heap_setCell _ _ _ j (by show j ≠ w.heap.size + 1; omega), Below.heap_setCell _ _ _ j (by show j ≠ w.heap.size + 1; omega), Below.heap_setCell _ _ _ j (by show j ≠ w.heap.size + 1; omega), Below.heap_setCell _ _ _ j (by show j ≠ w.heap.size + 1; omega)]⟩
              · exact HX4.out.keep fun j hj => ⟨⟨by omega, by simpa [World.setCell] using hj.2⟩, by rw [Below.heap_setCell _ _ _ j (by show j ≠ w.heap.size + 1; omega), Below.heap_setCell _ _ _ j (by show j ≠ w.heap.size + 1; omega), Below.heap_setCell _ _ _ j (by show j ≠ w.heap.size + 1; omega), Below.heap_setCell _ _ _ j (by show j ≠ w.heap.size + 1; omega), Below.heap_setCell _ _ _ j (by show j ≠ w.heap.size + 1; omega), Below.heap_setCell _ _ _ j (by show j ≠ w.heap.size + 1; omega), Below.heap_setCell _ _ _ j (by show j ≠ w.heap.size + 1; omega), Below.heap_setCell _ _ _ j (by show j ≠ w.heap.size + 1; omega), Below.heap_setCell _ _ _ j (by show j ≠ w.heap.size + 1; omega)]⟩
            · have HE : Hid (sg.dec b = .error 4) := Lib.hid (by rw [HDD.out, if_neg (fun e => hlb (by rw [← HLL.out]; exact e.2))])
              have hq1 : ((strOf L).toList == (strOf b).toList) = false := by rw [beq_eq_false_iff_ne, strOf_toList, strOf_toList]; exact hlb
              have hq2 : (!(strOf L).toList == (strOf b).toList) = true := by rw [hq1]; rfl
              rw [hft]
              clear hft HDD HLL hlb
              go_wp2_with fail
              (try simp only [Exit.inBlock, Exit.then])
              refine bodyPost_ret (v := .tuple #[.agg #[.int .i64 0, .int .i64 0, .int .i64 0, .bool false, .bool false, .bool false, .bool false, .slice none 0 0, .slice none 0 0], .int .i64 4]) (by simp [results, Try.results34, go_sem, r1, r2, r3, r4, r5, r6, r7, r8, r9]) rfl ?_
              exact SegRes.no HE.out (by repeat (first | (with_reducible exact Below.refl _ _) | (with_reducible assumption) | (with_reducible refine bset ?_ ?_ _) | (with_reducible refine balloc ?_ _) | (with_reducible refine Below.drew ?_) | (with_reducible refine bdrewN ?_ _) | (with_reducible refine bnext ?_ (by with_reducible assumption)) | exact Nat.le_refl _ | (simp; done) | omega | (simp; omega)))
          · have HE : Hid (sg.dec b = .error 4) := Lib.hid (by rw [HDD.out, if_neg (fun e => hft e.1)])
            have hft1 : (sg.fault s == 0) = false := by rw [beq_eq_false_iff_ne]; exact hft
            have hft2 : (sg.fault s != 0) = true := by rw [bne, hft1]; rfl
            clear HDD HLL
            generalize sg.fault s = ft at *
            go_wp2_with fail
            (try simp only [Exit.inBlock, Exit.then])
            refine bodyPost_ret (v := .tuple #[.agg #[.int .i64 0, .int .i64 0, .int .i64 0, .bool false, .bool false, .bool false, .bool false, .slice none 0 0, .slice none 0 0], .int .i64 4]) (by simp [results, Try.results34, go_sem, r1, r2, r3, r4, r5, r6, r7, r8, r9]) rfl ?_
            exact SegRes.no HE.out (by repeat (first | (with_reducible exact Below.refl _ _) | (with_reducible assumption) | (with_reducible refine bset ?_ ?_ _) | (with_reducible refine balloc ?_ _) | (with_reducible refine Below.drew ?_) | (with_reducible refine bdrewN ?_ _) | (with_reducible refine bnext ?_ (by with_reducible assumption)) | exact Nat.le_refl _ | (simp; done) | omega | (simp; omega)))
end Go.Proofs.Ytedbidblnjajdaa
