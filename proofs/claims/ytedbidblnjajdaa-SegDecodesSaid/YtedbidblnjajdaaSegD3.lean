/- Package seg: Decode. No condition. -/
import Derived.Test.YtedbidblnjajdaaSegD2
import Derived.Deep.RegionLaw
namespace Go.Proofs.Ytedbidblnjajdaa
open Go.RowKit

theorem blank_cells {w : World} {base : Nat} {A : Option Addr} {n c : Nat} {b : List UInt8} (h10 : 10 ≤ b.length) (h : Own w base 5 1 A n c (b.map u8v)) :
    ∃ g v8 v9, A = some ⟨g, 0, none⟩ ∧ base ≤ g ∧ w.cell? ⟨g, 8, none⟩ = some v8 ∧ w.cell? ⟨g, 9, none⟩ = some v9 ∧ (∀ o, w.frozen? ⟨g, o, none⟩ = false) ∧ g < w.heap.size := by
  obtain ⟨g, e, hb, hg, hc⟩ := h.cell (j := 8) (u := u8v (b[8]'(by omega))) (by rw [List.getElem?_map, List.getElem?_eq_getElem (by omega)]; rfl)
  obtain ⟨g', e', _, _, hc'⟩ := h.cell (j := 9) (u := u8v (b[9]'(by omega))) (by rw [List.getElem?_map, List.getElem?_eq_getElem (by omega)]; rfl)
  subst e
  simp only [Option.some.injEq, Addr.mk.injEq, and_true] at e'
  subst e'
  exact ⟨g, _, _, rfl, hb, hc, hc', h.frozen_, hg⟩
theorem blank_own {w : World} {base g n c : Nat} {b : List UInt8} (h : Own w base 5 1 (some ⟨g, 0, none⟩) n c (b.map u8v)) :
    Own ((w.setCell ⟨g, 8, none⟩ (.int .u8 0)).setCell ⟨g, 9, none⟩ (.int .u8 0)) base 5 1 (some ⟨g, 0, none⟩) n c ((sg.blank b).map u8v) := by
  have h2 := (h.set (j := 8) (.int .u8 0)).set (j := 9) (.int .u8 0)
  rw [sg.blank, List.map_set, List.map_set]
  exact h2
theorem blank_length (b : List UInt8) : (sg.blank b).length = b.length := by simp [sg.blank]

set_option maxRecDepth 100000 in
set_option maxHeartbeats 2000000 in
theorem seg_Decode_sum (b : List UInt8) (A : Option Addr) (c : Nat) (w : World) (hl : SlRep Rep.u8 w (· < w.heap.size) b A c) (hn : b.length ≤ 140737488351232) (h10 : 10 ≤ b.length) (hs : sg.sumOf (sg.blank b) ≠ sg.w16 b 8) :
    Calls Try.prog 33 #[.slice A b.length c] w (SegRes (.error 6) w) := by
  have HL := Lib.hid hl
  have HCL := Lib.hid (fun w' (hb : Below w.heap.size w w') => clone_u8 b.length A c (b.map u8v) w' (by simp) (fun w'' hb'' => (hl.below (bnext hb hb'')).cells_u8) (oneCell_u8 _) hn)
  have h10' : ¬ ((b.length : Int) < 10) := by omega
  have h8' : (8 : Int) < (b.length : Int) := by omega
  have h9' : (9 : Int) < (b.length : Int) := by omega
  clear hl
  go_enter Try.func33, Try.ntmps33
  go_wp2_with (go_at_call 47; refine (HCL.out _ (by repeat (first | (with_reducible exact Below.refl _ _) | (with_reducible assumption) | (with_reducible refine bset ?_ ?_ _) | (with_reducible refine balloc ?_ _) | (with_reducible refine Below.drew ?_) | (with_reducible refine bdrewN ?_ _) | (with_reducible refine bnext ?_ (by with_reducible assumption)) | exact Nat.le_refl _ | (simp; done) | omega | (simp; omega)))).mono ?_; rintro e w3 ⟨A3, c3, rfl, ho3, hb3⟩; obtain ⟨g, v8, v9, rfl, hg, z8, z9, hzf, hzl⟩ := blank_cells h10 ho3; have HO3 := Lib.hid ho3; clear ho3; have B3 : Below w.heap.size w w3 := (by repeat (first | (with_reducible exact Below.refl _ _) | (with_reducible assumption) | (with_reducible refine bset ?_ ?_ _) | (with_reducible refine balloc ?_ _) | (with_reducible refine Below.drew ?_) | (with_reducible refine bdrewN ?_ _) | (with_reducible refine bnext ?_ (by with_reducible assumption)) | exact Nat.le_refl _ | (simp; done) | omega | (simp; omega))); have ha3 : ∀ b o, b < w.heap.size → w3.cell? ⟨b, o, none⟩ = w.cell? ⟨b, o, none⟩ := fun b o h => B3.cell (p := ⟨b, o, none⟩) h; have hk3 : ∀ k, k < w.heap.size → k < w3.heap.size := fun _ h => Nat.lt_of_lt_of_le h B3.size; have hz3 := hb3.size; (try simp at hz3); have hl3_w0 : w.heap.size < w3.heap.size := Nat.lt_of_lt_of_le (by first | (simp; done) | (simp; omega) | omega) hb3.size; have hc3_w0 := fun o => hb3.cell (p := ⟨w.heap.size, o, none⟩) (by first | (simp; done) | (simp; omega) | omega); have hf3_w0 := fun o => hb3.frozen (p := ⟨w.heap.size, o, none⟩) (by first | (simp; done) | (simp; omega) | omega); (try simp [go_sem, *] at hc3_w0); (try simp [go_sem, *] at hf3_w0); have hl3_w1 : w.heap.size + 1 < w3.heap.size := Nat.lt_of_lt_of_le (by first | (simp; done) | (simp; omega) | omega) hb3.size; have hc3_w1 := fun o => hb3.cell (p := ⟨w.heap.size + 1, o, none⟩) (by first | (simp; done) | (simp; omega) | omega); have hf3_w1 := fun o => hb3.frozen (p := ⟨w.heap.size + 1, o, none⟩) (by first | (simp; done) | (simp; omega) | omega); (try simp [go_sem, *] at hc3_w1); (try simp [go_sem, *] at hf3_w1); clear hb3)
  simp only [World.size_alloc] at hg
  have hg0 : w.heap.size ≠ g := by omega
  have hg1 : w.heap.size + 1 ≠ g := by omega
  have hb34 : Below (w.heap.size + 1 + 1) w3 ((w3.setCell ⟨g, 8, none⟩ (.int .u8 0)).setCell ⟨g, 9, none⟩ (.int .u8 0)) := ((Below.refl _ w3).setCell (p := ⟨g, 8, none⟩) (by show w.heap.size + 1 + 1 ≤ g; omega) _).setCell (p := ⟨g, 9, none⟩) (by show w.heap.size + 1 + 1 ≤ g; omega) _
  have hx4 : ((w3.setCell ⟨g, 8, none⟩ (.int .u8 0)).setCell ⟨g, 9, none⟩ (.int .u8 0)).cell? ⟨w.heap.size, 0, none⟩ = some (.slice A b.length c) := (hb34.cell (p := ⟨w.heap.size, 0, none⟩) (by show w.heap.size < _; omega)).trans (hc3_w0 0)
  have hR4 : SegAt ((w3.setCell ⟨g, 8, none⟩ (.int .u8 0)).setCell ⟨g, 9, none⟩ (.int .u8 0)) (w.heap.size + 1) sg.noSeg none 0 none 0 :=
    SegAt.below ⟨hl3_w1, hc3_w1 0, hc3_w1 1, hc3_w1 2, hc3_w1 3, hc3_w1 4, hc3_w1 5, hc3_w1 6, hc3_w1 7, hc3_w1 8⟩ hb34 (by omega)
  have hf4 := fun o => (hb34.frozen (p := ⟨w.heap.size + 1, o, none⟩) (by show w.heap.size + 1 < _; omega)).trans (hf3_w1 o)
  have hO4 := blank_own HO3.out
  have hB4 : Below w.heap.size w ((w3.setCell ⟨g, 8, none⟩ (.int .u8 0)).setCell ⟨g, 9, none⟩ (.int .u8 0)) := (B3.setCell (p := ⟨g, 8, none⟩) (by show w.heap.size ≤ g; omega) _).setCell (p := ⟨g, 9, none⟩) (by show w.heap.size ≤ g; omega) _
  have hz4 : w.heap.size + 1 + 1 ≤ ((w3.setCell ⟨g, 8, none⟩ (.int .u8 0)).setCell ⟨g, 9, none⟩ (.int .u8 0)).heap.size := by simpa [World.setCell] using hz3
  generalize (w3.setCell ⟨g, 8, none⟩ (.int .u8 0)).setCell ⟨g, 9, none⟩ (.int .u8 0) = w4 at *
  clear hc3_w0 hc3_w1 hf3_w0 hf3_w1 hl3_w0 hl3_w1 ha3 hk3 hz3 B3 z8 z9 hzf hzl HO3
  have hsum : Calls Try.prog 60 #[.slice (some ⟨g, 0, none⟩) b.length c3] w4 fun e w' => e = .returned (.int .i64 (sg.sumOf (sg.blank b))) ∧ w4 = w' := by
    have h := inet_Sum (sg.blank b) (some ⟨g, 0, none⟩) c3 _ w4 hO4.u8.2 (by rw [blank_length]; exact hn)
    rw [show b.length = (sg.blank b).length from (blank_length b).symm]
    exact h
  have hq : (sg.sumOf (sg.blank b) == sg.w16 b 8) = false := by rw [beq_eq_false_iff_ne]; exact hs
  have HWD := Lib.hid (seg_word b A c w.heap.size _ w4 hx4 (HL.out.below hB4) 8 8 rfl (by omega) hn)
  have HS := Lib.hid hsum
  clear hsum hO4 hs
  generalize sg.sumOf (sg.blank b) = x at *
  generalize sg.w16 b 8 = y at *
  obtain ⟨r0, r1, r2, r3, r4, r5, r6, r7, r8, r9⟩ := hR4
  simp only [sg.noSeg, List.length_nil] at r1 r2 r3 r4 r5 r6 r7 r8 r9
  refine HS.out.mono ?_
  rintro e w5 ⟨rfl, rfl⟩
  go_wp2_with (go_at_call 64; refine HWD.out.mono ?_; rintro e w6 ⟨rfl, m, rfl⟩)
  (try simp only [Exit.inBlock, Exit.then])
  refine bodyPost_ret (v := .tuple #[.agg #[.int .i64 0, .int .i64 0, .int .i64 0, .bool false, .bool false, .bool false, .bool false, .slice none 0 0, .slice none 0 0], .int .i64 6]) (by simp [results, Try.results33, go_sem, r1, r2, r3, r4, r5, r6, r7, r8, r9]) rfl ?_
  exact SegRes.no rfl (by repeat (first | (with_reducible exact Below.refl _ _) | (with_reducible assumption) | (with_reducible refine bset ?_ ?_ _) | (with_reducible refine balloc ?_ _) | (with_reducible refine Below.drew ?_) | (with_reducible refine bdrewN ?_ _) | (with_reducible refine bnext ?_ (by with_reducible assumption)) | exact Nat.le_refl _ | (simp; done) | omega | (simp; omega)))

set_option maxRecDepth 100000 in
set_option maxHeartbeats 20000000 in
theorem seg_Decode_long (b : List UInt8) (A : Option Addr) (c : Nat) (w : World) (hl : SlRep Rep.u8 w (· < w.heap.size) b A c) (hn : b.length ≤ 140737488351232) (h10 : 10 ≤ b.length) (hs : sg.sumOf (sg.blank b) = sg.w16 b 8) :
    Calls Try.prog 33 #[.slice A b.length c] w (SegRes (sg.dec b) w) := by
  have HL := Lib.hid hl
  have HCL := Lib.hid (fun w' (hb : Below w.heap.size w w') => clone_u8 b.length A c (b.map u8v) w' (by simp) (fun w'' hb'' => (hl.below (bnext hb hb'')).cells_u8) (oneCell_u8 _) hn)
  have HDEC : Hid (sg.dec b = if 16 ≤ sg.byteAt b 6 ∨ b.length < 10 + 4 * sg.count b then .error 4 else if sg.fault (sg.segOf b) ≠ 0 then .error 4 else .ok (sg.segOf b)) := Lib.hid (by
    unfold sg.dec
    rw [if_neg (by omega), if_neg (fun e => e hs)])
  have h10' : ¬ ((b.length : Int) < 10) := by omega
  have h8' : (8 : Int) < (b.length : Int) := by omega
  have h9' : (9 : Int) < (b.length : Int) := by omega
  clear hl
  go_enter Try.func33, Try.ntmps33
  go_wp2_with (go_at_call 47; refine (HCL.out _ (by repeat (first | (with_reducible exact Below.refl _ _) | (with_reducible assumption) | (with_reducible refine bset ?_ ?_ _) | (with_reducible refine balloc ?_ _) | (with_reducible refine Below.drew ?_) | (with_reducible refine bdrewN ?_ _) | (with_reducible refine bnext ?_ (by with_reducible assumption)) | exact Nat.le_refl _ | (simp; done) | omega | (simp; omega)))).mono ?_; rintro e w3 ⟨A3, c3, rfl, ho3, hb3⟩; obtain ⟨g, v8, v9, rfl, hg, z8, z9, hzf, hzl⟩ := blank_cells h10 ho3; have HO3 := Lib.hid ho3; clear ho3; have B3 : Below w.heap.size w w3 := (by repeat (first | (with_reducible exact Below.refl _ _) | (with_reducible assumption) | (with_reducible refine bset ?_ ?_ _) | (with_reducible refine balloc ?_ _) | (with_reducible refine Below.drew ?_) | (with_reducible refine bdrewN ?_ _) | (with_reducible refine bnext ?_ (by with_reducible assumption)) | exact Nat.le_refl _ | (simp; done) | omega | (simp; omega))); have ha3 : ∀ b o, b < w.heap.size → w3.cell? ⟨b, o, none⟩ = w.cell? ⟨b, o, none⟩ := fun b o h => B3.cell (p := ⟨b, o, none⟩) h; have hk3 : ∀ k, k < w.heap.size → k < w3.heap.size := fun _ h => Nat.lt_of_lt_of_le h B3.size; have hz3 := hb3.size; (try simp at hz3); have hl3_w0 : w.heap.size < w3.heap.size := Nat.lt_of_lt_of_le (by first | (simp; done) | (simp; omega) | omega) hb3.size; have hc3_w0 := fun o => hb3.cell (p := ⟨w.heap.size, o, none⟩) (by first | (simp; done) | (simp; omega) | omega); have hf3_w0 := fun o => hb3.frozen (p := ⟨w.heap.size, o, none⟩) (by first | (simp; done) | (simp; omega) | omega); (try simp [go_sem, *] at hc3_w0); (try simp [go_sem, *] at hf3_w0); have hl3_w1 : w.heap.size + 1 < w3.heap.size := Nat.lt_of_lt_of_le (by first | (simp; done) | (simp; omega) | omega) hb3.size; have hc3_w1 := fun o => hb3.cell (p := ⟨w.heap.size + 1, o, none⟩) (by first | (simp; done) | (simp; omega) | omega); have hf3_w1 := fun o => hb3.frozen (p := ⟨w.heap.size + 1, o, none⟩) (by first | (simp; done) | (simp; omega) | omega); (try simp [go_sem, *] at hc3_w1); (try simp [go_sem, *] at hf3_w1); clear hb3)
  simp only [World.size_alloc] at hg
  have hg0 : w.heap.size ≠ g := by omega
  have hg1 : w.heap.size + 1 ≠ g := by omega
  have hb34 : Below (w.heap.size + 1 + 1) w3 ((w3.setCell ⟨g, 8, none⟩ (.int .u8 0)).setCell ⟨g, 9, none⟩ (.int .u8 0)) := ((Below.refl _ w3).setCell (p := ⟨g, 8, none⟩) (by show w.heap.size + 1 + 1 ≤ g; omega) _).setCell (p := ⟨g, 9, none⟩) (by show w.heap.size + 1 + 1 ≤ g; omega) _
  have hx4 : ((w3.setCell ⟨g, 8, none⟩ (.int .u8 0)).setCell ⟨g, 9, none⟩ (.int .u8 0)).cell? ⟨w.heap.size, 0, none⟩ = some (.slice A b.length c) := (hb34.cell (p := ⟨w.heap.size, 0, none⟩) (by show w.heap.size < _; omega)).trans (hc3_w0 0)
  have hR4 : SegAt ((w3.setCell ⟨g, 8, none⟩ (.int .u8 0)).setCell ⟨g, 9, none⟩ (.int .u8 0)) (w.heap.size + 1) sg.noSeg none 0 none 0 :=
    SegAt.below ⟨hl3_w1, hc3_w1 0, hc3_w1 1, hc3_w1 2, hc3_w1 3, hc3_w1 4, hc3_w1 5, hc3_w1 6, hc3_w1 7, hc3_w1 8⟩ hb34 (by omega)
  have hf4 := fun o => (hb34.frozen (p := ⟨w.heap.size + 1, o, none⟩) (by show w.heap.size + 1 < _; omega)).trans (hf3_w1 o)
  have hO4 := blank_own HO3.out
  have hB4 : Below w.heap.size w ((w3.setCell ⟨g, 8, none⟩ (.int .u8 0)).setCell ⟨g, 9, none⟩ (.int .u8 0)) := (B3.setCell (p := ⟨g, 8, none⟩) (by show w.heap.size ≤ g; omega) _).setCell (p := ⟨g, 9, none⟩) (by show w.heap.size ≤ g; omega) _
  have hz4 : w.heap.size + 1 + 1 ≤ ((w3.setCell ⟨g, 8, none⟩ (.int .u8 0)).setCell ⟨g, 9, none⟩ (.int .u8 0)).heap.size := by simpa [World.setCell] using hz3
  generalize (w3.setCell ⟨g, 8, none⟩ (.int .u8 0)).setCell ⟨g, 9, none⟩ (.int .u8 0) = w4 at *
  clear hc3_w0 hc3_w1 hf3_w0 hf3_w1 hl3_w0 hl3_w1 ha3 hk3 hz3 B3 z8 z9 hzf hzl HO3
  have hsum : Calls Try.prog 60 #[.slice (some ⟨g, 0, none⟩) b.length c3] w4 fun e w' => e = .returned (.int .i64 (sg.sumOf (sg.blank b))) ∧ w4 = w' := by
    have h := inet_Sum (sg.blank b) (some ⟨g, 0, none⟩) c3 _ w4 hO4.u8.2 (by rw [blank_length]; exact hn)
    rw [show b.length = (sg.blank b).length from (blank_length b).symm]
    exact h
  rw [hs] at hsum
  have HW0 := Lib.hid (fun i j (hj : j = ((i : Nat) : Int)) hi => seg_word b A c w.heap.size _ w4 hx4 (HL.out.below hB4) i j hj hi hn)
  have HWD : Hid (∀ m i j, j = ((i : Nat) : Int) → i + 1 < b.length → Calls Try.prog 64 #[.int .i64 j, .pointer (some ⟨w.heap.size, 0, none⟩)] (w4.drewN m) fun e w' => e = .returned (.int .i64 (sg.w16 b i)) ∧ ∃ m', w' = w4.drewN m') :=
    Lib.hid (fun m i j hj hi => (seg_word b A c w.heap.size _ (w4.drewN m) hx4 (HL.out.below (bdrewN hB4 m)) i j hj hi hn).mono fun e w' ⟨h1, m', h2⟩ => ⟨h1, m + m', by rw [h2, World.drewN_drewN]⟩)
  have HS := Lib.hid hsum
  have W0 := sg.w16_bd b 0
  clear hsum hO4 hs
  refine HS.out.mono ?_
  rintro e w5 ⟨rfl, rfl⟩
  clear HS
  go_wp2_with (go_at_call 64; (first
                  | (with_reducible refine (HW0.out 8 8 (by omega) (by omega)).mono ?_; rintro e w6 ⟨rfl, m, rfl⟩)
                  | (with_reducible refine (HWD.out m 0 0 (by omega) (by omega)).mono ?_; rintro e w6 ⟨rfl, m, rfl⟩)
                  | (with_reducible refine (HWD.out m 2 2 (by omega) (by omega)).mono ?_; rintro e w6 ⟨rfl, m, rfl⟩)
                  | fail))
  refine (HWD.out _ 4 4 (by omega) (by omega)).mono ?_
  rintro e w6 ⟨rfl, m6, hw6⟩
  have hx6 : w6.cell? ⟨w.heap.size, 0, none⟩ = some (.slice A b.length c) := by rw [hw6]; exact hx4
  have hR6 : SegAt w6 (w.heap.size + 1) sg.noSeg none 0 none 0 := by rw [hw6]; exact hR4
  have hf6 : ∀ o, w6.frozen? ⟨w.heap.size + 1, o, none⟩ = false := by rw [hw6]; exact hf4
  have hB6 : Below w.heap.size w w6 := by rw [hw6]; exact bdrewN hB4 m6
  have hz6 : w.heap.size + 1 + 1 ≤ w6.heap.size := by rw [hw6]; exact hz4
  clear hw6 hx4 hR4 hf4 hB4 hz4 HW0 HWD hb34
  have hl6 : w6.heap.size < (w6.alloc (.cells #[.int .i64 (sg.w16 b 0), .int .i64 (sg.w16 b 2), .int .i64 (sg.w16 b 4), .bool false, .bool false, .bool false, .bool false, .slice none 0 0, .slice none 0 0] 50)).heap.size := by simp
  go_wp2_with fail
  have hcx := segAt_alloc w6 (sg.part b 0) none none 0 0
  have hD7 : DecAt w (w6.alloc (.cells #[.int .i64 (sg.w16 b 0), .int .i64 (sg.w16 b 2), .int .i64 (sg.w16 b 4), .bool false, .bool false, .bool false, .bool false, .slice none 0 0, .slice none 0 0] 50)) w6.heap.size A b.length c (sg.part b 0) none 0 none 0 :=
    have hb : Below w6.heap.size w6 (w6.alloc (.cells #[.int .i64 (sg.w16 b 0), .int .i64 (sg.w16 b 2), .int .i64 (sg.w16 b 4), .bool false, .bool false, .bool false, .bool false, .slice none 0 0, .slice none 0 0] 50)) := balloc (bself w6) _
    ⟨(hb.cell (p := ⟨w.heap.size, 0, none⟩) (by show w.heap.size < w6.heap.size; omega)).trans hx6, hR6.below hb (by omega), fun o => (hb.frozen (p := ⟨w.heap.size + 1, o, none⟩) (by show w.heap.size + 1 < w6.heap.size; omega)).trans (hf6 o), hcx, fun o => by simp [go_sem], by omega, bnext hB6 hb⟩
  have HD7 := Lib.hid hD7
  clear hD7 hcx hx6 hR6 hf6
  generalize w6.alloc (.cells #[.int .i64 (sg.w16 b 0), .int .i64 (sg.w16 b 2), .int .i64 (sg.w16 b 4), .bool false, .bool false, .bool false, .bool false, .slice none 0 0, .slice none 0 0] 50) = w7 at *
  generalize w6.heap.size = G at *
  refine (seg_flags G w7 hl6).mono ?_
  rintro e w8 ⟨rfl, hb8⟩
  have HD8 := Lib.hid (HD7.out.next hb8 hl6)
  have hz8 : G < w8.heap.size := Nat.lt_of_lt_of_le hl6 hb8.size
  clear HD7 hb8
  have hx := sg.byteAt_bd b 6
  go_wp2_with fail
  go_loopw [7, 8, 36] (fun _ _ i wr => ∃ k : Nat, k ≤ 4 ∧ i = .int .i64 k ∧ Hid (DecAt w wr G A b.length c (sg.part b k) none 0 none 0) ∧ G < wr.heap.size) (fun _ _ i _ => 4 - (intOf i).toNat)
  case atStart => exact ⟨0, by omega, rfl, HD8, hz8⟩
  case round =>
    obtain ⟨k, hk, rfl, HD, hzr⟩ := hrel
    rename World => wr
    have i0 := flags_at0 G
    have i1 := flags_at1 G
    have i2 := flags_at2 G
    have i3 := flags_at3 G
    have x0 := HD.out.box
    have x1 := HD.out.sfz
    obtain ⟨_, y0, y1, y2, y3, y4, y5, y6, y7, y8⟩ := HD.out.seg
    obtain ⟨bb, oo, rfl, _, hc6⟩ := u8_at (HL.out.below HD.out.below) (show 6 < b.length by omega)
    change _ = some (Value.int .u8 (sg.byteAt b 6)) at hc6
    have h6' : (6 : Int) < (b.length : Int) := by omega
    have a0 := sg.u8_and_1 (sg.byteAt b 6) (by omega)
    have a1 := sg.u8_and_1 (sg.byteAt b 6 / 2) (by omega)
    have a2 := sg.u8_and_1 (sg.byteAt b 6 / 4) (by omega)
    have a3 := sg.u8_and_1 (sg.byteAt b 6 / 8) (by omega)
    rcases (show k = 0 ∨ k = 1 ∨ k = 2 ∨ k = 3 ∨ k = 4 by omega) with rfl | rfl | rfl | rfl | rfl
    · go_wp2
      go_roundw
      case rel => exact ⟨1, by omega, rfl, Lib.hid (HD.out.put 3 _ (by decide) (by simp [segCells, sg.part, sg.flagAt]; try rfl)), by simpa [World.setCell] using hzr⟩
      case measure => simp [intOf]
    · go_wp2
      go_roundw
      case rel => exact ⟨2, by omega, rfl, Lib.hid (HD.out.put 4 _ (by decide) (by simp [segCells, sg.part, sg.flagAt]; try rfl)), by simpa [World.setCell] using hzr⟩
      case measure => simp [intOf]
    · go_wp2
      go_roundw
      case rel => exact ⟨3, by omega, rfl, Lib.hid (HD.out.put 5 _ (by decide) (by simp [segCells, sg.part, sg.flagAt]; try rfl)), by simpa [World.setCell] using hzr⟩
      case measure => simp [intOf]
    · go_wp2
      go_roundw
      case rel => exact ⟨4, by omega, rfl, Lib.hid (HD.out.put 6 _ (by decide) (by simp [segCells, sg.part, sg.flagAt]; try rfl)), by simpa [World.setCell] using hzr⟩
      case measure => simp [intOf]
    · obtain ⟨b', o', he, _, hc7⟩ := u8_at (HL.out.below HD.out.below) (show 7 < b.length by omega)
      simp only [Option.some.injEq, Addr.mk.injEq, and_true] at he
      obtain ⟨rfl, rfl⟩ := he
      change _ = some (Value.int .u8 ((sg.count b : Nat) : Int)) at hc7
      have hcb : sg.count b < 256 := (b.getD 7 0).toNat_lt
      have h7' : (7 : Int) < (b.length : Int) := by omega
      obtain ⟨_, r1, r2, r3, r4, r5, r6, r7, r8, r9⟩ := HD.out.res
      simp only [sg.noSeg, List.length_nil] at r1 r2 r3 r4 r5 r6 r7 r8 r9
      have rf := HD.out.rfz
      have hBw := HD.out.below
      by_cases hA : 16 ≤ sg.byteAt b 6
      · have hd : sg.dec b = .error 4 := by rw [HDEC.out, if_pos (.inl hA)]
        have HDX := Lib.hid hd
        clear HDEC hd i0 i1 i2 i3 a0 a1 a2 a3 x1 y0 y1 y2 y3 y4 y5 y6 y7 y8 HCL HD8 hg0 hg1 hg
        go_wp2_with fail
        (try simp only [Exit.inBlock, Exit.then])
        refine bodyPost_ret (v := .tuple #[.agg #[.int .i64 0, .int .i64 0, .int .i64 0, .bool false, .bool false, .bool false, .bool false, .slice none 0 0, .slice none 0 0], .int .i64 4]) (by simp [results, Try.results33, go_sem, r1, r2, r3, r4, r5, r6, r7, r8, r9]) rfl ?_
        exact SegRes.no HDX.out (by repeat (first | (with_reducible exact Below.refl _ _) | (with_reducible assumption) | (with_reducible refine bset ?_ ?_ _) | (with_reducible refine balloc ?_ _) | (with_reducible refine Below.drew ?_) | (with_reducible refine bdrewN ?_ _) | (with_reducible refine bnext ?_ (by with_reducible assumption)) | exact Nat.le_refl _ | (simp; done) | omega | (simp; omega)))
      · by_cases hL : b.length < 10 + 4 * sg.count b
        · have hd : sg.dec b = .error 4 := by rw [HDEC.out, if_pos (.inr hL)]
          have hL' : (b.length : Int) < 10 + 4 * (sg.count b : Int) := by omega
          have HDX := Lib.hid hd
          clear HDEC hd i0 i1 i2 i3 a0 a1 a2 a3 x1 y0 y1 y2 y3 y4 y5 y6 y7 y8 HCL HD8 hg0 hg1 hg
          go_wp2_with fail
          (try simp only [Exit.inBlock, Exit.then])
          refine bodyPost_ret (v := .tuple #[.agg #[.int .i64 0, .int .i64 0, .int .i64 0, .bool false, .bool false, .bool false, .bool false, .slice none 0 0, .slice none 0 0], .int .i64 4]) (by simp [results, Try.results33, go_sem, r1, r2, r3, r4, r5, r6, r7, r8, r9]) rfl ?_
          exact SegRes.no HDX.out (by repeat (first | (with_reducible exact Below.refl _ _) | (with_reducible assumption) | (with_reducible refine bset ?_ ?_ _) | (with_reducible refine balloc ?_ _) | (with_reducible refine Below.drew ?_) | (with_reducible refine bdrewN ?_ _) | (with_reducible refine bnext ?_ (by with_reducible assumption)) | exact Nat.le_refl _ | (simp; done) | omega | (simp; omega)))
        · have hd : sg.dec b = if sg.fault (sg.segOf b) ≠ 0 then .error 4 else .ok (sg.segOf b) := by rw [HDEC.out, if_neg (by omega)]
          have HDE := Lib.hid hd
          have hL' : ¬ ((b.length : Int) < 10 + 4 * (sg.count b : Int)) := by omega
          clear HDEC hd x1 y0 y1 y2 y3 y4 y5 y6 y7 y8 r1 r2 r3 r4 r5 r6 r7 r8 r9 rf
          go_wp2_with fail
          have hpp : sg.part b 4 = sg.part2 b 0 := by simp [sg.part, sg.part2, sg.segOf, sg.rngs]
          have HDP : Hid (DecAt w wr G (some ⟨bb, oo, none⟩) b.length c (sg.part2 b 0) none 0 none 0) := Lib.hid (by rw [← hpp]; exact HD.out)
          clear hpp HD HD8 x0 hc6 hc7 hBw h10' h8' h9' h7' h6'
          obtain ⟨nn, hnn⟩ : ∃ nn, nn = sg.count b := ⟨_, rfl⟩
          rw [← hnn] at hcb hL hL' ⊢
          have HNN := Lib.hid hnn
          clear hnn
          go_loopw [10] (fun at_ wq => ∃ (k : Nat) (A0 : Option Addr) (c0 : Nat), k ≤ nn ∧ at_ = .int .i64 (10 + 4 * (k : Int)) ∧ Hid (DecAt w wq G (some ⟨bb, oo, none⟩) b.length c (sg.part2 b k) A0 c0 none 0) ∧ G < wq.heap.size ∧ Hid (Own wq (G + 1) 64 2 A0 k c0 ((sg.rngs b k).flatMap Rng.cells))) (fun at_ _ => (10 + 4 * nn) - (intOf at_).toNat)
          case atStart => exact ⟨0, none, 0, by omega, rfl, HDP, hzr, Lib.hid (Own.nil _ _ _ _)⟩
          case round =>
            obtain ⟨k, A0, c0, hk', rfl, HQ, hzq, HO⟩ := hrel
            rename World => wq
            clear HDP
            by_cases hlt : k < nn
            · have hlt' : 10 + 4 * (k : Int) < 10 + 4 * (nn : Int) := by omega
              have x0 := HQ.out.box
              have x1 := HQ.out.seg.2.2.2.2.2.2.2.2.1
              have x2 := HQ.out.sfz 7
              rw [show (sg.part2 b k).sacks.length = k from sg.rngs_length b k] at x1
              have HB := HQ.out.below
              have HW := Lib.hid (fun W (h : W.cell? ⟨w.heap.size, 0, none⟩ = some (.slice (some ⟨bb, oo, none⟩) b.length c)) (hB : Below w.heap.size w W) i j (hj : j = ((i : Nat) : Int)) hi => seg_word b (some ⟨bb, oo, none⟩) c w.heap.size _ W h (HL.out.below hB) i j hj hi hn)
              have hwr := IntWalk.i64_in (10 + 4 * (k : Int) + 2) (by omega)
              have HJ1 : Hid (10 + 4 * (k : Int) = ((10 + 4 * k : Nat) : Int) ∧ 10 + 4 * k + 1 < b.length) := Lib.hid ⟨by omega, by omega⟩
              have HJ2 : Hid (10 + 4 * (k : Int) + 2 = ((10 + 4 * k + 2 : Nat) : Int) ∧ 10 + 4 * k + 2 + 1 < b.length) := Lib.hid ⟨by omega, by omega⟩
              have HOX := Lib.hid (fun m o => (HO.out.drewN m).alloc o)
              have HZX : Hid (∀ {m : Nat}, wq.heap.size = (wq.drewN m).heap.size) := Lib.hid rfl
              have HSX : Hid (∀ (m : Nat) (o : Obj), G + 1 ≤ ((wq.drewN m).alloc o).heap.size) := Lib.hid (fun m o => by simp; omega)
              have HV : Hid (∀ u ∈ [Value.int .i64 (sg.w16 b (10 + 4 * k)), .int .i64 (sg.w16 b (10 + 4 * k + 2))], u.oneCell' = true) := Lib.hid (by simp [Value.oneCell'])
              have HBX : ∀ (m : Nat) (o : Obj), Below wq.heap.size wq ((wq.drewN m).alloc o) := fun m o => balloc (bdrewN (bself wq) m) o
              have hGw := HQ.out.hG
              have HC7 := Lib.hid (fun m o => ((HBX m o).cell (p := ⟨G, 7, none⟩) hzq).trans x1)
              have HF7 := Lib.hid (fun m o => ((HBX m o).frozen (p := ⟨G, 7, none⟩) hzq).trans x2)
              have HC0 := Lib.hid (fun m o => ((HBX m o).cell (p := ⟨w.heap.size, 0, none⟩) (show w.heap.size < wq.heap.size by omega)).trans x0)
              have HSW : Hid (∀ (m : Nat) (o : Obj), w.heap.size < ((wq.drewN m).alloc o).heap.size) := Lib.hid (fun m o => Nat.lt_of_lt_of_le (show w.heap.size < wq.heap.size by omega) (HBX m o).size)
              have HNE : Hid (∀ x, blkOf A0 = some x → x ≠ G) := Lib.hid (fun x hx => by have := (HO.out.lt x hx).1; omega)
              have HNW : Hid (∀ x, blkOf A0 = some x → x ≠ w.heap.size) := Lib.hid (fun x hx => by have := (HO.out.lt x hx).1; omega)
              have hC7u := HC7.out
              clear HBX
              have HRG : Hid ((sg.rngs b (k + 1)).flatMap Rng.cells = (sg.rngs b k).flatMap Rng.cells ++ [.int .i64 (sg.w16 b (10 + 4 * k)), .int .i64 (sg.w16 b (10 + 4 * k + 2))]) := Lib.hid (by simp [sg.rngs, Rng.cells])
              go_wp2_with fail
              (try clear h10'); (try clear h8'); (try clear h9'); (try clear h6'); (try clear h7'); (try clear hL); (try clear hL'); (try clear i0); (try clear i1); (try clear i2); (try clear i3); (try clear a0); (try clear a1); (try clear a2); (try clear a3); (try clear hx); (try clear hz8); (try clear hg); (try clear hg0); (try clear hg1); (try clear hB6); (try clear hz6); (try clear hl6); (try clear hn); (try clear h10); (try clear hk); (try clear W0); (try clear HCL); (try clear HDE); (try clear HNN); (try clear hA); (try clear hzr)
              go_region_law
                (first
                  | (go_simp; go_at_call 64; (first | (with_reducible refine (HW.out _ ?_ ?_ _ _ HJ1.out.1 HJ1.out.2).mono ?_) | (with_reducible refine (HW.out _ ?_ ?_ _ _ HJ2.out.1 HJ2.out.2).mono ?_)); (first | assumption | (simp only [World.cell?_drew, World.cell?_drewN]; assumption)); (exact (by repeat (first | (with_reducible exact Below.refl _ _) | (with_reducible assumption) | (with_reducible refine bset ?_ ?_ _) | (with_reducible refine balloc ?_ _) | (with_reducible refine Below.drew ?_) | (with_reducible refine bdrewN ?_ _) | (with_reducible refine bnext ?_ (by with_reducible assumption)) | exact Nat.le_refl _ | (simp; done) | omega | (simp; omega)))); rintro e w9 ⟨rfl, m1, rfl⟩)
                  | ((refine step_app _ (by rfl) _ _ _ (by rfl) elemRng (G + 1) A0 k c0 _ (by rfl) (HOX.out _ _) (some ⟨wq.heap.size, 0, none⟩) 1 1 [.int .i64 (sg.w16 b (10 + 4 * k)), .int .i64 (sg.w16 b (10 + 4 * k + 2))] (by rfl) (by rfl) (Cells.newAt _ _ _ HZX.out) HV.out (by omega) (by unfold maxLen; omega) (HSX.out _ _) ?_; intro A11 c11 w11 hO11 hg11; have x5 := (hg11.cell (b := G) 7 (HSX.out _ _) HNE.out).trans (HC7.out _ _); have x6 := (hg11.frozen (b := G) 7 (HSX.out _ _) HNE.out).trans (HF7.out _ _); have x7 := (hg11.cell (b := w.heap.size) 0 (HSW.out _ _) HNW.out).trans (HC0.out _ _)))
                  | fail)
              all_goals
                have hbq : Below (G + 1) wq w11 := Below.trans ((balloc (bdrewN (bself wq) _) _).mono (by omega)) (hg11.below (HSX.out _ _) (fun x hx => (HO.out.lt x hx).1))
                have HQ2 := Lib.hid ((HQ.out.next hbq (Nat.lt_succ_self _)).put (s' := sg.part2 b (k + 1)) (A0' := A11) (c0' := c11) (A1' := none) (c1' := 0) 7 (.slice A11 (k + 1) c11) (by decide) (by simp [segCells, sg.part2, sg.segOf, sg.rngs_length]))
                have hz11 : G < w11.heap.size := Nat.lt_of_lt_of_le hzq hbq.size
                have HO2 : Hid (Own (w11.setCell ⟨G, 7, none⟩ (.slice A11 (k + 1) c11)) (G + 1) 64 2 A11 (k + 1) c11 ((sg.rngs b (k + 1)).flatMap Rng.cells)) := Lib.hid (by rw [HRG.out]; exact hO11.setCell (fun e => absurd (hO11.lt _ e).1 (Nat.not_succ_le_self G)) _)
                clear hO11 hg11 hbq HQ HO HRG
                go_wp2
                go_roundw
                case rel => exact ⟨k + 1, A11, c11, by omega, by go_num, HQ2, by simpa [World.setCell] using hz11, HO2⟩
                case measure => simp [intOf]; omega
            · obtain rfl : k = nn := by omega
              have x0 := HQ.out.box
              have HB := HQ.out.below
              have hcut := run_cut_l (P := Try.prog) elemU8 (some ⟨bb, oo, none⟩) b.length c (10 + 4 * k) (by omega) (10 + 4 * (k : Int)) (by omega)
              have HR := Lib.hid (HL.out.drop (f := 10 + 4 * k) (by omega))
              have HCK := Lib.hid (clone_u8 (b.length - (10 + 4 * k)) (cutA (some ⟨bb, oo, none⟩) c (10 + 4 * k) 1) (c - (10 + 4 * k)) ((b.drop (10 + 4 * k)).map u8v) wq (by simp) (fun w'' hb'' => (HR.out.below (bnext HB hb'')).cells_u8) (oneCell_u8 _) (by omega))
              have hlen : (sg.rngs b k).length = k := sg.rngs_length b k
              have hr0 := HO.out.rng.2
              obtain ⟨s, hs⟩ : ∃ s, s = sg.segOf b := ⟨_, rfl⟩
              have hsk : s.sacks = sg.rngs b k := by rw [hs, HNN.out]; rfl
              have hsd : s.data = b.drop (10 + 4 * k) := by rw [hs, HNN.out]; rfl
              have hQs : ∀ (W : World) (A12 : Option Addr) (c12 : Nat), DecAt w W G (some ⟨bb, oo, none⟩) b.length c (sg.part2 b k) A0 c0 none 0 → DecAt w (W.setCell ⟨G, 8, none⟩ (.slice A12 (b.length - (10 + 4 * k)) c12)) G (some ⟨bb, oo, none⟩) b.length c s A0 c0 A12 c12 := fun W A12 c12 h =>
                h.put 8 _ (by decide) (by simp [segCells, hsk, hsd, sg.part2, sg.rngs_length]; rw [hs]; simp)
              have hD : sg.dec b = if sg.fault s ≠ 0 then .error 4 else .ok s := by rw [hs]; exact HDE.out
              have hk1 : s.sacks.length = k := by rw [hsk]; exact hlen
              have hk2 : s.data.length = b.length - (10 + 4 * k) := by rw [hsd]; simp
              have HEQ : Hid (∀ W : World, SegAt W G (sg.part2 b k) A0 c0 none 0 → W.cell? ⟨G, 0, none⟩ = some (.int .i64 s.seq) ∧ W.cell? ⟨G, 1, none⟩ = some (.int .i64 s.ack) ∧ W.cell? ⟨G, 2, none⟩ = some (.int .i64 s.window) ∧ W.cell? ⟨G, 3, none⟩ = some (.bool s.syn) ∧ W.cell? ⟨G, 4, none⟩ = some (.bool s.fin) ∧ W.cell? ⟨G, 5, none⟩ = some (.bool s.rst) ∧ W.cell? ⟨G, 6, none⟩ = some (.bool s.acks) ∧ W.cell? ⟨G, 7, none⟩ = some (.slice A0 k c0) ∧ W.cell? ⟨G, 8, none⟩ = some (.slice none 0 0)) := Lib.hid (fun W h => by
                obtain ⟨_, h0, h1, h2, h3, h4, h5, h6, h7, h8⟩ := h
                rw [show (sg.part2 b k).sacks.length = k from hlen] at h7
                rw [hs]
                exact ⟨h0, h1, h2, h3, h4, h5, h6, h7, h8⟩)
              have HR0 := Lib.hid hr0
              have HQS := Lib.hid hQs
              have HSK := Lib.hid hsk
              have HSD := Lib.hid hsd
              have HK1 := Lib.hid hk1
              have HK2 := Lib.hid hk2
              have hGw := HQ.out.hG
              have HDD := Lib.hid hD
              clear hQs hs hsk hsd hk1 hk2 hD hr0 hlen HDE HNN HCL
              have HCP := Lib.hid hcut
              clear hcut
              have hcut := HCP.out
              go_wp2_with fail
              refine HCK.out.mono ?_
              rintro e w12 ⟨A12, c12, rfl, ho12, hb12⟩
              have HO12 := Lib.hid ho12
              have hD12 := HQ.out.next hb12 hzq
              have HD13 := Lib.hid (HQS.out _ A12 c12 hD12)
              obtain ⟨q0, q1, q2, q3, q4, q5, q6, q7, q8⟩ := HEQ.out _ hD12.seg
              have qf := hD12.sfz 8
              have hz12 : G < w12.heap.size := Nat.lt_of_lt_of_le hzq hb12.size
              have hzq12 := hb12.size
              have HX1 : Hid (SlRep Rng.rep (w12.setCell ⟨G, 8, none⟩ (.slice A12 (b.length - (10 + 4 * k)) c12)) (fun j => G + 1 ≤ j ∧ j < (w12.setCell ⟨G, 8, none⟩ (.slice A12 (b.length - (10 + 4 * k)) c12)).heap.size) s.sacks A0 c0) := Lib.hid (by
                rw [HSK.out]
                exact HR0.out.keep fun j hj => ⟨⟨hj.1, by simpa [World.setCell] using Nat.lt_of_lt_of_le hj.2 hzq12⟩, (Below.heap_setCell w12 ⟨G, 8, none⟩ _ j (by show j ≠ G; omega)).trans (hb12.block j hj.2)⟩)
              have HX2 : Hid (SlRep Rep.u8 (w12.setCell ⟨G, 8, none⟩ (.slice A12 (b.length - (10 + 4 * k)) c12)) (fun j => G + 1 ≤ j ∧ j < (w12.setCell ⟨G, 8, none⟩ (.slice A12 (b.length - (10 + 4 * k)) c12)).heap.size) s.data A12 c12) := Lib.hid (by
                rw [HSD.out]
                exact HO12.out.u8.2.keep fun j hj => ⟨⟨by omega, by simpa [World.setCell] using hj.2⟩, Below.heap_setCell w12 ⟨G, 8, none⟩ _ j (by show j ≠ G; omega)⟩)
              have hz13 : G < (w12.setCell ⟨G, 8, none⟩ (.slice A12 (b.length - (10 + 4 * k)) c12)).heap.size := by simpa [World.setCell] using hz12
              clear ho12 hD12 hb12
              have HF := Lib.hid (seg_fault s A0 A12 c0 c12 _ (HX1.out.keep fun j hj => ⟨hj.2, rfl⟩) (by rw [HK1.out]; omega) (by rw [HK2.out]; omega))
              go_wp2_with fail
              have hF := HF.out
              unfold Segment.val at hF
              rw [HK1.out, HK2.out] at hF
              refine hF.mono ?_
              rintro e w14 ⟨rfl, hb14⟩
              clear hF HF q0 q1 q2 q3 q4 q5 q6 q7 q8 qf
              have hD14 := HD13.out.next hb14 hz13
              obtain ⟨q0, q1, q2, q3, q4, q5, q6, q7, q8, q9⟩ := hD14.seg
              rw [HK1.out] at q8
              rw [HK2.out] at q9
              obtain ⟨_, r1, r2, r3, r4, r5, r6, r7, r8, r9⟩ := hD14.res
              simp only [sg.noSeg, List.length_nil] at r1 r2 r3 r4 r5 r6 r7 r8 r9
              have rf := hD14.rfz
              have hBw := hD14.below
              have HX3 : Hid (SlRep Rng.rep w14 (fun j => G + 1 ≤ j ∧ j < w14.heap.size) s.sacks A0 c0) := Lib.hid (HX1.out.keep fun j hj => ⟨⟨hj.1, Nat.lt_of_lt_of_le hj.2 hb14.size⟩, hb14.block j hj.2⟩)
              have HX4 : Hid (SlRep Rep.u8 w14 (fun j => G + 1 ≤ j ∧ j < w14.heap.size) s.data A12 c12) := Lib.hid (HX2.out.keep fun j hj => ⟨⟨hj.1, Nat.lt_of_lt_of_le hj.2 hb14.size⟩, hb14.block j hj.2⟩)
              have hne1 : ¬ (G = w.heap.size + 1) := by omega
              have hne2 : ¬ (w.heap.size + 1 = G) := by omega
              clear HX1 HX2 HD13 hD14 hb14
              by_cases hft : sg.fault s = 0
              · have HE : Hid (sg.dec b = .ok s) := Lib.hid (by rw [HDD.out, if_neg (fun e => e hft)])
                rw [hft]
                clear hft HDD
                go_wp2_with fail
                (try simp only [Exit.inBlock, Exit.then])
                refine bodyPost_ret (v := .tuple #[.agg #[.int .i64 s.seq, .int .i64 s.ack, .int .i64 s.window, .bool s.syn, .bool s.fin, .bool s.rst, .bool s.acks, .slice A0 k c0, .slice A12 (b.length - (10 + 4 * k)) c12], .int .i64 0]) (by simp [results, Try.results33, go_sem, r1, r2, r3, r4, r5, r6, r7, r8, r9]) rfl ?_
                rw [HE.out]
                refine ⟨A0, c0, A12, c12, by simp only [segOr, exC, Segment.val, HK1.out, HK2.out], ?_, ?_, (by repeat (first | (with_reducible exact Below.refl _ _) | (with_reducible assumption) | (with_reducible refine bset ?_ ?_ _) | (with_reducible refine balloc ?_ _) | (with_reducible refine Below.drew ?_) | (with_reducible refine bdrewN ?_ _) | (with_reducible refine bnext ?_ (by with_reducible assumption)) | exact Nat.le_refl _ | (simp; done) | omega | (simp; omega)))⟩
                · exact HX3.out.keep fun j hj => ⟨⟨by omega, by simpa [World.setCell] using hj.2⟩, by rw [Below.heap_setCell _ _ _ j (by show j ≠ w.heap.size + 1; omega), Below.heap_setCell _ _ _ j (by show j ≠ w.heap.size + 1; omega), Below.heap_setCell _ _ _ j (by show j ≠ w.heap.size + 1; omega), Below.heap_setCell _ _ _ j (by show j ≠ w.heap.size + 1; omega), Below.heap_setCell _ _ _ j (by show j ≠ w.heap.size + 1; omega), Below.heap_setCell _ _ _ j (by show j ≠ w.heap.size + 1; omega), Below.heap_setCell _ _ _ j (by show j ≠ w.heap.size + 1; omega), Below.heap_setCell _ _ _ j (by show j ≠ w.heap.size + 1; omega), Below.heap_setCell _ _ _ j (by show j ≠ w.heap.size + 1; omega)]⟩
                · exact HX4.out.keep fun j hj => ⟨⟨by omega, by simpa [World.setCell] using hj.2⟩, by rw [Below.heap_setCell _ _ _ j (by show j ≠ w.heap.size + 1; omega), Below.heap_setCell _ _ _ j (by show j ≠ w.heap.size + 1; omega), Below.heap_setCell _ _ _ j (by show j ≠ w.heap.size + 1; omega), Below.heap_setCell _ _ _ j (by show j ≠ w.heap.size + 1; omega), Below.heap_setCell _ _ _ j (by show j ≠ w.heap.size + 1; omega), Below.heap_setCell _ _ _ j (by show j ≠ w.heap.size + 1; omega), Below.heap_setCell _ _ _ j (by show j ≠ w.heap.size + 1; omega), Below.heap_setCell _ _ _ j (by show j ≠ w.heap.size + 1; omega), Below.heap_setCell _ _ _ j (by show j ≠ w.heap.size + 1; omega)]⟩
              · have HE : Hid (sg.dec b = .error 4) := Lib.hid (by rw [HDD.out, if_pos hft])
                clear HDD
                have hft1 : (sg.fault s == 0) = false := by rw [beq_eq_false_iff_ne]; exact hft
                have hft2 : (sg.fault s != 0) = true := by rw [bne, hft1]; rfl
                generalize sg.fault s = ft at *
                go_wp2_with fail
                (try simp only [Exit.inBlock, Exit.then])
                refine bodyPost_ret (v := .tuple #[.agg #[.int .i64 0, .int .i64 0, .int .i64 0, .bool false, .bool false, .bool false, .bool false, .slice none 0 0, .slice none 0 0], .int .i64 4]) (by simp [results, Try.results33, go_sem, r1, r2, r3, r4, r5, r6, r7, r8, r9]) rfl ?_
                exact SegRes.no HE.out (by repeat (first | (with_reducible exact Below.refl _ _) | (with_reducible assumption) | (with_reducible refine bset ?_ ?_ _) | (with_reducible refine balloc ?_ _) | (with_reducible refine Below.drew ?_) | (with_reducible refine bdrewN ?_ _) | (with_reducible refine bnext ?_ (by with_reducible assumption)) | exact Nat.le_refl _ | (simp; done) | omega | (simp; omega)))
end Go.Proofs.Ytedbidblnjajdaa
