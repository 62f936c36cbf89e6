/- Package seg: the reference of Encode. No condition. -/
import Derived.Test.YtedbidblnjajdaaSeg2
import Derived.Deep.DeepCutAuto
namespace Go.Proofs.Ytedbidblnjajdaa
open Go.RowKit

/-- the box B holds a slice that owns the cells xs -/
structure BoxAt (w : World) (B : Nat) (A : Option Addr) (m c : Nat) (xs : List Value) : Prop where
  cell : w.cell? ⟨B, 0, none⟩ = some (.slice A m c)
  fz : w.frozen? ⟨B, 0, none⟩ = false
  lt : B < w.heap.size
  own : Own w (B + 1) 5 1 A m c xs
theorem BoxAt.next {w w' : World} {B : Nat} {A : Option Addr} {m c : Nat} {xs : List Value} (h : BoxAt w B A m c xs) (hb : Below w.heap.size w w') : BoxAt w' B A m c xs :=
  ⟨(hb.cell (p := ⟨B, 0, none⟩) h.lt).trans h.cell, (hb.frozen (p := ⟨B, 0, none⟩) h.lt).trans h.fz, Nat.lt_of_lt_of_le h.lt hb.size, h.own.next hb⟩
theorem BoxAt.stored {w w' : World} {B : Nat} {A A' : Option Addr} {m c m' c' : Nat} {xs ys : List Value} (h : BoxAt w B A m c xs) (hg : Grew w w' A A') (ho : Own w' (B + 1) 5 1 A' m' c' ys) : BoxAt (w'.setCell ⟨B, 0, none⟩ (.slice A' m' c')) B A' m' c' ys := by
  have hne : ∀ k, blkOf A = some k → k ≠ B := fun k hk => by have := (h.own.lt k hk).1; omega
  have hc := (hg.cell (b := B) 0 h.lt hne).trans h.cell
  have hf := (hg.frozen (b := B) 0 h.lt hne).trans h.fz
  exact ⟨World.cell?_setCell_same' _ _ _ (by rw [hc]; rfl), by rw [World.frozen?_setCell]; exact hf, by simpa [World.setCell] using Nat.lt_of_lt_of_le h.lt hg.grown.size, ho.setCell (fun e => absurd (ho.lt _ e).1 (Nat.not_succ_le_self B)) _⟩

set_option maxHeartbeats 400000 in
theorem ref_put (n : Int) (hn : 0 ≤ n ∧ n < 65536) (B : Nat) (A : Option Addr) (m c : Nat) (xs : List Value) (w : World) (hb : BoxAt w B A m c xs) (hm : m ≤ 1000000) :
    Calls Try.prog 62 #[.int .i64 n, .pointer (some ⟨B, 0, none⟩)] w fun e w' => ∃ A' c', e = .returned (.tuple #[]) ∧ BoxAt w' B A' (m + 2) c' (xs ++ (sg.two n).map u8v) ∧ Below B w w' ∧ ∀ k, k < w.heap.size → k ≠ B → blkOf A ≠ some k → w'.heap[k]? = w.heap[k]? := by
  have HB := Lib.hid hb
  obtain ⟨h1, h2⟩ := hn
  have HV : Hid ((sg.two n).map u8v = [.int .u8 (n / 256), .int .u8 (n % 256)]) := Lib.hid (by
    simp only [sg.two, List.map_cons, List.map_nil, u8v, byteOf_toNat]
    congr 2
    omega)
  have hx := hb.cell
  have hf := hb.fz
  have hl := hb.lt
  clear hb
  go_enter Try.func62, Try.ntmps62
  go_wp2_with (at_builtin; (refine wp_app _ rfl _ _ _ rfl elemU8 (B + 1) A _ c _ rfl (HB.out.own.alloc _) _ 2 2 [_, _] rfl rfl (Cells.newAt _ _ _ rfl) (by simp [Value.oneCell']) (by omega) (by unfold maxLen; omega) (by simp; omega) ?_; intro A2 c2 w2 hO2 hg2; have HO2 := Lib.hid hO2; clear hO2; have hgg : Grew w w2 A A2 := ((Grew.refl w A).alloc _).trans hg2; have hx2 := hgg.cell (b := B) 0 hl (fun k hk => by have := (HB.out.own.lt k hk).1; omega); have hf2 := hgg.frozen (b := B) 0 hl (fun k hk => by have := (HB.out.own.lt k hk).1; omega); rw [hx] at hx2; rw [hf] at hf2))
  go_end0
  refine ⟨A2, c2, rfl, HB.out.stored hgg (by rw [HV.out]; exact HO2.out), (hgg.below (B := B) (by omega) (fun k hk => by have := (HB.out.own.lt k hk).1; omega)).setCell (p := ⟨B, 0, none⟩) (Nat.le_refl _) _, fun k hk h1 h2 => (Below.heap_setCell w2 ⟨B, 0, none⟩ _ k (fun e => h1 e)).trans (hgg.grown.block k hk (fun e => h2 e.symm))⟩

theorem segAt_alloc (w : World) (s : Segment) (A0 A1 : Option Addr) (c0 c1 : Nat) : SegAt (w.alloc (.cells #[.int .i64 s.seq, .int .i64 s.ack, .int .i64 s.window, .bool s.syn, .bool s.fin, .bool s.rst, .bool s.acks, .slice A0 s.sacks.length c0, .slice A1 s.data.length c1] 50)) w.heap.size s A0 c0 A1 c1 :=
  ⟨by simp, by simp [go_sem], by simp [go_sem], by simp [go_sem], by simp [go_sem], by simp [go_sem], by simp [go_sem], by simp [go_sem], by simp [go_sem], by simp [go_sem]⟩
theorem seg_bare_fold {w : World} {base : Nat} {s : Segment} {A : Option Addr} {c : Nat} (h : Own w base 5 1 A (10 + 4 * s.sacks.length + s.data.length) c ((sg.head s ++ sg.ranges s s.sacks.length).map u8v ++ s.data.map u8v))
    (hn : 10 + 4 * s.sacks.length + s.data.length ≤ 1000) : Calls Try.prog 63 #[.slice A (10 + 4 * s.sacks.length + s.data.length) c] w fun e w' => e = .returned (.int .i64 (foldOf (sumTo (sg.bare s) (sg.bare s).length))) ∧ w = w' := by
  rw [← List.map_append] at h
  have h2 : Own w base 5 1 A (10 + 4 * s.sacks.length + s.data.length) c ((sg.bare s).map u8v) := h
  rw [← sg.bare_length s] at h2 ⊢
  exact ref_InetFold (sg.bare s) A c _ w h2.u8.2 (by have := sg.bare_length s; omega)
set_option maxRecDepth 100000 in
set_option maxHeartbeats 2000000 in
theorem ref_Encoded_no (s : Segment) (A0 A1 : Option Addr) (c0 c1 : Nat) (w : World) (h0 : SlRep Rng.rep w (· < w.heap.size) s.sacks A0 c0) (hn0 : s.sacks.length ≤ 140737488351232) (hn1 : s.data.length ≤ 140737488351232) (hf : sg.fault s ≠ 0) :
    Calls Try.prog 32 #[s.val A0 c0 A1 c1] w fun e w' => e = .returned (.tuple #[.slice none 0 0, .int .i64 (sg.fault s)]) ∧ Below w.heap.size w w' := by
  have H := Lib.hid (fun w' hb => ref_segFault s A0 A1 c0 c1 w' (SlRep.next (w := w) (w' := w') h0 hb) hn0 hn1)
  have hb1 : (sg.fault s == 0) = false := by rw [beq_eq_false_iff_ne]; exact hf
  have hb2 : (sg.fault s != 0) = true := by rw [bne, hb1]; rfl
  clear h0 hf
  unfold Segment.val at *
  generalize sg.fault s = ft at *
  obtain ⟨seq, ack, window, syn, fin, rst, acks, sacks, data⟩ := s
  dsimp only at *
  go_enter Try.func32, Try.ntmps32
  go_wp2_with (go_at_call 61; refine (H.out _ (balloc (bself w) _)).mono ?_; rintro e w2 ⟨rfl, hb3⟩)
  go_ret2
  exact ⟨rfl, (by repeat (first | (with_reducible exact Below.refl _ _) | (with_reducible assumption) | (with_reducible refine bset ?_ ?_ _) | (with_reducible refine balloc ?_ _) | (with_reducible refine Below.drew ?_) | (with_reducible refine bdrewN ?_ _) | (with_reducible refine bnext ?_ (by with_reducible assumption)) | exact Nat.le_refl _ | (simp; done) | omega | (simp; omega)))⟩

set_option maxRecDepth 100000 in
set_option maxHeartbeats 2000000 in
theorem ref_Encoded_ok (s : Segment) (A0 A1 : Option Addr) (c0 c1 : Nat) (w : World) (h0 : SlRep Rng.rep w (· < w.heap.size) s.sacks A0 c0) (h1 : SlRep Rep.u8 w (· < w.heap.size) s.data A1 c1) (hf : sg.fault s = 0) :
    Calls Try.prog 32 #[s.val A0 c0 A1 c1] w (BytesRes (.ok (sg.summed (sg.bare s))) w) := by
  obtain ⟨hk1, hk2, hk3, hk4, _⟩ := sg.fault_zero hf
  have hq : (0 ≤ s.seq ∧ s.seq < 65536) ∧ (0 ≤ s.ack ∧ s.ack < 65536) ∧ (0 ≤ s.window ∧ s.window < 65536) := by unfold sg.bad1 at hk1; omega
  have HQ := Lib.hid hq
  have HALL := Lib.hid hk4
  have H := Lib.hid (fun w' hb => ref_segFault s A0 A1 c0 c1 w' (SlRep.next (w := w) (w' := w') h0 hb) (by omega) (by omega))
  have H0 := Lib.hid h0
  have H1 := Lib.hid h1
  have HFZ := Lib.hid hf
  have hcx : SegAt (w.alloc (.cells #[.int .i64 s.seq, .int .i64 s.ack, .int .i64 s.window, .bool s.syn, .bool s.fin, .bool s.rst, .bool s.acks, .slice A0 s.sacks.length c0, .slice A1 s.data.length c1] 50)) w.heap.size s A0 c0 A1 c1 := ⟨by simp, by simp [go_sem], by simp [go_sem], by simp [go_sem], by simp [go_sem], by simp [go_sem], by simp [go_sem], by simp [go_sem], by simp [go_sem], by simp [go_sem]⟩
  have HCX := Lib.hid hcx
  have hb0 : Below w.heap.size w (w.alloc (.cells #[.int .i64 s.seq, .int .i64 s.ack, .int .i64 s.window, .bool s.syn, .bool s.fin, .bool s.rst, .bool s.acks, .slice A0 s.sacks.length c0, .slice A1 s.data.length c1] 50)) := balloc (bself w) _
  have hs0 : w.heap.size < (w.alloc (.cells #[.int .i64 s.seq, .int .i64 s.ack, .int .i64 s.window, .bool s.syn, .bool s.fin, .bool s.rst, .bool s.acks, .slice A0 s.sacks.length c0, .slice A1 s.data.length c1] 50)).heap.size := by simp
  clear h0 h1 hk1 hk4 hq hf hcx
  unfold Segment.val
  go_enter Try.func32, Try.ntmps32
  go_wp2_with fail
  generalize w.alloc (.cells #[.int .i64 s.seq, .int .i64 s.ack, .int .i64 s.window, .bool s.syn, .bool s.fin, .bool s.rst, .bool s.acks, .slice A0 s.sacks.length c0, .slice A1 s.data.length c1] 50) = w0 at *
  refine (H.out w0 hb0).mono ?_
  rintro e w1 ⟨rfl, hb1⟩
  rw [HFZ.out]
  have hsz1 := hb1.size
  have HC1 := Lib.hid (HCX.out.below hb1 hs0)
  have hB1 : Below w.heap.size w w1 := bnext hb0 hb1
  have hw1 : w.heap.size < w1.heap.size := by omega
  clear HCX H HFZ
  have HBX : Hid (BoxAt (w1.alloc (.cells #[.slice none 0 0] 23)) w1.heap.size none 0 0 []) := Lib.hid ⟨by simp [go_sem], by simp [go_sem], by simp, Own.nil _ _ _ _⟩
  have hb12 : Below w1.heap.size w1 (w1.alloc (.cells #[.slice none 0 0] 23)) := balloc (bself w1) _
  have HC2 := Lib.hid (HC1.out.below hb12 hw1)
  have x0 := HC2.out.2.1
  go_wp2_with fail
  generalize w1.alloc (.cells #[.slice none 0 0] 23) = w2 at *
  refine (ref_put s.seq HQ.out.1 w1.heap.size none 0 0 [] w2 HBX.out (by omega)).mono ?_
  rintro e w3 ⟨A3, c3, rfl, hx3, hb23, _⟩
  have HX3 := Lib.hid hx3
  have HC3 := Lib.hid (HC2.out.below hb23 hw1)
  have x1 := HC3.out.2.2.1
  clear hx3 x0
  go_wp2_with fail
  refine (ref_put s.ack HQ.out.2.1 w1.heap.size A3 2 c3 _ w3 HX3.out (by omega)).mono ?_
  rintro e w4 ⟨A4, c4, rfl, hx4, hb34, _⟩
  have HX4 := Lib.hid hx4
  have HC4 := Lib.hid (HC3.out.below hb34 hw1)
  have x2 := HC4.out.2.2.2.1
  clear hx4 x1
  go_wp2_with fail
  refine (ref_put s.window HQ.out.2.2 w1.heap.size A4 4 c4 _ w4 HX4.out (by omega)).mono ?_
  rintro e w5 ⟨A5, c5, rfl, hx5, hb45, _⟩
  have HX5 := Lib.hid hx5
  have HC5 := Lib.hid (HC4.out.below hb45 hw1)
  have hs2 := hb12.size
  have hs3 := hb23.size
  have hs4 := hb34.size
  have hs5 := hb45.size
  have hB5 : Below w.heap.size w w5 := ((hB1.trans (hb12.mono (by omega))).trans (hb23.mono (by omega))).trans ((hb34.mono (by omega)).trans (hb45.mono (by omega)))
  clear x2 hx5 HX3 HX4 HC2 HC3 HC4 HBX
  obtain ⟨hl5, y0, y1, y2, y3, y4, y5, y6, y7, y8⟩ := HC5.out
  obtain ⟨b1, HG1⟩ : ∃ b : Bool, Hid (b = s.syn) := ⟨_, Lib.hid rfl⟩
  rw [← HG1.out] at y3
  obtain ⟨b2, HG2⟩ : ∃ b : Bool, Hid (b = s.fin) := ⟨_, Lib.hid rfl⟩
  rw [← HG2.out] at y4
  obtain ⟨b3, HG3⟩ : ∃ b : Bool, Hid (b = s.rst) := ⟨_, Lib.hid rfl⟩
  rw [← HG3.out] at y5
  obtain ⟨b4, HG4⟩ : ∃ b : Bool, Hid (b = s.acks) := ⟨_, Lib.hid rfl⟩
  rw [← HG4.out] at y6
  obtain ⟨f1, HF1, lf1, lf1'⟩ : ∃ f1 : Int, Hid (f1 = if s.syn then 1 else 0) ∧ 0 ≤ f1 ∧ f1 < 2 := ⟨_, Lib.hid rfl, by split <;> omega, by split <;> omega⟩
  obtain ⟨f2, HF2, lf2, lf2'⟩ : ∃ f2 : Int, Hid (f2 = f1 + if s.fin then 2 else 0) ∧ 0 ≤ f2 ∧ f2 < 4 := ⟨_, Lib.hid rfl, by split <;> omega, by split <;> omega⟩
  obtain ⟨f3, HF3, lf3, lf3'⟩ : ∃ f3 : Int, Hid (f3 = f2 + if s.rst then 4 else 0) ∧ 0 ≤ f3 ∧ f3 < 8 := ⟨_, Lib.hid rfl, by split <;> omega, by split <;> omega⟩
  obtain ⟨f4, HF4, lf4, lf4'⟩ : ∃ f4 : Int, Hid (f4 = f3 + if s.acks then 8 else 0) ∧ 0 ≤ f4 ∧ f4 < 16 := ⟨_, Lib.hid rfl, by split <;> omega, by split <;> omega⟩
  have HFL : Hid (f4 = sg.flagsOf s) := Lib.hid (by rw [HF4.out, HF3.out, HF2.out, HF1.out]; rfl)
  go_upto_if 30 with (fail)
  go_cut [7] (fun s7 wx => s7 = .int .i64 f1 ∧ w5 = wx)
  case first =>
    cases b1 with
    | true =>
      go_wp2_with fail
      go_meet
      exact ⟨by rw [HF1.out, ← HG1.out]; first | done | rfl | simp, rfl⟩
    | false =>
      go_wp2_with fail
      go_meet
      exact ⟨by rw [HF1.out, ← HG1.out]; first | done | rfl | simp, rfl⟩
  case rest =>
    obtain ⟨rfl, rfl⟩ := hcut
    go_upto_if 34 with (fail)
    go_cut [7] (fun s7 wx => s7 = .int .i64 f2 ∧ w5 = wx)
    case first =>
      cases b2 with
      | true =>
        go_wp2_with fail
        go_meet
        exact ⟨by rw [HF2.out, ← HG2.out]; first | done | rfl | simp, rfl⟩
      | false =>
        go_wp2_with fail
        go_meet
        exact ⟨by rw [HF2.out, ← HG2.out]; first | done | rfl | simp, rfl⟩
    case rest =>
      obtain ⟨rfl, rfl⟩ := hcut
      go_upto_if 38 with (fail)
      go_cut [7] (fun s7 wx => s7 = .int .i64 f3 ∧ w5 = wx)
      case first =>
        cases b3 with
        | true =>
          go_wp2_with fail
          go_meet
          exact ⟨by rw [HF3.out, ← HG3.out]; first | done | rfl | simp, rfl⟩
        | false =>
          go_wp2_with fail
          go_meet
          exact ⟨by rw [HF3.out, ← HG3.out]; first | done | rfl | simp, rfl⟩
      case rest =>
        obtain ⟨rfl, rfl⟩ := hcut
        go_upto_if 42 with (fail)
        go_cut [7] (fun s7 wx => s7 = .int .i64 f4 ∧ w5 = wx)
        case first =>
          cases b4 with
          | true =>
            go_wp2_with fail
            go_meet
            exact ⟨by rw [HF4.out, ← HG4.out]; first | done | rfl | simp, rfl⟩
          | false =>
            go_wp2_with fail
            go_meet
            exact ⟨by rw [HF4.out, ← HG4.out]; first | done | rfl | simp, rfl⟩
        case rest =>
          obtain ⟨rfl, rfl⟩ := hcut
          clear HF1 HF2 HF3 HF4 lf1 lf1' lf2 lf2' lf3 lf3'
          have hlk : (s.sacks.length : Int) ≤ 3 := by omega
          have q1 := HX5.out.cell
          have q2 := HX5.out.fz
          have q3 := HX5.out.lt
          go_wp2_with (at_builtin; (refine wp_app _ rfl _ _ _ rfl elemU8 (w1.heap.size + 1) A5 _ c5 _ rfl (HX5.out.own.alloc _) _ 4 4 [_, _, _, _] rfl rfl (Cells.newAt _ _ _ rfl) (by simp [Value.oneCell']) (by omega) (by unfold maxLen; omega) (by simp; omega) ?_; intro A6 c6 w6 hO6 hg6; have HO6 := Lib.hid hO6; clear hO6; have hgg : Grew w5 w6 A5 A6 := ((Grew.refl w5 A5).alloc _).trans hg6; have r1 := hgg.cell (b := w1.heap.size) 0 q3 (fun k hk => by have := (HX5.out.own.lt k hk).1; omega); have r2 := hgg.frozen (b := w1.heap.size) 0 q3 (fun k hk => by have := (HX5.out.own.lt k hk).1; omega); rw [q1] at r1; rw [q2] at r2; have r3 := hgg.grown.size; have hb56 : Below w1.heap.size w5 w6 := hgg.below (by omega) (fun k hk => by have := (HX5.out.own.lt k hk).1; omega); have HC6 := Lib.hid (HC5.out.below hb56 hw1); have z7 := HC6.out.2.2.2.2.2.2.2.2.1; clear y0 y1 y2 y3 y4 y5 y6 y7 y8))
          have HX7 := Lib.hid (HX5.out.stored hgg HO6.out)
          have hb7 : Below w1.heap.size w6 (w6.setCell ⟨w1.heap.size, 0, none⟩ (.slice A6 (6 + 4) c6)) := (Below.refl _ _).setCell (p := ⟨w1.heap.size, 0, none⟩) (Nat.le_refl _) _
          have HC7 := Lib.hid (HC6.out.below hb7 hw1)
          have hs7 : (w6.setCell ⟨w1.heap.size, 0, none⟩ (.slice A6 (6 + 4) c6)).heap.size = w6.heap.size := by simp [World.setCell]
          have HS7 := Lib.hid hs7
          clear hs7 r1 r2 z7 q1 q2 HX5 HC5 HC6 hgg hg6 HO6
          simp only [show 6 + 4 = 10 from rfl] at *
          generalize w6.setCell ⟨w1.heap.size, 0, none⟩ (.slice A6 10 c6) = w7 at *
          have hsz7 := HS7.out
          have HB7 : Hid (Below w.heap.size w w7) := Lib.hid ((hB5.trans (hb56.mono (by omega))).trans (hb7.mono (by omega)))
          have HXH : Hid (BoxAt w7 w1.heap.size A6 10 c6 ((sg.head s ++ sg.ranges s 0).map u8v)) := Lib.hid (by
            have e : (sg.head s ++ sg.ranges s 0).map u8v = (([] ++ (sg.two s.seq).map u8v ++ (sg.two s.ack).map u8v ++ (sg.two s.window).map u8v) ++ [.int .u8 f4, .int .u8 (s.sacks.length : Int), .int .u8 0, .int .u8 0]) := by
              have e1 : u8v (byteOf (sg.flagsOf s)) = .int .u8 f4 := by unfold u8v; rw [byteOf_toNat, ← HFL.out, Int.emod_eq_of_lt lf4 (by omega)]
              have e2 : u8v (byteOf s.sacks.length) = .int .u8 (s.sacks.length : Int) := by unfold u8v; rw [byteOf_toNat, Int.emod_eq_of_lt (by omega) (by omega)]
              simp [sg.head, sg.ranges, e1, e2]
              rfl
            rw [e]
            exact HX7.out)
          clear HX7 hsz7 HFL
          go_loopw [57] (fun i wr => ∃ (k : Nat) (A' : Option Addr) (c' : Nat), k ≤ s.sacks.length ∧ i = .int .i64 k ∧ Hid (BoxAt wr w1.heap.size A' (10 + 4 * k) c' ((sg.head s ++ sg.ranges s k).map u8v)) ∧ Below w1.heap.size w7 wr) (fun i _ => s.sacks.length - (intOf i).toNat)
          case atStart => exact ⟨0, A6, c6, by omega, rfl, HXH, Below.refl _ _⟩
          case round =>
            obtain ⟨k, A', c', hk, rfl, HX, hB⟩ := hrel
            rename World => wr
            have hszr := hB.size
            have hsz7 := HS7.out
            have hBw : Below w.heap.size w wr := HB7.out.trans (hB.mono (by omega))
            clear hsz7
            have hltB := HX.out.lt
            by_cases hlt : k < s.sacks.length
            · obtain ⟨bb, oo, rfl, hbb, d1, d2⟩ := Rng.cells_at ⟨0, 0⟩ (H0.out.below hBw) hlt
              have hbw : bb < wr.heap.size := by omega
              have hr := sg.rngOk_iff.1 (sg.all_true HALL.out hlt ⟨0, 0⟩)
              have HR := Lib.hid hr
              have HRG : Hid ((sg.head s ++ sg.ranges s (k + 1)).map u8v = (sg.head s ++ sg.ranges s k).map u8v ++ (sg.two (s.sacks.getD k ⟨0, 0⟩).lo).map u8v ++ (sg.two (s.sacks.getD k ⟨0, 0⟩).hi).map u8v) := Lib.hid (by simp [sg.ranges])
              clear hr HXH
              generalize s.sacks.getD k ⟨0, 0⟩ = r at *
              obtain ⟨w8, hw8⟩ : ∃ w8, w8 = wr.alloc (.cells #[.int .i64 r.lo, .int .i64 r.hi] 64) := ⟨_, rfl⟩
              have y1 : w8.cell? ⟨wr.heap.size, 0, none⟩ = some (.int .i64 r.lo) := by rw [hw8]; simp [go_sem]
              have y2 : w8.cell? ⟨wr.heap.size, 1, none⟩ = some (.int .i64 r.hi) := by rw [hw8]; simp [go_sem]
              have hs8 : wr.heap.size < w8.heap.size := by rw [hw8]; simp
              have hb8 : Below wr.heap.size wr w8 := by rw [hw8]; exact balloc (bself wr) _
              have HX8 := Lib.hid (HX.out.next hb8)
              have Y2 := Lib.hid y2
              clear y2
              go_wp2_with fail
              rw [← hw8]
              clear hw8 d1 d2
              refine (ref_put r.lo HR.out.1 w1.heap.size A' (10 + 4 * k) c' _ w8 HX8.out (by omega)).mono ?_
              rintro e w9 ⟨A9, c9, rfl, hx9, hb9, hk9⟩
              have HX9 := Lib.hid hx9
              have y3 : w9.cell? ⟨wr.heap.size, 1, none⟩ = some (.int .i64 r.hi) := (World.cell?_of_block (hk9 wr.heap.size hs8 (by omega) (fun e => by have := (HX.out.own.lt _ e).2; omega))).trans Y2.out
              have hs9 : wr.heap.size < w9.heap.size := Nat.lt_of_lt_of_le hs8 hb9.size
              clear hx9 hk9 y1
              go_wp2_with fail
              refine (ref_put r.hi HR.out.2 w1.heap.size A9 (10 + 4 * k + 2) c9 _ w9 HX9.out (by omega)).mono ?_
              rintro e w10 ⟨A10, c10, rfl, hx10, hb10, _⟩
              have HX10 : Hid (BoxAt w10 w1.heap.size A10 (10 + 4 * (k + 1)) c10 ((sg.head s ++ sg.ranges s (k + 1)).map u8v)) := Lib.hid (by rw [HRG.out]; exact hx10)
              clear hx10 y3 HRG
              go_wp2_with fail
              go_roundw
              case rel => exact ⟨k + 1, A10, c10, by omega, by go_num, HX10, ((hB.trans (hb8.mono (by omega))).trans hb9).trans hb10⟩
              case measure => simp [intOf]; omega
            · obtain rfl : k = s.sacks.length := by omega
              have HC8 := Lib.hid (HC7.out.below hB hw1)
              have x8 := HC8.out.2.2.2.2.2.2.2.2.2
              have hlw : w.heap.size < wr.heap.size := by omega
              have q1 := HX.out.cell
              have q2 := HX.out.fz
              clear HXH HC7
              obtain ⟨fv, HSM, lfv, lfv'⟩ : ∃ fv : Int, Hid (65535 - fv = sg.sumOf (sg.bare s)) ∧ 0 ≤ fv ∧ fv ≤ 65535 := ⟨foldOf (sumTo (sg.bare s) (sg.bare s).length), Lib.hid rfl, (foldOf_bd _ (sumTo_bd _ _).1).1, (foldOf_bd _ (sumTo_bd _ _).1).2⟩
              go_wp2_with (at_builtin; (refine wp_app _ rfl _ _ _ rfl elemU8 (w1.heap.size + 1) A' _ c' _ rfl HX.out.own A1 s.data.length c1 (s.data.map u8v) rfl (by simp) (by exact (H1.out.below hBw).cells_u8) (oneCell_u8 _) (by omega) (by unfold maxLen; omega) (by omega) ?_; intro A9 c9 w9 hO9 hg9; obtain ⟨g, rfl, hg1, _⟩ := seg_bare_cells hO9; have hx9 := HX.out.stored hg9 hO9; have HX9 := Lib.hid hx9; have r1 := hg9.cell (b := w1.heap.size) 0 hltB (fun k hk => by have := (HX.out.own.lt k hk).1; omega); have r2 := hg9.frozen (b := w1.heap.size) 0 hltB (fun k hk => by have := (HX.out.own.lt k hk).1; omega); rw [q1] at r1; rw [q2] at r2; have r3 := hg9.grown.size; clear hx9 hO9))
              obtain ⟨g', hgg', hg1', z8, z9, hzf, hzl⟩ := seg_bare_cells HX9.out.own
              simp only [Option.some.injEq, Addr.mk.injEq, and_true] at hgg'
              subst hgg'
              have p1 := HX9.out.cell
              have p2 := HX9.out.fz
              have p3 := HX9.out.lt
              have hne : g ≠ w1.heap.size := by omega
              have hne' : w1.heap.size ≠ g := by omega
              have hSU := seg_bare_fold HX9.out.own (by omega)
              rw [show foldOf (sumTo (sg.bare s) (sg.bare s).length) = fv by have := HSM.out; unfold sg.sumOf at this; omega] at hSU
              have HSU := Lib.hid hSU
              have hB9 : Below w.heap.size w (w9.setCell ⟨w1.heap.size, 0, none⟩ (.slice (some ⟨g, 0, none⟩) (10 + 4 * s.sacks.length + s.data.length) c9)) := (Grew.step hBw hg9 (fun x hx => by have := (HX.out.own.lt x hx).1; omega)).setCell (p := ⟨w1.heap.size, 0, none⟩) (by show w.heap.size ≤ w1.heap.size; omega) _
              clear hSU r1 r2 r3 q1 q2 x8
              generalize w9.setCell ⟨w1.heap.size, 0, none⟩ (.slice (some ⟨g, 0, none⟩) (10 + 4 * s.sacks.length + s.data.length) c9) = w11 at *
              refine HSU.out.mono ?_
              rintro e w12 ⟨rfl, rfl⟩
              go_wp2
              go_ret2
              refine BytesRes.yes rfl (Own.base_le (?_ : Own _ (w1.heap.size + 1) 5 1 _ _ _ _) (by omega)) ?_
              · have h := (HX9.out.own.set (j := 8) (.int .u8 ((65535 - fv) / 256))).set (j := 9) (.int .u8 ((65535 - fv) % 256))
                have e : (sg.summed (sg.bare s)).map u8v = (((sg.head s ++ sg.ranges s s.sacks.length).map u8v ++ s.data.map u8v).set 8 (.int .u8 ((65535 - fv) / 256))).set 9 (.int .u8 ((65535 - fv) % 256)) := by
                  rw [← List.map_append, sg.summed, List.map_set, List.map_set, ← HSM.out]
                  unfold u8v
                  rw [byteOf_toNat, byteOf_toNat, Int.emod_eq_of_lt (by omega) (by omega)]
                  rfl
                rw [e]
                exact h
              · exact (hB9.setCell (p := ⟨g, 8, none⟩) (by show w.heap.size ≤ g; omega) _).setCell (p := ⟨g, 9, none⟩) (by show w.heap.size ≤ g; omega) _

theorem ref_Encoded_res (s : Segment) (A0 A1 : Option Addr) (c0 c1 : Nat) (w : World) (h0 : SlRep Rng.rep w (· < w.heap.size) s.sacks A0 c0) (h1 : SlRep Rep.u8 w (· < w.heap.size) s.data A1 c1) (hn0 : s.sacks.length ≤ 140737488351232) (hn1 : s.data.length ≤ 140737488351232) :
    Calls Try.prog 32 #[s.val A0 c0 A1 c1] w (BytesRes (sg.enc s) w) := by
  by_cases hf : sg.fault s = 0
  · rw [show sg.enc s = .ok (sg.summed (sg.bare s)) from if_pos hf]
    exact ref_Encoded_ok s A0 A1 c0 c1 w h0 h1 hf
  · rw [show sg.enc s = .error (sg.fault s) from if_neg hf]
    exact (ref_Encoded_no s A0 A1 c0 c1 w h0 hn0 hn1 hf).mono fun e w' ⟨he, hb⟩ => by
      subst he
      exact BytesRes.no rfl hb
set_option maxHeartbeats 1000000 in
theorem lawSegEncodes_walk {w : World} (s : Segment) (hok : Segment.ok s) (A0 : Option Addr) (c0 : Nat) (h0 : SlRep Rng.rep w (· < w.heap.size) s.sacks A0 c0) (A1 : Option Addr) (c1 : Nat) (h1 : SlRep Rep.u8 w (· < w.heap.size) s.data A1 c1) :
    Calls Try.prog 9 #[.agg #[.int .i64 s.seq, .int .i64 s.ack, .int .i64 s.window, .bool s.syn, .bool s.fin, .bool s.rst, .bool s.acks, .slice A0 s.sacks.length c0, .slice A1 s.data.length c1]] w fun e w' => e = .returned (.bool true) ∧ Below w.heap.size w w' := by
  obtain ⟨_, _, _, hs, hd⟩ := hok
  have hn0 : s.sacks.length ≤ 140737488351232 := by have := hs.2; omega
  have hn1 : s.data.length ≤ 140737488351232 := by have := hd.2; omega
  have K1 := Lib.hid (fun w' hb => seg_Encode_res s A0 A1 c0 c1 w' (SlRep.next (w := w) (w' := w') h0 hb) (SlRep.next (w := w) (w' := w') h1 hb) hn0 hn1)
  have K2 := Lib.hid (fun w' hb => ref_Encoded_res s A0 A1 c0 c1 w' (SlRep.next (w := w) (w' := w') h0 hb) (SlRep.next (w := w) (w' := w') h1 hb) hn0 hn1)
  clear hs hd h0 h1
  go_enter Try.func9, Try.ntmps9
  go_wp2_with fail
  have hcx := segAt_alloc w s A0 A1 c0 c1
  have HCX := Lib.hid hcx
  have hb0 : Below w.heap.size w (w.alloc (.cells #[.int .i64 s.seq, .int .i64 s.ack, .int .i64 s.window, .bool s.syn, .bool s.fin, .bool s.rst, .bool s.acks, .slice A0 s.sacks.length c0, .slice A1 s.data.length c1] 50)) := balloc (bself w) _
  have hs0 : w.heap.size < (w.alloc (.cells #[.int .i64 s.seq, .int .i64 s.ack, .int .i64 s.window, .bool s.syn, .bool s.fin, .bool s.rst, .bool s.acks, .slice A0 s.sacks.length c0, .slice A1 s.data.length c1] 50)).heap.size := by simp
  clear hcx
  generalize w.alloc (.cells #[.int .i64 s.seq, .int .i64 s.ack, .int .i64 s.window, .bool s.syn, .bool s.fin, .bool s.rst, .bool s.acks, .slice A0 s.sacks.length c0, .slice A1 s.data.length c1] 50) = w0 at *
  refine (K1.out w0 hb0).mono ?_
  rintro e w1 ⟨A2, c2, rfl, ho1, hb1⟩
  have HO1 := Lib.hid ho1
  have hB1 : Below w.heap.size w w1 := bnext hb0 hb1
  obtain ⟨hl, x0, x1, x2, x3, x4, x5, x6, x7, x8⟩ := HCX.out.below hb1 hs0
  clear ho1 HCX
  go_wp2_with fail
  refine (K2.out w1 hB1).mono ?_
  rintro e w2 ⟨A3, c3, rfl, ho2, hb2⟩
  have r2 := ho2.u8.2
  have r1 := (HO1.out.next hb2).u8.2
  have hm : (exL (sg.enc s)).length ≤ 9223372036854775807 := by have := ho2.cap; unfold maxLen at this; omega
  have R1 := Lib.hid r1
  have R2 := Lib.hid r2
  clear ho2 r1 r2 K1 K2 HO1 x0 x1 x2 x3 x4 x5 x6 x7 x8
  generalize exL (sg.enc s) = o at *
  generalize exC (sg.enc s) = er at *
  go_wp2_with fail
  refine (law_sameBytes _ _ _ _ _ _ _ _ R1.out R2.out hm).mono ?_
  rintro e w3 ⟨rfl, hb3⟩
  go_wp2_with fail
  go_ret
  exact ⟨rfl, (by repeat (first | (with_reducible exact Below.refl _ _) | (with_reducible assumption) | (with_reducible refine bset ?_ ?_ _) | (with_reducible refine balloc ?_ _) | (with_reducible refine Below.drew ?_) | (with_reducible refine bdrewN ?_ _) | (with_reducible refine bnext ?_ (by with_reducible assumption)) | exact Nat.le_refl _ | (simp; done) | omega | (simp; omega)))⟩
end Go.Proofs.Ytedbidblnjajdaa
